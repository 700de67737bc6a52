/- plexuslaw42.EmbedBest, walked. -/
import Derived.Test.YtheclfjbedajfaaBt
import Derived.Test.YtheclfjbedajfaaRx
import Derived.Test.YtheclfjbedajfaaEy
namespace Go.Proofs.Ytheclfjbedajfaa.Pd
set_option linter.unusedSimpArgs false
set_option linter.unusedVariables false
open Go.RowKit Go.Lib Go.Shelf Go.Proofs.YtheclfjbedajfaaW.PrintWords Go.Proofs.Ytheclfjbedajfaa Go.Proofs.YtheclfjbedajfaaW.PrintMore
attribute [local go_sem] Oper.semAt_some

theorem ic_take {w : World} {A : Option Addr} {n k : Nat} {xs : List Nat} (h : IC w A n (il xs)) (hk : k ≤ n) : IC w A k (il (xs.take k)) := by
  have h2 := (Kd.C_of_reads (h1 := fun _ => rfl) ((Kd.reads_of_C (enc := Value.int .i64) (d := (0 : Int)) (h1 := fun _ => rfl) h).take_ k hk) : (Kd.int .i64).C w A k ((il xs).take k))
  rwa [show il (xs.take k) = (il xs).take k from by simp [il, List.map_take]]
theorem own_NlC8 {w : World} {base n : Nat} {v : Value} {bs : List Nat} (h : w.ownsRow base 5 1 v n (nums .u8 (il bs))) (hb : ∀ b ∈ bs, b < 256) : ∃ A c, v = .slice A bs.length c ∧ NlC .u8 256 w A bs.length bs := by
  have hl : n = bs.length := by have := h.1; simp [nums, il] at this; omega
  subst hl
  have h' : (Kd.int .u8).R 5 w base (fun _ => True) v (il bs) := Kd.R_of_own (enc := Value.int .u8) (by simpa [encs, nums, il_length] using h) (fun _ _ => trivial)
  obtain ⟨A, c, rfl, hc, hC⟩ := Kd.R_reads h'
  rw [il_length] at hc hC ⊢
  exact ⟨A, c, rfl, rfl, hC, hb⟩
theorem own_one {W : World} {base g : Nat} {u : Value} (h : Blk W g 5 #[u]) (hb : base ≤ g) : W.ownsRow base 5 1 (.slice (some ⟨g, 0, none⟩) 1 1) 1 [u] :=
  ⟨by simp, .inr ⟨g, 1, #[u], rfl, hb, h, by simp, by simp [maxLen], by simp⟩⟩
theorem infoU8 : (Try.prog.info? 5).map (fun i => (i.zero, i.size, i.bytes)) = some (some (.int .u8 0), 1, 1) := by kernel_rfl
section
variable {P : Program} (w : World)
theorem wpIn_append_any {N : Nat} {o : Oper} {a : Act} {K : Act → World → Prop} {Q : Exit → Act → World → Prop} (s x : Operand) (t : TypeId)
    (ho : o.op = .call { callee := .builtin .append, args := #[s, x], argTypes := #[t, t] })
    (base : Nat) (e : TypeId) (i : TypeInfo) (z : Value) (size bytes : Nat) (ht : P.underlying t = some (.slice e)) (hi : P.info? e = some i) (hz : i.zero = some z)
    (hsize : i.size = size) (hby : i.bytes = bytes) (hzs : z.cells.size = size) (hsz : 0 < size)
    (v : Value) (n : Nat) (xs : List Value) (hs : a.eval s = v) (hown : w.ownsRow base e size v n xs)
    (B : Nat) (A : Option Addr) (m c : Nat) (news : List Value) (hx : a.eval x = .slice A m c) (hr : Reads w B size A m news) (h1 : ∀ u ∈ news, u.oneCell' = true)
    (h63 : n + m ≤ maxLen) (hbytes : (n + m) * bytes ≤ 140737488355328) (hbase : base ≤ w.heap.size)
    (h : ∀ v' w', w'.ownsRow base e size v' (n + m) (xs ++ news) → w.grownBy w' v.ownBlock → (v'.ownBlock = v.ownBlock ∨ v'.ownBlock = some w.heap.size) → K (a.put o.dst v') w') : Oper.wpIn Fence.wide N P o a w K Q := by
  obtain ⟨v', w', hrun, h2, h3, h4⟩ := run_append_any (P := P) w base t o.type e i z size bytes ht hi hz hsize hby hzs hsz v n xs hown B A m c news hr h1 h63 hbytes hbase
  unfold Oper.wpIn
  refine ⟨fun _ _ => trivial, ?_⟩
  rw [Oper.semAt_plain _ _ _ (by rw [ho]; intro c h; cases h)]
  unfold execOp
  simp only [ho, resolve, invoke, builtin, Sem.run_bind, Sem.run_pure, Result.andThen_ok, List.map_toArray, List.map_cons, List.map_nil, hs, hx, hrun]
  exact h v' w' h2 h3 h4
end
/-- What stands while region 17 is carried out in any order. -/
structure S17 (w5 : World) (k : Nat) (v6 v7 v10 v12 : Value) (ls : List Nat) (U V : Nat) (L : Nat → Bool) (w : World) (y5 y6 y7 y8 y9 y10 y11 y12 y13 y14 : Value) : Prop where
  bel : Below w5.heap.size w5 w
  h5 : L 5 = true → ∃ g, y5 = .slice (some ⟨g, 0, none⟩) 1 1 ∧ w5.heap.size ≤ g ∧ (L 8 = false → Blk w g 5 #[.int .u8 k])
  h6 : L 6 = true → y6 = v6
  h7 : L 7 = true → y7 = v7
  h8 : L 8 = true → L 5 = true ∧ ∃ A c, y8 = .slice A ls.length c ∧ NlC .u8 256 w A ls.length ls
  h9 : L 9 = true → L 8 = true ∧ ∃ A c, y9 = .slice A U c ∧ U ≤ c ∧ IC w A U (il (shL ls U))
  h10 : L 10 = true → y10 = v10
  h11 : L 11 = true → y11 = v10
  h12 : L 12 = true → y12 = v12
  h13 : L 13 = true → L 9 = true ∧ ∃ A c, y13 = .slice A V c ∧ V ≤ c ∧ IC w A V (il ((shL ls U).take V))
  h14 : L 14 = true → L 13 = true ∧ y14 = y13
section
variable {w5 w w' : World} {k U V : Nat} {v6 v7 v10 v12 v : Value} {ls : List Nat} {L : Nat → Bool} {y5 y6 y7 y8 y9 y10 y11 y12 y13 y14 : Value}
theorem p1neB {i j : Nat} (h : j ≠ i) : put1 L i j = L j := by simp [put1, h]
theorem S17.q (h : S17 w5 k v6 v7 v10 v12 ls U V L w y5 y6 y7 y8 y9 y10 y11 y12 y13 y14) (i : Nat) (hi : i < 5) : S17 w5 k v6 v7 v10 v12 ls U V (put1 L i) w y5 y6 y7 y8 y9 y10 y11 y12 y13 y14 := by
  have e : ∀ j, 5 ≤ j → put1 L i j = L j := fun j hj => p1neB (by omega)
  refine ⟨h.bel, ?_, ?_, ?_, ?_, ?_, ?_, ?_, ?_, ?_, ?_⟩
  · rw [e 5 (by omega), e 8 (by omega)]; exact h.h5
  · rw [e 6 (by omega)]; exact h.h6
  · rw [e 7 (by omega)]; exact h.h7
  · rw [e 8 (by omega), e 5 (by omega)]; exact h.h8
  · rw [e 9 (by omega), e 8 (by omega)]; exact h.h9
  · rw [e 10 (by omega)]; exact h.h10
  · rw [e 11 (by omega)]; exact h.h11
  · rw [e 12 (by omega)]; exact h.h12
  · rw [e 13 (by omega), e 9 (by omega)]; exact h.h13
  · rw [e 14 (by omega), e 13 (by omega)]; exact h.h14
theorem S17.go (h : S17 w5 k v6 v7 v10 v12 ls U V L w y5 y6 y7 y8 y9 y10 y11 y12 y13 y14) (hb : Below w.heap.size w w') : S17 w5 k v6 v7 v10 v12 ls U V L w' y5 y6 y7 y8 y9 y10 y11 y12 y13 y14 :=
  ⟨below_then h.bel h.bel.size hb, fun e => (by obtain ⟨g, h1, h2, h3⟩ := h.h5 e; exact ⟨g, h1, h2, fun e8 => (h3 e8).below hb (h3 e8).lt⟩), h.h6, h.h7,
    fun e => (by obtain ⟨h1, A, c, h2, h3⟩ := h.h8 e; exact ⟨h1, A, c, h2, h3.below hb⟩),
    fun e => (by obtain ⟨h1, A, c, h2, h3, h4⟩ := h.h9 e; exact ⟨h1, A, c, h2, h3, Kd.C_below h4 hb⟩), h.h10, h.h11, h.h12,
    fun e => (by obtain ⟨h1, A, c, h2, h3, h4⟩ := h.h13 e; exact ⟨h1, A, c, h2, h3, Kd.C_below h4 hb⟩), h.h14⟩
theorem S17.n9 (h : S17 w5 k v6 v7 v10 v12 ls U V L w y5 y6 y7 y8 y9 y10 y11 y12 y13 y14) (hf : L 8 = false) : L 9 = false := by
  cases e : L 9
  · rfl
  · have := (h.h9 e).1; rw [hf] at this; cases this
theorem S17.n13 (h : S17 w5 k v6 v7 v10 v12 ls U V L w y5 y6 y7 y8 y9 y10 y11 y12 y13 y14) (hf : L 9 = false) : L 13 = false := by
  cases e : L 13
  · rfl
  · have := (h.h13 e).1; rw [hf] at this; cases this
theorem S17.n14 (h : S17 w5 k v6 v7 v10 v12 ls U V L w y5 y6 y7 y8 y9 y10 y11 y12 y13 y14) (hf : L 13 = false) : L 14 = false := by
  cases e : L 14
  · rfl
  · have := (h.h14 e).1; rw [hf] at this; cases this
theorem S17.op5 (h : S17 w5 k v6 v7 v10 v12 ls U V L w y5 y6 y7 y8 y9 y10 y11 y12 y13 y14) (hf : L 5 = false) : S17 w5 k v6 v7 v10 v12 ls U V (put1 L 5) (w.alloc (.cells #[.int .u8 k] 5)) (.slice (some ⟨w.heap.size, 0, none⟩) 1 1) y6 y7 y8 y9 y10 y11 y12 y13 y14 :=
  have q := h.go (below_alloc (Below.refl w.heap.size w) (.cells #[.int .u8 k] 5))
  ⟨q.bel, fun _ => ⟨_, rfl, h.bel.size, fun _ => Blk.new _ _ _⟩, q.h6, q.h7, fun e => ⟨rfl, (q.h8 e).2⟩, q.h9, q.h10, q.h11, q.h12, q.h13, q.h14⟩
theorem S17.op6 (h : S17 w5 k v6 v7 v10 v12 ls U V L w y5 y6 y7 y8 y9 y10 y11 y12 y13 y14) : S17 w5 k v6 v7 v10 v12 ls U V (put1 L 6) w y5 v6 y7 y8 y9 y10 y11 y12 y13 y14 :=
  ⟨h.bel, h.h5, fun _ => rfl, h.h7, h.h8, h.h9, h.h10, h.h11, h.h12, h.h13, h.h14⟩
theorem S17.op7 (h : S17 w5 k v6 v7 v10 v12 ls U V L w y5 y6 y7 y8 y9 y10 y11 y12 y13 y14) : S17 w5 k v6 v7 v10 v12 ls U V (put1 L 7) w y5 y6 v7 y8 y9 y10 y11 y12 y13 y14 :=
  ⟨h.bel, h.h5, h.h6, fun _ => rfl, h.h8, h.h9, h.h10, h.h11, h.h12, h.h13, h.h14⟩
theorem S17.op10 (h : S17 w5 k v6 v7 v10 v12 ls U V L w y5 y6 y7 y8 y9 y10 y11 y12 y13 y14) : S17 w5 k v6 v7 v10 v12 ls U V (put1 L 10) w y5 y6 y7 y8 y9 v10 y11 y12 y13 y14 :=
  ⟨h.bel, h.h5, h.h6, h.h7, h.h8, h.h9, fun _ => rfl, h.h11, h.h12, h.h13, h.h14⟩
theorem S17.op11 (h : S17 w5 k v6 v7 v10 v12 ls U V L w y5 y6 y7 y8 y9 y10 y11 y12 y13 y14) : S17 w5 k v6 v7 v10 v12 ls U V (put1 L 11) w y5 y6 y7 y8 y9 y10 v10 y12 y13 y14 :=
  ⟨h.bel, h.h5, h.h6, h.h7, h.h8, h.h9, h.h10, fun _ => rfl, h.h12, h.h13, h.h14⟩
theorem S17.op12 (h : S17 w5 k v6 v7 v10 v12 ls U V L w y5 y6 y7 y8 y9 y10 y11 y12 y13 y14) : S17 w5 k v6 v7 v10 v12 ls U V (put1 L 12) w y5 y6 y7 y8 y9 y10 y11 v12 y13 y14 :=
  ⟨h.bel, h.h5, h.h6, h.h7, h.h8, h.h9, h.h10, h.h11, fun _ => rfl, h.h13, h.h14⟩
theorem S17.op8 (h : S17 w5 k v6 v7 v10 v12 ls U V L w y5 y6 y7 y8 y9 y10 y11 y12 y13 y14) (hf : L 8 = false) (d5 : L 5 = true) (hb : Below w5.heap.size w5 w') (ho : w'.ownsRow w5.heap.size 5 1 v ls.length (nums .u8 (il ls))) (hls : ∀ b ∈ ls, b < 256) : S17 w5 k v6 v7 v10 v12 ls U V (put1 L 8) w' y5 y6 y7 v y9 y10 y11 y12 y13 y14 := by
  have f9 := h.n9 hf
  have f13 := h.n13 f9
  have f14 := h.n14 f13
  refine ⟨hb, fun e => (by obtain ⟨g, h1, h2, h3⟩ := h.h5 d5; exact ⟨g, h1, h2, fun e => by cases e⟩), h.h6, h.h7, fun _ => ⟨d5, own_NlC8 ho hls⟩, fun e => ?_, h.h10, h.h11, h.h12, fun e => ?_, fun e => ?_⟩
  · rw [show put1 L 8 9 = L 9 from rfl, f9] at e; cases e
  · rw [show put1 L 8 13 = L 13 from rfl, f13] at e; cases e
  · rw [show put1 L 8 14 = L 14 from rfl, f14] at e; cases e
theorem S17.op9 (h : S17 w5 k v6 v7 v10 v12 ls U V L w y5 y6 y7 y8 y9 y10 y11 y12 y13 y14) (hf : L 9 = false) (d8 : L 8 = true) (hb : Below w.heap.size w w') {B : Nat} (ho : w'.ownsRow B 3 1 v U (nums .i64 (il (shL ls U)))) : S17 w5 k v6 v7 v10 v12 ls U V (put1 L 9) w' y5 y6 y7 y8 v y10 y11 y12 y13 y14 := by
  have f13 := h.n13 hf
  have f14 := h.n14 f13
  have q := h.go hb
  obtain ⟨A, c, e9, h1, _, h2⟩ := own_IC ho
  refine ⟨q.bel, q.h5, q.h6, q.h7, q.h8, fun _ => ⟨d8, A, c, e9, h1, h2⟩, q.h10, q.h11, q.h12, fun e => ?_, fun e => ?_⟩
  · rw [show put1 L 9 13 = L 13 from rfl, f13] at e; cases e
  · rw [show put1 L 9 14 = L 14 from rfl, f14] at e; cases e
theorem S17.op13 (h : S17 w5 k v6 v7 v10 v12 ls U V L w y5 y6 y7 y8 y9 y10 y11 y12 y13 y14) (hf : L 13 = false) (d9 : L 9 = true) {A : Option Addr} {c : Nat} (e9 : y9 = .slice A U c) (hVU : V ≤ U) : S17 w5 k v6 v7 v10 v12 ls U V (put1 L 13) w y5 y6 y7 y8 y9 y10 y11 y12 (.slice A V c) y14 := by
  have f14 := h.n14 hf
  refine ⟨h.bel, h.h5, h.h6, h.h7, h.h8, h.h9, h.h10, h.h11, h.h12, fun _ => ⟨d9, A, c, rfl, ?_, ?_⟩, fun e => ?_⟩
  · obtain ⟨_, A', c', e', h1, _⟩ := h.h9 d9; rw [e9] at e'; injection e' with _ _ e'; omega
  · obtain ⟨_, A', c', e', _, h2⟩ := h.h9 d9; rw [e9] at e'; injection e' with e1 _ _; subst e1; exact ic_take h2 hVU
  · rw [show put1 L 13 14 = L 14 from rfl, f14] at e; cases e
theorem S17.op14 (h : S17 w5 k v6 v7 v10 v12 ls U V L w y5 y6 y7 y8 y9 y10 y11 y12 y13 y14) (d13 : L 13 = true) : S17 w5 k v6 v7 v10 v12 ls U V (put1 L 14) w y5 y6 y7 y8 y9 y10 y11 y12 y13 y13 :=
  ⟨h.bel, h.h5, h.h6, h.h7, h.h8, h.h9, h.h10, h.h11, h.h12, h.h13, fun _ => ⟨d13, rfl⟩⟩
end

set_option maxHeartbeats 20000000 in
set_option maxRecDepth 100000 in
theorem bst_law (A0 A1 A3 A4 B0 B1 B2 B3 B4 B5 : Option Addr) (c0 c1 c3 c4 b0 b1 b2 b3 b4 b5 m2 m3 m4 m5 : Nat) (l0 l1 l3 l4 e0 e1 : List Int) (a s : Int) (w : World) (hC0 : Kd.C (Kd.int .u8) w A0 l0.length l0) (hc0 : l0.length ≤ c0) (hC1 : Kd.C (Kd.int .u8) w A1 l1.length l1) (hc1 : l1.length ≤ c1) (hC3 : Kd.C (Kd.int .u8) w A3 l3.length l3) (hc3 : l3.length ≤ c3) (hC4 : Kd.C (Kd.int .u8) w A4 l4.length l4) (hc4 : l4.length ≤ c4)
    (hE0 : IC w B0 e0.length e0) (he0 : e0.length ≤ b0) (hE1 : IC w B1 e1.length e1) (he1 : e1.length ≤ b1) (hok0 : okI e0 = true) (hok1 : okI e1 = true) (h3 : l3.length < 2 ^ 47) (hok3 : okL 256 l3 = true)
    (V U : Nat) (A C D : List Nat) (k0 : Nat) (hm : plexusref42_Made.f 10 l0 l1 a l3 l4 = some ((V : Int), il A, (U : Int), il C)) (hp : MpE V U A C) (hd : plexusref42_Done.f k0 V (il A) s = some (il D)) (hD : ∀ i ∈ D, i < A.length) (hDn : D.Nodup) (hDl : D.length ≤ A.length) :
    Calls Try.prog 5 #[.agg #[.slice A0 l0.length c0, .slice A1 l1.length c1, .int .u8 a, .slice A3 l3.length c3, .slice A4 l4.length c4], .agg #[.slice B0 e0.length b0, .slice B1 e1.length b1, .slice B2 m2 b2, .slice B3 m3 b3, .slice B4 m4 b4, .slice B5 m5 b5], .int .u16 s] w fun e w' => e = .returned (.bool true) ∧ Below w.heap.size w w' := by
  have hue := Try.underlying29
  have hug := Try.underlying47
  have hup := Try.underlying38
  have hur := Try.underlying26
  have huo := Try.underlying31
  have EXA := hid (fun W => plexuslaw42_examples.calls true W rfl)
  have MADE := hid (fun W (hb : Below w.heap.size w W) => plexusref42_Made.calls 10 A0 c0 l0 A1 c1 l1 a A3 c3 l3 A4 c4 l4 V (il A) U (il C) W (Kd.C_below hC0 hb) hc0 (Kd.C_below hC1 hb) hc1 (Kd.C_below hC3 hb) hc3 (Kd.C_below hC4 hb) hc4 hm)
  have HROW3 := hid (fun W (hb : Below w.heap.size w W) => (show (Kd.int .u8).C W A3 l3.length l3 from Kd.C_below hC3 hb))
  have HE0 := hid (fun W (hb : Below w.heap.size w W) => (show IC W B0 e0.length e0 from Kd.C_below hE0 hb))
  have HE1 := hid (fun W (hb : Below w.heap.size w W) => (show IC W B1 e1.length e1 from Kd.C_below hE1 hb))
  clear hC0 hC1 hC3 hC4 hm hE0 hE1
  go_enter Try.func5, Try.ntmps5
  go_upto_region 1 with (fail)
  obtain ⟨w0, hw0⟩ : ∃ w0, (w.alloc (.cells #[.slice A0 l0.length c0, .slice A1 l1.length c1, .int .u8 a, .slice A3 l3.length c3, .slice A4 l4.length c4] 26)).alloc (.cells #[.slice B0 e0.length b0, .slice B1 e1.length b1, .slice B2 m2 b2, .slice B3 m3 b3, .slice B4 m4 b4, .slice B5 m5 b5] 31) = w0 := ⟨_, rfl⟩
  have hb0 : Below w.heap.size w w0 := by rw [← hw0]; exact below_alloc (below_alloc (Below.refl _ _) _) _
  have kr : Blk w0 w.heap.size 26 #[.slice A0 l0.length c0, .slice A1 l1.length c1, .int .u8 a, .slice A3 l3.length c3, .slice A4 l4.length c4] := by
    have k : Blk (w.alloc (.cells #[.slice A0 l0.length c0, .slice A1 l1.length c1, .int .u8 a, .slice A3 l3.length c3, .slice A4 l4.length c4] 26)) w.heap.size _ _ := Blk.new _ _ _
    rw [← hw0]; exact k.below (below_alloc (Below.refl _ _) _) k.lt
  have ko : Blk w0 (w.heap.size + 1) 31 #[.slice B0 e0.length b0, .slice B1 e1.length b1, .slice B2 m2 b2, .slice B3 m3 b3, .slice B4 m4 b4, .slice B5 m5 b5] := by
    have k := Blk.new (w.alloc (.cells #[.slice A0 l0.length c0, .slice A1 l1.length c1, .int .u8 a, .slice A3 l3.length c3, .slice A4 l4.length c4] 26)) 31 #[.slice B0 e0.length b0, .slice B1 e1.length b1, .slice B2 m2 b2, .slice B3 m3 b3, .slice B4 m4 b4, .slice B5 m5 b5]
    rw [hw0] at k
    simpa using k
  have HRAW := hid (fun W (hb : Below w0.heap.size w0 W) => (show W.cell? ⟨w.heap.size, 0, none⟩ = some (.slice A0 l0.length c0) ∧ W.cell? ⟨w.heap.size, 1, none⟩ = some (.slice A1 l1.length c1) ∧ W.cell? ⟨w.heap.size, 2, none⟩ = some (.int .u8 a) ∧ W.cell? ⟨w.heap.size, 3, none⟩ = some (.slice A3 l3.length c3) ∧ W.cell? ⟨w.heap.size, 4, none⟩ = some (.slice A4 l4.length c4) from by
    have k := kr.below hb kr.lt
    exact ⟨(k.cell 0).trans rfl, (k.cell 1).trans rfl, (k.cell 2).trans rfl, (k.cell 3).trans rfl, (k.cell 4).trans rfl⟩))
  have HODD := hid (fun W (hb : Below w0.heap.size w0 W) => (show W.cell? ⟨w.heap.size + 1, 0, none⟩ = some (.slice B0 e0.length b0) ∧ W.cell? ⟨w.heap.size + 1, 1, none⟩ = some (.slice B1 e1.length b1) from by
    have k := ko.below hb ko.lt
    exact ⟨(k.cell 0).trans rfl, (k.cell 1).trans rfl⟩))
  rw [hw0]
  clear hw0 kr ko
  go_upto_region 4 with (go_at_call 8; refine (EXA.out _).mono ?_; rintro e w1 ⟨rfl, hb1⟩)
  obtain ⟨qo0, qo1⟩ := HODD.out _ hb1
  by_cases h0 : (20 : Int) < (e0.length : Int)
  · go_wp2
    go_ret
    exact ⟨rfl, below_then hb0 hb0.size hb1⟩
  by_cases h1 : (20 : Int) < (e1.length : Int)
  · go_wp2
    go_ret
    exact ⟨rfl, below_then hb0 hb0.size hb1⟩
  obtain ⟨qr0, qr1, qr2, qr3, qr4⟩ := HRAW.out _ hb1
  go_upto_region 7 with (go_at_call 9; refine (MADE.out _ (by exact below_then hb0 hb0.size hb1)).mono ?_; rintro e w3 ⟨va, vc, rfl, hra, hrc, hb3⟩; obtain ⟨XA, cA, rfl, hcA, IA⟩ := Kd.R_reads hra; obtain ⟨XC, cC, rfl, hcC, IC_⟩ := Kd.R_reads hrc; clear qr0 qr1 qr2 qr3 qr4 qo0 qo1)
  obtain ⟨w4, hw4⟩ : ∃ w4, w3.alloc (.cells #[.int .i64 V, .slice XA (il A).length cA, .int .i64 U, .slice XC (il C).length cC] 38) = w4 := ⟨_, rfl⟩
  have hb34 : Below w3.heap.size w3 w4 := by rw [← hw4]; exact below_alloc (Below.refl _ _) _
  have hb03 : Below w0.heap.size w0 w3 := below_then hb1 hb1.size hb3
  have hb04 : Below w0.heap.size w0 w4 := below_then hb03 hb03.size hb34
  have kp : Blk w4 w3.heap.size 38 #[.int .i64 V, .slice XA (il A).length cA, .int .i64 U, .slice XC (il C).length cC] := by rw [← hw4]; exact Blk.new _ _ _
  obtain ⟨gp, hgp⟩ : ∃ gp, w3.heap.size = gp := ⟨_, rfl⟩
  have HA4 := hid (fun W (hb : Below w4.heap.size w4 W) => (show (Kd.int .u64).C W XA (il A).length (il A) from Kd.C_below (Kd.C_below IA hb34) hb))
  have HC4 := hid (fun W (hb : Below w4.heap.size w4 W) => (show (Kd.int .u64).C W XC (il C).length (il C) from Kd.C_below (Kd.C_below IC_ hb34) hb))
  rw [hw4]
  rw [hgp] at kp ⊢
  have HP := hid (fun W (hb : Below w4.heap.size w4 W) => (show W.cell? ⟨gp, 0, none⟩ = some (.int .i64 V) ∧ W.cell? ⟨gp, 1, none⟩ = some (.slice XA (il A).length cA) ∧ W.cell? ⟨gp, 2, none⟩ = some (.int .i64 U) ∧ W.cell? ⟨gp, 3, none⟩ = some (.slice XC (il C).length cC) from by
    have k := kp.below hb kp.lt
    exact ⟨(k.cell 0).trans rfl, (k.cell 1).trans rfl, (k.cell 2).trans rfl, (k.cell 3).trans rfl⟩))
  clear hw4 IA IC_ hb34 hgp hra hrc kp hb1 hb3 hb03 MADE
  have hb4 : Below w.heap.size w w4 := below_then hb0 hb0.size hb04
  obtain ⟨p0, p1, p2, p3⟩ := HP.out _ (Below.refl _ _)
  have DONE := hid (fun W (hb : Below w4.heap.size w4 W) => plexusref42_Done.calls k0 V XA cA (il A) s (il D) W (HA4.out W hb) hcA hd)
  go_upto_region 8 with (go_at_call 10; refine (DONE.out _ (by exact Below.refl _ _)).mono ?_; rintro e w5 ⟨vd, rfl, hrd, hb5⟩; obtain ⟨XD, cD, rfl, hcD, ID⟩ := Kd.R_reads hrd; clear hrd p0 p1 p2 p3)
  have hb05 : Below w.heap.size w w5 := below_then hb4 hb4.size hb5
  obtain ⟨p0, p1, p2, p3⟩ := HP.out _ hb5
  by_cases hVU : (U : Int) < (V : Int)
  · have BEST := plexuslaw42_best.calls V XA cA (il A) U XC cC (il C) XD cD (il D) [] [] 4 w5 (HA4.out _ hb5) hcA (HC4.out _ hb5) hcC ID hcD (by rw [best_fE hp hD hDn hDl, bestF_none hp hD hDn (by omega)])
    have BEST := hid BEST
    go_upto_region 9 with (go_at_call 15; refine BEST.out.mono ?_; rintro e w6 ⟨v1, v2, rfl, hr1, hr2, hb6⟩; obtain ⟨X1, cX1, rfl, hcX1, IX1⟩ := Kd.R_reads hr1; obtain ⟨X2, cX2, rfl, hcX2, IX2⟩ := Kd.R_reads hr2; clear hr1 hr2 p0 p1 p2 p3)
    have hb67 := below_alloc (Below.refl w6.heap.size w6) (.cells #[.slice X1 0 cX1, .slice X2 0 cX2, .int .i64 4] 47)
    obtain ⟨p0, p1, p2, p3⟩ := HP.out _ (below_then hb5 hb5.size (below_then hb6 hb6.size hb67))
    go_wp2
    go_ret
    exact ⟨rfl, below_then hb05 hb05.size (below_then hb6 hb6.size hb67)⟩
  · obtain ⟨F2, hbf, hF2, hFl, hFu, hFn, hg2⟩ := bestF_some hp hD hDn (by omega : V ≤ U)
    have BEST := hid (plexuslaw42_best.calls V XA cA (il A) U XC cC (il C) XD cD (il D) (il F2) (embM A C D F2) 0 w5 (HA4.out _ hb5) hcA (HC4.out _ hb5) hcC ID hcD (by rw [best_fE hp hD hDn hDl, hbf]))
    go_upto_region 9 with (go_at_call 15; refine BEST.out.mono ?_; rintro e w6 ⟨v1, v2, rfl, hr1, hr2, hb6⟩; obtain ⟨X1, cX1, rfl, hcX1, IX1⟩ := Kd.R_reads hr1; obtain ⟨X2, cX2, rfl, hcX2, IX2⟩ := Kd.R_reads hr2; clear hr1 hr2 p0 p1 p2 p3)
    obtain ⟨w7, hw7⟩ : ∃ w7, w6.alloc (.cells #[.slice X1 (il F2).length cX1, .slice X2 (embM A C D F2).length cX2, .int .i64 0] 47) = w7 := ⟨_, rfl⟩
    have hb67 : Below w6.heap.size w6 w7 := by rw [← hw7]; exact below_alloc (Below.refl _ _) _
    have hb57 := below_then hb6 hb6.size hb67
    have hb47 : Below w4.heap.size w4 w7 := below_then hb5 hb5.size hb57
    have hb07 : Below w.heap.size w w7 := below_then hb05 hb05.size hb57
    have kg : Blk w7 w6.heap.size 47 #[.slice X1 (il F2).length cX1, .slice X2 (embM A C D F2).length cX2, .int .i64 0] := by rw [← hw7]; exact Blk.new _ _ _
    obtain ⟨gg, hgg⟩ : ∃ gg, w6.heap.size = gg := ⟨_, rfl⟩
    rw [hw7]
    rw [hgg] at kg ⊢
    have p0 := (kg.cell 0).trans rfl
    have p1 := (kg.cell 1).trans rfl
    have p2 := (kg.cell 2).trans rfl
    have HD7 := hid (fun W (hb : Below w7.heap.size w7 W) => (show IC W XD (il D).length (il D) from Kd.C_below ID (below_then hb57 hb57.size hb)))
    have hDl1 : (il D).length < 1000 := by rw [il_length]; have := hp.al; omega
    have hM2 : (embM A C D F2).length < 1000 := by rw [embM_len]; have := hp.al; omega
    have KEPT := hid (embed_Kept.calls X1 cX1 (il F2) X2 cX2 (embM A C D F2) XD cD (il D) (keptL (embM A C D F2) (il D)) w7 (Kd.C_below IX1 hb67) hcX1 (Kd.C_below IX2 hb67) hcX2 (HD7.out _ (Below.refl _ _)) hcD (kept_fE hM2 hDl1))
    clear hw7 kg hgg hbf BEST IX1 IX2 ID hb6 hb67 hb57 DONE hb5 hb05
    go_upto_region 12 with (go_at_call 19; refine KEPT.out.mono ?_; rintro e w8 ⟨vk, rfl, hrk, hb8⟩; obtain ⟨XK, cK, rfl, hcK, IK⟩ := Kd.R_reads hrk; clear hrk p0 p1 p2)
    have hb48 : Below w4.heap.size w4 w8 := below_then hb47 hb47.size hb8
    have hb08 : Below w.heap.size w w8 := below_then hb07 hb07.size hb8
    have hb018 : Below w0.heap.size w0 w8 := below_then hb04 hb04.size hb48
    obtain ⟨n, hn⟩ : ∃ n, (keptL (embM A C D F2) (il D)).length = n := ⟨_, rfl⟩
    have hmost : ∀ (F : List Nat) (M : List Int), Fit A C F M → F.length = V → (∀ q ∈ F, q < U) → F.Nodup → (keptL M (il D)).length ≤ n := fun F M h1 h2 h3 h4 => by
      have := best_is_most h1 hD hDn h2 h3 h4 hg2
      rwa [keptN, hn] at this
    obtain ⟨K9, r, hck, hr0⟩ := check_any (A := A) (C := C) (E := e0) (M := e1) (V := V) (U := U) hok0 hok1 (by omega) (by omega) hp.v4 hp.ab (by have := hp.u6; omega) (by have := hp.al; omega) (by have := hp.cl; omega)
    have hr1 : r = 0 → ¬ ((n : Int) < ((keptL e1 (il D)).length : Int)) := fun h => by
      obtain ⟨F, _, g1, g2, g3, g4⟩ := hr0 h
      have := hmost F e1 g4 g1 g2 g3
      omega
    have CHK := hid (embed_Check.calls K9 V XA cA (il A) U XC cC (il C) B0 b0 e0 B1 b1 e1 r w8 (HA4.out _ hb48) hcA (HC4.out _ hb48) hcC (HE0.out _ hb08) he0 (HE1.out _ hb08) he1 hck)
    have KEPT2 := hid (fun W (hb : Below w8.heap.size w8 W) => embed_Kept.calls B0 b0 e0 B1 b1 e1 XD cD (il D) (keptL e1 (il D)) W (HE0.out _ (below_then hb08 hb08.size hb)) he0 (HE1.out _ (below_then hb08 hb08.size hb)) he1 (HD7.out _ (below_then hb8 hb8.size hb)) hcD (kept_fE (by omega) hDl1))
    obtain ⟨p0, p1, p2, p3⟩ := HP.out _ hb48
    obtain ⟨qo0, qo1⟩ := HODD.out _ hb018
    rw [hn]
    clear hck hr0 IK KEPT hb47 hb07 hg2
    rename_i K1 hK1 K hK
    have hb4l0 := fun (W : World) (hb : Below w8.heap.size w8 W) => below_then hb48 hb48.size hb
    have TAIL : ∀ (z67 z68 z69 z70 z71 z72 z73 z74 z75 z76 z77 : Value) (wl : World), Below w8.heap.size w8 wl → K1 { tmps := #[.agg #[.slice A0 l0.length c0, .slice A1 l1.length c1, .int .u8 a, .slice A3 l3.length c3, .slice A4 l4.length c4], .agg #[.slice B0 e0.length b0, .slice B1 e1.length b1, .slice B2 m2 b2, .slice B3 m3 b3, .slice B4 m4 b4, .slice B5 m5 b5], .int .u16 s, .pointer (some ⟨w.heap.size, 0, none⟩), .pointer (some ⟨w.heap.size + 1, 0, none⟩), undef, .bool false, .bool true, .pointer (some ⟨gp, 0, none⟩), .slice XD (il D).length cD, .pointer (some ⟨gg, 0, none⟩), .int .i64 n, undef, undef, undef, .bool true, .bool true, .bool false, .pointer (some ⟨w.heap.size + 1, 0, none⟩), .pointer (some ⟨w.heap.size + 1, 0, none⟩), .slice B0 e0.length b0, .int .i64 e0.length, .bool false, .bool false, .pointer (some ⟨w.heap.size + 1, 0, none⟩), .pointer (some ⟨w.heap.size + 1, 1, none⟩), .slice B1 e1.length b1, .int .i64 e1.length, .bool false, .bool false, undef, .agg #[.slice A0 l0.length c0, .slice A1 l1.length c1, .int .u8 a, .slice A3 l3.length c3, .slice A4 l4.length c4], .agg #[.int .i64 V, .slice XA (il A).length cA, .int .i64 U, .slice XC (il C).length cC], .pointer (some ⟨gp, 0, none⟩), .agg #[.int .i64 V, .slice XA (il A).length cA], .int .u16 s, .slice XD (il D).length cD, .pointer (some ⟨gp, 0, none⟩), .agg #[.int .i64 V, .slice XA (il A).length cA], .pointer (some ⟨gp, 2, none⟩), .agg #[.int .i64 U, .slice XC (il C).length cC], .slice XD (il D).length cD, .agg #[.slice X1 (il F2).length cX1, .slice X2 (embM A C D F2).length cX2, .int .i64 0], .pointer (some ⟨gg, 2, none⟩), .int .i64 0, .bool false, undef, undef, undef, undef, undef, undef, undef, undef, undef, undef, .pointer (some ⟨gg, 0, none⟩), .agg #[.slice X1 (il F2).length cX1, .slice X2 (embM A C D F2).length cX2], .slice XD (il D).length cD, .slice XK n cK, .int .i64 n, .pointer (some ⟨gp, 0, none⟩), .agg #[.int .i64 V, .slice XA (il A).length cA], .pointer (some ⟨gp, 2, none⟩), .agg #[.int .i64 U, .slice XC (il C).length cC], .pointer (some ⟨w.heap.size + 1, 0, none⟩), .agg #[.slice B0 e0.length b0, .slice B1 e1.length b1], z67, z68, z69, z70, z71, z72, z73, z74, z75, z76, z77, undef, undef, undef, undef, undef, undef, undef, undef, undef, undef, undef, undef, undef, undef, undef, undef, undef, undef, undef, undef, undef, undef, undef, undef, undef, undef, undef, undef, undef, undef, undef, undef, undef, undef, undef, undef, undef, undef, undef, undef, undef, undef, undef, undef, undef, undef, undef, undef, undef], defers := [] } wl := by
      intro z67 z68 z69 z70 z71 z72 z73 z74 z75 z76 z77 wl hb8l
      refine hK1 _ _ ?_
      clear hK1 hK K CHK KEPT2 qo0 qo1 p0 p1 p2 p3 hr1
      have hb4l : Below w4.heap.size w4 wl := below_then hb48 hb48.size hb8l
      have hb0l : Below w.heap.size w wl := below_then hb08 hb08.size hb8l
      have hb01l : Below w0.heap.size w0 wl := below_then hb018 hb018.size hb8l
      have HDl := hid (fun W (hb : Below wl.heap.size wl W) => HD7.out _ (below_then (below_then hb8 hb8.size hb8l) (below_then hb8 hb8.size hb8l).size hb))
      clear hb8l hb48 hb08 hb018 HD7 hb8 hb4l0
      go_wp2
      go_loopw [12] (fun i wr => ∃ k : Nat, k ≤ 6 ∧ i = .int .i64 k ∧ Below wl.heap.size wl wr) (fun i _ => 6 - (intOf i).toNat)
      case atStart => exact ⟨0, by omega, rfl, Below.refl _ _⟩
      case round =>
        obtain ⟨k, hk, rfl, hbr⟩ := hrel
        by_cases hlt : k < 6
        · go_upto_region 17 with (fail)
          have eK : IntKind.u8.wrap (k : Int) = (k : Int) := by unfold IntKind.wrap; simp [IntKind.bits, IntKind.signed]; omega
          obtain ⟨ls, hls⟩ : ∃ ls, k :: nl l3 = ls := ⟨_, rfl⟩
          have hlsb : ∀ b ∈ ls, b < 256 := by
            rw [← hls]
            intro b hb
            rcases List.mem_cons.1 hb with e | e
            · omega
            · exact (nlc_of (HROW3.out _ (below_then hb0l hb0l.size hbr)) hok3).2.2 b e
          have hlsl : ls.length = 1 + l3.length := by rw [← hls, List.length_cons, nl_length]; omega
          have h63 : ls.length < 2 ^ 63 := by rw [hlsl]; exact Nat.lt_trans (Nat.add_lt_add_left h3 1) (by decide)
          have hU20 : U < 2 ^ 20 := Nat.lt_of_le_of_lt hp.u6 (by decide)
          have hVU' : V ≤ U := by omega
          replace hlsl := hid hlsl
          have HLSE := hid (show ([.int .u8 (k : Int)] ++ nums .u8 l3 : List Value) = nums .u8 (il ls) from by
            rw [← hls, nums, nums, il, List.map_cons, List.map_cons, ← il, il_nl (fun b hb => ((okL_iff.1 hok3) b hb).1)]; rfl)
          have HRR := hid (fun W (hb : Below wr.heap.size wr W) => Reads.of_C (HROW3.out W (below_then (below_then hb0l hb0l.size hbr) (below_then hb0l hb0l.size hbr).size hb)))
          have HCELL := hid (fun W (hb : Below wr.heap.size wr W) => (show W.cell? ⟨gp, 0, none⟩ = some (.int .i64 V) ∧ W.cell? ⟨gp, 2, none⟩ = some (.int .i64 U) ∧ W.cell? ⟨w.heap.size, 3, none⟩ = some (.slice A3 l3.length c3) from by
            have h1 := below_then hbr hbr.size hb
            obtain ⟨q0, _, q2, _⟩ := HP.out W (below_then hb4l hb4l.size h1)
            obtain ⟨_, _, _, q3, _⟩ := HRAW.out W (below_then hb01l hb01l.size h1)
            exact ⟨q0, q2, q3⟩))
          obtain ⟨i0, hi0, hz0, hz1, hz2⟩ := info_parts infoU8
          refine (wpIn_wide (n := 8)).1 ?_
          obtain ⟨vv, hvv⟩ : ∃ vv : Nat → Value, vv = fun i => (#[.pointer (some ⟨gp, 2, none⟩), .pointer (some ⟨gp, 2, none⟩), .int .i64 U, .int .i64 k, .int .u8 k] : Array Value).getD i undef := ⟨_, rfl⟩
          have mk : ∀ (L : Nat → Bool) (a' : Act) (w' : World), a' = ({ tmps := #[.agg #[.slice A0 l0.length c0, .slice A1 l1.length c1, .int .u8 a, .slice A3 l3.length c3, .slice A4 l4.length c4], .agg #[.slice B0 e0.length b0, .slice B1 e1.length b1, .slice B2 m2 b2, .slice B3 m3 b3, .slice B4 m4 b4, .slice B5 m5 b5], .int .u16 s, .pointer (some ⟨w.heap.size, 0, none⟩), .pointer (some ⟨w.heap.size + 1, 0, none⟩), undef, u6, .bool true, .pointer (some ⟨gp, 0, none⟩), .slice XD (il D).length cD, .pointer (some ⟨gg, 0, none⟩), .int .i64 n, .int .i64 k, a'.tmps.getD ((#[82, 83, 84, 85, 86, 87, 88, 89, 90, 91, 92, 93, 94, 95, 13, 79] : Array Nat).getD (14) 0) undef, u14, .bool true, .bool true, .bool false, .pointer (some ⟨w.heap.size + 1, 0, none⟩), .pointer (some ⟨w.heap.size + 1, 0, none⟩), .slice B0 e0.length b0, .int .i64 e0.length, .bool false, .bool false, .pointer (some ⟨w.heap.size + 1, 0, none⟩), .pointer (some ⟨w.heap.size + 1, 1, none⟩), .slice B1 e1.length b1, .int .i64 e1.length, .bool false, .bool false, undef, .agg #[.slice A0 l0.length c0, .slice A1 l1.length c1, .int .u8 a, .slice A3 l3.length c3, .slice A4 l4.length c4], .agg #[.int .i64 V, .slice XA (il A).length cA, .int .i64 U, .slice XC (il C).length cC], .pointer (some ⟨gp, 0, none⟩), .agg #[.int .i64 V, .slice XA (il A).length cA], .int .u16 s, .slice XD (il D).length cD, .pointer (some ⟨gp, 0, none⟩), .agg #[.int .i64 V, .slice XA (il A).length cA], .pointer (some ⟨gp, 2, none⟩), .agg #[.int .i64 U, .slice XC (il C).length cC], .slice XD (il D).length cD, .agg #[.slice X1 (il F2).length cX1, .slice X2 (embM A C D F2).length cX2, .int .i64 0], .pointer (some ⟨gg, 2, none⟩), .int .i64 0, .bool false, undef, undef, undef, undef, undef, undef, undef, undef, undef, undef, .pointer (some ⟨gg, 0, none⟩), .agg #[.slice X1 (il F2).length cX1, .slice X2 (embM A C D F2).length cX2], .slice XD (il D).length cD, .slice XK n cK, .int .i64 n, .pointer (some ⟨gp, 0, none⟩), .agg #[.int .i64 V, .slice XA (il A).length cA], .pointer (some ⟨gp, 2, none⟩), .agg #[.int .i64 U, .slice XC (il C).length cC], .pointer (some ⟨w.heap.size + 1, 0, none⟩), .agg #[.slice B0 e0.length b0, .slice B1 e1.length b1], z67, z68, z69, z70, z71, z72, z73, z74, z75, z76, z77, .int .i64 k, a'.tmps.getD ((#[82, 83, 84, 85, 86, 87, 88, 89, 90, 91, 92, 93, 94, 95, 13, 79] : Array Nat).getD (15) 0) undef, u80, u81, a'.tmps.getD ((#[82, 83, 84, 85, 86, 87, 88, 89, 90, 91, 92, 93, 94, 95, 13, 79] : Array Nat).getD (0) 0) undef, a'.tmps.getD ((#[82, 83, 84, 85, 86, 87, 88, 89, 90, 91, 92, 93, 94, 95, 13, 79] : Array Nat).getD (1) 0) undef, a'.tmps.getD ((#[82, 83, 84, 85, 86, 87, 88, 89, 90, 91, 92, 93, 94, 95, 13, 79] : Array Nat).getD (2) 0) undef, a'.tmps.getD ((#[82, 83, 84, 85, 86, 87, 88, 89, 90, 91, 92, 93, 94, 95, 13, 79] : Array Nat).getD (3) 0) undef, a'.tmps.getD ((#[82, 83, 84, 85, 86, 87, 88, 89, 90, 91, 92, 93, 94, 95, 13, 79] : Array Nat).getD (4) 0) undef, a'.tmps.getD ((#[82, 83, 84, 85, 86, 87, 88, 89, 90, 91, 92, 93, 94, 95, 13, 79] : Array Nat).getD (5) 0) undef, a'.tmps.getD ((#[82, 83, 84, 85, 86, 87, 88, 89, 90, 91, 92, 93, 94, 95, 13, 79] : Array Nat).getD (6) 0) undef, a'.tmps.getD ((#[82, 83, 84, 85, 86, 87, 88, 89, 90, 91, 92, 93, 94, 95, 13, 79] : Array Nat).getD (7) 0) undef, a'.tmps.getD ((#[82, 83, 84, 85, 86, 87, 88, 89, 90, 91, 92, 93, 94, 95, 13, 79] : Array Nat).getD (8) 0) undef, a'.tmps.getD ((#[82, 83, 84, 85, 86, 87, 88, 89, 90, 91, 92, 93, 94, 95, 13, 79] : Array Nat).getD (9) 0) undef, a'.tmps.getD ((#[82, 83, 84, 85, 86, 87, 88, 89, 90, 91, 92, 93, 94, 95, 13, 79] : Array Nat).getD (10) 0) undef, a'.tmps.getD ((#[82, 83, 84, 85, 86, 87, 88, 89, 90, 91, 92, 93, 94, 95, 13, 79] : Array Nat).getD (11) 0) undef, a'.tmps.getD ((#[82, 83, 84, 85, 86, 87, 88, 89, 90, 91, 92, 93, 94, 95, 13, 79] : Array Nat).getD (12) 0) undef, a'.tmps.getD ((#[82, 83, 84, 85, 86, 87, 88, 89, 90, 91, 92, 93, 94, 95, 13, 79] : Array Nat).getD (13) 0) undef, u96, u97, u98, u99, u100, u101, u102, u103, u104, u105, u106, u107, u108, u109, u110, u111, u112, u113, u114, u115, u116, u117, u118, u119, u120, u121, u122, u123, u124, u125, undef], defers := [] } : Act) → (∀ j < 5, L j = true → a'.tmps.getD ((#[82, 83, 84, 85, 86, 87, 88, 89, 90, 91, 92, 93, 94, 95, 13, 79] : Array Nat).getD (j) 0) undef = vv j) → (fun (L : Nat → Bool) (wz : World) (y : Nat → Value) => S17 wr k (.pointer (some ⟨w.heap.size, 3, none⟩)) (.slice A3 l3.length c3) (.pointer (some ⟨gp, 0, none⟩)) (.int .i64 V) ls U V L wz (y 5) (y 6) (y 7) (y 8) (y 9) (y 10) (y 11) (y 12) (y 13) (y 14)) L w' (fun m => a'.tmps.getD ((#[82, 83, 84, 85, 86, 87, 88, 89, 90, 91, 92, 93, 94, 95, 13, 79] : Array Nat).getD (m) 0) undef) → ∃ y : Nat → Value, a' = ({ tmps := #[.agg #[.slice A0 l0.length c0, .slice A1 l1.length c1, .int .u8 a, .slice A3 l3.length c3, .slice A4 l4.length c4], .agg #[.slice B0 e0.length b0, .slice B1 e1.length b1, .slice B2 m2 b2, .slice B3 m3 b3, .slice B4 m4 b4, .slice B5 m5 b5], .int .u16 s, .pointer (some ⟨w.heap.size, 0, none⟩), .pointer (some ⟨w.heap.size + 1, 0, none⟩), undef, u6, .bool true, .pointer (some ⟨gp, 0, none⟩), .slice XD (il D).length cD, .pointer (some ⟨gg, 0, none⟩), .int .i64 n, .int .i64 k, y 14, u14, .bool true, .bool true, .bool false, .pointer (some ⟨w.heap.size + 1, 0, none⟩), .pointer (some ⟨w.heap.size + 1, 0, none⟩), .slice B0 e0.length b0, .int .i64 e0.length, .bool false, .bool false, .pointer (some ⟨w.heap.size + 1, 0, none⟩), .pointer (some ⟨w.heap.size + 1, 1, none⟩), .slice B1 e1.length b1, .int .i64 e1.length, .bool false, .bool false, undef, .agg #[.slice A0 l0.length c0, .slice A1 l1.length c1, .int .u8 a, .slice A3 l3.length c3, .slice A4 l4.length c4], .agg #[.int .i64 V, .slice XA (il A).length cA, .int .i64 U, .slice XC (il C).length cC], .pointer (some ⟨gp, 0, none⟩), .agg #[.int .i64 V, .slice XA (il A).length cA], .int .u16 s, .slice XD (il D).length cD, .pointer (some ⟨gp, 0, none⟩), .agg #[.int .i64 V, .slice XA (il A).length cA], .pointer (some ⟨gp, 2, none⟩), .agg #[.int .i64 U, .slice XC (il C).length cC], .slice XD (il D).length cD, .agg #[.slice X1 (il F2).length cX1, .slice X2 (embM A C D F2).length cX2, .int .i64 0], .pointer (some ⟨gg, 2, none⟩), .int .i64 0, .bool false, undef, undef, undef, undef, undef, undef, undef, undef, undef, undef, .pointer (some ⟨gg, 0, none⟩), .agg #[.slice X1 (il F2).length cX1, .slice X2 (embM A C D F2).length cX2], .slice XD (il D).length cD, .slice XK n cK, .int .i64 n, .pointer (some ⟨gp, 0, none⟩), .agg #[.int .i64 V, .slice XA (il A).length cA], .pointer (some ⟨gp, 2, none⟩), .agg #[.int .i64 U, .slice XC (il C).length cC], .pointer (some ⟨w.heap.size + 1, 0, none⟩), .agg #[.slice B0 e0.length b0, .slice B1 e1.length b1], z67, z68, z69, z70, z71, z72, z73, z74, z75, z76, z77, .int .i64 k, y 15, u80, u81, y 0, y 1, y 2, y 3, y 4, y 5, y 6, y 7, y 8, y 9, y 10, y 11, y 12, y 13, u96, u97, u98, u99, u100, u101, u102, u103, u104, u105, u106, u107, u108, u109, u110, u111, u112, u113, u114, u115, u116, u117, u118, u119, u120, u121, u122, u123, u124, u125, undef], defers := [] } : Act) ∧ (∀ j < 5, L j = true → y j = vv j) ∧ (fun (L : Nat → Bool) (wz : World) (y : Nat → Value) => S17 wr k (.pointer (some ⟨w.heap.size, 3, none⟩)) (.slice A3 l3.length c3) (.pointer (some ⟨gp, 0, none⟩)) (.int .i64 V) ls U V L wz (y 5) (y 6) (y 7) (y 8) (y 9) (y 10) (y 11) (y 12) (y 13) (y 14)) L w' y := fun L a' w' h1 h2 h3 => ⟨fun m => a'.tmps.getD ((#[82, 83, 84, 85, 86, 87, 88, 89, 90, 91, 92, 93, 94, 95, 13, 79] : Array Nat).getD (m) 0) undef, h1, h2, h3⟩
          refine wpIn_region_inv2 (by kernel_rfl) (fun L aI wI => ∃ y : Nat → Value, aI = ({ tmps := #[.agg #[.slice A0 l0.length c0, .slice A1 l1.length c1, .int .u8 a, .slice A3 l3.length c3, .slice A4 l4.length c4], .agg #[.slice B0 e0.length b0, .slice B1 e1.length b1, .slice B2 m2 b2, .slice B3 m3 b3, .slice B4 m4 b4, .slice B5 m5 b5], .int .u16 s, .pointer (some ⟨w.heap.size, 0, none⟩), .pointer (some ⟨w.heap.size + 1, 0, none⟩), undef, u6, .bool true, .pointer (some ⟨gp, 0, none⟩), .slice XD (il D).length cD, .pointer (some ⟨gg, 0, none⟩), .int .i64 n, .int .i64 k, y 14, u14, .bool true, .bool true, .bool false, .pointer (some ⟨w.heap.size + 1, 0, none⟩), .pointer (some ⟨w.heap.size + 1, 0, none⟩), .slice B0 e0.length b0, .int .i64 e0.length, .bool false, .bool false, .pointer (some ⟨w.heap.size + 1, 0, none⟩), .pointer (some ⟨w.heap.size + 1, 1, none⟩), .slice B1 e1.length b1, .int .i64 e1.length, .bool false, .bool false, undef, .agg #[.slice A0 l0.length c0, .slice A1 l1.length c1, .int .u8 a, .slice A3 l3.length c3, .slice A4 l4.length c4], .agg #[.int .i64 V, .slice XA (il A).length cA, .int .i64 U, .slice XC (il C).length cC], .pointer (some ⟨gp, 0, none⟩), .agg #[.int .i64 V, .slice XA (il A).length cA], .int .u16 s, .slice XD (il D).length cD, .pointer (some ⟨gp, 0, none⟩), .agg #[.int .i64 V, .slice XA (il A).length cA], .pointer (some ⟨gp, 2, none⟩), .agg #[.int .i64 U, .slice XC (il C).length cC], .slice XD (il D).length cD, .agg #[.slice X1 (il F2).length cX1, .slice X2 (embM A C D F2).length cX2, .int .i64 0], .pointer (some ⟨gg, 2, none⟩), .int .i64 0, .bool false, undef, undef, undef, undef, undef, undef, undef, undef, undef, undef, .pointer (some ⟨gg, 0, none⟩), .agg #[.slice X1 (il F2).length cX1, .slice X2 (embM A C D F2).length cX2], .slice XD (il D).length cD, .slice XK n cK, .int .i64 n, .pointer (some ⟨gp, 0, none⟩), .agg #[.int .i64 V, .slice XA (il A).length cA], .pointer (some ⟨gp, 2, none⟩), .agg #[.int .i64 U, .slice XC (il C).length cC], .pointer (some ⟨w.heap.size + 1, 0, none⟩), .agg #[.slice B0 e0.length b0, .slice B1 e1.length b1], z67, z68, z69, z70, z71, z72, z73, z74, z75, z76, z77, .int .i64 k, y 15, u80, u81, y 0, y 1, y 2, y 3, y 4, y 5, y 6, y 7, y 8, y 9, y 10, y 11, y 12, y 13, u96, u97, u98, u99, u100, u101, u102, u103, u104, u105, u106, u107, u108, u109, u110, u111, u112, u113, u114, u115, u116, u117, u118, u119, u120, u121, u122, u123, u124, u125, undef], defers := [] } : Act) ∧ (∀ j < 5, L j = true → y j = vv j) ∧ (fun (L : Nat → Bool) (wz : World) (y : Nat → Value) => S17 wr k (.pointer (some ⟨w.heap.size, 3, none⟩)) (.slice A3 l3.length c3) (.pointer (some ⟨gp, 0, none⟩)) (.int .i64 V) ls U V L wz (y 5) (y 6) (y 7) (y 8) (y 9) (y 10) (y 11) (y 12) (y 13) (y 14)) L wI y) ?acyc ?start ?step ?rdone
          case acyc => exact fun i o ho => acyc_of2 (by kernel_rfl) i o ho
          case start => exact mk (fun _ => false) _ _ rfl (fun _ _ h => by cases h) (by exact ⟨below_drew (Below.refl _ _), (fun h => nomatch h), (fun h => nomatch h), (fun h => nomatch h), (fun h => nomatch h), (fun h => nomatch h), (fun h => nomatch h), (fun h => nomatch h), (fun h => nomatch h), (fun h => nomatch h), (fun h => nomatch h)⟩)
          case step =>
            rintro i o L a wx ho hLi hdep ⟨y, rfl, hy, hWI⟩ K hK
            have hi : i < 15 := (Array.getElem?_eq_some_iff.1 ho).1
            rcases i with _ | _ | _ | _ | _ | _ | _ | _ | _ | _ | _ | _ | _ | _ | _ | i
            · obtain rfl := Option.some.inj ho
              clear hdep ho
              go_simp
              refine hK _ _ (mk _ _ _ rfl ?_ ?_)
              rotate_left
              · exact hWI.q 0 (by decide)
              · intro j hj h
                rcases j with _ | _ | _ | _ | _ | j
                all_goals first | (rw [hvv]; rfl) | exact hy _ (by omega) (by simpa [put1] using h) | (exfalso; omega)
            · obtain rfl := Option.some.inj ho
              have d0 : L 0 = true := hdep ⟨0, .data⟩ (by simp) rfl
              have e0 : y 0 = .pointer (some ⟨gp, 2, none⟩) := (hy 0 (by omega) d0).trans (by rw [hvv]; rfl)
              clear hdep ho
              rw [e0]
              go_simp
              refine hK _ _ (mk _ _ _ rfl ?_ ?_)
              rotate_left
              · exact hWI.q 1 (by decide)
              · intro j hj h
                rcases j with _ | _ | _ | _ | _ | j
                all_goals first | (rw [hvv]; rfl) | exact hy _ (by omega) (by simpa [put1] using h) | (exfalso; omega)
            · obtain rfl := Option.some.inj ho
              have d1 : L 1 = true := hdep ⟨1, .data⟩ (by simp) rfl
              have e1 : y 1 = .pointer (some ⟨gp, 2, none⟩) := (hy 1 (by omega) d1).trans (by rw [hvv]; rfl)
              clear hdep ho
              rw [e1]
              obtain ⟨q0, q2, q3⟩ := HCELL.out _ hWI.bel
              go_simp
              refine hK _ _ (mk _ _ _ rfl ?_ ?_)
              rotate_left
              · exact hWI.q 2 (by decide)
              · intro j hj h
                rcases j with _ | _ | _ | _ | _ | j
                all_goals first | (rw [hvv]; rfl) | exact hy _ (by omega) (by simpa [put1] using h) | (exfalso; omega)
            · obtain rfl := Option.some.inj ho
              clear hdep ho
              go_simp
              refine hK _ _ (mk _ _ _ rfl ?_ ?_)
              rotate_left
              · exact hWI.q 3 (by decide)
              · intro j hj h
                rcases j with _ | _ | _ | _ | _ | j
                all_goals first | (rw [hvv]; rfl) | exact hy _ (by omega) (by simpa [put1] using h) | (exfalso; omega)
            · obtain rfl := Option.some.inj ho
              have d3 : L 3 = true := hdep ⟨3, .data⟩ (by simp) rfl
              have e3 : y 3 = .int .i64 k := (hy 3 (by omega) d3).trans (by rw [hvv]; rfl)
              clear hdep ho
              rw [e3]
              go_simp
              refine hK _ _ (mk _ _ _ rfl ?_ ?_)
              rotate_left
              · exact hWI.q 4 (by decide)
              · intro j hj h
                rcases j with _ | _ | _ | _ | _ | j
                all_goals first | (rw [hvv]; rfl) | exact hy _ (by omega) (by simpa [put1] using h) | (exfalso; omega)
            · obtain rfl := Option.some.inj ho
              have d4 : L 4 = true := hdep ⟨4, .data⟩ (by simp) rfl
              have e4 : y 4 = .int .u8 k := (hy 4 (by omega) d4).trans (by rw [hvv]; rfl)
              clear hdep ho
              rw [e4]
              go_simp
              refine hK _ _ (mk _ _ _ rfl ?_ ?_)
              rotate_left
              · exact hWI.op5 hLi
              · intro j hj h
                rcases j with _ | _ | _ | _ | _ | j
                all_goals first | (rw [hvv]; rfl) | exact hy _ (by omega) (by simpa [put1] using h) | (exfalso; omega)
            · obtain rfl := Option.some.inj ho
              clear hdep ho
              go_simp
              refine hK _ _ (mk _ _ _ rfl ?_ ?_)
              rotate_left
              · exact hWI.op6
              · intro j hj h
                rcases j with _ | _ | _ | _ | _ | j
                all_goals first | (rw [hvv]; rfl) | exact hy _ (by omega) (by simpa [put1] using h) | (exfalso; omega)
            · obtain rfl := Option.some.inj ho
              have d6 : L 6 = true := hdep ⟨6, .data⟩ (by simp) rfl
              clear hdep ho
              rw [hWI.h6 d6]
              obtain ⟨q0, q2, q3⟩ := HCELL.out _ hWI.bel
              go_simp
              refine hK _ _ (mk _ _ _ rfl ?_ ?_)
              rotate_left
              · exact (by have hh := hWI.op7; rw [hWI.h6 d6] at hh; exact hh)
              · intro j hj h
                rcases j with _ | _ | _ | _ | _ | j
                all_goals first | (rw [hvv]; rfl) | exact hy _ (by omega) (by simpa [put1] using h) | (exfalso; omega)
            · obtain rfl := Option.some.inj ho
              have d5 : L 5 = true := hdep ⟨5, .data⟩ (by simp) rfl
              have d7 : L 7 = true := hdep ⟨7, .data⟩ (by simp) rfl
              clear hdep ho
              obtain ⟨g, e5, hgB, hblk⟩ := hWI.h5 d5
              have nn : L 8 = false := hLi
              have hblk := hblk nn
              rw [hWI.h7 d7, e5]
              rw [if_pos (by rfl)]
              refine wpIn_append_any _ (.tmp 87) (.tmp 89) _ rfl wr.heap.size 5 i0 _ 1 1 Try.underlying22 hi0 hz0 hz1 hz2 rfl (by decide) (.slice (some ⟨g, 0, none⟩) 1 1) 1 [.int .u8 (k : Int)] (by simp [Act.eval]) (own_one hblk hgB) _ A3 l3.length c3 (nums .u8 l3) (by simp [Act.eval]) (HRR.out _ hWI.bel) (nums_one _ _) (by simp only [maxLen] <;> omega) (by omega) hWI.bel.size ?_
              intro v' w' hown hgr hat
              have hbw : Below wr.heap.size wr w' := below_grown_own hWI.bel hWI.bel.size hgr (by rintro k_ hk_; simp [Value.ownBlock] at hk_; omega)
              rw [HLSE.out, ← hlsl.out] at hown
              refine hK _ _ (mk _ _ _ rfl ?_ ?_)
              rotate_left
              · exact (by have hh := hWI.op8 hLi d5 hbw hown hlsb; rw [hWI.h7 d7, e5] at hh; exact hh)
              · intro j hj h
                rcases j with _ | _ | _ | _ | _ | j
                all_goals first | (rw [hvv]; rfl) | exact hy _ (by omega) (by simpa [put1] using h) | (exfalso; omega)
            · obtain rfl := Option.some.inj ho
              have d2 : L 2 = true := hdep ⟨2, .data⟩ (by simp) rfl
              have d8 : L 8 = true := hdep ⟨8, .data⟩ (by simp) rfl
              have d8 : L 8 = true := hdep ⟨8, .chain⟩ (by simp) rfl
              have e2 : y 2 = .int .i64 U := (hy 2 (by omega) d2).trans (by rw [hvv]; rfl)
              clear hdep ho
              rw [e2]
              obtain ⟨_, A8, c8, e8, hN⟩ := hWI.h8 d8
              rw [e8]
              have SH := hid (shuffled_any A8 ls.length c8 U ls _ hN h63 hU20)
              go_simp
              gi_wp2_with (refine ⟨trivial, ?_⟩; gi_at_call 23; refine (callsIn_wide.2 SH.out).mono ?_; rintro e w' ⟨v, rfl, hown, hbw⟩)
              refine mk _ _ _ rfl ?_ ?_
              rotate_left
              · exact (by have hh := hWI.op9 hLi d8 hbw hown; rw [e8] at hh; exact hh)
              · intro j hj h
                rcases j with _ | _ | _ | _ | _ | j
                all_goals first | (rw [hvv]; rfl) | exact hy _ (by omega) (by simpa [put1] using h) | (exfalso; omega)
            · obtain rfl := Option.some.inj ho
              clear hdep ho
              go_simp
              refine hK _ _ (mk _ _ _ rfl ?_ ?_)
              rotate_left
              · exact hWI.op10
              · intro j hj h
                rcases j with _ | _ | _ | _ | _ | j
                all_goals first | (rw [hvv]; rfl) | exact hy _ (by omega) (by simpa [put1] using h) | (exfalso; omega)
            · obtain rfl := Option.some.inj ho
              have d10 : L 10 = true := hdep ⟨10, .data⟩ (by simp) rfl
              clear hdep ho
              rw [hWI.h10 d10]
              go_simp
              refine hK _ _ (mk _ _ _ rfl ?_ ?_)
              rotate_left
              · exact (by have hh := hWI.op11; rw [hWI.h10 d10] at hh; exact hh)
              · intro j hj h
                rcases j with _ | _ | _ | _ | _ | j
                all_goals first | (rw [hvv]; rfl) | exact hy _ (by omega) (by simpa [put1] using h) | (exfalso; omega)
            · obtain rfl := Option.some.inj ho
              have d11 : L 11 = true := hdep ⟨11, .data⟩ (by simp) rfl
              clear hdep ho
              rw [hWI.h11 d11]
              obtain ⟨q0, q2, q3⟩ := HCELL.out _ hWI.bel
              go_simp
              refine hK _ _ (mk _ _ _ rfl ?_ ?_)
              rotate_left
              · exact (by have hh := hWI.op12; rw [hWI.h11 d11] at hh; exact hh)
              · intro j hj h
                rcases j with _ | _ | _ | _ | _ | j
                all_goals first | (rw [hvv]; rfl) | exact hy _ (by omega) (by simpa [put1] using h) | (exfalso; omega)
            · obtain rfl := Option.some.inj ho
              have d9 : L 9 = true := hdep ⟨9, .data⟩ (by simp) rfl
              have d12 : L 12 = true := hdep ⟨12, .data⟩ (by simp) rfl
              clear hdep ho
              obtain ⟨_, A9, c9, e9, hc9, _⟩ := hWI.h9 d9
              have hVc : V ≤ c9 := Nat.le_trans hVU' hc9
              rw [e9, hWI.h12 d12]
              go_simp
              refine hK _ _ (mk _ _ _ rfl ?_ ?_)
              rotate_left
              · exact (by have hh := hWI.op13 hLi d9 e9 hVU'; rw [e9, hWI.h12 d12] at hh; exact hh)
              · intro j hj h
                rcases j with _ | _ | _ | _ | _ | j
                all_goals first | (rw [hvv]; rfl) | exact hy _ (by omega) (by simpa [put1] using h) | (exfalso; omega)
            · obtain rfl := Option.some.inj ho
              have d13 : L 13 = true := hdep ⟨13, .data⟩ (by simp) rfl
              have d9 : L 9 = true := hdep ⟨9, .chain⟩ (by simp) rfl
              clear hdep ho
              obtain ⟨_, A13, c13, e13, _, _⟩ := hWI.h13 d13
              rw [e13]
              go_simp
              refine hK _ _ (mk _ _ _ rfl ?_ ?_)
              rotate_left
              · exact (by have hh := hWI.op14 d13; rw [e13] at hh; exact hh)
              · intro j hj h
                rcases j with _ | _ | _ | _ | _ | j
                all_goals first | (rw [hvv]; rfl) | exact hy _ (by omega) (by simpa [put1] using h) | (exfalso; omega)
            · exfalso; omega
          case rdone =>
            rintro L a wq hall ⟨y, rfl, hy, hWI⟩
            obtain ⟨_, A13, c13, e13, hc13, I13⟩ := hWI.h13 (hall 13 (by decide))
            obtain ⟨_, e14⟩ := hWI.h14 (hall 14 (by decide))
            have hbq : Below wl.heap.size wl wq := below_then hbr hbr.size hWI.bel
            rw [e14, e13]
            obtain ⟨F, hF⟩ : ∃ F, (shL ls U).take V = F := ⟨_, rfl⟩
            rw [hF] at I13
            have f1 : F.length = V := by rw [← hF, List.length_take, shL_len]; omega
            have f2 : ∀ q ∈ F, q < U := by rw [← hF]; exact fun q hq => shL_lt ls U q (List.mem_of_mem_take hq)
            have f3 : F.Nodup := by rw [← hF]; exact (shL_nodup ls U).sublist (List.take_sublist _ _)
            have f4 : (il F).length = V := by rw [il_length, f1]
            have hfit : Fit A C F (embM A C D F) := embM_fit hp.sc hD hDn
            have hle3 : ¬ ((n : Int) < ((keptL (embM A C D F) (il D)).length : Int)) := by
              have := hmost F (embM A C D F) hfit f1 f2 f3
              omega
            obtain ⟨n3, hn3⟩ : ∃ n3, (keptL (embM A C D F) (il D)).length = n3 := ⟨_, rfl⟩
            rw [hn3] at hle3
            obtain ⟨KK, hKK⟩ := check_f hfit hp.v4 hp.ab f1 f2 f3 (by have := hp.u6; omega) (by have := hp.al; omega) (by have := hp.cl; omega)
            have hck := hKK KK (Nat.le_refl _)
            have hM3 : (embM A C D F).length < 1000 := by rw [embM_len]; have := hp.al; omega
            have OFC := plexuslaw42_of.calls V XA cA (il A) U XC cC (il C) A13 c13 (il F) XD cD (il D) (il F) (embM A C D F) 0 wq (HA4.out _ (below_then hb4l hb4l.size hbq)) hcA (HC4.out _ (below_then hb4l hb4l.size hbq)) hcC (by rw [f4]; exact I13) (by rw [f4]; exact hc13) (HDl.out _ hbq) hcD (of_fE hp hD hDn hDl f1 f2 f3)
            rw [f4] at OFC
            replace OFC := hid OFC
            have hbq4 := below_then hb4l hb4l.size hbq
            have hbq0 := below_then hb0l hb0l.size hbq
            obtain ⟨p0, p1, p2, p3⟩ := HP.out _ hbq4
            clear hlsb hls hlsl h63 hU20 HLSE HRR HCELL hi0 hz0 hz1 hz2 eK hy hvv mk hall hWI e13 e14 I13 hF hKK hmost HROW3 h3 hok3
            go_upto_region 19 with (go_at_call 12; refine OFC.out.mono ?_; rintro e w11 ⟨v1, v2, rfl, hr1, hr2, hb11⟩; obtain ⟨Z1, cZ1, rfl, hcZ1, IZ1⟩ := Kd.R_reads hr1; obtain ⟨Z2, cZ2, rfl, hcZ2, IZ2⟩ := Kd.R_reads hr2; clear hr1 hr2 p0 p1 p2 p3)
            obtain ⟨w12, hw12⟩ : ∃ w12, w11.alloc (.cells #[.slice Z1 V cZ1, .slice Z2 (embM A C D F).length cZ2, .int .i64 0] 47) = w12 := ⟨_, rfl⟩
            have hb12 : Below w11.heap.size w11 w12 := by rw [← hw12]; exact below_alloc (Below.refl _ _) _
            have hbqc := below_then hb11 hb11.size hb12
            have kg : Blk w12 w11.heap.size 47 #[.slice Z1 V cZ1, .slice Z2 (embM A C D F).length cZ2, .int .i64 0] := by rw [← hw12]; exact Blk.new _ _ _
            obtain ⟨ge, hge⟩ : ∃ ge, w11.heap.size = ge := ⟨_, rfl⟩
            rw [hw12]
            rw [hge] at kg ⊢
            have HG := hid (fun W (hb : Below w12.heap.size w12 W) => (show W.cell? ⟨ge, 0, none⟩ = some (.slice Z1 V cZ1) ∧ W.cell? ⟨ge, 1, none⟩ = some (.slice Z2 (embM A C D F).length cZ2) ∧ W.cell? ⟨ge, 2, none⟩ = some (.int .i64 0) from by
              have k := kg.below hb kg.lt
              exact ⟨(k.cell 0).trans rfl, (k.cell 1).trans rfl, (k.cell 2).trans rfl⟩))
            have hb4c := below_then hbq4 hbq4.size hbqc
            have hblc := below_then hbq hbq.size hbqc
            have CHK3 := embed_Check.calls KK V XA cA (il A) U XC cC (il C) Z1 cZ1 (il F) Z2 cZ2 (embM A C D F) 0 w12 (HA4.out _ hb4c) hcA (HC4.out _ hb4c) hcC (Kd.C_below IZ1 hb12) hcZ1 (Kd.C_below IZ2 hb12) hcZ2 hck
            rw [f4] at CHK3
            replace CHK3 := hid CHK3
            have KEP3 : ∀ W, Below w12.heap.size w12 W → _ := fun W (hb : Below w12.heap.size w12 W) => embed_Kept.calls Z1 cZ1 (il F) Z2 cZ2 (embM A C D F) XD cD (il D) (keptL (embM A C D F) (il D)) W (Kd.C_below (Kd.C_below IZ1 hb12) hb) hcZ1 (Kd.C_below (Kd.C_below IZ2 hb12) hb) hcZ2 (HDl.out W (below_then hblc hblc.size hb)) hcD (kept_fE hM3 hDl1)
            rw [f4] at KEP3
            replace KEP3 := hid KEP3
            obtain ⟨p0, p1, p2, p3⟩ := HP.out _ hb4c
            obtain ⟨g0, g1, g2⟩ := HG.out _ (Below.refl _ _)
            replace hn3 := hid hn3
            clear hw12 kg hge hbqc hck OFC
            go_upto_region 16 with (first
              | (go_at_call 16; refine CHK3.out.mono ?_; rintro e w13 ⟨rfl, hb13⟩; clear g0 g1 g2; obtain ⟨g0, g1, g2⟩ := HG.out _ hb13)
              | (go_at_call 19; refine (KEP3.out _ hb13).mono ?_; rintro e w14 ⟨vk3, rfl, hrk3, hb14⟩; obtain ⟨XM, cM, rfl, hcM, IM⟩ := Kd.R_reads hrk3; rw [hn3.out]; clear hrk3 g0 g1 g2))
            have hblf : Below wl.heap.size wl w14 := below_then (below_then hblc hblc.size hb13) (below_then hblc hblc.size hb13).size hb14
            go_wp2
            exact ⟨⟨k + 1, by omega, by simp, hblf⟩, by show 6 - ((k : Int) + 1).toNat < 6 - ((k : Int)).toNat; omega⟩
        · go_wp2
          go_ret
          exact ⟨rfl, below_then hb0l hb0l.size hbr⟩
    clear hK1
    by_cases hrz : r = 0
    · subst hrz
      have hle := hr1 rfl
      go_wp2_with (first
        | (go_at_call 16; refine CHK.out.mono ?_; rintro e w9 ⟨rfl, hb9⟩; obtain ⟨qo0, qo1⟩ := HODD.out _ (below_then hb018 hb018.size hb9))
        | (go_at_call 19; refine (KEPT2.out _ hb9).mono ?_; rintro e w10 ⟨vk2, rfl, hrk2, hb10⟩; obtain ⟨XL, cL, rfl, hcL, IL⟩ := Kd.R_reads hrk2; clear hrk2))
      exact below_then hb9 hb9.size hb10
    · go_wp2_with (go_at_call 16; refine CHK.out.mono ?_; rintro e w9 ⟨rfl, hb9⟩; obtain ⟨qo0, qo1⟩ := HODD.out _ (below_then hb018 hb018.size hb9))
      exact hb9
end Go.Proofs.Ytheclfjbedajfaa.Pd
