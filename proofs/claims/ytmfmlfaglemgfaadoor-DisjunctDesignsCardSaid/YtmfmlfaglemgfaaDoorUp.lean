/- disjunct.upto, the iterator, walked: all sets of at most d of some items. -/
import Derived.Test.YtmfmlfaglemgfaaDoorTz
import Derived.Test.YtmfmlfaglemgfaaDoorRg
namespace Go.Proofs.YtmfmlfaglemgfaaDoor
set_option linter.unusedSimpArgs false
set_option linter.unusedVariables false
open Go.RowKit Go.Lib Go.Shelf Go.Proofs.YtmfmlfaglemgfaaDoorW.PrintWords
attribute [local go_sem] Oper.semAt_some

/-- A number without its least bit. -/
def cutL (x : Nat) : Nat := x - 2 ^ ctz 64 x
theorem cutL_parts {x : Nat} (h0 : 0 < x) (hx : x < 2 ^ 64) : x ^^^ 2 ^ ctz 64 x = cutL x ∧ 2 ^ ctz 64 x ≤ x ∧ ctz 64 x < 64 := by
  obtain ⟨hl, m, hm⟩ := ctz_form 64 x h0 hx
  unfold cutL
  generalize ctz 64 x = j at hl hm
  have h1 : x = 2 ^ (j + 1) * m + 2 ^ j := by rw [Nat.pow_succ, Nat.mul_assoc, ← Nat.mul_add_one]; exact hm
  have hp := Nat.two_pow_pos j
  refine ⟨?_, by omega, hl⟩
  have h2 : x - 2 ^ j = 2 ^ (j + 1) * m := by omega
  rw [h2]
  apply Nat.eq_of_testBit_eq
  intro i
  rw [Nat.testBit_xor, h1, Nat.testBit_two_pow_mul_add _ (by rw [Nat.pow_succ]; omega), Nat.testBit_two_pow, show 2 ^ (j + 1) * m = 2 ^ (j + 1) * m + 0 from rfl, Nat.testBit_two_pow_mul_add _ (Nat.two_pow_pos _)]
  by_cases hi : i < j + 1
  · rw [if_pos hi, if_pos hi]
    by_cases e : j = i <;> simp [e]
  · rw [if_neg hi, if_neg hi]
    have : ¬ j = i := by omega
    simp [this]
theorem cutL_lt {x : Nat} (h0 : 0 < x) : cutL x < x := by
  unfold cutL; have := Nat.two_pow_pos (ctz 64 x); omega
/-- The sets that come behind a set, out of the items that are left. -/
def upR (f : Nat → Nat → List Nat) (s : Nat) : Nat → Nat → List Nat
  | 0, _ => []
  | k + 1, q => if q = 0 then [] else f (s ||| 2 ^ ctz 64 q) (cutL q) ++ upR f s k (cutL q)
def upL : Nat → Nat → Nat → List Nat
  | 0, s, _ => [s]
  | l + 1, s, q => s :: upR (upL l) s q q
theorem upR_fuel (f : Nat → Nat → List Nat) (s : Nat) : ∀ (k q : Nat), q ≤ k → upR f s k q = upR f s q q := by
  intro k
  induction k using Nat.strongRecOn with
  | _ k ih =>
    intro q hq
    rcases Nat.eq_zero_or_pos q with rfl | h0
    · cases k with
      | zero => rfl
      | succ k => simp [upR]
    · obtain ⟨k', rfl⟩ : ∃ k', k = k' + 1 := ⟨k - 1, by omega⟩
      obtain ⟨q', hq'⟩ : ∃ q', q = q' + 1 := ⟨q - 1, by omega⟩
      have hl := cutL_lt h0
      have e1 := ih k' (by omega) (cutL q) (by omega)
      conv => lhs; rw [upR, if_neg (by omega), e1]
      conv => rhs; arg 3; rw [hq']
      rw [upR, if_neg (by omega)]
      rcases Nat.lt_or_ge q' (k' + 1) with h2 | h2
      · rw [ih q' h2 (cutL q) (by omega)]
      · omega
theorem upR_step {f : Nat → Nat → List Nat} {s q : Nat} (h0 : 0 < q) : upR f s q q = f (s ||| 2 ^ ctz 64 q) (cutL q) ++ upR f s (cutL q) (cutL q) := by
  have hl := cutL_lt h0
  obtain ⟨q', hq'⟩ : ∃ q', q = q' + 1 := ⟨q - 1, by omega⟩
  conv => lhs; arg 3; rw [hq']
  rw [upR, if_neg (by omega), upR_fuel f s q' (cutL q) (by omega)]

/-- What comes behind the set itself. -/
def upT (left s q : Nat) : List Nat := if left = 0 then [] else upR (upL (left - 1)) s q q
theorem upL_eq (left s q : Nat) : upL left s q = s :: upT left s q := by
  cases left with
  | zero => rfl
  | succ l => simp [upL, upT]
theorem upT_step {left s q : Nat} (hl : 0 < left) (h0 : 0 < q) : upT left s q = upL (left - 1) (s ||| 2 ^ ctz 64 q) (cutL q) ++ upT left s (cutL q) := by
  unfold upT
  rw [if_neg (by omega), if_neg (by omega)]
  exact upR_step h0
theorem upT_end {left s q : Nat} (h : left = 0 ∨ q = 0) : upT left s q = [] := by
  unfold upT
  rcases h with h | rfl
  · rw [if_pos h]
  · split
    · rfl
    · rfl
/-- How a call that yields ends, by whatever the loop keeps. -/
def YEndK (Kp : World → World → Prop) (J Jx : List Nat → World → Prop) (pre xs : List Nat) (W : World) (b : Bool) (W' : World) : Prop :=
  (b = true ∧ J (pre ++ xs) W' ∧ Kp W W') ∨ (b = false ∧ ∃ q, q <+: xs ∧ Jx (pre ++ q) W')
set_option maxHeartbeats 2000000 in
set_option maxRecDepth 100000 in
theorem up_any (l : Nat) (Kp : World → World → Prop) (hKt : ∀ {A B C : World}, Kp A B → Kp B C → Kp A C) (G : World → Prop) (hKG : ∀ W W', Kp W W' → G W → G W') (xs : List Nat) (J Jx : List Nat → World → Prop)
    (hY : ∀ m pre x W, pre ++ [x] <+: xs → J pre W → YieldAt Fence.wide m Tryd.prog l #[.int .u64 (x : Nat)] W fun e W' =>
      (e = .returned (.bool true) ∧ J (pre ++ [x]) W' ∧ Kp W W') ∨ (e = .returned (.bool false) ∧ Jx (pre ++ [x]) W'))
    (B3 B4 : Nat) (hGc : ∀ W, G W → W.cell? ⟨B3, 0, none⟩ = some (.func (.yield l) #[] #[]) ∧
      W.cell? ⟨B4, 0, none⟩ = some (.func (.func 36) #[] #[.pointer (some ⟨B3, 0, none⟩), .pointer (some ⟨B4, 0, none⟩)])) (left : Nat) :
    ∀ (s rest : Nat) (pre : List Nat) (W : World), s < 2 ^ 63 → rest < 2 ^ 63 → left ≤ 16 → pre ++ upL left s rest <+: xs → J pre W → G W →
      Calls Tryd.prog 36 #[.int .u64 s, .int .u64 rest, .int .i64 left, .pointer (some ⟨B3, 0, none⟩), .pointer (some ⟨B4, 0, none⟩)] W fun e W' =>
        ∃ b : Bool, e = .returned (.bool b) ∧ YEndK Kp J Jx pre (upL left s rest) W b W' := by
  induction left using Nat.strongRecOn with
  | _ left ih =>
    intro s rest pre W hs hr hl16 hX hJ hGW
    obtain ⟨c3, c4⟩ := hGc W hGW
    obtain ⟨fn, tmps, assign, body, hy, hR⟩ := hY 2 pre s W (by rw [upL_eq] at hX; exact List.IsPrefix.trans ⟨upT left s rest, by simp⟩ hX) hJ
    have HX := hid hX
    have HY := hid hY
    have IH := hid ih
    clear hX hY ih
    refine (callsIn_wide (n := 3)).1 ?_
    refine callsIn_of_wp Tryd.func36 rfl trivial ?_ rfl
    simp only [Tryd.ntmps36, List.size_toArray, List.length_cons, List.length_nil, Nat.reduceAdd, Nat.reduceSub, Array.replicate_succ, Array.replicate_zero, List.push_toArray, List.append_toArray, List.nil_append, List.cons_append]
    gi_wp2
    refine hR.mono ?_
    clear hR hy
    rintro e W' (⟨rfl, hJ', hk⟩ | ⟨rfl, hJx'⟩)
    · have HJ := hid hJ'
      have HK := hid hk
      clear hJ' hk
      gi_wp2
      gi_loopw [1] (fun rv wr => ∃ q : Nat, q < 2 ^ 63 ∧ rv = .int .u64 q ∧ Hid (∃ done, s :: done ++ upT left s q = upL left s rest ∧ J (pre ++ s :: done) wr) ∧ Hid (Kp W wr)) (fun rv _ => (intOf rv).toNat)
      case atStart => exact ⟨rest, hr, rfl, ⟨[], by rw [upL_eq]; rfl, HJ.out⟩, HK⟩
      case round =>
        obtain ⟨q, hq, rfl, HD, HK2⟩ := hrel
        clear HJ HK
        by_cases hc : 0 < left ∧ 0 < q
        · obtain ⟨hl0, hq0⟩ := hc
          obtain ⟨done, hd, hJd⟩ := HD.out
          have hGr := hKG _ _ HK2.out hGW
          obtain ⟨c3', c4'⟩ := hGc wr hGr
          obtain ⟨x1, x2, x3⟩ := cutL_parts hq0 (show q < 2 ^ 64 by omega)
          have hst := upT_step (s := s) hl0 hq0
          obtain ⟨l1, hl1⟩ : ∃ l1, l1 = left - 1 := ⟨_, rfl⟩
          obtain ⟨p2, hp2⟩ : ∃ p2, p2 = 2 ^ ctz 64 q := ⟨_, rfl⟩
          obtain ⟨q2, hq2⟩ : ∃ q2, q2 = cutL q := ⟨_, rfl⟩
          obtain ⟨s2, hs2⟩ : ∃ s2, s2 = s ||| p2 := ⟨_, rfl⟩
          have hlow := low_bit hq0 (show q < 2 ^ 64 by omega)
          have hcl := cutL_lt hq0
          rw [← hp2] at x1 x2 hst hlow
          rw [← hq2] at x1 hst hcl
          rw [← hs2, ← hl1] at hst
          have hs63 : s2 < 2 ^ 63 := by rw [hs2]; exact Nat.or_lt_two_pow hs (by omega)
          have e0 : IntKind.u64.wrap (-(q : Int)) = ((2 ^ 64 - q : Nat) : Int) := by simp [IntKind.wrap, IntKind.bits, IntKind.signed]; omega
          have e1 : bits .and .u64 (q : Int) (IntKind.u64.wrap (-(q : Int))) = (p2 : Int) := by rw [e0, uand (by omega) (by omega), hlow]
          have e2 : bits .xor .u64 (q : Int) (p2 : Int) = (q2 : Int) := by rw [u64_xor_nat _ _ (by omega) (by omega), x1]
          have e3 : bits .or .u64 (s : Int) (p2 : Int) = (s2 : Int) := by rw [uor (by omega) (by omega), ← hs2]
          have e4 : IntKind.i64.wrap ((left : Int) - 1) = (l1 : Int) := by rw [IntKind.wrap_i64]; omega
          have hg1 : decide ((left : Int) > 0) = true := decide_eq_true (by omega)
          have hg2 : ((q : Int) != 0) = true := by simp; omega
          have CALL := hid (IH.out l1 (by omega) s2 q2 (pre ++ s :: done) wr hs63 (by omega) (by omega) (List.IsPrefix.trans ⟨upT left s q2, by rw [List.append_assoc, List.append_assoc, ← hst, hd]⟩ HX.out) hJd hGr)
          have HST := hid hst
          have HDD := hid hd
          have HL := hid hcl
          clear hst hd hJd HD x1 x2 x3 hlow e0 hs2 hp2 hq2 hl1 hcl
          gi_wp2_with (
            refine ⟨trivial, ?_⟩
            gi_at_call 36
            refine (callsIn_wide.2 CALL.out).mono ?_
            rintro e w2 ⟨b, rfl, ⟨rfl, hJ2, hk2⟩ | ⟨rfl, hpx⟩⟩)
          · exact ⟨⟨q2, by have := HL.out; omega, rfl, ⟨done ++ upL l1 s2 q2, by rw [← List.cons_append, List.append_assoc, ← HST.out, HDD.out], by have := hJ2; simpa using this⟩, hKt HK2.out hk2⟩, by have := HL.out; simp [intOf]; omega⟩
          · obtain ⟨pf, hpf, hx⟩ := hpx
            have HPF := hid hpf
            have HJX := hid hx
            clear hpf hx
            go_ret
            refine ⟨false, rfl, .inr ⟨rfl, s :: done ++ pf, ?_, by have := HJX.out; simpa using this⟩⟩
            obtain ⟨r, hr'⟩ := HPF.out
            exact ⟨r ++ upT left s q2, by rw [← HDD.out, HST.out, ← hr']; simp⟩
        · obtain ⟨done, hd, hJd⟩ := HD.out
          have hT : upT left s q = [] := upT_end (by omega)
          rw [hT, List.append_nil] at hd
          have HJ := hid (show J (pre ++ upL left s rest) wr from by rw [← hd]; exact hJd)
          clear hd hJd HD hT
          rcases Nat.eq_zero_or_pos left with h0 | h0
          · subst h0
            clear hc
            gi_wp2
            go_ret
            exact ⟨true, rfl, .inl ⟨rfl, HJ.out, HK2.out⟩⟩
          · have hq0 : (q : Int) = 0 := by omega
            have hg1 : decide ((left : Int) > 0) = true := decide_eq_true (by omega)
            have hgn : decide (0 < left) = true := decide_eq_true (by omega)
            rw [hq0]
            clear hc hq0
            gi_wp2
            go_ret
            exact ⟨true, rfl, .inl ⟨rfl, HJ.out, HK2.out⟩⟩
    · gi_wp2
      go_ret
      refine ⟨false, rfl, .inr ⟨rfl, [s], by rw [upL_eq]; exact ⟨upT left s rest, rfl⟩, hJx'⟩⟩
set_option maxHeartbeats 1000000 in
set_option maxRecDepth 100000 in
/-- **'range upto(items, d)': for every loop body that keeps the iterator's own cells.** -/
theorem upto_iter (d items B B1 B2 : Nat) (hd : d ≤ 16) (hi : items < 2 ^ 63) (w : World) (hB : B ≤ w.heap.size) (h1 : B ≤ B1) (h2 : B ≤ B2)
    (c1 : w.cell? ⟨B1, 0, none⟩ = some (.int .u64 items)) (c2 : w.cell? ⟨B2, 0, none⟩ = some (.int .i64 d)) :
    Iter Tryd.prog 35 (fun y => #[] ++ #[y] ++ #[.pointer (some ⟨B1, 0, none⟩), .pointer (some ⟨B2, 0, none⟩)]) (fun x : Nat => #[.int .u64 ((x : Nat) : Int)]) (KC B) (upL d 0 items) w := by
  intro l J Jx W hW hJ hJx hY h0
  have hb1 : B1 < w.heap.size := World.block_lt_of_cell? w _ c1
  have hb2 : B2 < w.heap.size := World.block_lt_of_cell? w _ c2
  have c1' := (hW.cell (p := ⟨B1, 0, none⟩) hb1).trans c1
  have c2' := (hW.cell (p := ⟨B2, 0, none⟩) hb2).trans c2
  have hsz := hW.size
  have hg : ∀ s W1 W2, J s W1 → W1.grownBy W2 none → J s W2 := fun s W1 W2 hs hg => hJ s W1 W2 none hs hg (by rintro r ⟨⟩)
  have hdn := fun B3 B4 (h3 : B ≤ B3) (h4 : B ≤ B4) => up_any l (KC B) KC.trans (fun W => W.cell? ⟨B3, 0, none⟩ = some (.func (.yield l) #[] #[]) ∧
      W.cell? ⟨B4, 0, none⟩ = some (.func (.func 36) #[] #[.pointer (some ⟨B3, 0, none⟩), .pointer (some ⟨B4, 0, none⟩)])) (fun W W' hk hg => ⟨hk.cell h3 hg.1, hk.cell h4 hg.2⟩) (upL d 0 items) J Jx hY B3 B4 (fun _ h => h)
  have l2 : B2 < W.heap.size := by omega
  have l1 : B1 < W.heap.size := by omega
  have l2' : B2 < W.heap.size + 1 := by omega
  have l1' : B1 < W.heap.size + 1 := by omega
  have n2 : ¬ B2 = W.heap.size + 1 := by omega
  have n1 : ¬ B1 = W.heap.size + 1 := by omega
  have n2' : ¬ W.heap.size + 1 = B2 := by omega
  have n1' : ¬ W.heap.size + 1 = B1 := by omega
  have HD := hid (hdn W.heap.size (W.heap.size + 1) (by omega) (by omega) d 0 items [])
  have HG := hid hg
  have HI := hid hi
  clear hdn hg hY hJ hJx hi
  go_enter Tryd.func35, Tryd.ntmps35
  have HJ0 := hid (show ∀ W', Below W.heap.size W W' → J [] W' from fun W' hb => HG.out _ _ _ h0 (grown_of_below hb none))
  go_wp2_with (go_at_call 36; go_must (refine (HD.out _ (by decide) HI.out hd (by simp) (HJ0.out _ (by exact below_alloc (below_alloc (Below.refl _ _) _) _)) ⟨by simp [go_sem], by simp [go_sem]⟩).mono ?_; rintro e w' ⟨b, rfl, hp⟩))
  go_end0
  refine ⟨⟨_, rfl⟩, ?_⟩
  rcases hp with ⟨rfl, hj, _⟩ | ⟨rfl, q, hq, hj⟩
  · exact .inl (by simpa using hj)
  · exact .inr ⟨q, hq, by simpa using hj⟩
end Go.Proofs.YtmfmlfaglemgfaaDoor
