/- disjunct.Slack's iterator, walked. -/
import Derived.Test.YtmfmlfaglemgfaaDoorMk
import Derived.Test.YtmfmlfaglemgfaaDoorUq
import Derived.Test.YtmfmlfaglemgfaaDoorPo
import Derived.Test.YtmfmlfaglemgfaaDoorRx
import Derived.Laws.BitsAllLaws
namespace Go.Proofs.YtmfmlfaglemgfaaDoor
set_option linter.unusedSimpArgs false
set_option linter.unusedVariables false
open Go.RowKit Go.Lib Go.Shelf Go.Proofs.YtmfmlfaglemgfaaDoorW.PrintWords
attribute [local go_sem] Oper.semAt_some

/-- What of a has no bit of b. -/
def aN (a b : Nat) : Nat := a &&& (18446744073709551615 - b)
theorem aN_form {a b : Nat} (ha : a < 2 ^ 64) (hb : b < 2 ^ 64) : bits .andNot .u64 (a : Int) (b : Int) = ((aN a b : Nat) : Int) := u64_andNot_nat a b (by omega) (by omega)
theorem aN_lt {a b m : Nat} (ha : a < m) : aN a b < m := Nat.lt_of_le_of_lt Nat.and_le_left ha
theorem upR_lt {m : Nat} {f : Nat → Nat → List Nat} (hf : ∀ s q, s < 2 ^ m → q < 2 ^ m → ∀ x ∈ f s q, x < 2 ^ m) (s : Nat) (hs : s < 2 ^ m) (hm : m ≤ 64) : ∀ (k q : Nat), q < 2 ^ m → ∀ x ∈ upR f s k q, x < 2 ^ m := by
  intro k
  induction k with
  | zero => intro q hq x hx; simp [upR] at hx
  | succ k ih =>
    intro q hq x hx
    rw [upR] at hx
    split at hx
    · cases hx
    · rename_i h0
      have h64 : q < 2 ^ 64 := Nat.lt_of_lt_of_le hq (Nat.pow_le_pow_right (by decide) hm)
      obtain ⟨_, h2, _⟩ := cutL_parts (Nat.pos_of_ne_zero h0) h64
      have hl := cutL_lt (Nat.pos_of_ne_zero h0)
      rcases List.mem_append.1 hx with hx | hx
      · exact hf _ _ (Nat.or_lt_two_pow hs (by omega)) (by omega) x hx
      · exact ih _ (by omega) x hx
theorem upL_lt {m : Nat} (hm : m ≤ 64) : ∀ (l s q : Nat), s < 2 ^ m → q < 2 ^ m → ∀ x ∈ upL l s q, x < 2 ^ m := by
  intro l
  induction l with
  | zero => intro s q hs hq x hx; simp [upL] at hx; omega
  | succ l ih =>
    intro s q hs hq x hx
    rw [upL] at hx
    rcases List.mem_cons.1 hx with rfl | hx
    · exact hs
    · exact upR_lt ih s hs hm _ _ hq x hx
/-- In how many tests item i is, and no item of s. -/
def slk (bs : List Nat) (i s : Nat) : Int := ((cnt (aN (posN bs (2 ^ i) bs.length) (posN bs s bs.length)) 64 : Nat) : Int)
def slackI (V d : Nat) (bs : List Nat) (i : Nat) : List Int := (upL d 0 (aN (2 ^ V - 1) (2 ^ i))).map (slk bs i)
def slackL (V d : Nat) (bs : List Nat) : Nat → List Int
  | 0 => []
  | k + 1 => slackL V d bs k ++ slackI V d bs k
theorem slackL_pre (V d : Nat) (bs : List Nat) {k : Nat} : ∀ {m : Nat}, k ≤ m → slackL V d bs k <+: slackL V d bs m := by
  intro m hm
  induction m with
  | zero => rw [Nat.le_zero.1 hm]; exact List.prefix_refl _
  | succ m ih =>
    rcases Nat.lt_or_ge k (m + 1) with h | h
    · exact (ih (by omega)).trans ⟨_, rfl⟩
    · rw [show k = m + 1 by omega]; exact List.prefix_refl _
theorem putAll_jx {B : Nat} {J : List Int → World → Prop} {p : List Int} : ∀ (ds : List Nat) (W : World), Marked (B + 1) ds W → OwnFrom B J → J p W → J p (putAll W ds)
  | [], W, _, _, h => h
  | D :: ds, W, hm, hJ, h => putAll_jx ds _ hm.put hJ (hJ p W _ (some D) h (grownBy_putObj' W D _) (fun r e => by cases e; exact ⟨by have := (hm.2 D (by simp)).1; omega, _, (hm.2 D (by simp)).2, rfl⟩))
set_option maxHeartbeats 4000000 in
set_option maxRecDepth 100000 in
theorem slack_iter (V d n c : Nat) (A : Option Addr) (E : Int) (bs : List Nat) (hV : V ≤ 16) (hd : d ≤ 16) (hn : n ≤ 15) (Bp B0 : Nat) (w0 w : World) (hz0 : w0.heap.size = B0) (hB : BlC w0 A n bs)
    (hp : Blk w0 Bp 30 #[.int .i64 V, .slice A n c, .int .i64 d, .int .i64 E]) (hb0 : Below B0 w0 w) :
    Iter2 Tryd.prog 22 (fun y => #[] ++ #[y] ++ #[.pointer (some ⟨Bp, 0, none⟩)]) (fun x : Int => #[.int .i64 x]) (KZ B0 (w.heap.size + 2)) (KZ B0 (w.heap.size + 2)) (slackL V d bs V) w := by
  intro l J Jx W hW hsz hJ hJx hY h0
  have hu := Tryd.underlying30
  have hLow : Low B0 w0 W := Low.of_below hz0 (below_then hb0 (by have := hb0.size; omega) hW)
  have hpW := hLow.blk hz0 hp
  have p0 : W.cell? ⟨Bp, 0, none⟩ = some (.int .i64 V) := (hpW.cell 0).trans rfl
  have hlp : Bp < W.heap.size := hpW.lt
  have hg : ∀ s W1 W2, J s W1 → W1.grownBy W2 none → J s W2 := fun s W1 W2 hs hg => hJ s W1 W2 none hs hg (by rintro r ⟨⟩)
  have HG := hid hg
  have HY := hid hY
  have HJ := hid hJ
  have HJx := hid hJx
  have HB := hid hB
  have HP := hid hp
  clear hY hJ hJx hg hB hp hpW
  refine calls_marks 8 Tryd.func22 rfl ?_
  simp only [Tryd.ntmps22, List.size_toArray, List.length_cons, List.length_nil, Nat.reduceAdd, Nat.reduceSub, Array.replicate_succ, Array.replicate_zero, List.push_toArray, List.append_toArray, List.nil_append, List.cons_append]
  go_wp2
  obtain ⟨W2, hW2⟩ : ∃ W2, W.alloc (.cells #[.func (.yield l) #[] #[]] 57) = W2 := ⟨_, rfl⟩
  rw [hW2]
  have hz2 : W2.heap.size = W.heap.size + 1 := by rw [← hW2]; simp
  have hb2 : Below W.heap.size W W2 := by rw [← hW2]; exact below_alloc (Below.refl _ _) _
  have hc2 : W2.cell? ⟨W.heap.size, 0, none⟩ = some (.func (.yield l) #[] #[]) := by rw [← hW2]; simp [go_sem]
  have hJ2 := HG.out _ _ _ h0 (grown_of_below hb2 none)
  have hL2 : Low B0 w0 W2 := hLow.kz (KZ.of_below (B1 := 0) hb2)
  clear hW2 h0 p0
  refine wp_loop (fun a wr => ∃ (u3 u4 u8 u9 u10 u11 u12 u13 u14 u15 u16 u17 u18 u19 u20 u21 u22 u23 u24 u25 u26 u27 u28 u29 u30 u31 : Value) (k : Nat) (ds : List Nat),
    a = { tmps := #[.func (.yield l) #[] #[], .pointer (some ⟨Bp, 0, none⟩), .pointer (some ⟨W.heap.size, 0, none⟩), u3, u4, .pointer (some ⟨Bp, 0, none⟩), .int .i64 V, .int .i64 k, u8, u9, u10, u11, u12, u13, u14, u15, u16, u17, u18, u19, u20, u21, u22, u23, u24, u25, u26, u27, u28, u29, u30, u31], defers := marks ds } ∧
    k ≤ V ∧ Marked (W.heap.size + 1) ds wr ∧ J (slackL V d bs k) wr ∧ Low B0 w0 wr ∧ wr.cell? ⟨W.heap.size, 0, none⟩ = some (.func (.yield l) #[] #[]) ∧ W.heap.size + 1 ≤ wr.heap.size) (fun a _ => V - (intOf (a.tmps.getD 7 undef)).toNat) ?_ ?_
  · exact ⟨_, _, _, _, _, _, _, _, _, _, _, _, _, _, _, _, _, _, _, _, _, _, _, _, _, _, 0, [], rfl, by omega, Marked.nil _ _, hJ2, hL2, hc2, by omega⟩
  rintro _ wr ⟨u3, u4, u8, u9, u10, u11, u12, u13, u14, u15, u16, u17, u18, u19, u20, u21, u22, u23, u24, u25, u26, u27, u28, u29, u30, u31, k, ds, rfl, hk, hm, hj, hlo, hcy, hszr⟩
  clear hz2 hb2 hc2 hJ2 hL2 hLow
  by_cases hlt : k < V
  · have hpr := hlo.blk hz0 HP.out
    have p0 : wr.cell? ⟨Bp, 0, none⟩ = some (.int .i64 V) := (hpr.cell 0).trans rfl
    have p2 : wr.cell? ⟨Bp, 2, none⟩ = some (.int .i64 d) := (hpr.cell 2).trans rfl
    have hlp2 : Bp < wr.heap.size := hpr.lt
    have hV63 : 2 ^ V - 1 < 2 ^ 63 := by have := Nat.pow_lt_pow_right (show 1 < 2 by decide) (show V < 63 by omega); omega
    have h2k : 2 ^ k < 2 ^ 64 := Nat.pow_lt_pow_right (by decide) (by omega)
    obtain ⟨fv, hfv⟩ : ∃ fv, 2 ^ V - 1 = fv := ⟨_, rfl⟩
    obtain ⟨pk, hpk⟩ : ∃ pk, 2 ^ k = pk := ⟨_, rfl⟩
    obtain ⟨it, hit⟩ : ∃ it, aN fv pk = it := ⟨_, rfl⟩
    have e1 : IntKind.u64.wrap (2 ^ k) = (pk : Int) := by rw [← hpk, show ((2 : Int) ^ k) = ((2 ^ k : Nat) : Int) from by simp, wrapU_nat h2k]
    have e2 : bits .andNot .u64 (fv : Int) (pk : Int) = (it : Int) := by rw [aN_form (by omega) (by omega), hit]
    have hit63 : it < 2 ^ 63 := by rw [← hit]; exact aN_lt (by omega)
    have ALL := hid (fun W => all_any V (by omega) W)
    rw [hfv] at ALL hV63
    have UPT := hid (fun W => upto_any it d W)
    go_wp2
    obtain ⟨w3, hw3⟩ : ∃ w3, wr.alloc (.cells #[.int .i64 k] 3) = w3 := ⟨_, rfl⟩
    have hz3 : w3.heap.size = wr.heap.size + 1 := by rw [← hw3]; simp
    have hb3 : Below wr.heap.size wr w3 := by rw [← hw3]; exact below_alloc (Below.refl _ _) _
    have pi3 : w3.cell? ⟨wr.heap.size, 0, none⟩ = some (.int .i64 k) := by rw [← hw3]; simp [go_sem]
    have p03 : w3.cell? ⟨Bp, 0, none⟩ = some (.int .i64 V) := (hb3.cell (p := ⟨Bp, 0, none⟩) hlp2).trans p0
    have p23 : w3.cell? ⟨Bp, 2, none⟩ = some (.int .i64 d) := (hb3.cell (p := ⟨Bp, 2, none⟩) hlp2).trans p2
    rw [hw3]
    clear hw3
    refine (wpIn_wide (n := 8)).1 ?_
    obtain ⟨vv, hvv⟩ : ∃ vv : Nat → Value, vv = fun i => (#[.pointer (some ⟨Bp, 0, none⟩), .int .i64 V, .int .u64 fv, .int .i64 k, .int .u64 pk, .int .u64 it, .pointer (some ⟨Bp, 2, none⟩), .int .i64 d, .func (.func 35) #[] #[.pointer (some ⟨w3.heap.size, 0, none⟩), .pointer (some ⟨w3.heap.size + 1, 0, none⟩)]] : Array Value).getD i undef := ⟨_, rfl⟩
    have mk : ∀ (L : Nat → Bool) (a' : Act) (w' : World), a' = ({ tmps := #[.func (.yield l) #[] #[], .pointer (some ⟨Bp, 0, none⟩), .pointer (some ⟨W.heap.size, 0, none⟩), .pointer (some ⟨wr.heap.size, 0, none⟩), u4, .pointer (some ⟨Bp, 0, none⟩), .int .i64 V, .int .i64 k, .bool true, .int .i64 k, a'.tmps.getD (10 + 0) undef, a'.tmps.getD (10 + 1) undef, a'.tmps.getD (10 + 2) undef, a'.tmps.getD (10 + 3) undef, a'.tmps.getD (10 + 4) undef, a'.tmps.getD (10 + 5) undef, a'.tmps.getD (10 + 6) undef, a'.tmps.getD (10 + 7) undef, a'.tmps.getD (10 + 8) undef, u19, u20, u21, u22, u23, u24, u25, u26, u27, u28, u29, u30, u31], defers := marks ds } : Act) → (∀ j < 9, L j = true → a'.tmps.getD (10 + j) undef = vv j) → (fun (L : Nat → Bool) (w : World) => Below w3.heap.size w3 w ∧ (L 8 = true → w.cell? ⟨w3.heap.size, 0, none⟩ = some (.int .u64 it) ∧ w.cell? ⟨w3.heap.size + 1, 0, none⟩ = some (.int .i64 d) ∧ w.heap.size = w3.heap.size + 2) ∧ (L 8 = false → w.heap.size = w3.heap.size)) L w' → ∃ y : Nat → Value, a' = ({ tmps := #[.func (.yield l) #[] #[], .pointer (some ⟨Bp, 0, none⟩), .pointer (some ⟨W.heap.size, 0, none⟩), .pointer (some ⟨wr.heap.size, 0, none⟩), u4, .pointer (some ⟨Bp, 0, none⟩), .int .i64 V, .int .i64 k, .bool true, .int .i64 k, y 0, y 1, y 2, y 3, y 4, y 5, y 6, y 7, y 8, u19, u20, u21, u22, u23, u24, u25, u26, u27, u28, u29, u30, u31], defers := marks ds } : Act) ∧ (∀ j < 9, L j = true → y j = vv j) ∧ (fun (L : Nat → Bool) (w : World) => Below w3.heap.size w3 w ∧ (L 8 = true → w.cell? ⟨w3.heap.size, 0, none⟩ = some (.int .u64 it) ∧ w.cell? ⟨w3.heap.size + 1, 0, none⟩ = some (.int .i64 d) ∧ w.heap.size = w3.heap.size + 2) ∧ (L 8 = false → w.heap.size = w3.heap.size)) L w' := fun L a' w' h1 h2 h3 => ⟨fun m => a'.tmps.getD (10 + m) undef, h1, h2, h3⟩
    refine wpIn_region_inv (by kernel_rfl) (fun L a w => ∃ y : Nat → Value, a = ({ tmps := #[.func (.yield l) #[] #[], .pointer (some ⟨Bp, 0, none⟩), .pointer (some ⟨W.heap.size, 0, none⟩), .pointer (some ⟨wr.heap.size, 0, none⟩), u4, .pointer (some ⟨Bp, 0, none⟩), .int .i64 V, .int .i64 k, .bool true, .int .i64 k, y 0, y 1, y 2, y 3, y 4, y 5, y 6, y 7, y 8, u19, u20, u21, u22, u23, u24, u25, u26, u27, u28, u29, u30, u31], defers := marks ds } : Act) ∧ (∀ j < 9, L j = true → y j = vv j) ∧ (fun (L : Nat → Bool) (w : World) => Below w3.heap.size w3 w ∧ (L 8 = true → w.cell? ⟨w3.heap.size, 0, none⟩ = some (.int .u64 it) ∧ w.cell? ⟨w3.heap.size + 1, 0, none⟩ = some (.int .i64 d) ∧ w.heap.size = w3.heap.size + 2) ∧ (L 8 = false → w.heap.size = w3.heap.size)) L w) ?acyc ?start ?step ?rdone
    case acyc => exact fun i o ho => acyc_of (by kernel_rfl) i o ho
    case start => exact mk (fun _ => false) _ _ rfl (fun _ _ h => by cases h) (by exact ⟨below_drew (Below.refl _ _), (fun h => nomatch h), fun _ => by simp⟩)
    case step =>
      rintro i o L a wx ho hLi hdep ⟨y, rfl, hy, hWI⟩ K hK
      have hi : i < 9 := (Array.getElem?_eq_some_iff.1 ho).1
      rcases i with _ | _ | _ | _ | _ | _ | _ | _ | _ | i
      · obtain rfl := Option.some.inj ho
        clear hdep ho
        have q0 := (hWI.1.cell (p := ⟨Bp, 0, none⟩) (show Bp < _ by omega)).trans p03
        have q2 := (hWI.1.cell (p := ⟨Bp, 2, none⟩) (show Bp < _ by omega)).trans p23
        have qi := (hWI.1.cell (p := ⟨wr.heap.size, 0, none⟩) (show wr.heap.size < _ by omega)).trans pi3
        go_simp
        refine hK _ _ (mk _ _ _ rfl ?_ ?_)
        rotate_left
        · exact ⟨hWI.1, fun h => hWI.2.1 (by simpa [put1] using h), fun h => hWI.2.2 (by simpa [put1] using h)⟩
        · intro j hj h
          rcases j with _ | _ | _ | _ | _ | _ | _ | _ | _ | j
          all_goals first | (rw [hvv]; rfl) | exact hy _ (by omega) (by simpa [put1] using h) | (exfalso; omega)
      · obtain rfl := Option.some.inj ho
        have d0 : L 0 = true := hdep ⟨0, .data⟩ (by simp) rfl
        have e0 : y 0 = .pointer (some ⟨Bp, 0, none⟩) := (hy 0 (by omega) d0).trans (by rw [hvv]; rfl)
        clear hdep ho
        rw [e0]
        have q0 := (hWI.1.cell (p := ⟨Bp, 0, none⟩) (show Bp < _ by omega)).trans p03
        have q2 := (hWI.1.cell (p := ⟨Bp, 2, none⟩) (show Bp < _ by omega)).trans p23
        have qi := (hWI.1.cell (p := ⟨wr.heap.size, 0, none⟩) (show wr.heap.size < _ by omega)).trans pi3
        go_simp
        refine hK _ _ (mk _ _ _ rfl ?_ ?_)
        rotate_left
        · exact ⟨hWI.1, fun h => hWI.2.1 (by simpa [put1] using h), fun h => hWI.2.2 (by simpa [put1] using h)⟩
        · intro j hj h
          rcases j with _ | _ | _ | _ | _ | _ | _ | _ | _ | j
          all_goals first | (rw [hvv]; rfl) | exact hy _ (by omega) (by simpa [put1] using h) | (exfalso; omega)
      · obtain rfl := Option.some.inj ho
        have d1 : L 1 = true := hdep ⟨1, .data⟩ (by simp) rfl
        have e1 : y 1 = .int .i64 V := (hy 1 (by omega) d1).trans (by rw [hvv]; rfl)
        clear hdep ho
        rw [e1]
        go_simp
        gi_wp2_with (refine ⟨trivial, ?_⟩; gi_at_call 24; refine (callsIn_wide.2 (ALL.out _)).mono ?_; rintro e w' ⟨rfl, rfl⟩)
        refine mk _ _ _ rfl ?_ ?_
        rotate_left
        · exact ⟨hWI.1, fun h => hWI.2.1 (by simpa [put1] using h), fun h => hWI.2.2 (by simpa [put1] using h)⟩
        · intro j hj h
          rcases j with _ | _ | _ | _ | _ | _ | _ | _ | _ | j
          all_goals first | (rw [hvv]; rfl) | exact hy _ (by omega) (by simpa [put1] using h) | (exfalso; omega)
      · obtain rfl := Option.some.inj ho
        clear hdep ho
        have q0 := (hWI.1.cell (p := ⟨Bp, 0, none⟩) (show Bp < _ by omega)).trans p03
        have q2 := (hWI.1.cell (p := ⟨Bp, 2, none⟩) (show Bp < _ by omega)).trans p23
        have qi := (hWI.1.cell (p := ⟨wr.heap.size, 0, none⟩) (show wr.heap.size < _ by omega)).trans pi3
        go_simp
        refine hK _ _ (mk _ _ _ rfl ?_ ?_)
        rotate_left
        · exact ⟨hWI.1, fun h => hWI.2.1 (by simpa [put1] using h), fun h => hWI.2.2 (by simpa [put1] using h)⟩
        · intro j hj h
          rcases j with _ | _ | _ | _ | _ | _ | _ | _ | _ | j
          all_goals first | (rw [hvv]; rfl) | exact hy _ (by omega) (by simpa [put1] using h) | (exfalso; omega)
      · obtain rfl := Option.some.inj ho
        have d3 : L 3 = true := hdep ⟨3, .data⟩ (by simp) rfl
        have e3 : y 3 = .int .i64 k := (hy 3 (by omega) d3).trans (by rw [hvv]; rfl)
        clear hdep ho
        rw [e3]
        have q0 := (hWI.1.cell (p := ⟨Bp, 0, none⟩) (show Bp < _ by omega)).trans p03
        have q2 := (hWI.1.cell (p := ⟨Bp, 2, none⟩) (show Bp < _ by omega)).trans p23
        have qi := (hWI.1.cell (p := ⟨wr.heap.size, 0, none⟩) (show wr.heap.size < _ by omega)).trans pi3
        go_simp
        refine hK _ _ (mk _ _ _ rfl ?_ ?_)
        rotate_left
        · exact ⟨hWI.1, fun h => hWI.2.1 (by simpa [put1] using h), fun h => hWI.2.2 (by simpa [put1] using h)⟩
        · intro j hj h
          rcases j with _ | _ | _ | _ | _ | _ | _ | _ | _ | j
          all_goals first | (rw [hvv]; rfl) | exact hy _ (by omega) (by simpa [put1] using h) | (exfalso; omega)
      · obtain rfl := Option.some.inj ho
        have d2 : L 2 = true := hdep ⟨2, .data⟩ (by simp) rfl
        have d4 : L 4 = true := hdep ⟨4, .data⟩ (by simp) rfl
        have e2 : y 2 = .int .u64 fv := (hy 2 (by omega) d2).trans (by rw [hvv]; rfl)
        have e4 : y 4 = .int .u64 pk := (hy 4 (by omega) d4).trans (by rw [hvv]; rfl)
        clear hdep ho
        rw [e2, e4]
        have q0 := (hWI.1.cell (p := ⟨Bp, 0, none⟩) (show Bp < _ by omega)).trans p03
        have q2 := (hWI.1.cell (p := ⟨Bp, 2, none⟩) (show Bp < _ by omega)).trans p23
        have qi := (hWI.1.cell (p := ⟨wr.heap.size, 0, none⟩) (show wr.heap.size < _ by omega)).trans pi3
        go_simp
        refine hK _ _ (mk _ _ _ rfl ?_ ?_)
        rotate_left
        · exact ⟨hWI.1, fun h => hWI.2.1 (by simpa [put1] using h), fun h => hWI.2.2 (by simpa [put1] using h)⟩
        · intro j hj h
          rcases j with _ | _ | _ | _ | _ | _ | _ | _ | _ | j
          all_goals first | (rw [hvv]; rfl) | exact hy _ (by omega) (by simpa [put1] using h) | (exfalso; omega)
      · obtain rfl := Option.some.inj ho
        clear hdep ho
        have q0 := (hWI.1.cell (p := ⟨Bp, 0, none⟩) (show Bp < _ by omega)).trans p03
        have q2 := (hWI.1.cell (p := ⟨Bp, 2, none⟩) (show Bp < _ by omega)).trans p23
        have qi := (hWI.1.cell (p := ⟨wr.heap.size, 0, none⟩) (show wr.heap.size < _ by omega)).trans pi3
        go_simp
        refine hK _ _ (mk _ _ _ rfl ?_ ?_)
        rotate_left
        · exact ⟨hWI.1, fun h => hWI.2.1 (by simpa [put1] using h), fun h => hWI.2.2 (by simpa [put1] using h)⟩
        · intro j hj h
          rcases j with _ | _ | _ | _ | _ | _ | _ | _ | _ | j
          all_goals first | (rw [hvv]; rfl) | exact hy _ (by omega) (by simpa [put1] using h) | (exfalso; omega)
      · obtain rfl := Option.some.inj ho
        have d6 : L 6 = true := hdep ⟨6, .data⟩ (by simp) rfl
        have e6 : y 6 = .pointer (some ⟨Bp, 2, none⟩) := (hy 6 (by omega) d6).trans (by rw [hvv]; rfl)
        clear hdep ho
        rw [e6]
        have q0 := (hWI.1.cell (p := ⟨Bp, 0, none⟩) (show Bp < _ by omega)).trans p03
        have q2 := (hWI.1.cell (p := ⟨Bp, 2, none⟩) (show Bp < _ by omega)).trans p23
        have qi := (hWI.1.cell (p := ⟨wr.heap.size, 0, none⟩) (show wr.heap.size < _ by omega)).trans pi3
        go_simp
        refine hK _ _ (mk _ _ _ rfl ?_ ?_)
        rotate_left
        · exact ⟨hWI.1, fun h => hWI.2.1 (by simpa [put1] using h), fun h => hWI.2.2 (by simpa [put1] using h)⟩
        · intro j hj h
          rcases j with _ | _ | _ | _ | _ | _ | _ | _ | _ | j
          all_goals first | (rw [hvv]; rfl) | exact hy _ (by omega) (by simpa [put1] using h) | (exfalso; omega)
      · obtain rfl := Option.some.inj ho
        have d5 : L 5 = true := hdep ⟨5, .data⟩ (by simp) rfl
        have d7 : L 7 = true := hdep ⟨7, .data⟩ (by simp) rfl
        have d2 : L 2 = true := hdep ⟨2, .chain⟩ (by simp) rfl
        have e5 : y 5 = .int .u64 it := (hy 5 (by omega) d5).trans (by rw [hvv]; rfl)
        have e7 : y 7 = .int .i64 d := (hy 7 (by omega) d7).trans (by rw [hvv]; rfl)
        clear hdep ho
        rw [e5, e7]
        have hsx := hWI.2.2 hLi
        go_simp
        gi_wp2_with (refine ⟨trivial, ?_⟩; gi_at_call 23; refine (callsIn_wide.2 (UPT.out _)).mono ?_; rintro e w4 ⟨rfl, hc1, hc2, hb4, hz4⟩)
        refine mk _ _ _ rfl ?_ ?_
        rotate_left
        · exact ⟨below_then hWI.1 hWI.1.size hb4, fun _ => ⟨by rw [← hsx]; exact hc1, by rw [← hsx]; exact hc2, hz4.trans (by rw [hsx])⟩, fun h => by simp [put1] at h⟩
        · intro j hj h
          rcases j with _ | _ | _ | _ | _ | _ | _ | _ | _ | j
          all_goals first | (rw [hvv]; rfl) | (rw [hvv, hz3]; rfl) | exact hy _ (by omega) (by simpa [put1] using h) | (exfalso; omega)
      · exfalso; omega
    case rdone =>
      rintro L a w4 hall ⟨y, rfl, hy, hWI⟩
      obtain ⟨hb4, hc4, _⟩ := hWI
      obtain ⟨hc41, hc42, hz4⟩ := hc4 (hall 8 (by decide))
      have e8 : y 8 = .func (.func 35) #[] #[.pointer (some ⟨w3.heap.size, 0, none⟩), .pointer (some ⟨w3.heap.size + 1, 0, none⟩)] := (hy 8 (by omega) (hall 8 (by decide))).trans (by rw [hvv]; rfl)
      rw [e8]
      generalize y 0 = y0
      generalize y 1 = y1
      generalize y 2 = y2
      generalize y 3 = y3
      generalize y 4 = y4
      generalize y 5 = y5
      generalize y 6 = y6
      generalize y 7 = y7
      clear mk hvv hy hc4 hall e8
      have hb34 : Below wr.heap.size wr w4 := below_then hb3 (by omega) hb4
      have hj4 := HG.out _ _ _ hj (grown_of_below hb34 none)
      have hlo4 : Low B0 w0 w4 := hlo.kz (KZ.of_below (B1 := 0) hb34)
      have hcy4 := (hb34.cell (p := ⟨W.heap.size, 0, none⟩) (show W.heap.size < _ by omega)).trans hcy
      have hci4 := (hb4.cell (p := ⟨wr.heap.size, 0, none⟩) (show wr.heap.size < _ by omega)).trans pi3
      have hm4 : Marked (W.heap.size + 1) ds w4 := (KZ.of_below (B0 := 0) (B1 := 0) hb34).marked (Nat.zero_le _) hm
      have hz42 : w4.heap.size = wr.heap.size + 3 := by omega
      have IT := hid (show slackL V d bs (k + 1) = slackL V d bs k ++ (upL d 0 it).map (slk bs k) from by rw [slackL, slackI, hfv, hpk, hit])
      have IT2 := hid (slackL_pre V d bs (show k + 1 ≤ V by omega))
      clear hb34 hb3 hj hlo hm hcy hpr p0 p2 p03 p23 pi3 hb4 e1 e2
      have hBp0 : Bp < B0 := by have := HP.out.lt; omega
      obtain ⟨B1, hB1⟩ : ∃ B1, w.heap.size + 2 = B1 := ⟨_, rfl⟩
      rw [hB1] at HY hsz
      have hpow15 : 2 ^ bs.length ≤ 2 ^ 15 := Nat.pow_le_pow_right (by decide) (by have := HB.out.1; omega)
      clear hu ALL UPT
      go_wp2
      refine wp_range2 (gf := 35) (first := #[]) (lb := #[.pointer (some ⟨w3.heap.size, 0, none⟩), .pointer (some ⟨w3.heap.size + 1, 0, none⟩)]) rfl (enters_of Tryd.func35 (by kernel_rfl) rfl)
        (upto_iter d it w3.heap.size w3.heap.size (w3.heap.size + 1) hd hit63 w4 (by omega) (Nat.le_refl _) (by omega) hc41 hc42).two KC.trans ?hKb (fun _ => rfl)
        (fun pre W' => J (slackL V d bs k ++ pre.map (slk bs k)) W' ∧ Low B0 w0 W' ∧ W'.cell? ⟨W.heap.size, 0, none⟩ = some (.func (.yield l) #[] #[]) ∧ W'.cell? ⟨wr.heap.size, 0, none⟩ = some (.int .i64 k) ∧ Marked (W.heap.size + 1) ds W')
        (fun c pre W' => (c = .ret ∧ ∃ p, p <+: slackL V d bs V ∧ Jx p W') ∧ Marked (W.heap.size + 1) ds W') (fun _ _ _ _ _ _ _ => trivial) ?hI ?hIx ?h0 ?a1 ?assign ?body ?done ?stop
      case assign => intro l x W K hK; gi_wp2; exact hK
      case hKb => exact fun W o o' hl ho => KC.put hl ho
      case hIx => exact fun c => OwnFrom.and (fun s A B row hs hg hr => ⟨hs.1, hs.2.imp fun p hp => ⟨hp.1, HJx.out p A B row hp.2 hg (fun r e => ⟨by have := (hr r e).1; omega, (hr r e).2⟩)⟩⟩) (Marked.ownFrom hm4.lt)
      case hI => exact OwnFrom.and (fun s A B row hs hg hr => HJ.out _ A B row hs hg (fun r e => ⟨by have := (hr r e).1; omega, (hr r e).2⟩)) (OwnFrom.and (Low.ownFrom (by have := hlo4.1; omega)) (OwnFrom.and (cell_ownFrom _ _ _) (OwnFrom.and (cell_ownFrom _ _ _) (Marked.ownFrom hm4.lt))))
      case h0 => exact ⟨by simpa using hj4, hlo4, hcy4, hci4, hm4⟩
      case body =>
        intro lp pre s W' hpre ⟨hj', hlo', hcy', hci', hm'⟩
        have hs63 : s < 2 ^ 63 := upL_lt (by decide) d 0 it (by decide) hit63 s (hpre.subset (by simp))
        have hpW' := hlo'.blk hz0 HP.out
        have r0 : W'.cell? ⟨Bp, 0, none⟩ = some (.int .i64 V) := (hpW'.cell 0).trans rfl
        have r1 : W'.cell? ⟨Bp, 1, none⟩ = some (.slice A n c) := (hpW'.cell 1).trans rfl
        have r2 : W'.cell? ⟨Bp, 2, none⟩ = some (.int .i64 d) := (hpW'.cell 2).trans rfl
        have r3 : W'.cell? ⟨Bp, 3, none⟩ = some (.int .i64 E) := (hpW'.cell 3).trans rfl
        obtain ⟨P, hP⟩ : ∃ P, slackL V d bs k ++ pre.map (slk bs k) = P := ⟨_, rfl⟩
        obtain ⟨pi, hpi⟩ : ∃ pi, posN bs (2 ^ k) bs.length = pi := ⟨_, rfl⟩
        obtain ⟨ps, hps⟩ : ∃ ps, posN bs s bs.length = ps := ⟨_, rfl⟩
        obtain ⟨pd, hpd⟩ : ∃ pd, aN pi ps = pd := ⟨_, rfl⟩
        obtain ⟨oc, hoc⟩ : ∃ oc : Int, ((cnt pd 64 : Nat) : Int) = oc := ⟨_, rfl⟩
        have hslk : slk bs k s = oc := by unfold slk; rw [hpi, hps, hpd, hoc]
        have HPRE := hid (show P ++ [oc] <+: slackL V d bs V from by
          obtain ⟨r, hr⟩ := hpre
          obtain ⟨r2, hr2⟩ := IT2.out
          refine ⟨r.map (slk bs k) ++ r2, ?_⟩
          rw [← hr2, IT.out, ← hr, ← hP, ← hslk]
          simp)
        have lpi : pi < 2 ^ 15 := by rw [← hpi]; exact Nat.lt_of_lt_of_le (posN_lt bs _ _) hpow15
        have lps : ps < 2 ^ 15 := by rw [← hps]; exact Nat.lt_of_lt_of_le (posN_lt bs _ _) hpow15
        have lpd : pd < 32768 := by rw [← hpd]; exact aN_lt lpi
        have eAN : bits .andNot .u64 (pi : Int) (ps : Int) = (pd : Int) := by rw [aN_form (by omega) (by omega), hpd]
        have HAS := hid (fun W2 (hw : Low B0 w0 W2) => has_any (V : Int) (d : Int) E A n c bs k (by omega) W2 (hw.nlc hz0 HB.out) (by omega))
        have POS := hid (fun W2 (hw : Low B0 w0 W2) => positive_any (V : Int) (d : Int) E A n c bs s (by omega) W2 (hw.nlc hz0 HB.out) (by omega))
        have ONE := hid (fun W2 => ones_any pd lpd W2)
        rw [hpi] at HAS
        rw [hps] at POS
        rw [hoc] at ONE
        rw [hP] at hj'
        have HGx := hid (fun s W1 W2 (hs : Jx s W1) (hg : W1.grownBy W2 none) => HJx.out s W1 W2 none hs hg (by rintro r ⟨⟩))
        have hu := Tryd.underlying30
        clear hpre hps hpi hpd hoc hpW' lpi lps lpd
        gi_wp2
        obtain ⟨vv, hvv⟩ : ∃ vv : Nat → Value, vv = fun i => (#[.func (.yield l) #[] #[], .agg #[.int .i64 V, .slice A n c, .int .i64 d, .int .i64 E], .int .i64 k, .int .u64 pi, .agg #[.int .i64 V, .slice A n c, .int .i64 d, .int .i64 E], .int .u64 s, .int .u64 ps, .int .u64 pd, .int .i64 oc] : Array Value).getD i undef := ⟨_, rfl⟩
        have mk : ∀ (L : Nat → Bool) (a' : Act) (w' : World), a' = ({ tmps := #[.func (.yield l) #[] #[], .pointer (some ⟨Bp, 0, none⟩), .pointer (some ⟨W.heap.size, 0, none⟩), .pointer (some ⟨wr.heap.size, 0, none⟩), .int .u64 s, .pointer (some ⟨Bp, 0, none⟩), .int .i64 V, .int .i64 k, .bool true, .int .i64 k, y0, y1, y2, y3, y4, y5, y6, y7, .func (.func 35) #[] #[.pointer (some ⟨wr.heap.size + 1, 0, none⟩), .pointer (some ⟨wr.heap.size + 1 + 1, 0, none⟩)], .int .u64 s, a'.tmps.getD (20 + 0) undef, a'.tmps.getD (20 + 1) undef, a'.tmps.getD (20 + 2) undef, a'.tmps.getD (20 + 3) undef, a'.tmps.getD (20 + 4) undef, a'.tmps.getD (20 + 5) undef, a'.tmps.getD (20 + 6) undef, a'.tmps.getD (20 + 7) undef, a'.tmps.getD (20 + 8) undef, a'.tmps.getD (20 + 9) undef, a'.tmps.getD (20 + 10) undef, u31], defers := [] } : Act) → (∀ j < 9, L j = true → a'.tmps.getD (20 + j) undef = vv j) → (fun (L : Nat → Bool) (w : World) (y : Nat → Value) => KZ B0 B1 W' w ∧ (L 9 = false → J P w) ∧ (L 9 = true → ∃ b : Bool, y 9 = .bool b ∧ (b = true → J (P ++ [oc]) w) ∧ (b = false → Jx (P ++ [oc]) w) ∧ (L 10 = true → y 10 = .bool (!b))) ∧ (L 10 = true → L 9 = true)) L w' (fun m => a'.tmps.getD (20 + m) undef) → ∃ y : Nat → Value, a' = ({ tmps := #[.func (.yield l) #[] #[], .pointer (some ⟨Bp, 0, none⟩), .pointer (some ⟨W.heap.size, 0, none⟩), .pointer (some ⟨wr.heap.size, 0, none⟩), .int .u64 s, .pointer (some ⟨Bp, 0, none⟩), .int .i64 V, .int .i64 k, .bool true, .int .i64 k, y0, y1, y2, y3, y4, y5, y6, y7, .func (.func 35) #[] #[.pointer (some ⟨wr.heap.size + 1, 0, none⟩), .pointer (some ⟨wr.heap.size + 1 + 1, 0, none⟩)], .int .u64 s, y 0, y 1, y 2, y 3, y 4, y 5, y 6, y 7, y 8, y 9, y 10, u31], defers := [] } : Act) ∧ (∀ j < 9, L j = true → y j = vv j) ∧ (fun (L : Nat → Bool) (w : World) (y : Nat → Value) => KZ B0 B1 W' w ∧ (L 9 = false → J P w) ∧ (L 9 = true → ∃ b : Bool, y 9 = .bool b ∧ (b = true → J (P ++ [oc]) w) ∧ (b = false → Jx (P ++ [oc]) w) ∧ (L 10 = true → y 10 = .bool (!b))) ∧ (L 10 = true → L 9 = true)) L w' y := fun L a' w' h1 h2 h3 => ⟨fun m => a'.tmps.getD (20 + m) undef, h1, h2, h3⟩
        refine wpIn_region_inv (by kernel_rfl) (fun L a w => ∃ y : Nat → Value, a = ({ tmps := #[.func (.yield l) #[] #[], .pointer (some ⟨Bp, 0, none⟩), .pointer (some ⟨W.heap.size, 0, none⟩), .pointer (some ⟨wr.heap.size, 0, none⟩), .int .u64 s, .pointer (some ⟨Bp, 0, none⟩), .int .i64 V, .int .i64 k, .bool true, .int .i64 k, y0, y1, y2, y3, y4, y5, y6, y7, .func (.func 35) #[] #[.pointer (some ⟨wr.heap.size + 1, 0, none⟩), .pointer (some ⟨wr.heap.size + 1 + 1, 0, none⟩)], .int .u64 s, y 0, y 1, y 2, y 3, y 4, y 5, y 6, y 7, y 8, y 9, y 10, u31], defers := [] } : Act) ∧ (∀ j < 9, L j = true → y j = vv j) ∧ (fun (L : Nat → Bool) (w : World) (y : Nat → Value) => KZ B0 B1 W' w ∧ (L 9 = false → J P w) ∧ (L 9 = true → ∃ b : Bool, y 9 = .bool b ∧ (b = true → J (P ++ [oc]) w) ∧ (b = false → Jx (P ++ [oc]) w) ∧ (L 10 = true → y 10 = .bool (!b))) ∧ (L 10 = true → L 9 = true)) L w y) ?acyc ?start ?step ?rdone
        case acyc => exact fun i o ho => acyc_of (by kernel_rfl) i o ho
        case start => exact mk (fun _ => false) _ _ rfl (fun _ _ h => by cases h) (by exact ⟨KZ.of_below (below_drew (Below.refl _ _)), fun _ => HG.out _ _ _ hj' (grown_drew _), (fun h => nomatch h), (fun h => nomatch h)⟩)
        case step =>
          rintro i o L a wx ho hLi hdep ⟨y, rfl, hy, hWI⟩ K hK
          have hi : i < 11 := (Array.getElem?_eq_some_iff.1 ho).1
          rcases i with _ | _ | _ | _ | _ | _ | _ | _ | _ | _ | _ | i
          · obtain rfl := Option.some.inj ho
            clear hdep ho
            have q0 := hWI.1.cell (p := ⟨Bp, 0, none⟩) (.inl hBp0) r0
            have q1 := hWI.1.cell (p := ⟨Bp, 1, none⟩) (.inl hBp0) r1
            have q2 := hWI.1.cell (p := ⟨Bp, 2, none⟩) (.inl hBp0) r2
            have q3 := hWI.1.cell (p := ⟨Bp, 3, none⟩) (.inl hBp0) r3
            have qi := hWI.1.cell (p := ⟨wr.heap.size, 0, none⟩) (.inr (show B1 ≤ wr.heap.size by omega)) hci'
            have qy := hWI.1.cell (p := ⟨W.heap.size, 0, none⟩) (.inr (show B1 ≤ W.heap.size by omega)) hcy'
            go_simp
            refine hK _ _ (mk _ _ _ rfl ?_ ?_)
            rotate_left
            · exact ⟨hWI.1, fun h => hWI.2.1 (by simpa [put1] using h), fun h => (hWI.2.2.1 (by simpa [put1] using h)).imp fun b hb => ⟨hb.1, hb.2.1, hb.2.2.1, fun h => hb.2.2.2 (by simpa [put1] using h)⟩, fun h => by have := hWI.2.2.2 (by simpa [put1] using h); simpa [put1] using this⟩
            · intro j hj h
              rcases j with _ | _ | _ | _ | _ | _ | _ | _ | _ | j
              all_goals first | (rw [hvv]; rfl) | exact hy _ (by omega) (by simpa [put1] using h) | (exfalso; omega)
          · obtain rfl := Option.some.inj ho
            clear hdep ho
            have q0 := hWI.1.cell (p := ⟨Bp, 0, none⟩) (.inl hBp0) r0
            have q1 := hWI.1.cell (p := ⟨Bp, 1, none⟩) (.inl hBp0) r1
            have q2 := hWI.1.cell (p := ⟨Bp, 2, none⟩) (.inl hBp0) r2
            have q3 := hWI.1.cell (p := ⟨Bp, 3, none⟩) (.inl hBp0) r3
            have qi := hWI.1.cell (p := ⟨wr.heap.size, 0, none⟩) (.inr (show B1 ≤ wr.heap.size by omega)) hci'
            have qy := hWI.1.cell (p := ⟨W.heap.size, 0, none⟩) (.inr (show B1 ≤ W.heap.size by omega)) hcy'
            go_simp
            refine hK _ _ (mk _ _ _ rfl ?_ ?_)
            rotate_left
            · exact ⟨hWI.1, fun h => hWI.2.1 (by simpa [put1] using h), fun h => (hWI.2.2.1 (by simpa [put1] using h)).imp fun b hb => ⟨hb.1, hb.2.1, hb.2.2.1, fun h => hb.2.2.2 (by simpa [put1] using h)⟩, fun h => by have := hWI.2.2.2 (by simpa [put1] using h); simpa [put1] using this⟩
            · intro j hj h
              rcases j with _ | _ | _ | _ | _ | _ | _ | _ | _ | j
              all_goals first | (rw [hvv]; rfl) | exact hy _ (by omega) (by simpa [put1] using h) | (exfalso; omega)
          · obtain rfl := Option.some.inj ho
            clear hdep ho
            have q0 := hWI.1.cell (p := ⟨Bp, 0, none⟩) (.inl hBp0) r0
            have q1 := hWI.1.cell (p := ⟨Bp, 1, none⟩) (.inl hBp0) r1
            have q2 := hWI.1.cell (p := ⟨Bp, 2, none⟩) (.inl hBp0) r2
            have q3 := hWI.1.cell (p := ⟨Bp, 3, none⟩) (.inl hBp0) r3
            have qi := hWI.1.cell (p := ⟨wr.heap.size, 0, none⟩) (.inr (show B1 ≤ wr.heap.size by omega)) hci'
            have qy := hWI.1.cell (p := ⟨W.heap.size, 0, none⟩) (.inr (show B1 ≤ W.heap.size by omega)) hcy'
            go_simp
            refine hK _ _ (mk _ _ _ rfl ?_ ?_)
            rotate_left
            · exact ⟨hWI.1, fun h => hWI.2.1 (by simpa [put1] using h), fun h => (hWI.2.2.1 (by simpa [put1] using h)).imp fun b hb => ⟨hb.1, hb.2.1, hb.2.2.1, fun h => hb.2.2.2 (by simpa [put1] using h)⟩, fun h => by have := hWI.2.2.2 (by simpa [put1] using h); simpa [put1] using this⟩
            · intro j hj h
              rcases j with _ | _ | _ | _ | _ | _ | _ | _ | _ | j
              all_goals first | (rw [hvv]; rfl) | exact hy _ (by omega) (by simpa [put1] using h) | (exfalso; omega)
          · obtain rfl := Option.some.inj ho
            have d1 : L 1 = true := hdep ⟨1, .data⟩ (by simp) rfl
            have d2 : L 2 = true := hdep ⟨2, .data⟩ (by simp) rfl
            have e1 : y 1 = .agg #[.int .i64 V, .slice A n c, .int .i64 d, .int .i64 E] := (hy 1 (by omega) d1).trans (by rw [hvv]; rfl)
            have e2 : y 2 = .int .i64 k := (hy 2 (by omega) d2).trans (by rw [hvv]; rfl)
            clear hdep ho
            rw [e1, e2]
            go_simp
            gi_wp2_with (refine ⟨trivial, ?_⟩; gi_at_call 26; refine (CallsIn.inRound lp (callsIn_wide.2 (HAS.out _ (by exact hlo'.kz hWI.1)))).mono ?_; rintro e w' ⟨rfl, hbx⟩)
            refine mk _ _ _ rfl ?_ ?_
            rotate_left
            · exact ⟨hWI.1.trans (KZ.of_below hbx), fun h => HG.out _ _ _ (hWI.2.1 (by simpa [put1] using h)) (grown_of_below hbx none), fun h => (hWI.2.2.1 (by simpa [put1] using h)).imp fun b hb => ⟨hb.1, fun e => HG.out _ _ _ (hb.2.1 e) (grown_of_below hbx none), fun e => HGx.out _ _ _ (hb.2.2.1 e) (grown_of_below hbx none), fun h => hb.2.2.2 (by simpa [put1] using h)⟩, fun h => by have := hWI.2.2.2 (by simpa [put1] using h); simpa [put1] using this⟩
            · intro j hj h
              rcases j with _ | _ | _ | _ | _ | _ | _ | _ | _ | j
              all_goals first | (rw [hvv]; rfl) | exact hy _ (by omega) (by simpa [put1] using h) | (exfalso; omega)
          · obtain rfl := Option.some.inj ho
            clear hdep ho
            have q0 := hWI.1.cell (p := ⟨Bp, 0, none⟩) (.inl hBp0) r0
            have q1 := hWI.1.cell (p := ⟨Bp, 1, none⟩) (.inl hBp0) r1
            have q2 := hWI.1.cell (p := ⟨Bp, 2, none⟩) (.inl hBp0) r2
            have q3 := hWI.1.cell (p := ⟨Bp, 3, none⟩) (.inl hBp0) r3
            have qi := hWI.1.cell (p := ⟨wr.heap.size, 0, none⟩) (.inr (show B1 ≤ wr.heap.size by omega)) hci'
            have qy := hWI.1.cell (p := ⟨W.heap.size, 0, none⟩) (.inr (show B1 ≤ W.heap.size by omega)) hcy'
            go_simp
            refine hK _ _ (mk _ _ _ rfl ?_ ?_)
            rotate_left
            · exact ⟨hWI.1, fun h => hWI.2.1 (by simpa [put1] using h), fun h => (hWI.2.2.1 (by simpa [put1] using h)).imp fun b hb => ⟨hb.1, hb.2.1, hb.2.2.1, fun h => hb.2.2.2 (by simpa [put1] using h)⟩, fun h => by have := hWI.2.2.2 (by simpa [put1] using h); simpa [put1] using this⟩
            · intro j hj h
              rcases j with _ | _ | _ | _ | _ | _ | _ | _ | _ | j
              all_goals first | (rw [hvv]; rfl) | exact hy _ (by omega) (by simpa [put1] using h) | (exfalso; omega)
          · obtain rfl := Option.some.inj ho
            clear hdep ho
            have q0 := hWI.1.cell (p := ⟨Bp, 0, none⟩) (.inl hBp0) r0
            have q1 := hWI.1.cell (p := ⟨Bp, 1, none⟩) (.inl hBp0) r1
            have q2 := hWI.1.cell (p := ⟨Bp, 2, none⟩) (.inl hBp0) r2
            have q3 := hWI.1.cell (p := ⟨Bp, 3, none⟩) (.inl hBp0) r3
            have qi := hWI.1.cell (p := ⟨wr.heap.size, 0, none⟩) (.inr (show B1 ≤ wr.heap.size by omega)) hci'
            have qy := hWI.1.cell (p := ⟨W.heap.size, 0, none⟩) (.inr (show B1 ≤ W.heap.size by omega)) hcy'
            go_simp
            refine hK _ _ (mk _ _ _ rfl ?_ ?_)
            rotate_left
            · exact ⟨hWI.1, fun h => hWI.2.1 (by simpa [put1] using h), fun h => (hWI.2.2.1 (by simpa [put1] using h)).imp fun b hb => ⟨hb.1, hb.2.1, hb.2.2.1, fun h => hb.2.2.2 (by simpa [put1] using h)⟩, fun h => by have := hWI.2.2.2 (by simpa [put1] using h); simpa [put1] using this⟩
            · intro j hj h
              rcases j with _ | _ | _ | _ | _ | _ | _ | _ | _ | j
              all_goals first | (rw [hvv]; rfl) | exact hy _ (by omega) (by simpa [put1] using h) | (exfalso; omega)
          · obtain rfl := Option.some.inj ho
            have d4 : L 4 = true := hdep ⟨4, .data⟩ (by simp) rfl
            have d5 : L 5 = true := hdep ⟨5, .data⟩ (by simp) rfl
            have d3 : L 3 = true := hdep ⟨3, .chain⟩ (by simp) rfl
            have e4 : y 4 = .agg #[.int .i64 V, .slice A n c, .int .i64 d, .int .i64 E] := (hy 4 (by omega) d4).trans (by rw [hvv]; rfl)
            have e5 : y 5 = .int .u64 s := (hy 5 (by omega) d5).trans (by rw [hvv]; rfl)
            clear hdep ho
            rw [e4, e5]
            go_simp
            gi_wp2_with (refine ⟨trivial, ?_⟩; gi_at_call 16; refine (CallsIn.inRound lp (callsIn_wide.2 (POS.out _ (by exact hlo'.kz hWI.1)))).mono ?_; rintro e w' ⟨rfl, hbx⟩)
            refine mk _ _ _ rfl ?_ ?_
            rotate_left
            · exact ⟨hWI.1.trans (KZ.of_below hbx), fun h => HG.out _ _ _ (hWI.2.1 (by simpa [put1] using h)) (grown_of_below hbx none), fun h => (hWI.2.2.1 (by simpa [put1] using h)).imp fun b hb => ⟨hb.1, fun e => HG.out _ _ _ (hb.2.1 e) (grown_of_below hbx none), fun e => HGx.out _ _ _ (hb.2.2.1 e) (grown_of_below hbx none), fun h => hb.2.2.2 (by simpa [put1] using h)⟩, fun h => by have := hWI.2.2.2 (by simpa [put1] using h); simpa [put1] using this⟩
            · intro j hj h
              rcases j with _ | _ | _ | _ | _ | _ | _ | _ | _ | j
              all_goals first | (rw [hvv]; rfl) | exact hy _ (by omega) (by simpa [put1] using h) | (exfalso; omega)
          · obtain rfl := Option.some.inj ho
            have d3 : L 3 = true := hdep ⟨3, .data⟩ (by simp) rfl
            have d6 : L 6 = true := hdep ⟨6, .data⟩ (by simp) rfl
            have e3 : y 3 = .int .u64 pi := (hy 3 (by omega) d3).trans (by rw [hvv]; rfl)
            have e6 : y 6 = .int .u64 ps := (hy 6 (by omega) d6).trans (by rw [hvv]; rfl)
            clear hdep ho
            rw [e3, e6]
            have q0 := hWI.1.cell (p := ⟨Bp, 0, none⟩) (.inl hBp0) r0
            have q1 := hWI.1.cell (p := ⟨Bp, 1, none⟩) (.inl hBp0) r1
            have q2 := hWI.1.cell (p := ⟨Bp, 2, none⟩) (.inl hBp0) r2
            have q3 := hWI.1.cell (p := ⟨Bp, 3, none⟩) (.inl hBp0) r3
            have qi := hWI.1.cell (p := ⟨wr.heap.size, 0, none⟩) (.inr (show B1 ≤ wr.heap.size by omega)) hci'
            have qy := hWI.1.cell (p := ⟨W.heap.size, 0, none⟩) (.inr (show B1 ≤ W.heap.size by omega)) hcy'
            go_simp
            refine hK _ _ (mk _ _ _ rfl ?_ ?_)
            rotate_left
            · exact ⟨hWI.1, fun h => hWI.2.1 (by simpa [put1] using h), fun h => (hWI.2.2.1 (by simpa [put1] using h)).imp fun b hb => ⟨hb.1, hb.2.1, hb.2.2.1, fun h => hb.2.2.2 (by simpa [put1] using h)⟩, fun h => by have := hWI.2.2.2 (by simpa [put1] using h); simpa [put1] using this⟩
            · intro j hj h
              rcases j with _ | _ | _ | _ | _ | _ | _ | _ | _ | j
              all_goals first | (rw [hvv]; rfl) | exact hy _ (by omega) (by simpa [put1] using h) | (exfalso; omega)
          · obtain rfl := Option.some.inj ho
            have d7 : L 7 = true := hdep ⟨7, .data⟩ (by simp) rfl
            have d6 : L 6 = true := hdep ⟨6, .chain⟩ (by simp) rfl
            have e7 : y 7 = .int .u64 pd := (hy 7 (by omega) d7).trans (by rw [hvv]; rfl)
            clear hdep ho
            rw [e7]
            go_simp
            gi_wp2_with (refine ⟨trivial, ?_⟩; gi_at_call 25; refine (CallsIn.inRound lp (callsIn_wide.2 (ONE.out _))).mono ?_; rintro e w' ⟨rfl, rfl⟩)
            refine mk _ _ _ rfl ?_ ?_
            rotate_left
            · exact ⟨hWI.1, fun h => hWI.2.1 (by simpa [put1] using h), fun h => (hWI.2.2.1 (by simpa [put1] using h)).imp fun b hb => ⟨hb.1, hb.2.1, hb.2.2.1, fun h => hb.2.2.2 (by simpa [put1] using h)⟩, fun h => by have := hWI.2.2.2 (by simpa [put1] using h); simpa [put1] using this⟩
            · intro j hj h
              rcases j with _ | _ | _ | _ | _ | _ | _ | _ | _ | j
              all_goals first | (rw [hvv]; rfl) | exact hy _ (by omega) (by simpa [put1] using h) | (exfalso; omega)
          · obtain rfl := Option.some.inj ho
            have d0 : L 0 = true := hdep ⟨0, .data⟩ (by simp) rfl
            have d8 : L 8 = true := hdep ⟨8, .data⟩ (by simp) rfl
            have d8 : L 8 = true := hdep ⟨8, .chain⟩ (by simp) rfl
            have e0 : y 0 = .func (.yield l) #[] #[] := (hy 0 (by omega) d0).trans (by rw [hvv]; rfl)
            have e8 : y 8 = .int .i64 oc := (hy 8 (by omega) d8).trans (by rw [hvv]; rfl)
            clear hdep ho
            rw [e0, e8]
            obtain ⟨fn, tmps, assign, body, hy9, hR⟩ := HY.out 5 P oc wx HPRE.out (hWI.2.1 hLi)
            have hR2 : RoundIn (Fence.wide.inRound lp) 5 _ _ _ _ _ _ _ _ := hR
            gi_wp2
            refine RoundIn.mono hR2 ?_
            rintro e w' (⟨rfl, hJ', hk⟩ | ⟨rfl, hJ', hk⟩)
            all_goals
              refine hK _ _ (mk _ _ _ rfl ?_ ?_)
              rotate_left
              · exact ⟨hWI.1.trans hk, fun h => by simp [put1] at h, fun _ => ⟨_, rfl, (by intro e; first | exact hJ' | cases e), (by intro e; first | exact hJ' | cases e), fun h => by have h10 := hWI.2.2.2 (by simpa [put1] using h); rw [hLi] at h10; cases h10⟩, fun _ => by simp [put1]⟩
              · intro j hj h
                rcases j with _ | _ | _ | _ | _ | _ | _ | _ | _ | j
                all_goals first | (rw [hvv]; rfl) | exact hy _ (by omega) (by simpa [put1] using h) | (exfalso; omega)
          · obtain rfl := Option.some.inj ho
            have d9 : L 9 = true := hdep ⟨9, .data⟩ (by simp) rfl
            clear hdep ho
            obtain ⟨b, hb, hb1, hb2, _⟩ := hWI.2.2.1 d9
            rw [hb]
            go_simp
            refine hK _ _ (mk _ _ _ rfl ?_ ?_)
            rotate_left
            · exact ⟨hWI.1, fun h => by simp [put1, d9] at h, fun _ => ⟨b, rfl, hb1, hb2, fun _ => rfl⟩, fun _ => by simpa [put1] using d9⟩
            · intro j hj h
              rcases j with _ | _ | _ | _ | _ | _ | _ | _ | _ | j
              all_goals first | (rw [hvv]; rfl) | exact hy _ (by omega) (by simpa [put1] using h) | (exfalso; omega)
          · exfalso; omega
        case rdone =>
          rintro L a w5 hall ⟨y, rfl, hy, hWI⟩
          obtain ⟨hk5, _, h9, _⟩ := hWI
          obtain ⟨b, hb9, hbt, hbf, hb10⟩ := h9 (hall 9 (by decide))
          have hb10' := hb10 (hall 10 (by decide))
          rw [hb10']
          clear mk hvv hy h9 hb10 hall
          have hm5 := hk5.marked (show B1 ≤ W.heap.size + 1 by omega) hm'
          cases b
          · have HB5 := hid (hbf rfl)
            clear hbt hbf
            gi_wp2
            exact ⟨hk5.keeps (by omega), ⟨rfl, P ++ [oc], HPRE.out, HB5.out⟩, hm5⟩
          · have HB5 := hid (hbt rfl)
            clear hbt hbf
            gi_wp2
            exact ⟨hk5.keeps (by omega), hk5.kc (by omega), by rw [List.map_append, List.map_cons, List.map_nil, hslk, ← List.append_assoc, hP]; exact HB5.out, hlo'.kz hk5, hk5.cell (.inr (show B1 ≤ W.heap.size by omega)) hcy', hk5.cell (.inr (show B1 ≤ wr.heap.size by omega)) hci', hm5⟩
      case done =>
        intro D W' hD ⟨hj', hlo', hcy', hci', hm'⟩ hDd
        have hm2 : marks (D :: ds) = { target := .collected D, args := #[] } :: marks ds := rfl
        rw [← hm2]
        have hM : Marked (W.heap.size + 1) (D :: ds) W' := Marked.cons hD (by omega) hm4 hm' hDd
        rw [← IT.out] at hj'
        clear hm2
        go_wp2
        refine ⟨⟨_, _, _, _, _, _, _, _, _, _, _, _, _, _, _, _, _, _, _, _, _, _, _, _, _, _, k + 1, D :: ds, rfl, by omega, hM, hj', hlo', hcy', by have := hlo'.1; have := World.block_lt_of_cell? W' _ hci'; simp at this; omega⟩, ?_⟩
        simp [intOf]; omega
      case stop =>
        rintro D c' pre W' hD hpre ⟨⟨rfl, p, hp, hx⟩, hm'⟩ hDd
        have hm2 : marks (D :: ds) = { target := .collected D, args := #[] } :: marks ds := rfl
        rw [← hm2]
        have hM : Marked (W.heap.size + 1) (D :: ds) W' := Marked.cons hD (by omega) hm4 hm' hDd
        have hX := putAll_jx (D :: ds) W' hM HJx.out hx
        clear hm2
        go_wp2
        refine m_rets (v := .tuple #[]) rfl hM (by simp [results, Tryd.results22, go_sem]) ⟨⟨_, rfl⟩, .inr ⟨p, hp, hX⟩⟩
  · have : k = V := by omega
    subst this
    have hX := putAll_jx ds wr hm HJ.out hj
    go_wp2
    refine m_rets (v := .tuple #[]) rfl hm (by simp [results, Tryd.results22, go_sem]) ⟨⟨_, rfl⟩, .inl hX⟩
end Go.Proofs.YtmfmlfaglemgfaaDoor
