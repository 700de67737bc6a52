/- plexuslaw12.examples, walked over the printed functions' contracts. -/
import Derived.Test.YtmfmlfaglemgfaaDoorPdx7
import Derived.Test.YtmfmlfaglemgfaaDoorPdx6
import Derived.Test.YtmfmlfaglemgfaaDoorPdx5
import Derived.Test.YtmfmlfaglemgfaaDoorPdx4
import Derived.Test.YtmfmlfaglemgfaaDoorPdx3
import Derived.Test.YtmfmlfaglemgfaaDoorWi
import Derived.Test.YtmfmlfaglemgfaaDoorFy
namespace Go.Proofs.YtmfmlfaglemgfaaDoor
set_option linter.unusedSimpArgs false
set_option linter.unusedVariables false
open Go.RowKit Go.Lib Go.Shelf Go.Proofs.YtmfmlfaglemgfaaDoorW.PrintWords Go.Proofs.YtmfmlfaglemgfaaDoor.Pd
theorem bt {a b c : World} (h : Below a.heap.size a b) (k : Below b.heap.size b c) : Below a.heap.size a c := below_then h h.size k
set_option maxHeartbeats 4000000 in
set_option maxRecDepth 100000 in
theorem examples_any (w : World) : Calls Tryd.prog 4 #[] w fun e w' => e = .returned (.bool true) ∧ Below w.heap.size w w' := by
  have hl : (w.alloc (.cells #[.int .u8 3, .int .u8 6] 5)).ownsRow w.heap.size 5 1 (.slice (some ⟨w.heap.size, 0, none⟩) 2 2) 2 (nums .u8 [3, 6]) := own_lit w w.heap.size 5 .u8 [3, 6] (Nat.le_refl _) (by decide)
  have hC := hid ((Kd.R_reads' (R_own hl)).2.2)
  clear hl
  go_enter Tryd.func4, Tryd.ntmps4
  go_wp2_with (go_at_call 8; refine (plexusref06_Made.calls (some ⟨w.heap.size, 0, none⟩) 2 [3, 6] 7 [11, 22, 44, 49, 69, 88, 98] _ hC.out (by decide) (by kernel_rfl)).mono ?_; rintro e w1 ⟨v1, rfl, ho1, hb1⟩; obtain ⟨A1, c1, hv1, hc1, hC1⟩ := Kd.R_reads ho1; subst hv1)
  obtain ⟨w2, hw2⟩ : ∃ w2, (w1.alloc (.cells #[.int .i64 7, .slice A1 7 c1] 35)) = w2 := ⟨_, rfl⟩
  have hz2 : w2.heap.size = w1.heap.size + 1 := by rw [← hw2]; simp
  have hb2 : Below w1.heap.size w1 w2 := by rw [← hw2]; exact below_alloc (Below.refl _ _) _
  have x0 : w2.cell? ⟨w1.heap.size, 0, none⟩ = some (.int .i64 7) := by rw [← hw2]; simp [go_sem]
  have x1 : w2.cell? ⟨w1.heap.size, 1, none⟩ = some (.slice A1 7 c1) := by rw [← hw2]; simp [go_sem]
  have FI := hid (fun (d e : Int) (hk : plexuslaw12_fromInc.f 40 7 [11, 22, 44, 49, 69, 88, 98] d e = some (7, [11, 22, 44, 49, 69, 88, 98], d, e, 0)) W (hW : Below w2.heap.size w2 W) =>
    plexuslaw12_fromInc.calls 40 7 A1 c1 [11, 22, 44, 49, 69, 88, 98] d e _ _ _ _ _ W (Kd.C_below (Kd.C_below hC1 (by rw [← hw2]; exact below_alloc (Below.refl _ _) _)) hW) hc1 hk)
  obtain ⟨X, hX⟩ : ∃ X : List Int, [11, 22, 44, 49, 69, 88, 98] = X := ⟨_, rfl⟩
  have F1 := hid (show ∀ W, Below w2.heap.size w2 W → Calls Tryd.prog 9 #[.agg #[.int .i64 7, .slice A1 7 c1], .int .i64 2, .int .i64 0] W fun e w' => ∃ v1_ : Value, e = .returned (.agg #[.int .i64 7, v1_, .int .i64 2, .int .i64 0, .int .i64 0]) ∧ Kd.R (Kd.int .u64) 48 w' W.heap.size (fun _ => True) v1_ [11, 22, 44, 49, 69, 88, 98] ∧ Below W.heap.size W w' from FI.out 2 0 (by kernel_rfl))
  have F2 := hid (show ∀ W, Below w2.heap.size w2 W → Calls Tryd.prog 9 #[.agg #[.int .i64 7, .slice A1 7 c1], .int .i64 0, .int .i64 1] W fun e w' => ∃ v1_ : Value, e = .returned (.agg #[.int .i64 7, v1_, .int .i64 0, .int .i64 1, .int .i64 0]) ∧ Kd.R (Kd.int .u64) 48 w' W.heap.size (fun _ => True) v1_ [11, 22, 44, 49, 69, 88, 98] ∧ Below W.heap.size W w' from FI.out 0 1 (by kernel_rfl))
  rw [hX] at F1 F2
  rw [hw2]
  clear hw2 FI
  refine (wpIn_wide (n := 8)).1 ?_
  obtain ⟨vv, hvv⟩ : ∃ vv : Nat → Value, vv = fun i => (#[undef] : Array Value).getD i undef := ⟨_, rfl⟩
  have mk : ∀ (L : Nat → Bool) (a' : Act) (w' : World), a' = ({ tmps := #[.bool false, .pointer (some ⟨w1.heap.size, 0, none⟩), a'.tmps.getD ((#[8, 9, 10, 11, 2, 3, 0, 0] : Array Nat).getD (4) 0) undef, a'.tmps.getD ((#[8, 9, 10, 11, 2, 3, 0, 0] : Array Nat).getD (5) 0) undef, undef, .slice (some ⟨w.heap.size, 0, none⟩) 2 2, .agg #[.slice (some ⟨w.heap.size, 0, none⟩) 2 2], .agg #[.int .i64 7, .slice A1 7 c1], a'.tmps.getD ((#[8, 9, 10, 11, 2, 3, 0, 0] : Array Nat).getD (0) 0) undef, a'.tmps.getD ((#[8, 9, 10, 11, 2, 3, 0, 0] : Array Nat).getD (1) 0) undef, a'.tmps.getD ((#[8, 9, 10, 11, 2, 3, 0, 0] : Array Nat).getD (2) 0) undef, a'.tmps.getD ((#[8, 9, 10, 11, 2, 3, 0, 0] : Array Nat).getD (3) 0) undef, undef, undef, undef, undef, undef, undef, undef, undef, undef, undef, undef, undef, undef, undef, undef, undef, undef, undef, undef, undef, undef, undef, undef, undef, undef, undef, undef, undef, undef, undef, undef, undef, undef, undef, undef, undef, undef, undef, undef, undef, undef, undef, undef, undef, undef, undef, undef, undef, undef, undef, undef, undef, undef, undef, undef, undef, undef, undef, undef, undef, undef, undef, undef, undef, undef, undef, undef, undef, undef, undef, undef, undef, undef, undef, undef, undef, undef, undef, undef, undef, undef, undef, undef, undef, undef, undef, undef, undef, undef, undef, undef, undef, undef, undef, undef, undef, undef, undef, undef], defers := [] } : Act) → (∀ j < 0, L j = true → a'.tmps.getD ((#[8, 9, 10, 11, 2, 3, 0, 0] : Array Nat).getD (j) 0) undef = vv j) → (fun (L : Nat → Bool) (wz : World) (y : Nat → Value) => Below w2.heap.size w2 wz ∧ ((L 6 = true → L 4 = true) ∧ (L 7 = true → L 5 = true)) ∧ (L 0 = true → y 0 = .agg #[.int .i64 7, .slice A1 7 c1]) ∧ (L 2 = true → y 2 = .agg #[.int .i64 7, .slice A1 7 c1]) ∧ (L 1 = true → ∃ v, y 1 = .agg #[.int .i64 7, v, .int .i64 2, .int .i64 0, .int .i64 0] ∧ OwnT X wz v) ∧ (L 3 = true → ∃ v, y 3 = .agg #[.int .i64 7, v, .int .i64 0, .int .i64 1, .int .i64 0] ∧ OwnT X wz v) ∧ (L 4 = true → ∃ g, y 4 = .pointer (some ⟨g, 0, none⟩) ∧ GotB 7 X w2.heap.size wz g 2 0 (L 6)) ∧ (L 5 = true → ∃ g, y 5 = .pointer (some ⟨g, 0, none⟩) ∧ GotB 7 X w2.heap.size wz g 0 1 (L 7)) ∧ (L 4 = true → L 5 = true → y 4 ≠ y 5)) L w' (fun m => a'.tmps.getD ((#[8, 9, 10, 11, 2, 3, 0, 0] : Array Nat).getD (m) 0) undef) → ∃ y : Nat → Value, a' = ({ tmps := #[.bool false, .pointer (some ⟨w1.heap.size, 0, none⟩), y 4, y 5, undef, .slice (some ⟨w.heap.size, 0, none⟩) 2 2, .agg #[.slice (some ⟨w.heap.size, 0, none⟩) 2 2], .agg #[.int .i64 7, .slice A1 7 c1], y 0, y 1, y 2, y 3, undef, undef, undef, undef, undef, undef, undef, undef, undef, undef, undef, undef, undef, undef, undef, undef, undef, undef, undef, undef, undef, undef, undef, undef, undef, undef, undef, undef, undef, undef, undef, undef, undef, undef, undef, undef, undef, undef, undef, undef, undef, undef, undef, undef, undef, undef, undef, undef, undef, undef, undef, undef, undef, undef, undef, undef, undef, undef, undef, undef, undef, undef, undef, undef, undef, undef, undef, undef, undef, undef, undef, undef, undef, undef, undef, undef, undef, undef, undef, undef, undef, undef, undef, undef, undef, undef, undef, undef, undef, undef, undef, undef, undef, undef, undef, undef, undef, undef, undef], defers := [] } : Act) ∧ (∀ j < 0, L j = true → y j = vv j) ∧ (fun (L : Nat → Bool) (wz : World) (y : Nat → Value) => Below w2.heap.size w2 wz ∧ ((L 6 = true → L 4 = true) ∧ (L 7 = true → L 5 = true)) ∧ (L 0 = true → y 0 = .agg #[.int .i64 7, .slice A1 7 c1]) ∧ (L 2 = true → y 2 = .agg #[.int .i64 7, .slice A1 7 c1]) ∧ (L 1 = true → ∃ v, y 1 = .agg #[.int .i64 7, v, .int .i64 2, .int .i64 0, .int .i64 0] ∧ OwnT X wz v) ∧ (L 3 = true → ∃ v, y 3 = .agg #[.int .i64 7, v, .int .i64 0, .int .i64 1, .int .i64 0] ∧ OwnT X wz v) ∧ (L 4 = true → ∃ g, y 4 = .pointer (some ⟨g, 0, none⟩) ∧ GotB 7 X w2.heap.size wz g 2 0 (L 6)) ∧ (L 5 = true → ∃ g, y 5 = .pointer (some ⟨g, 0, none⟩) ∧ GotB 7 X w2.heap.size wz g 0 1 (L 7)) ∧ (L 4 = true → L 5 = true → y 4 ≠ y 5)) L w' y := fun L a' w' h1 h2 h3 => ⟨fun m => a'.tmps.getD ((#[8, 9, 10, 11, 2, 3, 0, 0] : Array Nat).getD (m) 0) undef, h1, h2, h3⟩
  refine wpIn_region_inv (by kernel_rfl) (fun L aI wI => ∃ y : Nat → Value, aI = ({ tmps := #[.bool false, .pointer (some ⟨w1.heap.size, 0, none⟩), y 4, y 5, undef, .slice (some ⟨w.heap.size, 0, none⟩) 2 2, .agg #[.slice (some ⟨w.heap.size, 0, none⟩) 2 2], .agg #[.int .i64 7, .slice A1 7 c1], y 0, y 1, y 2, y 3, undef, undef, undef, undef, undef, undef, undef, undef, undef, undef, undef, undef, undef, undef, undef, undef, undef, undef, undef, undef, undef, undef, undef, undef, undef, undef, undef, undef, undef, undef, undef, undef, undef, undef, undef, undef, undef, undef, undef, undef, undef, undef, undef, undef, undef, undef, undef, undef, undef, undef, undef, undef, undef, undef, undef, undef, undef, undef, undef, undef, undef, undef, undef, undef, undef, undef, undef, undef, undef, undef, undef, undef, undef, undef, undef, undef, undef, undef, undef, undef, undef, undef, undef, undef, undef, undef, undef, undef, undef, undef, undef, undef, undef, undef, undef, undef, undef, undef, undef], defers := [] } : Act) ∧ (∀ j < 0, L j = true → y j = vv j) ∧ (fun (L : Nat → Bool) (wz : World) (y : Nat → Value) => Below w2.heap.size w2 wz ∧ ((L 6 = true → L 4 = true) ∧ (L 7 = true → L 5 = true)) ∧ (L 0 = true → y 0 = .agg #[.int .i64 7, .slice A1 7 c1]) ∧ (L 2 = true → y 2 = .agg #[.int .i64 7, .slice A1 7 c1]) ∧ (L 1 = true → ∃ v, y 1 = .agg #[.int .i64 7, v, .int .i64 2, .int .i64 0, .int .i64 0] ∧ OwnT X wz v) ∧ (L 3 = true → ∃ v, y 3 = .agg #[.int .i64 7, v, .int .i64 0, .int .i64 1, .int .i64 0] ∧ OwnT X wz v) ∧ (L 4 = true → ∃ g, y 4 = .pointer (some ⟨g, 0, none⟩) ∧ GotB 7 X w2.heap.size wz g 2 0 (L 6)) ∧ (L 5 = true → ∃ g, y 5 = .pointer (some ⟨g, 0, none⟩) ∧ GotB 7 X w2.heap.size wz g 0 1 (L 7)) ∧ (L 4 = true → L 5 = true → y 4 ≠ y 5)) L wI y) ?acyc ?start ?step ?rdone
  case acyc => exact fun i o ho => acyc_of (by kernel_rfl) i o ho
  case start => exact mk (fun _ => false) _ _ rfl (fun _ _ h => by cases h) (by exact ⟨below_drew (Below.refl _ _), ⟨(fun h => nomatch h), (fun h => nomatch h)⟩, (fun h => nomatch h), (fun h => nomatch h), (fun h => nomatch h), (fun h => nomatch h), (fun h => nomatch h), (fun h => nomatch h), (fun h => nomatch h)⟩)
  case step =>
    rintro i o L a wx ho hLi hdep ⟨y, rfl, hy, hWI⟩ K hK
    have hi : i < 8 := (Array.getElem?_eq_some_iff.1 ho).1
    rcases i with _ | _ | _ | _ | _ | _ | _ | _ | i
    · obtain rfl := Option.some.inj ho
      clear hdep ho
      obtain ⟨hbz, ⟨C6, C7⟩, h0, h2, h1, h3, h4, h5, hne⟩ := hWI
      have q0 := (hbz.cell (p := ⟨w1.heap.size, 0, none⟩) (show w1.heap.size < _ by omega)).trans x0
      have q1 := (hbz.cell (p := ⟨w1.heap.size, 1, none⟩) (show w1.heap.size < _ by omega)).trans x1
      go_simp
      refine hK _ _ (mk _ _ _ rfl ?_ ?_)
      rotate_left
      · exact ⟨hbz, ⟨(fun h => by have := C6 (by simpa [put1] using h); simp [put1, this]), (fun h => by have := C7 (by simpa [put1] using h); simp [put1, this])⟩, (fun _ => rfl), (fun h => h2 (by simpa [put1] using h)), (fun h => by obtain ⟨v, e1, e2⟩ := h1 (by simpa [put1] using h); exact ⟨v, e1, e2⟩), (fun h => by obtain ⟨v, e1, e2⟩ := h3 (by simpa [put1] using h); exact ⟨v, e1, e2⟩), (fun h => by obtain ⟨g2, e1, e2⟩ := h4 (by simpa [put1] using h); exact ⟨g2, e1, by simpa [put1] using e2⟩), (fun h => by obtain ⟨g2, e1, e2⟩ := h5 (by simpa [put1] using h); exact ⟨g2, e1, by simpa [put1] using e2⟩), (fun h h' => hne (by simpa [put1] using h) (by simpa [put1] using h'))⟩
      · intro j hj h
        rcases j with j
        all_goals first | (rw [hvv]; rfl) | exact hy _ (by omega) (by simpa [put1] using h) | (exfalso; omega)
    · obtain rfl := Option.some.inj ho
      have d0 : L 0 = true := hdep ⟨0, .data⟩ (by simp) rfl
      clear hdep ho
      obtain ⟨hbz, ⟨C6, C7⟩, h0, h2, h1, h3, h4, h5, hne⟩ := hWI
      rw [h0 d0]
      go_simp
      gi_wp2_with (refine ⟨trivial, ?_⟩; gi_at_call 9; refine (callsIn_wide.2 (F1.out _ hbz)).mono ?_; rintro e w' ⟨v1, rfl, ho1, hbx⟩)
      refine mk _ _ _ rfl ?_ ?_
      rotate_left
      · exact ⟨below_then hbz hbz.size hbx, ⟨(fun h => by have := C6 (by simpa [put1] using h); simp [put1, this]), (fun h => by have := C7 (by simpa [put1] using h); simp [put1, this])⟩, (fun _ => rfl), (fun h => h2 (by simpa [put1] using h)), (fun _ => ⟨v1, rfl, OwnT.of_R ho1⟩), (fun h => by obtain ⟨v, e1, e2⟩ := h3 (by simpa [put1] using h); exact ⟨v, e1, e2.below hbx⟩), (fun h => by obtain ⟨g2, e1, e2⟩ := h4 (by simpa [put1] using h); exact ⟨g2, e1, by simpa [put1] using e2.below hbx⟩), (fun h => by obtain ⟨g2, e1, e2⟩ := h5 (by simpa [put1] using h); exact ⟨g2, e1, by simpa [put1] using e2.below hbx⟩), (fun h h' => hne (by simpa [put1] using h) (by simpa [put1] using h'))⟩
      · intro j hj h
        rcases j with j
        all_goals first | (rw [hvv]; rfl) | exact hy _ (by omega) (by simpa [put1] using h) | (exfalso; omega)
    · obtain rfl := Option.some.inj ho
      clear hdep ho
      obtain ⟨hbz, ⟨C6, C7⟩, h0, h2, h1, h3, h4, h5, hne⟩ := hWI
      have q0 := (hbz.cell (p := ⟨w1.heap.size, 0, none⟩) (show w1.heap.size < _ by omega)).trans x0
      have q1 := (hbz.cell (p := ⟨w1.heap.size, 1, none⟩) (show w1.heap.size < _ by omega)).trans x1
      go_simp
      refine hK _ _ (mk _ _ _ rfl ?_ ?_)
      rotate_left
      · exact ⟨hbz, ⟨(fun h => by have := C6 (by simpa [put1] using h); simp [put1, this]), (fun h => by have := C7 (by simpa [put1] using h); simp [put1, this])⟩, (fun h => h0 (by simpa [put1] using h)), (fun _ => rfl), (fun h => by obtain ⟨v, e1, e2⟩ := h1 (by simpa [put1] using h); exact ⟨v, e1, e2⟩), (fun h => by obtain ⟨v, e1, e2⟩ := h3 (by simpa [put1] using h); exact ⟨v, e1, e2⟩), (fun h => by obtain ⟨g2, e1, e2⟩ := h4 (by simpa [put1] using h); exact ⟨g2, e1, by simpa [put1] using e2⟩), (fun h => by obtain ⟨g2, e1, e2⟩ := h5 (by simpa [put1] using h); exact ⟨g2, e1, by simpa [put1] using e2⟩), (fun h h' => hne (by simpa [put1] using h) (by simpa [put1] using h'))⟩
      · intro j hj h
        rcases j with j
        all_goals first | (rw [hvv]; rfl) | exact hy _ (by omega) (by simpa [put1] using h) | (exfalso; omega)
    · obtain rfl := Option.some.inj ho
      have d2 : L 2 = true := hdep ⟨2, .data⟩ (by simp) rfl
      have d1 : L 1 = true := hdep ⟨1, .chain⟩ (by simp) rfl
      clear hdep ho
      obtain ⟨hbz, ⟨C6, C7⟩, h0, h2, h1, h3, h4, h5, hne⟩ := hWI
      rw [h2 d2]
      go_simp
      gi_wp2_with (refine ⟨trivial, ?_⟩; gi_at_call 9; refine (callsIn_wide.2 (F2.out _ hbz)).mono ?_; rintro e w' ⟨v1, rfl, ho1, hbx⟩)
      refine mk _ _ _ rfl ?_ ?_
      rotate_left
      · exact ⟨below_then hbz hbz.size hbx, ⟨(fun h => by have := C6 (by simpa [put1] using h); simp [put1, this]), (fun h => by have := C7 (by simpa [put1] using h); simp [put1, this])⟩, (fun h => h0 (by simpa [put1] using h)), (fun _ => rfl), (fun h => by obtain ⟨v, e1, e2⟩ := h1 (by simpa [put1] using h); exact ⟨v, e1, e2.below hbx⟩), (fun _ => ⟨v1, rfl, OwnT.of_R ho1⟩), (fun h => by obtain ⟨g2, e1, e2⟩ := h4 (by simpa [put1] using h); exact ⟨g2, e1, by simpa [put1] using e2.below hbx⟩), (fun h => by obtain ⟨g2, e1, e2⟩ := h5 (by simpa [put1] using h); exact ⟨g2, e1, by simpa [put1] using e2.below hbx⟩), (fun h h' => hne (by simpa [put1] using h) (by simpa [put1] using h'))⟩
      · intro j hj h
        rcases j with j
        all_goals first | (rw [hvv]; rfl) | exact hy _ (by omega) (by simpa [put1] using h) | (exfalso; omega)
    · obtain rfl := Option.some.inj ho
      clear hdep ho
      obtain ⟨hbz, ⟨C6, C7⟩, h0, h2, h1, h3, h4, h5, hne⟩ := hWI
      go_simp
      refine hK _ _ (mk _ _ _ rfl ?_ ?_)
      rotate_left
      · exact ⟨below_alloc hbz _, ⟨(fun h => by have := C6 (by simpa [put1] using h); simp [put1, this]), (fun h => by have := C7 (by simpa [put1] using h); simp [put1, this])⟩, (fun h => h0 (by simpa [put1] using h)), (fun h => h2 (by simpa [put1] using h)), (fun h => by obtain ⟨v, e1, e2⟩ := h1 (by simpa [put1] using h); exact ⟨v, e1, e2.below (below_alloc (Below.refl _ _) _)⟩), (fun h => by obtain ⟨v, e1, e2⟩ := h3 (by simpa [put1] using h); exact ⟨v, e1, e2.below (below_alloc (Below.refl _ _) _)⟩), (fun _ => ⟨wx.heap.size, rfl, hbz.size, _, Blk.new _ _ _, rfl, fun hf => by have := C6 (by simpa [put1] using hf); rw [hLi] at this; cases this⟩), (fun h => by obtain ⟨g2, e1, e2⟩ := h5 (by simpa [put1] using h); exact ⟨g2, e1, by simpa [put1] using e2.below (below_alloc (Below.refl _ _) _)⟩), (fun _ h e => by obtain ⟨g2, e1, e2⟩ := h5 (by simpa [put1] using h); have e3 := e.trans e1; have hlt := e2.2.choose_spec.1.lt; simp at e3 <;> omega)⟩
      · intro j hj h
        rcases j with j
        all_goals first | (rw [hvv]; rfl) | exact hy _ (by omega) (by simpa [put1] using h) | (exfalso; omega)
    · obtain rfl := Option.some.inj ho
      clear hdep ho
      obtain ⟨hbz, ⟨C6, C7⟩, h0, h2, h1, h3, h4, h5, hne⟩ := hWI
      go_simp
      refine hK _ _ (mk _ _ _ rfl ?_ ?_)
      rotate_left
      · exact ⟨below_alloc hbz _, ⟨(fun h => by have := C6 (by simpa [put1] using h); simp [put1, this]), (fun h => by have := C7 (by simpa [put1] using h); simp [put1, this])⟩, (fun h => h0 (by simpa [put1] using h)), (fun h => h2 (by simpa [put1] using h)), (fun h => by obtain ⟨v, e1, e2⟩ := h1 (by simpa [put1] using h); exact ⟨v, e1, e2.below (below_alloc (Below.refl _ _) _)⟩), (fun h => by obtain ⟨v, e1, e2⟩ := h3 (by simpa [put1] using h); exact ⟨v, e1, e2.below (below_alloc (Below.refl _ _) _)⟩), (fun h => by obtain ⟨g2, e1, e2⟩ := h4 (by simpa [put1] using h); exact ⟨g2, e1, by simpa [put1] using e2.below (below_alloc (Below.refl _ _) _)⟩), (fun _ => ⟨wx.heap.size, rfl, hbz.size, _, Blk.new _ _ _, rfl, fun hf => by have := C7 (by simpa [put1] using hf); rw [hLi] at this; cases this⟩), (fun h _ e => by obtain ⟨g2, e1, e2⟩ := h4 (by simpa [put1] using h); have e3 := e.symm.trans e1; have hlt := e2.2.choose_spec.1.lt; simp at e3 <;> omega)⟩
      · intro j hj h
        rcases j with j
        all_goals first | (rw [hvv]; rfl) | exact hy _ (by omega) (by simpa [put1] using h) | (exfalso; omega)
    · obtain rfl := Option.some.inj ho
      have d4 : L 4 = true := hdep ⟨4, .data⟩ (by simp) rfl
      have d1 : L 1 = true := hdep ⟨1, .data⟩ (by simp) rfl
      have d3 : L 3 = true := hdep ⟨3, .chain⟩ (by simp) rfl
      clear hdep ho
      obtain ⟨hbz, ⟨C6, C7⟩, h0, h2, h1, h3, h4, h5, hne⟩ := hWI
      obtain ⟨v, ev, hov⟩ := h1 d1
      obtain ⟨g, hyg, hgb, cs, hbk, hs5, _⟩ := h4 d4
      obtain ⟨A9, c9, hv9⟩ := own_slice hov.choose_spec
      subst hv9
      obtain ⟨a0, a1, a2, a3, a4, rfl⟩ := five hs5
      have k0 : wx.cell? ⟨g, 0, none⟩ = some a0 := (hbk.cell 0).trans rfl
      have k1 : wx.cell? ⟨g, 1, none⟩ = some a1 := (hbk.cell 1).trans rfl
      have k2 : wx.cell? ⟨g, 2, none⟩ = some a2 := (hbk.cell 2).trans rfl
      have k3 : wx.cell? ⟨g, 3, none⟩ = some a3 := (hbk.cell 3).trans rfl
      have k4 : wx.cell? ⟨g, 4, none⟩ = some a4 := (hbk.cell 4).trans rfl
      have f0 := hbk.frozen 0
      have f1 := hbk.frozen 1
      have f2 := hbk.frozen 2
      have f3 := hbk.frozen 3
      have f4 := hbk.frozen 4
      rw [ev, hyg]
      go_simp
      refine hK _ _ (mk _ _ _ rfl ?_ ?_)
      rotate_left
      · exact ⟨put5_below hbz hgb _ _ _ _, ⟨(fun _ => by simp [put1, d4]), (fun h => by have := C7 (by simpa [put1] using h); simp [put1, this])⟩, (fun h => h0 (by simpa [put1] using h)), (fun h => h2 (by simpa [put1] using h)), (fun _ => ⟨_, rfl, put5_own hov hbk _ _ _ _⟩), (fun h => by obtain ⟨v, e1, e2⟩ := h3 (by simpa [put1] using h); exact ⟨v, e1, put5_own e2 hbk _ _ _ _⟩), (fun _ => ⟨g, rfl, hgb, _, put5_blk hbk rfl 7 (.slice A9 X.length c9) 2 0, rfl, fun _ => ⟨_, rfl, put5_own hov hbk _ _ _ _⟩⟩), (fun h => by obtain ⟨g2, e1, e2⟩ := h5 (by simpa [put1] using h); have hgg : g2 ≠ g := fun e => hne d4 (by simpa [put1] using h) (hyg.trans (by rw [e1, e])); have q := put5_got e2 hbk hgg 7 (.slice A9 X.length c9) 2 0; rw [show L 7 = put1 L (0 + 1 + 1 + 1 + 1 + 1 + 1) 7 from by simp [put1]] at q; exact ⟨g2, e1, q⟩), (fun _ h' e => hne d4 (by simpa [put1] using h') (hyg.trans e))⟩
      · intro j hj h
        rcases j with j
        all_goals first | (rw [hvv]; rfl) | exact hy _ (by omega) (by simpa [put1] using h) | (exfalso; omega)
    · obtain rfl := Option.some.inj ho
      have d5 : L 5 = true := hdep ⟨5, .data⟩ (by simp) rfl
      have d3 : L 3 = true := hdep ⟨3, .data⟩ (by simp) rfl
      have d6 : L 6 = true := hdep ⟨6, .chain⟩ (by simp) rfl
      clear hdep ho
      obtain ⟨hbz, ⟨C6, C7⟩, h0, h2, h1, h3, h4, h5, hne⟩ := hWI
      obtain ⟨v, ev, hov⟩ := h3 d3
      obtain ⟨g, hyg, hgb, cs, hbk, hs5, _⟩ := h5 d5
      obtain ⟨A9, c9, hv9⟩ := own_slice hov.choose_spec
      subst hv9
      obtain ⟨a0, a1, a2, a3, a4, rfl⟩ := five hs5
      have k0 : wx.cell? ⟨g, 0, none⟩ = some a0 := (hbk.cell 0).trans rfl
      have k1 : wx.cell? ⟨g, 1, none⟩ = some a1 := (hbk.cell 1).trans rfl
      have k2 : wx.cell? ⟨g, 2, none⟩ = some a2 := (hbk.cell 2).trans rfl
      have k3 : wx.cell? ⟨g, 3, none⟩ = some a3 := (hbk.cell 3).trans rfl
      have k4 : wx.cell? ⟨g, 4, none⟩ = some a4 := (hbk.cell 4).trans rfl
      have f0 := hbk.frozen 0
      have f1 := hbk.frozen 1
      have f2 := hbk.frozen 2
      have f3 := hbk.frozen 3
      have f4 := hbk.frozen 4
      rw [ev, hyg]
      go_simp
      refine hK _ _ (mk _ _ _ rfl ?_ ?_)
      rotate_left
      · exact ⟨put5_below hbz hgb _ _ _ _, ⟨(fun h => by have := C6 (by simpa [put1] using h); simp [put1, this]), (fun _ => by simp [put1, d5])⟩, (fun h => h0 (by simpa [put1] using h)), (fun h => h2 (by simpa [put1] using h)), (fun h => by obtain ⟨v, e1, e2⟩ := h1 (by simpa [put1] using h); exact ⟨v, e1, put5_own e2 hbk _ _ _ _⟩), (fun _ => ⟨_, rfl, put5_own hov hbk _ _ _ _⟩), (fun h => by obtain ⟨g2, e1, e2⟩ := h4 (by simpa [put1] using h); have hgg : g2 ≠ g := fun e => hne (by simpa [put1] using h) d5 (e1.trans (by rw [e, hyg])); have q := put5_got e2 hbk hgg 7 (.slice A9 X.length c9) 0 1; rw [show L 6 = put1 L (0 + 1 + 1 + 1 + 1 + 1 + 1 + 1) 6 from by simp [put1]] at q; exact ⟨g2, e1, q⟩), (fun _ => ⟨g, rfl, hgb, _, put5_blk hbk rfl 7 (.slice A9 X.length c9) 0 1, rfl, fun _ => ⟨_, rfl, put5_own hov hbk _ _ _ _⟩⟩), (fun h _ e => hne (by simpa [put1] using h) d5 (e.trans hyg.symm))⟩
      · intro j hj h
        rcases j with j
        all_goals first | (rw [hvv]; rfl) | exact hy _ (by omega) (by simpa [put1] using h) | (exfalso; omega)
    · exfalso; omega
  case rdone =>
    rintro L a w4 hall ⟨y, rfl, hy, hWI⟩
    obtain ⟨hbz, _, _, _, _, _, h4, h5, _⟩ := hWI
    obtain ⟨ga, ea, _, csa, ba, _, fa⟩ := h4 (hall 4 (by decide))
    obtain ⟨va, rfl, ova⟩ := fa (hall 6 (by decide))
    obtain ⟨gb, eb, _, csb, bb, _, fb⟩ := h5 (hall 5 (by decide))
    obtain ⟨vb, rfl, ovb⟩ := fb (hall 7 (by decide))
    subst hX
    obtain ⟨basea, oa⟩ := ova
    obtain ⟨baseb, ob⟩ := ovb
    obtain ⟨Aa, ca, hva, hca, hCa⟩ := Kd.R_reads (R_own oa)
    obtain ⟨Ab, cb, hvb, hcb, hCb⟩ := Kd.R_reads (R_own ob)
    subst hva
    subst hvb
    rw [ea, eb]
    generalize y 0 = y0
    generalize y 1 = y1
    generalize y 2 = y2
    generalize y 3 = y3
    clear mk hvv hy h4 h5 hall ea eb fa fb F1 F2
    have HCELL := hid (fun (W : World) (hW : Below w4.heap.size w4 W) => show W.cell? ⟨ga, 0, none⟩ = some (.int .i64 7) ∧ W.cell? ⟨ga, 1, none⟩ = some (.slice Aa 7 ca) ∧ W.cell? ⟨ga, 2, none⟩ = some (.int .i64 2) ∧ W.cell? ⟨ga, 3, none⟩ = some (.int .i64 0) ∧ W.cell? ⟨ga, 4, none⟩ = some (.int .i64 0) ∧ W.cell? ⟨gb, 0, none⟩ = some (.int .i64 7) ∧ W.cell? ⟨gb, 1, none⟩ = some (.slice Ab 7 cb) ∧ W.cell? ⟨gb, 2, none⟩ = some (.int .i64 0) ∧ W.cell? ⟨gb, 3, none⟩ = some (.int .i64 1) ∧ W.cell? ⟨gb, 4, none⟩ = some (.int .i64 0) from
      ⟨((ba.below hW ba.lt).cell 0).trans rfl, ((ba.below hW ba.lt).cell 1).trans rfl, ((ba.below hW ba.lt).cell 2).trans rfl, ((ba.below hW ba.lt).cell 3).trans rfl, ((ba.below hW ba.lt).cell 4).trans rfl,
       ((bb.below hW bb.lt).cell 0).trans rfl, ((bb.below hW bb.lt).cell 1).trans rfl, ((bb.below hW bb.lt).cell 2).trans rfl, ((bb.below hW bb.lt).cell 3).trans rfl, ((bb.below hW bb.lt).cell 4).trans rfl⟩)
    have la := ba.lt
    have lb := bb.lt
    have HCa := hid hCa
    have HCb := hid hCb
    have SL := hid (fun W (hW : Below w4.heap.size w4 W) => disjunct_Slack.calls 7 Aa ca [11, 22, 44, 49, 69, 88, 98] 2 0 1 W (Kd.C_below HCa.out hW) hca (by kernel_rfl))
    have DJ := hid (fun W (hW : Below w4.heap.size w4 W) => disjunct_Disjunct.calls 7 Aa ca [11, 22, 44, 49, 69, 88, 98] 2 0 true W (Kd.C_below HCa.out hW) hca (by kernel_rfl))
    have BA := hid (fun W (hW : Below w4.heap.size w4 W) => disjunct_Best.calls 40 7 Aa ca [11, 22, 44, 49, 69, 88, 98] 2 0 2 W (Kd.C_below HCa.out hW) hca (by kernel_rfl))
    have BB := hid (fun W (hW : Below w4.heap.size w4 W) => disjunct_Best.calls 40 7 Ab cb [11, 22, 44, 49, 69, 88, 98] 0 1 0 W (Kd.C_below HCb.out hW) hcb (by kernel_rfl))
    have AP := hid (fun W (hW : Below w4.heap.size w4 W) => disjunct_Apart.calls 7 Aa ca [11, 22, 44, 49, 69, 88, 98] 2 0 2 W (Kd.C_below HCa.out hW) hca (by kernel_rfl))
    have A1' := hid (fun W (hW : Below w4.heap.size w4 W) => disjunct_Apart.calls 7 Aa ca [11, 22, 44, 49, 69, 88, 98] 1 0 3 W (Kd.C_below HCa.out hW) hca (by kernel_rfl))
    have HB : Below w4.heap.size w4 w4 := Below.refl _ _
    obtain ⟨qa0, qa1, qa2, qa3, qa4, qb0, qb1, qb2, qb3, qb4⟩ := HCELL.out _ HB
    clear hCa hCb oa ob basea baseb
    go_upto_region 5 with (first
      | (go_at_call_of 7 Aa; refine (SL.out _ HB).mono ?_; rintro e w5 ⟨rfl, hb5⟩; replace HB := bt HB hb5; clear hb5 qa0 qa1 qa2 qa3 qa4 qb0 qb1 qb2 qb3 qb4; obtain ⟨qa0, qa1, qa2, qa3, qa4, qb0, qb1, qb2, qb3, qb4⟩ := HCELL.out _ HB)
      | (go_at_call_of 10 Aa; refine (DJ.out _ HB).mono ?_; rintro e w5 ⟨rfl, hb5⟩; replace HB := bt HB hb5; clear hb5 qa0 qa1 qa2 qa3 qa4 qb0 qb1 qb2 qb3 qb4; obtain ⟨qa0, qa1, qa2, qa3, qa4, qb0, qb1, qb2, qb3, qb4⟩ := HCELL.out _ HB)
      | (go_at_call_of 11 Aa; refine (BA.out _ HB).mono ?_; rintro e w5 ⟨rfl, hb5⟩; replace HB := bt HB hb5; clear hb5 qa0 qa1 qa2 qa3 qa4 qb0 qb1 qb2 qb3 qb4; obtain ⟨qa0, qa1, qa2, qa3, qa4, qb0, qb1, qb2, qb3, qb4⟩ := HCELL.out _ HB)
      | (go_at_call_of 11 Ab; refine (BB.out _ HB).mono ?_; rintro e w5 ⟨rfl, hb5⟩; replace HB := bt HB hb5; clear hb5 qa0 qa1 qa2 qa3 qa4 qb0 qb1 qb2 qb3 qb4; obtain ⟨qa0, qa1, qa2, qa3, qa4, qb0, qb1, qb2, qb3, qb4⟩ := HCELL.out _ HB)
      | (go_at_call_of 12 (Value.int IntKind.i64 2); refine (AP.out _ HB).mono ?_; rintro e w5 ⟨rfl, hb5⟩; replace HB := bt HB hb5; clear hb5 qa0 qa1 qa2 qa3 qa4 qb0 qb1 qb2 qb3 qb4; obtain ⟨qa0, qa1, qa2, qa3, qa4, qb0, qb1, qb2, qb3, qb4⟩ := HCELL.out _ HB)
      | (go_at_call_of 12 (Value.int IntKind.i64 1); refine (A1'.out _ HB).mono ?_; rintro e w5 ⟨rfl, hb5⟩; replace HB := bt HB hb5; clear hb5 qa0 qa1 qa2 qa3 qa4 qb0 qb1 qb2 qb3 qb4; obtain ⟨qa0, qa1, qa2, qa3, qa4, qb0, qb1, qb2, qb3, qb4⟩ := HCELL.out _ HB)
      | (go_at_call 13; refine (with12_any 7 2 0 1 Aa 7 ca _).mono ?_; rintro e w5 ⟨rfl, hb5⟩; replace HB := bt HB hb5; clear hb5 qa0 qa1 qa2 qa3 qa4 qb0 qb1 qb2 qb3 qb4; obtain ⟨qa0, qa1, qa2, qa3, qa4, qb0, qb1, qb2, qb3, qb4⟩ := HCELL.out _ HB))
    clear SL DJ BA BB AP A1' qa0 qa1 qa2 qa3 qa4 qb0 qb1 qb2 qb3 qb4
    go_upto_region 6 with (first
      | (go_at_call 14; refine (fw_ex1 _ 3 _ (lit_ok _)).mono ?_; rintro e w6 ⟨v6, rfl, hR6, hb6⟩; obtain ⟨A6, c6, hv6⟩ := Kd.R_slice hR6; subst hv6))
    obtain ⟨w7, hw7⟩ : ∃ w7, w6.alloc (.cells #[.int .i64 3, .slice A6 4 c6, .int .i64 1, .int .i64 0, .int .i64 0] 42) = w7 := ⟨_, rfl⟩
    have hp7 : Blk w7 w6.heap.size 42 #[.int .i64 3, .slice A6 4 c6, .int .i64 1, .int .i64 0, .int .i64 0] := by rw [← hw7]; exact Blk.new _ _ _
    have hb47 : Below w4.heap.size w4 w7 := by
      rw [← hw7]
      exact below_alloc (below_then (below_alloc (below_alloc (below_alloc (below_alloc HB _) _) _) _) (below_alloc (below_alloc (below_alloc (below_alloc HB _) _) _) _).size hb6) _
    obtain ⟨_, k6, hk6, hlk6, hC6⟩ := Kd.R_reads hR6
    have hC7 : Kd.C (Kd.int .u64) w7 A6 4 [2, 3, 4, 5] := by
      rw [← hw7]
      cases hk6
      exact Kd.C_alloc hC6 _
    have hk64 : 4 ≤ c6 := by cases hk6; exact hlk6
    rw [hw7]
    clear hw7 hb6 HB hR6 hC6 hk6 hlk6
    have HA := hid (fun (W : World) (hW : Below w7.heap.size w7 W) => bt hb47 hW)
    have HC7 := hid (fun (W : World) (hW : Below w7.heap.size w7 W) => Kd.C_below hC7 hW)
    have HCELL7 := hid (fun (W : World) (hW : Below w7.heap.size w7 W) => show W.cell? ⟨ga, 0, none⟩ = some (.int .i64 7) ∧ W.cell? ⟨ga, 1, none⟩ = some (.slice Aa 7 ca) ∧ W.cell? ⟨ga, 2, none⟩ = some (.int .i64 2) ∧ W.cell? ⟨ga, 3, none⟩ = some (.int .i64 0) ∧ W.cell? ⟨w1.heap.size, 0, none⟩ = some (.int .i64 7) ∧ W.cell? ⟨w1.heap.size, 1, none⟩ = some (.slice A1 7 c1) ∧ W.cell? ⟨w6.heap.size, 0, none⟩ = some (.int .i64 3) ∧ W.cell? ⟨w6.heap.size, 1, none⟩ = some (.slice A6 4 c6) ∧ W.cell? ⟨w6.heap.size, 2, none⟩ = some (.int .i64 1) ∧ W.cell? ⟨w6.heap.size, 3, none⟩ = some (.int .i64 0) ∧ W.cell? ⟨w6.heap.size, 4, none⟩ = some (.int .i64 0) from ⟨(HCELL.out _ (HA.out W hW)).1, (HCELL.out _ (HA.out W hW)).2.1, (HCELL.out _ (HA.out W hW)).2.2.1, (HCELL.out _ (HA.out W hW)).2.2.2.1, ((bt hbz (HA.out W hW)).cell (p := ⟨w1.heap.size, 0, none⟩) (show w1.heap.size < _ by omega)).trans x0, ((bt hbz (HA.out W hW)).cell (p := ⟨w1.heap.size, 1, none⟩) (show w1.heap.size < _ by omega)).trans x1, ((hp7.below hW hp7.lt).cell 0).trans rfl, ((hp7.below hW hp7.lt).cell 1).trans rfl, ((hp7.below hW hp7.lt).cell 2).trans rfl, ((hp7.below hW hp7.lt).cell 3).trans rfl, ((hp7.below hW hp7.lt).cell 4).trans rfl⟩)
    have PO3 := hid (fun W (hW : Below w7.heap.size w7 W) => disjunct_Positive.calls 7 Aa ca [11, 22, 44, 49, 69, 88, 98] 2 0 3 91 W (Kd.C_below HCa.out (HA.out W hW)) hca (by kernel_rfl))
    have PO0 := hid (fun W (hW : Below w7.heap.size w7 W) => disjunct_Positive.calls 7 Aa ca [11, 22, 44, 49, 69, 88, 98] 2 0 0 0 W (Kd.C_below HCa.out (HA.out W hW)) hca (by kernel_rfl))
    have SZ := hid (fun W => plexusref06_Size.calls 80 91 5 W (by kernel_rfl))
    have SM := hid (fun W (hW : Below w7.heap.size w7 W) => plexusref12_Same.calls 80 3 A6 c6 [2, 3, 4, 5] 1 0 3 (some ⟨W.heap.size, 0, none⟩) 4 [2, 3, 4, 5] 1 0 true (W.alloc (.cells #[.int .u64 2, .int .u64 3, .int .u64 4, .int .u64 5] 48)) (Kd.C_alloc (HC7.out W hW) _) hk64 ((Kd.R_reads' (R_own (own_lit W W.heap.size 48 .u64 [2, 3, 4, 5] (Nat.le_refl _) (by decide)))).2.2) (by decide) (by kernel_rfl))
    have FI4 := hid (fun W (hW : Below w7.heap.size w7 W) => plexuslaw12_fromInc.calls 40 7 A1 c1 [11, 22, 44, 49, 69, 88, 98] 4 0 0 [] 0 0 120 W (Kd.C_below (Kd.C_below (Kd.C_below hC1 hb2) hbz) (HA.out W hW)) hc1 (by kernel_rfl))
    have RI := hid (fun W => disjunct_Right.calls 40 0 none 0 [] 0 0 120 W (Kd.C_nil _ _) (by decide) (by kernel_rfl))
    have HB : Below w7.heap.size w7 w7 := Below.refl _ _
    obtain ⟨qa0, qa1, qa2, qa3, qx0, qx1, qc0, qc1, qc2, qc3, qc4⟩ := HCELL7.out _ HB
    clear hC7
    have hu := Tryd.underlying30
    have hfld : ∀ (A : Option Addr) (c : Nat) (x : Int) (W : World), (Instr.field 42 (.agg #[.int .i64 0, .slice A 0 c, .int .i64 0, .int .i64 0, .int .i64 x]) 1).run Tryd.prog W = .ok (.int .i64 x) W := fun _ _ _ _ => by kernel_rfl
    go_wp2_with (first
      | (go_at_call_of 16 (Value.int IntKind.u64 3); refine (PO3.out _ HB).mono ?_; rintro e w8 ⟨rfl, hb8⟩; replace HB := bt HB hb8; clear hb8 qa0 qa1 qa2 qa3 qx0 qx1 qc0 qc1 qc2 qc3 qc4; obtain ⟨qa0, qa1, qa2, qa3, qx0, qx1, qc0, qc1, qc2, qc3, qc4⟩ := HCELL7.out _ HB)
      | (go_at_call_of 16 (Value.int IntKind.u64 0); refine (PO0.out _ HB).mono ?_; rintro e w8 ⟨rfl, hb8⟩; replace HB := bt HB hb8; clear hb8 qa0 qa1 qa2 qa3 qx0 qx1 qc0 qc1 qc2 qc3 qc4; obtain ⟨qa0, qa1, qa2, qa3, qx0, qx1, qc0, qc1, qc2, qc3, qc4⟩ := HCELL7.out _ HB)
      | (go_at_call 15; refine (SZ.out _).mono ?_; rintro e w8 ⟨rfl, hb8⟩; replace hb8 := hb8.below; replace HB := bt HB hb8; clear hb8 qa0 qa1 qa2 qa3 qx0 qx1 qc0 qc1 qc2 qc3 qc4; obtain ⟨qa0, qa1, qa2, qa3, qx0, qx1, qc0, qc1, qc2, qc3, qc4⟩ := HCELL7.out _ HB)
      | (go_at_call 17; refine (SM.out _ HB).mono ?_; rintro e w8 ⟨rfl, hb8⟩; replace HB := bt (below_alloc HB _) hb8; clear hb8 qa0 qa1 qa2 qa3 qx0 qx1 qc0 qc1 qc2 qc3 qc4; obtain ⟨qa0, qa1, qa2, qa3, qx0, qx1, qc0, qc1, qc2, qc3, qc4⟩ := HCELL7.out _ HB)
      | (go_at_call 9; refine (FI4.out _ HB).mono ?_; rintro e w8 ⟨v8, rfl, hR8, hb8⟩; obtain ⟨A8, c8, hv8⟩ := Kd.R_slice hR8; subst hv8; clear hR8; replace HB := bt HB hb8; clear hb8 qa0 qa1 qa2 qa3 qx0 qx1 qc0 qc1 qc2 qc3 qc4; obtain ⟨qa0, qa1, qa2, qa3, qx0, qx1, qc0, qc1, qc2, qc3, qc4⟩ := HCELL7.out _ HB)
      | (go_at_call 14; refine (fw_ex2 _ 2 _ (lit_bad _)).mono ?_; rintro e w8 ⟨v8, rfl, hR8, hb8⟩; obtain ⟨A8, c8, hv8⟩ := Kd.R_slice hR8; subst hv8; clear hR8; replace HB := bt (below_alloc (below_alloc (below_alloc HB _) _) _) hb8; clear hb8 qa0 qa1 qa2 qa3 qx0 qx1 qc0 qc1 qc2 qc3 qc4; obtain ⟨qa0, qa1, qa2, qa3, qx0, qx1, qc0, qc1, qc2, qc3, qc4⟩ := HCELL7.out _ HB)
      | (go_at_call 18; refine (RI.out _).mono ?_; rintro e w8 ⟨rfl, hb8⟩; replace HB := bt HB hb8; clear hb8 qa0 qa1 qa2 qa3 qx0 qx1 qc0 qc1 qc2 qc3 qc4; obtain ⟨qa0, qa1, qa2, qa3, qx0, qx1, qc0, qc1, qc2, qc3, qc4⟩ := HCELL7.out _ HB))
    go_ret
    exact ⟨rfl, bt (bt (bt (bt (bt (below_alloc (Below.refl _ _) _) hb1) hb2) hbz) hb47) HB⟩
end Go.Proofs.YtmfmlfaglemgfaaDoor
