-- Written by this session's program xprint.py: it drives the kit's print with contracts of this session's own.
/- SEPARATION, in plain Lean: the least distance of the results of two different sets of at most D items is at least the slack; no program in sight but the listings of sets, which are compared by the kernel. -/
/- What DisjunctOrder says, in plain Lean: a test more, a greater number of faulty items, more false results, two sets together; no program in sight. -/
import Derived.Test.YtmfmlfaglemgfaaPsx0
import Derived.Test.YtmfmlfaglemgfaaPsx3
import Derived.Test.YtmfmlfaglemgfaaWi
import Derived.Test.YtmfmlfaglemgfaaMb
namespace Go.Proofs.Ytmfmlfaglemgfaa.Ps
open Go.RowKit Go.Proofs.YtmfmlfaglemgfaaW.PrintWords Go.Proofs.YtmfmlfaglemgfaaW.PrintLast Go.Proofs.YtmfmlfaglemgfaaW.PrintMore
attribute [local go_sem] max2_int min2_int max_two min_two max_three min_three max_four min_four   -- for this text's walks alone
set_option linter.unusedVariables false
set_option linter.unusedSimpArgs false

/-! ### plexusref12_Upto: function 30 -/
def plexusref12_Upto.l0 : Nat → Int → Int → List Int → Int → Option (List Int)
  | 0, _, _, _, _ => none
  | k + 1, x0, x1, x5, x6 => if x6 ≤ x1 then ((plexusref09_Sets.f k x0 x6).bind fun t140 => (if x5.length + t140.length < 17592186044416 then (plexusref12_Upto.l0 k x0 x1 (x5 ++ t140) (wrap64 (x6 + 1))) else (none))) else (some x5)
def plexusref12_Upto.f (k : Nat) (a0 : Int) (a1 : Int) : Option (List Int) := plexusref12_Upto.l0 k a0 a1 (([] : List Int)) 0
theorem plexusref12_Upto.mono_l : ∀ k, (∀ y0 y1 y2 y3, LeO (plexusref12_Upto.l0 k y0 y1 y2 y3) (plexusref12_Upto.l0 (k + 1) y0 y1 y2 y3))
  | 0 => fun _ _ _ _ r h => by simp [plexusref12_Upto.l0] at h
  | k + 1 => by
    have ih0 := plexusref12_Upto.mono_l k
    · intro y0 y1 y2 y3
      unfold plexusref12_Upto.l0
      repeat' first
      | (with_reducible exact ih0 _ _ _ _)
      | (with_reducible exact plexusref09_Sets.mono _ _ _)
      | (with_reducible exact LeO.refl _)
      | (with_reducible exact LeO.none _)
      | (with_reducible refine LeO.ite ?_ ?_)
      | (with_reducible refine LeO.bind ?_ (fun _ => ?_))
      | exact ih0 _ _ _ _
      | exact plexusref09_Sets.mono _ _ _
      | exact LeO.none _
      | refine LeO.ite ?_ ?_
      | refine LeO.bind ?_ (fun _ => ?_)
theorem plexusref12_Upto.mono : ∀ a0 a1 k, LeO (plexusref12_Upto.f k a0 a1) (plexusref12_Upto.f (k + 1) a0 a1) := by
  intro a0 a1 k
  have ih0 := plexusref12_Upto.mono_l k
  unfold plexusref12_Upto.f
  repeat' first
      | (with_reducible exact ih0 _ _ _ _)
      | (with_reducible exact plexusref09_Sets.mono _ _ _)
      | (with_reducible exact LeO.refl _)
      | (with_reducible exact LeO.none _)
      | (with_reducible refine LeO.ite ?_ ?_)
      | (with_reducible refine LeO.bind ?_ (fun _ => ?_))
      | exact ih0 _ _ _ _
      | exact plexusref09_Sets.mono _ _ _
      | exact LeO.none _
      | refine LeO.ite ?_ ?_
      | refine LeO.bind ?_ (fun _ => ?_)
set_option maxHeartbeats 8000000 in
set_option maxRecDepth 100000 in
theorem plexusref12_Upto.calls (k : Nat) (a0 : Int) (a1 : Int) (r : List Int) (w : World) (h : plexusref12_Upto.f k a0 a1 = some r) :
    Calls Try.prog 30 #[.int .i64 a0, .int .i64 a1] w fun e w' => ∃ v0_ : Value, e = .returned (v0_) ∧ Kd.R (Kd.int .u64) 31 w' w.heap.size (fun _ => True) v0_ r ∧ Below w.heap.size w w' := by
  have HB := Aside0.mk (Below.refl w.heap.size w)
  have H : (plexusref12_Upto.l0 k a0 a1 (([] : List Int)) 0) = some r := h
  clear h
  obtain ⟨y137, hy137⟩ : ∃ y_ : List Int, y_ = (([] : List Int)) := ⟨_, rfl⟩
  replace H : (plexusref12_Upto.l0 k a0 a1 y137 0) = some r := by first | (rw [hy137]; with_reducible exact H) | (have H2_ := (Option.bind_some _ _).symm.trans H; rw [hy137]; with_reducible exact H2_) | (have H2_ := (Option.bind_some _ _).symm.trans H; with_reducible exact H2_) | with_reducible exact H | (rw [hy137]; exact H) | exact H
  have Ny137 := Aside0.mk hy137
  clear hy137
  have H' := Aside0.mk H
  clear H
  go_enter Try.func30, Try.ntmps30
  go_wp2_with (first | ((with_reducible refine gate_dst (N := 7) rfl ?_); refine Kd.R_lit (Kd.int .u64) _ 31 ?hg (N := 7) ?hd (xs := ([] : List Int)) (inner := []) (ok := fun _ => True) (okp := fun _ => True) ?hr ?hp (fun _ hk => hk) trivial (Below.refl _ _) (Nat.le_refl _) (by simp) ?_; (case hd => rfl); (case hg => rfl); (case hr => first | (go_simp; done) | (go_simp; rfl)); (case hp => exact (Reps.none _ _)); intro v138 w3 ho4 hb hg_ hnew_; clear hg_ hnew_; (first | rw [← Ny137.out] at ho4 | (simp only [Int.reduceToNat] at ho4; rw [← Ny137.out] at ho4)); have n0_ := Aside0.mk (Kd.R_lower ho4 (below_size (by repeat (first | (with_reducible first | exact HB.out | apply below_alloc | apply pw_below_drewN | apply below_drew1) | exact HB.out)))); have n1_ := Aside0.mk (below_step (by repeat (first | (with_reducible first | exact HB.out | apply below_alloc | apply pw_below_drewN | apply below_drew1) | exact HB.out)) hb); clear HB; have HO139 := n0_; have HB := n1_; clear n0_ n1_; clear hb ho4))
  go_loopg [5, 6] k (fun kq v5 v6 w' => ∃ (x5_1 : List Int) (x6_1 : Int), v6 = .int .i64 x6_1 ∧ Aside0 (plexusref12_Upto.l0 kq a0 a1 x5_1 x6_1 = some r) ∧ Aside0 (kq ≤ k) ∧ Aside0 (Kd.R (Kd.int .u64) 31 w' w.heap.size (fun _ => True) v5 x5_1) ∧ Aside0 (Below w.heap.size w w'))
  case atStart => exact ⟨(y137), (0), (by first | rfl | (simp; done) | (simp [*]; done)), H', ⟨Nat.le_refl _⟩, ⟨by (with_reducible repeat (first | apply Kd.R_alloc | apply Kd.R_drewN | apply Kd.R_drew)); exact HO139.out⟩, ⟨by repeat (first | (with_reducible first | exact HB.out | apply below_alloc | apply pw_below_drewN | apply below_drew1) | exact HB.out)⟩⟩
  case round =>
    clear H'
    try clear p2
    try clear c3
    obtain ⟨x5_1, x6_1, rfl, HA, HK1, HO_5, HB⟩ := hrel
    cases gk with
    | zero => exact absurd HA.out (by simp [plexusref12_Upto.l0])
    | succ k1 =>
      have H := HA.out
      clear HA
      simp only [plexusref12_Upto.l0] at H
      by_cases c5 : x6_1 ≤ a1
      · rw [if_pos c5] at H
        have c5b0 : decide (x6_1 ≤ a1) = true := decide_eq_true c5
        clear c5
        replace H := Option.bind_eq_some_iff.mp H
        obtain ⟨t140, A60, H⟩ := H
        replace H : (if x5_1.length + t140.length < 17592186044416 then (plexusref12_Upto.l0 k1 a0 a1 (x5_1 ++ t140) (wrap64 (x6_1 + 1))) else (none)) = some r := H
        have A6 := Aside0.mk A60
        clear A60
        by_cases c7 : x5_1.length + t140.length < 17592186044416
        · rw [if_pos c7] at H
          have LMc7 := Aside0.mk c7
          clear c7
          obtain ⟨y143, hy143⟩ : ∃ y_ : List Int, y_ = (x5_1 ++ t140) := ⟨_, rfl⟩
          replace H : (plexusref12_Upto.l0 k1 a0 a1 y143 (wrap64 (x6_1 + 1))) = some r := by first | (rw [hy143]; with_reducible exact H) | (have H2_ := (Option.bind_some _ _).symm.trans H; rw [hy143]; with_reducible exact H2_) | (have H2_ := (Option.bind_some _ _).symm.trans H; with_reducible exact H2_) | with_reducible exact H | (rw [hy143]; exact H) | exact H
          have Ny143 := Aside0.mk hy143
          clear hy143
          have H' := Aside0.mk H
          clear H
          go_wp2_with (first | ((with_reducible refine gate_callee (f := 48) rfl ?_); refine goesL_ (some 16) rfl rfl Try.func48 (by kernel_rfl) rfl #[.int .i64 a0, .int .i64 x6_1] rfl (by (try simp only [List.map_toArray, List.map_cons, List.map_nil]); first | done | rfl | (simp only [List.length_drop, List.length_take]; rfl)) ?_; (with_reducible refine (plexusref09_Sets.calls k1 a0 x6_1 t140 _ A6.out).mono ?_); rintro e w8 ⟨v141, rfl, ho0, hb⟩; refine ⟨_, rfl, ?_⟩; have n0_ := Aside0.mk (Kd.R_elder' (by (with_reducible repeat (first | apply Kd.R_alloc | apply Kd.R_drewN | apply Kd.R_drew)); exact HO_5.out) (Kd.R_base ho0) hb); have n1_ := Aside0.mk (Kd.R_lower (Kd.R_new' ho0 (Kd.R_lt (by (with_reducible repeat (first | apply Kd.R_alloc | apply Kd.R_drewN | apply Kd.R_drew)); exact HO_5.out))) (below_size (by repeat (first | (with_reducible first | exact HB.out | apply below_alloc | apply pw_below_drewN | apply below_drew1) | exact HB.out)))); have n2_ := Aside0.mk (below_step (by repeat (first | (with_reducible first | exact HB.out | apply below_alloc | apply pw_below_drewN | apply below_drew1) | exact HB.out)) hb); clear HO_5; clear HB; have HO_5 := n0_; have HO142 := n1_; have HB := n2_; clear n0_ n1_ n2_; (try clear hb); (try clear hb2); (try clear hk); (try clear hi); (try clear ho0); obtain ⟨Ao10, co10, eo10⟩ := Kd.R_slice HO142.out; subst eo10) | ((with_reducible refine gate_builtin (b := .append) (xs := #[.tmp 13, .tmp 16]) rfl ?_); at_builtin; refine Kd.R_append_rows (Kd.int .u64) (w0 := w) w.heap.size rfl (.tmp 13) (.tmp 16) 27 31 (.int .u64 0) 8 rfl Try.underlying27 info31 rfl (by decide) (by omega) u5 x5_1 t140 _ _ _ (fun k_ => some k_ ≠ (.slice Ao10 t140.length co10 : Value).ownBlock) (fun _ => False) rfl rfl ?aO ?aR (fun _ _ h => h) (fun _ h => h.elim) ?aF ?aB ?aS ?aL ?_; (case aR => repeat (first | exact (Kd.R_reads' HO142.out).2.2 | (with_reducible refine Kd.C_alloc ?_ _) | (with_reducible refine Kd.C_drewN ?_ _) | (with_reducible refine Kd.C_drew ?_))); (case aB => exact (by repeat (first | (with_reducible first | exact HB.out | apply below_alloc | apply pw_below_drewN | apply below_drew1) | exact HB.out))); (case aF => exact (fun k_ hk => Kd.fresh' (Kd.R_lt (by (with_reducible repeat (first | apply Kd.R_alloc | apply Kd.R_drewN | apply Kd.R_drew)); exact HO142.out)) k_ hk)); (case aO => exact (by (with_reducible repeat (first | apply Kd.R_alloc | apply Kd.R_drewN | apply Kd.R_drew)); exact Kd.R_mono HO_5.out (fun _ hk => hk.2))); (case aS => exact (below_size (by repeat (first | (with_reducible first | exact HB.out | apply below_alloc | apply pw_below_drewN | apply below_drew1) | exact HB.out)))); (case aL => have := LMc7.out; omega); intro v144 w9 ho hb hg hat; rw [← Ny143.out] at ho; have n0_ := Aside0.mk (Kd.R_after (ok := (fun _ => True)) (by (with_reducible repeat (first | apply Kd.R_alloc | apply Kd.R_drewN | apply Kd.R_drew)); exact HO142.out) hg hat); have n1_ := Aside0.mk (hb); have n2_ := Aside0.mk (ho); clear HO142; clear HB; clear HO_5; have HO142 := n0_; have HB := n1_; have HO145 := n2_; clear n0_ n1_ n2_; clear ho hb hg hat))
          go_roundg k1
          case measure => have := HK1.out; omega
          case rel => exact ⟨(y143), (wrap64 (x6_1 + 1)), (by first | rfl | (simp; done) | (simp [*]; done)), H', ⟨by have := HK1.out; omega⟩, ⟨by (with_reducible repeat (first | apply Kd.R_alloc | apply Kd.R_drewN | apply Kd.R_drew)); exact Kd.R_mono HO145.out (fun _ hk => trivial)⟩, ⟨by repeat (first | (with_reducible first | exact HB.out | apply below_alloc | apply pw_below_drewN | apply below_drew1) | exact HB.out)⟩⟩
        · rw [if_neg c7] at H
          exact absurd H (by simp)
      · rw [if_neg c5] at H
        have c5b0 : decide (x6_1 ≤ a1) = false := decide_eq_false c5
        clear c5
        obtain rfl := Option.some.inj H
        go_wp2
        go_ret
        exact ⟨_, by first | rfl | (simp [errW_none, errW_some] <;> rfl) | (simp [*, errW_none, errW_some] <;> rfl), by (with_reducible repeat (first | apply Kd.R_alloc | apply Kd.R_drewN | apply Kd.R_drew)); exact HO_5.out, by repeat (first | (with_reducible first | exact HB.out | apply below_alloc | apply pw_below_drewN | apply below_drew1) | exact HB.out)⟩

/-! ### plexusref06_Bit: function 45 -/
def plexusref06_Bit.f (a0 : Int) (a1 : Int) : Option (Bool) := if 0 ≤ (IntKind.u64.wrap (a1)) then (some ((Go.bits .and .u64 (shr .u64 a0 (IntKind.u64.wrap (a1))) 1) == 1)) else (none)
set_option maxHeartbeats 8000000 in
set_option maxRecDepth 100000 in
theorem plexusref06_Bit.calls (a0 : Int) (a1 : Int) (r : Bool) (w : World) (h : plexusref06_Bit.f a0 a1 = some r) :
    Calls Try.prog 45 #[.int .u64 a0, .int .i64 a1] w fun e w' => e = .returned (.bool r) ∧ Drawn0 w w' := by
  have H : (if 0 ≤ (IntKind.u64.wrap (a1)) then (some ((Go.bits .and .u64 (shr .u64 a0 (IntKind.u64.wrap (a1))) 1) == 1)) else (none)) = some r := h
  clear h
  obtain ⟨ji3, hji3⟩ : ∃ j_ : Int, (IntKind.u64.wrap (a1)) = j_ := ⟨_, rfl⟩
  replace H : (if 0 ≤ (ji3) then (some ((Go.bits .and .u64 (shr .u64 a0 (ji3)) 1) == 1)) else (none)) = some r := by first | (rw [hji3] at H; exact H) | (simp only [hji3] at H ⊢; exact H)
  by_cases c4 : 0 ≤ (ji3)
  · rw [if_pos c4] at H
    have c4b0 := eq_true c4
    have c4b1 : decide (0 ≤ (ji3)) = true := decide_eq_true c4
    clear c4
    obtain ⟨ji5, hji5⟩ : ∃ j_ : Int, (shr .u64 a0 (ji3)) = j_ := ⟨_, rfl⟩
    replace H : (some ((Go.bits .and .u64 (ji5) 1) == 1)) = some r := by first | (rw [hji5] at H; exact H) | (simp only [hji5] at H ⊢; exact H)
    have hji5_ : (a0 / 2 ^ min (ji3).toNat 64) = ji5 := hji5
    have hji5z : (ji3) ≤ 64 → (a0 / 2 ^ (ji3).toNat) = ji5 := shr_small hji5
    obtain rfl := Option.some.inj H
    go_enter Try.func45, Try.ntmps45
    go_wp2
    go_ret
    exact ⟨by first | rfl | (simp; done) | (simp only [← hji3, ← hji5] <;> (first | rfl | simp)) | (simp [*]; done), by repeat (first | exact Drawn0.refl _ | apply Drawn0.step)⟩
  · rw [if_neg c4] at H
    exact absurd H (by simp)

/-! ### plexusref06_Size: function 31 -/
def plexusref06_Size.l0 : Nat → Int → Int → Int → Option (Int)
  | 0, _, _, _ => none
  | k + 1, x0, x3, x4 => if x4 < 64 then ((plexusref06_Bit.f x0 x4).bind fun t146 => (if t146 = true then (plexusref06_Size.l0 k x0 (wrap64 (x3 + 1)) (wrap64 (x4 + 1))) else (plexusref06_Size.l0 k x0 x3 (wrap64 (x4 + 1))))) else (some x3)
def plexusref06_Size.f (k : Nat) (a0 : Int) : Option (Int) := plexusref06_Size.l0 k a0 0 0
theorem plexusref06_Size.mono_l : ∀ k, (∀ y0 y1 y2, LeO (plexusref06_Size.l0 k y0 y1 y2) (plexusref06_Size.l0 (k + 1) y0 y1 y2))
  | 0 => fun _ _ _ r h => by simp [plexusref06_Size.l0] at h
  | k + 1 => by
    have ih0 := plexusref06_Size.mono_l k
    · intro y0 y1 y2
      unfold plexusref06_Size.l0
      repeat' first
      | (with_reducible exact ih0 _ _ _)
      | (with_reducible exact LeO.refl _)
      | (with_reducible exact LeO.none _)
      | (with_reducible refine LeO.ite ?_ ?_)
      | (with_reducible refine LeO.bind ?_ (fun _ => ?_))
      | exact ih0 _ _ _
      | exact LeO.none _
      | refine LeO.ite ?_ ?_
      | refine LeO.bind ?_ (fun _ => ?_)
theorem plexusref06_Size.mono : ∀ a0 k, LeO (plexusref06_Size.f k a0) (plexusref06_Size.f (k + 1) a0) := by
  intro a0 k
  have ih0 := plexusref06_Size.mono_l k
  unfold plexusref06_Size.f
  repeat' first
      | (with_reducible exact ih0 _ _ _)
      | (with_reducible exact LeO.refl _)
      | (with_reducible exact LeO.none _)
      | (with_reducible refine LeO.ite ?_ ?_)
      | (with_reducible refine LeO.bind ?_ (fun _ => ?_))
      | exact ih0 _ _ _
      | exact LeO.none _
      | refine LeO.ite ?_ ?_
      | refine LeO.bind ?_ (fun _ => ?_)
set_option maxHeartbeats 8000000 in
set_option maxRecDepth 100000 in
theorem plexusref06_Size.calls (k : Nat) (a0 : Int) (r : Int) (w : World) (h : plexusref06_Size.f k a0 = some r) :
    Calls Try.prog 31 #[.int .u64 a0] w fun e w' => e = .returned (.int .i64 r) ∧ Drawn0 w w' := by
  have H : (plexusref06_Size.l0 k a0 0 0) = some r := h
  clear h
  have H' := Aside0.mk H
  clear H
  go_enter Try.func31, Try.ntmps31
  go_wp2
  go_loopg [3, 4] k (fun kq v3 v4 w' => ∃ (x3_1 : Int) (x4_1 : Int), v3 = .int .i64 x3_1 ∧ v4 = .int .i64 x4_1 ∧ Aside0 (plexusref06_Size.l0 kq a0 x3_1 x4_1 = some r) ∧ Aside0 (kq ≤ k) ∧ Drawn0 w w')
  case atStart => exact ⟨(0), (0), (by first | rfl | (simp; done) | (simp [*]; done)), (by first | rfl | (simp; done) | (simp [*]; done)), H', ⟨Nat.le_refl _⟩, by repeat (first | exact Drawn0.refl _ | apply Drawn0.step)⟩
  case round =>
    clear H'
    obtain ⟨x3_1, x4_1, rfl, rfl, HA, HK1, ⟨m1, rfl⟩⟩ := hrel
    cases gk with
    | zero => exact absurd HA.out (by simp [plexusref06_Size.l0])
    | succ k1 =>
      have H := HA.out
      clear HA
      simp only [plexusref06_Size.l0] at H
      by_cases c2 : x4_1 < 64
      · rw [if_pos c2] at H
        have c2b0 : decide (x4_1 < 64) = true := decide_eq_true c2
        clear c2
        replace H := Option.bind_eq_some_iff.mp H
        obtain ⟨t146, A30, H⟩ := H
        replace H : (if t146 = true then (plexusref06_Size.l0 k1 a0 (wrap64 (x3_1 + 1)) (wrap64 (x4_1 + 1))) else (plexusref06_Size.l0 k1 a0 x3_1 (wrap64 (x4_1 + 1)))) = some r := H
        have A3 := Aside0.mk A30
        clear A30
        by_cases c4 : t146 = true
        · subst c4
          have H1 : (plexusref06_Size.l0 k1 a0 (wrap64 (x3_1 + 1)) (wrap64 (x4_1 + 1))) = some r := by first | rfl | (rw [if_pos rfl] at H; exact H)
          clear H
          have H := H1
          clear H1
          have H' := Aside0.mk H
          clear H
          go_wp2_with (first | ((with_reducible refine gate_callee (f := 45) rfl ?_); refine goesL_ (some 11) rfl rfl Try.func45 (by kernel_rfl) rfl #[.int .u64 a0, .int .i64 x4_1] rfl (by (try simp only [List.map_toArray, List.map_cons, List.map_nil]); first | done | rfl | (simp only [List.length_drop, List.length_take]; rfl)) ?_; (with_reducible refine (plexusref06_Bit.calls a0 x4_1 true _ A3.out).mono ?_); rintro e w' ⟨rfl, ⟨nd, rfl⟩⟩; refine ⟨_, rfl, ?_⟩))
          go_roundg k1
          case measure => have := HK1.out; omega
          case rel => exact ⟨(wrap64 (x3_1 + 1)), (wrap64 (x4_1 + 1)), (by first | rfl | (simp; done) | (simp [*]; done)), (by first | rfl | (simp; done) | (simp [*]; done)), H', ⟨by have := HK1.out; omega⟩, by repeat (first | exact Drawn0.refl _ | apply Drawn0.step)⟩
        · replace c4 := Bool.eq_false_iff.mpr c4
          subst c4
          have H1 : (plexusref06_Size.l0 k1 a0 x3_1 (wrap64 (x4_1 + 1))) = some r := by first | rfl | (rw [if_neg (show ¬ (false = true) by decide)] at H; exact H)
          clear H
          have H := H1
          clear H1
          have H' := Aside0.mk H
          clear H
          go_wp2_with (first | ((with_reducible refine gate_callee (f := 45) rfl ?_); refine goesL_ (some 11) rfl rfl Try.func45 (by kernel_rfl) rfl #[.int .u64 a0, .int .i64 x4_1] rfl (by (try simp only [List.map_toArray, List.map_cons, List.map_nil]); first | done | rfl | (simp only [List.length_drop, List.length_take]; rfl)) ?_; (with_reducible refine (plexusref06_Bit.calls a0 x4_1 false _ A3.out).mono ?_); rintro e w' ⟨rfl, ⟨nd, rfl⟩⟩; refine ⟨_, rfl, ?_⟩))
          go_roundg k1
          case measure => have := HK1.out; omega
          case rel => exact ⟨(x3_1), (wrap64 (x4_1 + 1)), (by first | rfl | (simp; done) | (simp [*]; done)), (by first | rfl | (simp; done) | (simp [*]; done)), H', ⟨by have := HK1.out; omega⟩, by repeat (first | exact Drawn0.refl _ | apply Drawn0.step)⟩
      · rw [if_neg c2] at H
        have c2b0 : decide (x4_1 < 64) = false := decide_eq_false c2
        clear c2
        obtain rfl := Option.some.inj H
        go_wp2
        go_ret
        exact ⟨by first | rfl | (simp; done) | (simp [*]; done), by repeat (first | exact Drawn0.refl _ | apply Drawn0.step)⟩

end Go.Proofs.Ytmfmlfaglemgfaa.Ps


namespace Go.Proofs.Ytmfmlfaglemgfaa
set_option linter.unusedSimpArgs false
set_option linter.unusedVariables false
open Go.RowKit Go.Lib Go.Proofs.YtmfmlfaglemgfaaW.PrintWords

theorem posN_bit (bs : List Nat) (s : Nat) : ∀ n k, (posN bs s n).testBit k = (decide (k < n) && decide (bs.getD k 0 &&& s ≠ 0)) := by
  intro n
  induction n with
  | zero => intro k; simp [posN]
  | succ n ih =>
    intro k
    rw [posN, Nat.testBit_or, ih]
    by_cases h0 : bs.getD n 0 &&& s = 0
    · rw [if_pos h0, Nat.zero_testBit, Bool.or_false]
      rcases Nat.lt_trichotomy k n with h | h | h
      · simp [h, show k < n + 1 by omega]
      · subst h
        rw [List.getD_eq_getElem?_getD] at h0
        simp [h0]
      · simp [show ¬ k < n by omega, show ¬ k < n + 1 by omega]
    · rw [if_neg h0, Nat.testBit_two_pow]
      rcases Nat.lt_trichotomy k n with h | h | h
      · simp [h, show k < n + 1 by omega, show ¬ n = k by omega]
      · subst h
        rw [List.getD_eq_getElem?_getD] at h0
        simp [h0]
      · simp [show ¬ k < n by omega, show ¬ k < n + 1 by omega, show ¬ n = k by omega]
theorem cnt_mono {x y : Nat} : ∀ n, (∀ k < n, x.testBit k = true → y.testBit k = true) → cnt x n ≤ cnt y n := by
  intro n
  induction n with
  | zero => intro _; exact Nat.le_refl _
  | succ n ih =>
    intro h
    have h1 := ih fun k hk => h k (by omega)
    have h2 := h n (by omega)
    simp only [cnt]
    cases hx : x.testBit n
    · simp; omega
    · rw [h2 hx]; simpa using h1
theorem apI_mem {ls : List Nat} {i : Nat} {x : Int} (hi : i < ls.length) : x ∈ apI ls i ↔ ∃ k < i, x = ((cnt (ls.getD i 0 ^^^ ls.getD k 0) 64 : Nat) : Int) := by
  unfold apI
  rw [List.mem_map]
  constructor
  · rintro ⟨b, hb, rfl⟩
    obtain ⟨k, hk, e⟩ := List.getElem_of_mem hb
    rw [List.length_take] at hk
    refine ⟨k, by omega, ?_⟩
    rw [List.getElem_take] at e
    rw [show ls.getD k 0 = b from by rw [List.getD_eq_getElem?_getD, List.getElem?_eq_getElem (by omega)]; simpa using e]
  · rintro ⟨k, hk, rfl⟩
    refine ⟨ls.getD k 0, ?_, rfl⟩
    rw [List.getD_eq_getElem?_getD, List.getElem?_eq_getElem (show k < ls.length by omega)]
    exact List.mem_take_iff_getElem.2 ⟨k, by omega, rfl⟩
theorem apartL_mem {ls : List Nat} {x : Int} : ∀ {n : Nat}, n ≤ ls.length → (x ∈ apartL ls n ↔ ∃ i < n, ∃ k < i, x = ((cnt (ls.getD i 0 ^^^ ls.getD k 0) 64 : Nat) : Int)) := by
  intro n
  induction n with
  | zero => intro _; simp [apartL]
  | succ n ih =>
    intro h
    rw [apartL, List.mem_append, ih (by omega), apI_mem (by omega)]
    constructor
    · rintro (⟨i, hi, h9⟩ | h9)
      · exact ⟨i, by omega, h9⟩
      · exact ⟨n, by omega, h9⟩
    · rintro ⟨i, hi, h9⟩
      rcases Nat.lt_or_ge i n with h1 | h1
      · exact .inl ⟨i, h1, h9⟩
      · obtain rfl : i = n := by omega
        exact .inr h9
/-- The distances of a listing without repetitions: of any two different members. -/
theorem apart_ge {f : Nat → Nat} {L : List Nat} (hn : L.Nodup) {t : Int} : (∀ x ∈ apartL (L.map f) (L.map f).length, t ≤ x) ↔ ∀ a ∈ L, ∀ b ∈ L, a ≠ b → t ≤ ((cnt (f a ^^^ f b) 64 : Nat) : Int) := by
  have hg : ∀ i (h : i < L.length), (L.map f).getD i 0 = f L[i] := fun i h => by rw [List.getD_eq_getElem?_getD, List.getElem?_map, List.getElem?_eq_getElem h]; rfl
  constructor
  · intro h a ha b hb hab
    obtain ⟨i, hi, rfl⟩ := List.getElem_of_mem ha
    obtain ⟨k, hk, rfl⟩ := List.getElem_of_mem hb
    rcases Nat.lt_trichotomy i k with h1 | h1 | h1
    · have := h _ ((apartL_mem (Nat.le_refl _)).2 ⟨k, by rw [List.length_map]; exact hk, i, h1, rfl⟩)
      rw [hg k hk, hg i hi, Nat.xor_comm] at this
      exact this
    · subst h1; exact absurd rfl hab
    · have := h _ ((apartL_mem (Nat.le_refl _)).2 ⟨i, by rw [List.length_map]; exact hi, k, h1, rfl⟩)
      rw [hg k hk, hg i hi] at this
      exact this
  · intro h x hx
    obtain ⟨i, hi, k, hk, rfl⟩ := (apartL_mem (Nat.le_refl _)).1 hx
    rw [List.length_map] at hi
    rw [hg i hi, hg k (by omega)]
    refine h _ (List.getElem_mem _) _ (List.getElem_mem _) fun e => ?_
    exact (List.pairwise_iff_getElem.1 hn) k i (by omega) hi hk e.symm
theorem mlist_eq {a : Int} {xs ys : List Int} (h : ∀ t, (∀ x ∈ xs, t ≤ x) ↔ ∀ x ∈ ys, t ≤ x) : mlist a xs = mlist a ys := by
  have h1 := (mlist_le (t := mlist a xs) xs a).1 (Int.le_refl _)
  have h2 := (mlist_le (t := mlist a ys) ys a).1 (Int.le_refl _)
  exact Int.le_antisymm ((mlist_le ys a).2 ⟨h1.1, (h _).1 h1.2⟩) ((mlist_le xs a).2 ⟨h2.1, (h _).2 h2.2⟩)

-- the listings of sets, as the two programs make them
def setsOk : Bool := (List.range 8).all fun V => (List.range 4).all fun D =>
  let U := upL D 0 (2 ^ V - 1)
  decide U.Nodup && U.all (fun x => decide (x < 2 ^ V)) && (List.range V).all fun i => U.all fun b => b.testBit i || (upL D 0 (aN (2 ^ V - 1) (2 ^ i))).elem b
theorem setsOk_true : setsOk = true := by decide +kernel
theorem sets_ok {V D : Nat} (hV : V ≤ 7) (hD : D ≤ 3) : (upL D 0 (2 ^ V - 1)).Nodup ∧ (∀ x ∈ upL D 0 (2 ^ V - 1), x < 2 ^ V) ∧ ∀ i < V, ∀ b ∈ upL D 0 (2 ^ V - 1), b.testBit i = false → b ∈ upL D 0 (aN (2 ^ V - 1) (2 ^ i)) := by
  have h := List.all_eq_true.1 setsOk_true V (List.mem_range.2 (by omega))
  have h := List.all_eq_true.1 h D (List.mem_range.2 (by omega))
  simp only [Bool.and_eq_true, decide_eq_true_eq] at h
  obtain ⟨⟨h1, h2⟩, h3⟩ := h
  refine ⟨h1, fun x hx => by simpa using List.all_eq_true.1 h2 x hx, fun i hi b hb hbi => ?_⟩
  have h4 := List.all_eq_true.1 (List.all_eq_true.1 h3 i (List.mem_range.2 hi)) b hb
  rw [hbi, Bool.false_or] at h4
  exact List.elem_iff.1 h4
def uptoOk : Bool := (List.range 8).all fun V => (List.range 4).all fun D =>
  match Ps.plexusref12_Upto.f 400 V D with
  | some l => decide (D > V) || (l.all (fun x => decide (0 ≤ x)) && decide (l.length ≤ 64) && decide (nl l).Nodup && (nl l).all (fun x => (upL D 0 (2 ^ V - 1)).elem x) && (upL D 0 (2 ^ V - 1)).all (fun x => (nl l).elem x))
  | none => false
theorem uptoOk_true : uptoOk = true := by decide +kernel
theorem upto_ok {V D : Nat} (hV : V ≤ 7) (hD : D ≤ 3) (hDV : D ≤ V) : ∃ L : List Nat, Ps.plexusref12_Upto.f 400 V D = some (il L) ∧ L.length ≤ 64 ∧ L.Nodup ∧ ∀ x, x ∈ L ↔ x ∈ upL D 0 (2 ^ V - 1) := by
  have h := List.all_eq_true.1 uptoOk_true V (List.mem_range.2 (by omega))
  have h := List.all_eq_true.1 h D (List.mem_range.2 (by omega))
  cases hf : Ps.plexusref12_Upto.f 400 V D with
  | none => rw [hf] at h; cases h
  | some l =>
    rw [hf] at h
    simp only [Bool.and_eq_true, Bool.or_eq_true, decide_eq_true_eq] at h
    rcases h with h | ⟨⟨⟨⟨h1, h2⟩, h3⟩, h4⟩, h5⟩
    · omega
    · refine ⟨nl l, by rw [il_nl fun b hb => by simpa using List.all_eq_true.1 h1 b hb], by rw [nl_length]; exact h2, h3, fun x => ⟨fun hx => List.elem_iff.1 (List.all_eq_true.1 h4 x hx), fun hx => List.elem_iff.1 (List.all_eq_true.1 h5 x hx)⟩⟩
/-- SEPARATION. -/
theorem separation {V D : Nat} {bs : List Nat} (hV : V ≤ 7) (hD : D ≤ 3) (hn : bs.length ≤ 14) : slackN V D bs ≤ apartN V D bs := by
  obtain ⟨hnd, hlt, hmem⟩ := sets_ok hV hD
  unfold apartN apartS
  rw [mlist_le]
  have hs := (mlist_le (t := slackN V D bs) (slackL V D bs V) (bs.length : Int)).1 (Int.le_refl _)
  refine ⟨by have := hs.1; omega, (apart_ge hnd).2 fun a ha b hb hab => ?_⟩
  have key : ∀ a ∈ upL D 0 (2 ^ V - 1), ∀ b ∈ upL D 0 (2 ^ V - 1), ∀ i < V, a.testBit i = true → b.testBit i = false → slackN V D bs ≤ ((cnt (posN bs a bs.length ^^^ posN bs b bs.length) 64 : Nat) : Int) := by
    intro a ha b hb i hi hai hbi
    have h1 := hs.2 (slk bs i b) (slackL_mem.2 ⟨i, hi, List.mem_map.2 ⟨b, hmem i hi b hb hbi, rfl⟩⟩)
    refine Int.le_trans h1 ?_
    unfold slk
    refine Int.ofNat_le.2 (cnt_mono 64 fun k hk h => ?_)
    unfold aN at h
    rw [Nat.testBit_and, show 18446744073709551615 - posN bs b bs.length = 2 ^ 64 - (posN bs b bs.length + 1) by omega, Nat.testBit_two_pow_sub_succ (Nat.lt_of_lt_of_le (posN_lt bs b bs.length) (Nat.pow_le_pow_right (by decide) (by omega)))] at h
    simp only [Bool.and_eq_true, Bool.not_eq_true', decide_eq_true_eq] at h
    obtain ⟨h2, _, h3⟩ := h
    rw [Nat.testBit_xor, h3, Bool.xor_false]
    rw [posN_bit] at h2 ⊢
    simp only [Bool.and_eq_true, decide_eq_true_eq] at h2 ⊢
    refine ⟨h2.1, fun h0 => h2.2 ?_⟩
    apply Nat.eq_of_testBit_eq
    intro j
    rw [Nat.testBit_and, Nat.testBit_two_pow, Nat.zero_testBit]
    by_cases hj : i = j
    · subst hj
      have := congrArg (fun z => Nat.testBit z i) h0
      simp only [Nat.testBit_and, hai, Bool.and_true, Nat.zero_testBit] at this
      rw [this]; rfl
    · simp [hj]
  obtain ⟨i, hi⟩ := Nat.exists_testBit_ne_of_ne hab
  have hiV : i < V := by
    rcases Nat.lt_or_ge i V with h | h
    · exact h
    · exfalso
      apply hi
      rw [Nat.testBit_lt_two_pow (Nat.lt_of_lt_of_le (hlt a ha) (Nat.pow_le_pow_right (by decide) h)), Nat.testBit_lt_two_pow (Nat.lt_of_lt_of_le (hlt b hb) (Nat.pow_le_pow_right (by decide) h))]
  cases h1 : a.testBit i
  · cases h2 : b.testBit i
    · rw [h1, h2] at hi; exact absurd rfl hi
    · rw [Nat.xor_comm]; exact key b hb a ha i hiV h2 h1
  · cases h2 : b.testBit i
    · exact key a ha b hb i hiV h1 h2
    · rw [h1, h2] at hi; exact absurd rfl hi
end Go.Proofs.Ytmfmlfaglemgfaa


namespace Go.Proofs.Ytmfmlfaglemgfaa
set_option linter.unusedSimpArgs false
set_option linter.unusedVariables false
open Go.RowKit Go.Lib Go.Proofs.YtmfmlfaglemgfaaW.PrintWords
theorem posN_or (bs : List Nat) (a b n : Nat) : posN bs (a ||| b) n = posN bs a n ||| posN bs b n := by
  apply Nat.eq_of_testBit_eq
  intro k
  rw [Nat.testBit_or, posN_bit, posN_bit, posN_bit]
  by_cases hk : k < n
  · have h : (bs.getD k 0 &&& (a ||| b) ≠ 0) ↔ (bs.getD k 0 &&& a ≠ 0 ∨ bs.getD k 0 &&& b ≠ 0) := by
      rw [Nat.and_or_distrib_left]
      constructor
      · intro h
        by_cases h1 : bs.getD k 0 &&& a = 0
        · right; intro h2; rw [h1, h2] at h; exact h rfl
        · exact .inl h1
      · rintro (h | h) h0
        · exact h (Nat.or_eq_zero_iff.1 h0).1
        · exact h (Nat.or_eq_zero_iff.1 h0).2
    have : decide (bs.getD k 0 &&& (a ||| b) ≠ 0) = (decide (bs.getD k 0 &&& a ≠ 0) || decide (bs.getD k 0 &&& b ≠ 0)) := by
      rw [← Bool.decide_or]; exact decide_eq_decide.2 h
    rw [this]
    simp [hk]
  · simp [hk]
/-- The tests that tell an item from a set, counted. -/
def tells (i s b : Nat) : Bool := decide (b &&& 2 ^ i ≠ 0) && decide (b &&& s = 0)
theorem cnt_bits {x : Nat} (p : Nat → Bool) : ∀ n, (∀ k < n, x.testBit k = p k) → cnt x n = (List.range n).countP p := by
  intro n
  induction n with
  | zero => intro _; rfl
  | succ n ih =>
    intro h
    rw [cnt, ih fun k hk => h k (by omega), List.range_succ, List.countP_append, h n (by omega)]
    simp [List.countP_cons]
theorem countP_range (p : Nat → Bool) (bs : List Nat) : (List.range bs.length).countP (fun k => p (bs.getD k 0)) = bs.countP p := by
  induction bs with
  | nil => rfl
  | cons b r ih =>
    rw [List.length_cons, List.range_succ_eq_map, List.countP_cons, List.countP_map, List.countP_cons]
    have : ((fun k => p ((b :: r).getD k 0)) ∘ Nat.succ) = fun k => p (r.getD k 0) := by funext k; simp
    rw [this, ih]
    simp
theorem cnt_high {x n : Nat} : ∀ d, (∀ k, n ≤ k → x.testBit k = false) → cnt x (n + d) = cnt x n := by
  intro d
  induction d with
  | zero => intro _; rfl
  | succ d ih => intro h; rw [← Nat.add_assoc, cnt, ih h, h (n + d) (by omega)]; simp
theorem slk_count {bs : List Nat} (hn : bs.length ≤ 64) (i s : Nat) : slk bs i s = ((bs.countP (tells i s) : Nat) : Int) := by
  unfold slk
  have hb : ∀ k, (aN (posN bs (2 ^ i) bs.length) (posN bs s bs.length)).testBit k = (decide (k < bs.length) && tells i s (bs.getD k 0)) := by
    intro k
    have hlt := posN_lt bs s bs.length
    have h64 : posN bs s bs.length < 2 ^ 64 := Nat.lt_of_lt_of_le hlt (Nat.pow_le_pow_right (by decide) hn)
    unfold aN
    rw [Nat.testBit_and, show 18446744073709551615 - posN bs s bs.length = 2 ^ 64 - (posN bs s bs.length + 1) by omega, Nat.testBit_two_pow_sub_succ h64, posN_bit, posN_bit]
    by_cases hk : k < bs.length
    · have : decide (k < 64) = true := by simp; omega
      rw [this]
      simp [hk, tells]
    · simp [hk]
  rw [show (64 : Nat) = bs.length + (64 - bs.length) by omega, cnt_high (n := bs.length) _ (fun k hk => by rw [hb]; simp; omega), cnt_bits (fun k => tells i s (bs.getD k 0)) bs.length (fun k hk => by rw [hb]; simp [hk]), countP_range]
theorem withL_permO (bs : List Nat) (b : Nat) : (withL bs b).Perm (b :: bs) := by
  unfold withL
  rw [List.append_assoc]
  have := List.perm_middle (a := b) (l₁ := bs.take (wat bs b)) (l₂ := bs.drop (wat bs b))
  rwa [List.take_append_drop] at this
/-- With a test more the slack is not less. -/
theorem slackN_test {V d t : Nat} {bs : List Nat} (hn : bs.length ≤ 60) : slackN V d bs ≤ slackN V d (withL bs t) := by
  unfold slackN
  rw [mlist_le, withL_length]
  have h := (mlist_le (t := mlist bs.length (slackL V d bs V)) (slackL V d bs V) (bs.length : Int)).1 (Int.le_refl _)
  refine ⟨by have := h.1; omega, fun x hx => ?_⟩
  obtain ⟨i, hi, hx⟩ := slackL_mem.1 hx
  unfold slackI at hx
  obtain ⟨s, hs, rfl⟩ := List.mem_map.1 hx
  refine Int.le_trans (h.2 (slk bs i s) (slackL_mem.2 ⟨i, hi, List.mem_map.2 ⟨s, hs, rfl⟩⟩)) ?_
  rw [slk_count (by omega), slk_count (by rw [withL_length]; omega), ((withL_permO bs t).countP_eq _), List.countP_cons]
  omega
/-- With more false results the best number is not greater. -/
theorem best_more {V D E : Nat} {bs : List Nat} (h : Pd.Mp V bs D E) (he : E ≤ 2) : ∃ b b' : Nat, Pd.disjunct_Best.f 5 V (il bs) D E = some ((b : Int) - 1) ∧ Pd.disjunct_Best.f 5 V (il bs) D ((E + 1 : Nat) : Int) = some ((b' : Int) - 1) ∧ b' ≤ b := by
  obtain ⟨b, h1, h2, h3, h4⟩ := Pd.best_f h
  obtain ⟨b', h5, h6, h7, h8⟩ := Pd.best_f (h.more he)
  refine ⟨b, b', h1, h5, ?_⟩
  rcases Nat.lt_or_ge b b' with hlt | hge
  · exfalso
    have hd : b ≤ 3 := by omega
    have hv : b ≤ V := by omega
    have := (h8 b hd hv).2 hlt
    have := (h4 b hd hv).1 (by push_cast at this ⊢; omega)
    omega
  · exact hge
end Go.Proofs.Ytmfmlfaglemgfaa
