/- What plexusref42's Made and Done give, and what the lists of an embedding along a list are; in plain Lean, no walk in sight. -/
/- An embedding along a list: its blocks' images, and that they differ; the fold of the best one; in plain Lean. -/
import Derived.Test.YtheclfjbedajfaaPdx9
import Derived.Test.YtheclfjbedajfaaPdx10
import Derived.Test.YtheclfjbedajfaaGe
namespace Go.Proofs.Ytheclfjbedajfaa
set_option linter.unusedSimpArgs false
set_option linter.unusedVariables false
open Go.RowKit Go.Lib Go.Proofs.YtheclfjbedajfaaW.PrintWords Go.Proofs.YtheclfjbedajfaaW.PrintMore

theorem wrap_idE {x : Int} (h1 : -9223372036854775808 ≤ x) (h2 : x ≤ 9223372036854775807) : wrap64 x = x := by unfold wrap64; omega
theorem mask_E {V : Nat} (h : V ≤ 7) : IntKind.u64.wrap ((shl .u64 1 (IntKind.u64.wrap (V : Int))) - 1) = ((2 ^ V - 1 : Nat) : Int) ∧ 0 ≤ IntKind.u64.wrap (V : Int) := by
  rcases (show V = 0 ∨ V = 1 ∨ V = 2 ∨ V = 3 ∨ V = 4 ∨ V = 5 ∨ V = 6 ∨ V = 7 by omega) with rfl | rfl | rfl | rfl | rfl | rfl | rfl | rfl <;> decide
theorem small7E {V : Nat} (h : V ≤ 7) : 2 ^ V ≤ 128 := Nat.pow_le_pow_right (by decide) h
theorem limB_memE {l : List Nat} {m : Nat} (hm1 : 1 ≤ m) (hm7 : m ≤ 7) : ∀ b ∈ limB l m, b < 2 ^ limV l m := fun b hb =>
  limRaw_lt hm1 hm7 b (List.mem_of_mem_take ((sortedL_permE _).mem_iff.1 hb))
theorem limB_lenE {l : List Nat} {m : Nat} : (limB l m).length ≤ 10 := by
  show (sortedL ((limRaw l m).take 10)).length ≤ 10
  rw [sortedL_len, List.length_take]; omega
theorem limB_sorted {l : List Nat} {m : Nat} : (limB l m).Pairwise (· ≤ ·) := sortedL_sorted _
theorem withL_sortedE {bs : List Nat} {b : Nat} (h : bs.Pairwise (· ≤ ·)) : (withL bs b).Pairwise (· ≤ ·) := by
  have : withL bs b = sortedL (bs ++ [b]) := by
    rw [sortedL_snoc]
    congr 1
    exact List.Perm.eq_of_pairwise (le := (· ≤ ·)) (fun _ _ _ _ h1 h2 => Nat.le_antisymm h1 h2) h (sortedL_sorted bs) (sortedL_permE bs).symm
  rw [this]
  exact sortedL_sorted _
theorem shL_perm (l : List Nat) : ∀ n, (shL l n).Perm (List.range n)
  | 0 => List.Perm.refl _
  | n + 1 => by
    rw [shL, List.append_assoc, List.range_succ, List.singleton_append]
    refine (List.perm_middle (a := n) (l₁ := (shL l n).take (shAt l n)) (l₂ := (shL l n).drop (shAt l n))).trans ?_
    rw [List.take_append_drop]
    refine ((shL_perm l n).cons n).trans ?_
    exact (List.perm_append_singleton n (List.range n)).symm
theorem diffB_nat {gs : List Nat} {n : Nat} (h1 : ∀ q ∈ gs, q < n) (h2 : gs.Nodup) : diffB (il gs) (n : Int) = true := diffB_iff.2 ⟨fun x hx => by
    obtain ⟨i, hi, rfl⟩ := List.mem_map.1 hx
    have := h1 i hi
    exact ⟨by simp, by simpa using this⟩, by
    unfold il List.Nodup; rw [List.pairwise_map]; exact h2.imp (fun h e => h (by omega))⟩
theorem shL_nodup (l : List Nat) (n : Nat) : (shL l n).Nodup := (shL_perm l n).nodup_iff.2 List.nodup_range
theorem shL_lt (l : List Nat) (n : Nat) : ∀ q ∈ shL l n, q < n := fun q hq => List.mem_range.1 ((shL_perm l n).mem_iff.1 hq)
/-- Two structures as Made makes them. -/
structure MpE (V U : Nat) (A C : List Nat) : Prop where
  v1 : 1 ≤ V
  v4 : V ≤ 4
  u1 : 1 ≤ U
  u6 : U ≤ 6
  al : A.length ≤ 10
  cl : C.length ≤ 14
  ab : ∀ b ∈ A, b < 2 ^ V
  cb : ∀ b ∈ C, b < 2 ^ U
  so : A.Pairwise (· ≤ ·)
  sc : C.Pairwise (· ≤ ·)
theorem rd_nl {m : List Int} (hm : okL 256 m = true) {j : Nat} (hj : j < m.length) : ∃ t : Nat, rd m (j : Int) = t ∧ t < 256 := by
  have h := (okL_iff.1 hm) (rd m j) (by
    unfold rd
    rw [List.getD_eq_getElem?_getD, Int.toNat_natCast, List.getElem?_eq_getElem hj]
    exact List.getElem_mem hj)
  exact ⟨(rd m j).toNat, by omega, by omega⟩
theorem il_take (l : List Nat) (k : Nat) : (il l).take k = il (l.take k) := by simp [il, List.map_take]
theorem il_drop (l : List Nat) (k : Nat) : (il l).drop k = il (l.drop k) := by simp [il, List.map_drop]
theorem il_app (l r : List Nat) : il l ++ il r = il (l ++ r) := by simp [il]
theorem wrap_succ {j : Nat} (h : j < 1000) : wrap64 ((j : Int) + 1) = ((j + 1 : Nat) : Int) := by rw [wrap_idE] <;> omega
theorem mask_and {t U : Nat} (ht : t < 256) (hU : U ≤ 6) : Go.bits .and .u64 (IntKind.u64.wrap (t : Int)) (IntKind.u64.wrap ((shl .u64 1 (IntKind.u64.wrap (U : Int))) - 1)) = ((t &&& (2 ^ U - 1) : Nat) : Int) := by
  have h7 := small7E (show U ≤ 7 by omega)
  rw [(mask_E (by omega)).1, wrapU_nat (by omega), uand (by omega) (by omega)]
theorem mask_lt {t U : Nat} : t &&& (2 ^ U - 1) < 2 ^ U := by
  have := Nat.two_pow_pos U
  rw [Nat.and_two_pow_sub_one_eq_mod]; exact Nat.mod_lt _ (by omega)
theorem with_fE {C : List Nat} {x U : Nat} (hU : U ≤ 6) (hb : ∀ b ∈ C, b < 2 ^ U) (hl : C.length ≤ 100) (hx : x < 2 ^ U) : Pd.plexusref06_With.f (il C) (x : Int) = some (il (withL C x)) := by
  have h7 := small7E (show U ≤ 7 by omega)
  unfold Pd.plexusref06_With.f
  rw [if_pos ⟨by rw [il_length]; omega, okL_il fun b hbb => Nat.lt_of_lt_of_le (hb b hbb) (by omega), by omega, by omega⟩, nl_il, Int.toNat_natCast]
theorem tmod_f {t n p : Nat} (h : t % n = p) (ht : t < 256) : Int.tmod (wrap64 (t : Int)) (n : Int) = (p : Int) := by
  rw [wrap_idE (by omega) (by omega), Int.tmod_eq_emod_of_nonneg (by omega), ← h]; simp
theorem dec4 {j : Nat} (h : j < 4) : decide ((j : Int) < 4) = true := by simp; omega
theorem cut_facts {U p : Nat} {C : List Nat} (hb : ∀ b ∈ C, b < 2 ^ U) (hs : C.Pairwise (· ≤ ·)) (hp : p < C.length) : (∀ b ∈ C.take p ++ C.drop (p + 1), b < 2 ^ U) ∧ (C.take p ++ C.drop (p + 1)).length ≤ C.length ∧ (C.take p ++ C.drop (p + 1)).Pairwise (· ≤ ·) := by
  refine ⟨fun b hbb => ?_, by rw [List.length_append, List.length_take, List.length_drop]; omega, hs.sublist ?_⟩
  · rcases List.mem_append.1 hbb with h | h
    · exact hb b (List.mem_of_mem_take h)
    · exact hb b (List.mem_of_mem_drop h)
  · conv => rhs; rw [← List.take_append_drop p C]
    exact List.Sublist.append_left (List.drop_sublist_drop_left C (Nat.le_succ p)) _
theorem with_facts {U x : Nat} {C : List Nat} (hb : ∀ b ∈ C, b < 2 ^ U) (hs : C.Pairwise (· ≤ ·)) (hx : x < 2 ^ U) : (∀ b ∈ withL C x, b < 2 ^ U) ∧ (withL C x).length ≤ C.length + 1 ∧ (withL C x).Pairwise (· ≤ ·) :=
  ⟨fun b hbb => by
    rcases withL_mem.1 hbb with rfl | h
    · exact hx
    · exact hb b h, by rw [withL_length]; omega, withL_sortedE hs⟩
theorem nnI (n : Nat) : (0 : Int) ≤ (n : Int) := Int.natCast_nonneg n
theorem ltI {a b : Nat} (h : a < b) : (a : Int) < (b : Int) := by omega
theorem leI {a b : Nat} (h : a ≤ b) : (a : Int) ≤ (b : Int) := by omega
theorem cut_len {p : Nat} {C : List Nat} (h : C.length ≤ 100) : ([] : List Int).length + (List.take p (il C)).length < 17592186044416 ∧ ([] ++ List.take p (il C)).length + (List.drop (p + 1) (il C)).length < 17592186044416 := by
  have hl := il_length C
  constructor
  · rw [List.length_nil, List.length_take]; omega
  · rw [List.length_append, List.length_nil, List.length_take, List.length_drop]; omega
theorem posI {n : Nat} (h : (n : Int) > 0) : 0 < n := by omega
theorem posI' {n : Nat} (h : (n : Int) > 0) : ¬ ((n : Int) = 0) := by omega
theorem ltI' {a b : Nat} (h : (a : Int) < (b : Int)) : a < b := by omega
theorem made_loop {U : Nat} (hU : U ≤ 6) (V : Int) (A x0 x1 x3 m : List Int) (x2 : Int) (hm : okL 256 m = true) :
    ∀ (n j : Nat) (C : List Nat), j + n = 4 → (∀ b ∈ C, b < 2 ^ U) → C.length ≤ 10 + j → C.Pairwise (· ≤ ·) →
      ∃ C', Pd.plexusref42_Made.l0 (2 * n + 2) U j x0 x1 x2 x3 m V A U (il C) = some (V, A, (U : Int), il C') ∧ (∀ b ∈ C', b < 2 ^ U) ∧ C'.length ≤ 14 ∧ C'.Pairwise (· ≤ ·) := by
  intro n
  induction n with
  | zero =>
    intro j C hj hb hl hs
    obtain rfl : j = 4 := by omega
    refine ⟨C, ?_, hb, by omega, hs⟩
    unfold Pd.plexusref42_Made.l0
    split <;> (unfold Pd.plexusref42_Made.j1; simp)
  | succ n ih =>
    intro j C hj hb hl hs
    have hj4 : j < 4 := by omega
    have hw1 := wrap_succ (j := j) (by omega)
    have hC100 : C.length ≤ 100 := by omega
    have hj' : j + 1 + n = 4 := by omega
    have hl1 : C.length + 1 ≤ 10 + (j + 1) := by omega
    have hl2 : C.length ≤ 10 + (j + 1) := by omega
    have hU7 : U ≤ 7 := by omega
    rw [show 2 * (n + 1) + 2 = (2 * n + 2 + 1) + 1 from by omega]
    unfold Pd.plexusref42_Made.l0
    by_cases h1 : (j : Int) < (m.length : Int)
    · have hjm : j < m.length := ltI' h1
      obtain ⟨t, ht, ht2⟩ := rd_nl hm hjm
      rw [if_pos h1, dec4 hj4]
      unfold Pd.plexusref42_Made.j1
      rw [if_pos rfl, if_pos (nnI j), if_pos h1, ht]
      have hx := mask_lt (t := t) (U := U)
      have hm1 := mask_and ht2 hU
      have hm2 := (mask_E (V := U) hU7).2
      obtain ⟨x, hxe⟩ : ∃ x, t &&& (2 ^ U - 1) = x := ⟨_, rfl⟩
      rw [hxe] at hx hm1
      have hw := with_fE hU hb hC100 hx
      obtain ⟨f1, f2, f3⟩ := with_facts hb hs hx
      obtain ⟨C1, hC1, k2, k3, k4⟩ := ih (j + 1) (withL C x) hj' f1 (Nat.le_trans f2 hl1) f3
      by_cases h128 : (t : Int) ≥ 128
      · rw [if_pos h128, il_length]
        by_cases hne : (C.length : Int) > 0
        · have hc0 : 0 < C.length := posI hne
          obtain ⟨p, hp⟩ : ∃ p, t % C.length = p := ⟨_, rfl⟩
          have hpl : p < C.length := by rw [← hp]; exact Nat.mod_lt _ hc0
          have e1 := tmod_f hp ht2
          have e2 := wrap_succ (j := p) (Nat.lt_of_lt_of_le hpl (Nat.le_trans hC100 (by decide)))
          obtain ⟨g1, g2, g3⟩ := cut_facts hb hs hpl
          obtain ⟨C2, hC2, q2, q3, q4⟩ := ih (j + 1) (C.take p ++ C.drop (p + 1)) hj' g1 (Nat.le_trans g2 hl2) g3
          obtain ⟨c1, c2⟩ := cut_len (p := p) hC100
          have hc0' : ¬ ((C.length : Int) = 0) := posI' hne
          rw [if_pos hne, if_neg hc0', Option.bind_some, e1, if_pos (nnI p), if_pos (leI (Nat.le_of_lt hpl)), Option.bind_some, Int.toNat_natCast, if_pos c1, Option.bind_some, e2, if_pos (nnI _), if_pos (leI hpl), Option.bind_some, Int.toNat_natCast, if_pos c2, hw1]
          refine ⟨C2, ?_, q2, q3, q4⟩
          rw [← hC2, List.nil_append, il_take, il_drop, il_app]
        · rw [if_neg hne, if_pos hm2, hm1, hw, Option.bind_some, hw1]
          exact ⟨C1, hC1, k2, k3, k4⟩
      · rw [if_neg h128, if_pos hm2, hm1, hw, Option.bind_some, hw1]
        exact ⟨C1, hC1, k2, k3, k4⟩
    · rw [if_neg h1]
      unfold Pd.plexusref42_Made.j1
      exact ⟨C, by simp, hb, by omega, hs⟩
theorem shuf_fE {U : Nat} (hU : U ≤ 60) {l3 : List Int} (g3 : l3.length < 2 ^ 63) (h3 : okL 256 l3 = true) : Pd.plexusref06_Shuffled.f (U : Int) l3 = some (il (shL (nl l3) U)) := by
  have h1 : (U : Int) < 1048576 := by omega
  unfold Pd.plexusref06_Shuffled.f
  exact if_pos ⟨g3, h3, nnI U, h1⟩
theorem image_fE {U : Nat} (hU : U ≤ 60) {A gs : List Nat} (hal : A.length ≤ 100) (hab : ∀ b ∈ A, b < 2 ^ 60) (hgl : gs.length = U) (hq : ∀ q ∈ gs, q < U) (hn : gs.Nodup) : Pd.plexusref06_Image.f (U : Int) (il A) (il gs) = some ((U : Int), il (imL A gs)) := by
  have h1 : (il A).length < 1099511627776 := by rw [il_length]; omega
  have h2 : okL 18446744073709551616 (il A) = true := okL_il fun b hb => Nat.lt_trans (hab b hb) (by decide)
  have h3 : diffB (il gs) (il gs).length = true := by rw [il_length, hgl]; exact diffB_nat hq hn
  have h4 : (U : Int) = (il gs).length := by rw [il_length, hgl]
  have h5 : (il gs).length ≤ 60 := by rw [il_length, hgl]; exact hU
  unfold Pd.plexusref06_Image.f
  rw [if_pos ⟨h1, h2, h3, h4, h5⟩, nl_il, nl_il]
theorem uE {V U c : Nat} (h : V ≤ 4) (hU : V + c / 3 % 256 % 3 = U) : U ≤ 6 := by omega
theorem uE1 {V U c : Nat} (h : 1 ≤ V) (hU : V + c / 3 % 256 % 3 = U) : 1 ≤ U := by omega
theorem uE2 {V U c : Nat} (h : V ≤ 4) (hU : V + c / 3 % 256 % 3 = U) : wrap64 ((V : Int) + (((Int.tdiv (c : Int) 3) % 256) % 3)) = (U : Int) := by
  rw [Int.tdiv_eq_ediv_of_nonneg (nnI c), wrap_idE (by omega) (by omega)]; omega
theorem made42 {l0 l1 l3 l4 : List Int} {a : Int} (g0 : l0.length < 2 ^ 63) (g1 : l1.length < 2 ^ 63) (g3 : l3.length < 2 ^ 63) (h0 : okL 256 l0 = true) (h1 : okL 256 l1 = true) (h3 : okL 256 l3 = true) (h4 : okL 256 l4 = true) (ha : 0 ≤ a) (ha2 : a < 256) :
    ∃ (V U : Nat) (A C : List Nat), Pd.plexusref42_Made.f 10 l0 l1 a l3 l4 = some ((V : Int), il A, (U : Int), il C) ∧ MpE V U A C := by
  obtain ⟨c, rfl⟩ := Int.eq_ofNat_of_zero_le ha
  clear ha ha2
  obtain ⟨hv1, hv4⟩ := limV_bd (nl l0) 4 (by decide)
  obtain ⟨V, hV⟩ : ∃ V, limV (nl l0) 4 = V := ⟨_, rfl⟩
  have hab := limB_memE (l := nl l0) (m := 4) (by decide) (by decide)
  have hal := limB_lenE (l := nl l0) (m := 4)
  have hso := limB_sorted (l := nl l0) (m := 4)
  obtain ⟨A, hA⟩ : ∃ A, limB (nl l0) 4 = A := ⟨_, rfl⟩
  rw [hV] at hv1 hv4 hab
  rw [hA] at hab hal hso
  have e0 : Pd.plexusref06_Limited.f l0 4 = some ((V : Int), il A) := by
    unfold Pd.plexusref06_Limited.f
    rw [if_pos ⟨g0, h0, by decide, by decide⟩]
    show some (((limV (nl l0) 4 : Nat) : Int), il (limB (nl l0) 4)) = _
    rw [hV, hA]
  unfold Pd.plexusref42_Made.f
  rw [e0, Option.bind_some]
  by_cases hk : Int.tmod (c : Int) 3 = 0
  · obtain ⟨hu1, hu6⟩ := limV_bd (nl l1) 6 (by decide)
    have e1 : Pd.plexusref06_Limited.f l1 6 = some (((limV (nl l1) 6 : Nat) : Int), il (limB (nl l1) 6)) := by
      unfold Pd.plexusref06_Limited.f
      rw [if_pos ⟨g1, h1, by decide, by decide⟩]
      show some (((limV (nl l1) 6 : Nat) : Int), il (limB (nl l1) 6)) = _
      rfl
    rw [if_pos hk, e1, Option.bind_some]
    exact ⟨V, _, A, _, rfl, hv1, hv4, hu1, hu6, hal, Nat.le_trans (limB_lenE (l := nl l1) (m := 6)) (by decide), hab, limB_memE (by decide) (by decide), hso, limB_sorted⟩
  · obtain ⟨U, hU⟩ : ∃ U, V + c / 3 % 256 % 3 = U := ⟨_, rfl⟩
    have HKT := hid hk
    clear hk
    have hU6 : U ≤ 6 := uE hv4 hU
    have hU1 : 1 ≤ U := uE1 hv1 hU
    have hU60 : U ≤ 60 := Nat.le_trans hU6 (by decide)
    have hV7 : V ≤ 7 := Nat.le_trans hv4 (by decide)
    have eU : wrap64 ((V : Int) + (((Int.tdiv (c : Int) 3) % 256) % 3)) = (U : Int) := by
      exact uE2 hv4 hU
    have e1 := shuf_fE (U := U) hU60 g3 h3
    have hgl := shL_len (nl l3) U
    have hq : ∀ q ∈ shL (nl l3) U, q < U := shL_lt _ _
    have e2 := image_fE (U := U) (A := A) hU60 (Nat.le_trans hal (by decide)) (fun b hb => Nat.lt_trans (hab b hb) (Nat.lt_of_le_of_lt (small7E hV7) (by decide))) hgl hq (shL_nodup _ _)
    obtain ⟨C', h2, h5, h6, h7⟩ := made_loop hU6 V (il A) l0 l1 l3 l4 (c : Int) h4 4 0 (imL A (shL (nl l3) U)) rfl (fun b hb => by
      obtain ⟨x, _, rfl⟩ := List.mem_map.1 ((sortedL_permE _).mem_iff.1 hb)
      exact mvK_lt hq _ (Nat.le_refl _)) (by rw [imL_len]; exact Nat.le_trans hal (by decide)) (sortedL_sorted _)
    rw [if_neg HKT.out, eU, e1, Option.bind_some, e2, Option.bind_some]
    exact ⟨V, U, A, C', h2, hv1, hv4, hU1, hU6, hal, h6, hab, h5, hso, h7⟩
/-- The done blocks. -/
def doneL (s : Nat) (n : Nat) : List Nat := (List.range n).filter fun i => s.testBit i
theorem bit16_f {s j : Nat} (hs : s < 65536) (hj : j < 16) : (0 ≤ IntKind.u64.wrap (j : Int)) ∧ ((Go.bits .and .u16 (shr .u16 (s : Int) (IntKind.u64.wrap (j : Int))) 1 = 1) ↔ s.testBit j = true) := by
  have hw : IntKind.u64.wrap (j : Int) = (j : Int) := wrapU_nat (by omega)
  have hb : min j IntKind.u16.bits = j := Nat.min_eq_left (by show j ≤ 16; omega)
  have h1 : ((s : Int) / 2 ^ j) = ((s / 2 ^ j : Nat) : Int) := by simp
  have h2 : s / 2 ^ j < 65536 := Nat.lt_of_le_of_lt (Nat.div_le_self _ _) hs
  rw [hw]
  refine ⟨nnI j, ?_⟩
  simp only [shr, Int.toNat_natCast, hb]
  rw [h1, show (1 : Int) = ((1 : Nat) : Int) from rfl, u16_and_nat _ _ h2 (by decide), Nat.testBit_eq_decide_div_mod_eq, Nat.and_one_is_mod]
  simp
  omega
theorem done_loop {s : Nat} (hs : s < 65536) (V : Int) (A : List Nat) (hA : A.length ≤ 15) :
    ∀ (n j : Nat), j + n = A.length → Pd.plexusref42_Done.l0 (n + 1) s (il (doneL s j)) j V (il A) = some (il (doneL s A.length)) := by
  intro n
  induction n with
  | zero =>
    intro j hj
    obtain rfl : j = A.length := by omega
    unfold Pd.plexusref42_Done.l0
    rw [if_neg (by rw [il_length]; omega)]
  | succ n ih =>
    intro j hj
    have hw1 : wrap64 ((j : Int) + 1) = ((j + 1 : Nat) : Int) := by rw [wrap_idE] <;> omega
    have hd : doneL s (j + 1) = doneL s j ++ (if s.testBit j then [j] else []) := by
      rw [doneL, List.range_succ, List.filter_append, doneL]
      cases h : s.testBit j <;> simp [h]
    have hl : (doneL s j).length ≤ j := by
      have := List.length_filter_le (fun i => s.testBit i) (List.range j)
      rwa [List.length_range] at this
    unfold Pd.plexusref42_Done.l0
    rw [if_pos (by rw [il_length]; omega), if_pos (bit16_f hs (by omega)).1, hw1]
    have := ih (j + 1) (by omega)
    rw [hd] at this
    cases hb : s.testBit j with
    | true =>
      rw [hb, if_pos rfl] at this
      rw [if_pos ((bit16_f hs (by omega)).2.2 hb), if_pos (by rw [il_length]; omega), ← this, ← il_app]
      rfl
    | false =>
      rw [hb] at this
      rw [if_neg (fun h => by have := (bit16_f hs (by omega)).2.1 h; rw [hb] at this; cases this)]
      simpa using this
theorem done42 {s : Int} (h0 : 0 ≤ s) (h1 : s < 65536) (V : Int) (A : List Nat) (hA : A.length ≤ 15) : ∃ k0, ∀ k, k0 ≤ k → Pd.plexusref42_Done.f k V (il A) s = some (il (doneL s.toNat A.length)) := by
  obtain ⟨c, rfl⟩ := Int.eq_ofNat_of_zero_le h0
  have h := done_loop (s := c) (by omega) V A hA A.length 0 (by omega)
  rw [Int.toNat_natCast]
  refine ⟨A.length + 1, fun k hk => ?_⟩
  obtain ⟨d, rfl⟩ : ∃ d, k = A.length + 1 + d := ⟨k - (A.length + 1), by omega⟩
  unfold Pd.plexusref42_Done.f
  clear hk
  induction d with
  | zero => exact h
  | succ d ih => exact Pd.plexusref42_Done.mono_l _ _ _ _ _ _ _ ih
end Go.Proofs.Ytheclfjbedajfaa


namespace Go.Proofs.Ytheclfjbedajfaa
set_option linter.unusedSimpArgs false
set_option linter.unusedVariables false
open Go.RowKit Go.Lib Go.Proofs.YtheclfjbedajfaaW.PrintWords

theorem idx_ne {c S : Nat} {r : List Nat} (h : c ≠ S) : (c :: r).idxOf S = r.idxOf S + 1 := by
  have : (c == S) = false := by simpa using h
  simp [List.idxOf_cons, this]
theorem sorted_run {S : Nat} : ∀ {cs : List Nat} {u : Nat}, cs.Pairwise (· ≤ ·) → u < cs.count S → cs[cs.idxOf S + u]? = some S := by
  intro cs
  induction cs with
  | nil => intro u _ h; simp at h
  | cons c r ih =>
    intro u hs h
    obtain ⟨h1, h2⟩ := List.pairwise_cons.1 hs
    by_cases hc : c = S
    · subst hc
      rw [List.idxOf_cons_self, Nat.zero_add]
      cases u with
      | zero => rfl
      | succ u =>
        rw [List.count_cons_self] at h
        have hu : u < r.count c := by omega
        have := ih h2 hu
        cases r with
        | nil => simp at hu
        | cons d r =>
          have hd : d = c := by
            have hmem : c ∈ d :: r := List.count_pos_iff.1 (by omega)
            have hcd := h1 d (by simp)
            rcases List.mem_cons.1 hmem with e | e
            · exact e.symm
            · have := (List.pairwise_cons.1 h2).1 c e
              omega
          subst hd
          rw [List.idxOf_cons_self, Nat.zero_add] at this
          simpa using this
    · rw [List.count_cons_of_ne hc] at h
      have := ih h2 h
      rw [idx_ne hc, show r.idxOf S + 1 + u = (r.idxOf S + u) + 1 from by omega, List.getElem?_cons_succ]
      exact this
theorem idxOf_getElem_nodup {os : List Nat} (hn : os.Nodup) {k : Nat} (hk : k < os.length) : os.idxOf (os[k]) = k := by
  induction os generalizing k with
  | nil => simp at hk
  | cons x r ih =>
    obtain ⟨h1, h2⟩ := List.nodup_cons.1 hn
    cases k with
    | zero => simp
    | succ k =>
      have hk' : k < r.length := by simpa using hk
      have hne : x ≠ r[k] := fun e => h1 (e ▸ List.getElem_mem hk')
      rw [List.getElem_cons_succ, idx_ne hne, ih h2 hk']
theorem getD_idxOf {os : List Nat} {i : Nat} (hi : i ∈ os) : os.getD (os.idxOf i) 0 = i := by
  have := List.idxOf_lt_length_of_mem hi
  rw [List.getD_eq_getElem?_getD, List.getElem?_eq_getElem this]
  exact List.getElem_idxOf this
theorem alongK_get {n : Nat} {mv : Nat → Nat} {cs os : List Nat} (hn : os.Nodup) (hos : ∀ i ∈ os, i < n) : ∀ k ≤ os.length, ∀ i < n, (alongK n mv cs os k)[i]? = some (if i ∈ os.take k then alongAt mv cs os (os.idxOf i) else 0) := by
  intro k
  induction k with
  | zero => intro _ i hi; simp [alongK, hi]
  | succ k ih =>
    intro hk i hi
    have hkl : k < os.length := by omega
    have hgk : os.getD k 0 = os[k] := by rw [List.getD_eq_getElem?_getD, List.getElem?_eq_getElem hkl]; rfl
    have htk : os.take (k + 1) = os.take k ++ [os[k]] := by rw [List.take_succ_eq_append_getElem hkl]
    rw [alongK, List.getElem?_set, hgk, alongK_length]
    by_cases he : os[k] = i
    · subst he
      rw [if_pos rfl, if_pos hi, htk, if_pos (List.mem_append_right _ (List.mem_singleton_self _)), idxOf_getElem_nodup hn hkl]
    · rw [if_neg he, ih (by omega) i hi, htk]
      simp only [List.mem_append, List.mem_singleton]
      have : ¬ i = os[k] := fun e => he e.symm
      simp [this]
theorem queueN_nodup {n : Nat} {ds : List Nat} (h2 : ds.Nodup) : (queueN n ds).Nodup := by
  rw [queueN, List.nodup_append]
  refine ⟨(sortedL_permE ds).nodup_iff.2 h2, List.nodup_range.sublist List.filter_sublist, ?_⟩
  intro a ha b hb e
  subst e
  have h := (List.mem_filter.1 hb).2
  have := (sortedL_permE ds).mem_iff.1 ha
  simp at h
  exact h this
theorem queueN_mem {n : Nat} {ds : List Nat} {i : Nat} (hi : i < n) : i ∈ queueN n ds := by
  rw [queueN, List.mem_append]
  by_cases h : i ∈ ds
  · exact .inl ((sortedL_permE ds).mem_iff.2 h)
  · exact .inr (List.mem_filter.2 ⟨List.mem_range.2 hi, by simpa using h⟩)
/-- Where block i goes. -/
def goN (bs cs ds fs : List Nat) (i : Nat) : Int := alongAt (fun i => movedN (bs.getD i 0) fs) cs (queueN bs.length ds) ((queueN bs.length ds).idxOf i)
theorem embM_len (bs cs ds fs : List Nat) : (embM bs cs ds fs).length = bs.length := by rw [embM, alongM, alongK_length]
theorem embM_get {bs cs ds fs : List Nat} (h1 : ∀ i ∈ ds, i < bs.length) (h2 : ds.Nodup) {i : Nat} (hi : i < bs.length) : rd (embM bs cs ds fs) i = goN bs cs ds fs i := by
  have := alongK_get (n := bs.length) (mv := fun i => movedN (bs.getD i 0) fs) (cs := cs) (queueN_nodup (n := bs.length) h2) (queueN_lt h1) _ (Nat.le_refl _) i hi
  unfold rd
  rw [List.getD_eq_getElem?_getD, Int.toNat_natCast, embM, alongM, this, List.take_length, if_pos (queueN_mem hi)]
  rfl
theorem alongAt_of {mv : Nat → Nat} {cs os : List Nat} {i : Nat} (hi : i ∈ os) : alongAt mv cs os (os.idxOf i) = if ((os.take (os.idxOf i)).map mv).count (mv i) < cs.count (mv i) then ((cs.idxOf (mv i) + ((os.take (os.idxOf i)).map mv).count (mv i) : Nat) : Int) else -1 := by
  rw [alongAt, getD_idxOf hi]
theorem goN_img {bs cs ds fs : List Nat} (hs : cs.Pairwise (· ≤ ·)) {i : Nat} (hi : i < bs.length) : goN bs cs ds fs i = -1 ∨ ∃ j : Nat, goN bs cs ds fs i = j ∧ cs[j]? = some (movedN (bs.getD i 0) fs) := by
  rw [goN, alongAt_of (queueN_mem hi)]
  split
  · rename_i h
    exact .inr ⟨_, rfl, sorted_run hs h⟩
  · exact .inl rfl
theorem count_lt {mv : Nat → Nat} {os : List Nat} (hn : os.Nodup) {i j : Nat} (hi : i ∈ os) (hij : os.idxOf i < os.idxOf j) (he : mv i = mv j) : ((os.take (os.idxOf i)).map mv).count (mv i) < ((os.take (os.idxOf j)).map mv).count (mv j) := by
  have hil := List.idxOf_lt_length_of_mem hi
  obtain ⟨d, hd⟩ : ∃ d, os.idxOf j = os.idxOf i + 1 + d := ⟨os.idxOf j - (os.idxOf i + 1), by omega⟩
  rw [hd, List.take_add, List.map_append, List.count_append, List.take_succ_eq_append_getElem hil, List.map_append, List.count_append, ← he]
  have : os[os.idxOf i] = i := List.getElem_idxOf hil
  rw [this]
  simp
  omega
theorem goN_inj {bs cs ds fs : List Nat} (hs : cs.Pairwise (· ≤ ·)) (h2 : ds.Nodup) {i j : Nat} (hi : i < bs.length) (hj : j < bs.length) (hij : i ≠ j) (h0 : goN bs cs ds fs i ≠ -1) : goN bs cs ds fs i ≠ goN bs cs ds fs j := by
  intro e
  rcases goN_img (ds := ds) (fs := fs) hs hi with h | ⟨a, ha, ha2⟩
  · exact h0 h
  rcases goN_img (ds := ds) (fs := fs) hs hj with h | ⟨b, hb, hb2⟩
  · rw [e] at h0; exact h0 h
  have hab : a = b := by rw [ha, hb] at e; omega
  subst hab
  rw [ha2] at hb2
  have hmv : movedN (bs.getD i 0) fs = movedN (bs.getD j 0) fs := Option.some.inj hb2
  have hn := queueN_nodup (n := bs.length) h2
  have hqi := queueN_mem (ds := ds) hi
  have hqj := queueN_mem (ds := ds) hj
  have hne : (queueN bs.length ds).idxOf i ≠ (queueN bs.length ds).idxOf j := fun e => hij (by rw [← getD_idxOf hqi, ← getD_idxOf hqj, e])
  have hb' := hb
  rw [goN, alongAt_of hqi] at ha
  rw [goN, alongAt_of hqj] at hb
  split at ha
  · split at hb
    · rw [← hmv] at hb
      rcases Nat.lt_or_gt_of_ne hne with h | h
      · have := count_lt (mv := fun i => movedN (bs.getD i 0) fs) hn hqi h hmv
        rw [← hmv] at this
        omega
      · have := count_lt (mv := fun i => movedN (bs.getD i 0) fs) hn hqj h hmv.symm
        rw [← hmv] at this
        omega
    · omega
  · omega
theorem lsL_ne {n : Nat} : ∀ {l : Nat} {f : List Nat}, (∀ q ∈ f, q < n) → f.Nodup → f.length + l ≤ n → lsL n l f ≠ []
  | 0, f, _, _, _ => by rw [lsL]; simp
  | l + 1, f, hf, hd, hl => by
    obtain ⟨p, hp, hpf⟩ : ∃ p, p < n ∧ p ∉ f := by
      apply Classical.byContradiction
      intro h
      have hsub : List.range n ⊆ f := fun p hp => by
        apply Classical.byContradiction
        intro hpf
        exact h ⟨p, List.mem_range.1 hp, hpf⟩
      have := nodup_len List.nodup_range hsub
      rw [List.length_range] at this
      omega
    have := lsL_ne (l := l) (f := f ++ [p]) (n := n) (by intro q hq; rcases List.mem_append.1 hq with hq | hq; exact hf q hq; rw [List.mem_singleton] at hq; omega) (List.nodup_append.2 ⟨hd, by simp, fun a ha b hb e => by rw [List.mem_singleton] at hb; subst hb; subst e; exact hpf ha⟩) (by rw [List.length_append]; simp; omega)
    intro h
    rw [lsL, List.flatMap_eq_nil_iff] at h
    have := h p (List.mem_range.2 hp)
    rw [if_neg hpf] at this
    contradiction
/-- A fold's answer: one of its lists, the first that keeps most. -/
def BestP (bs cs ds : List Nat) (fs : List (List Nat)) : Prop := ∃ f ∈ fs, foldB bs cs ds fs = ((f, embM bs cs ds f), (keptN bs cs ds f : Int)) ∧ ∀ g ∈ fs, keptN bs cs ds g ≤ keptN bs cs ds f
theorem BestP.snoc {bs cs ds : List Nat} {pre : List (List Nat)} (h : BestP bs cs ds pre) (x : List Nat) : BestP bs cs ds (pre ++ [x]) := by
  obtain ⟨f, hf, he, hg⟩ := h
  rw [BestP, foldB_snoc, he, stepB]
  split
  · rename_i h
    refine ⟨x, by simp, rfl, fun g hg' => ?_⟩
    rcases List.mem_append.1 hg' with h' | h'
    · have := hg g h'; simp at h; omega
    · rw [List.mem_singleton] at h'; subst h'; exact Nat.le_refl _
  · rename_i h
    refine ⟨f, by simp [hf], rfl, fun g hg' => ?_⟩
    rcases List.mem_append.1 hg' with h' | h'
    · exact hg g h'
    · rw [List.mem_singleton] at h'; subst h'; simp at h; omega
theorem BestP.app {bs cs ds : List Nat} : ∀ (r pre : List (List Nat)), BestP bs cs ds pre → BestP bs cs ds (pre ++ r)
  | [], pre, h => by rwa [List.append_nil]
  | x :: r, pre, h => by
    have := BestP.app r (pre ++ [x]) (h.snoc x)
    rwa [List.append_assoc] at this
theorem foldB_mem (bs cs ds : List Nat) : ∀ (fs : List (List Nat)), fs ≠ [] → BestP bs cs ds fs
  | [], h => absurd rfl h
  | x :: r, _ => by
    refine BestP.app r [x] ⟨x, by simp, ?_, by simp⟩
    show stepB bs cs ds (([], []), -1) x = _
    rw [stepB, if_pos (by show (-1 : Int) < _; omega)]
end Go.Proofs.Ytheclfjbedajfaa
