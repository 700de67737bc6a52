/- The reference's made structures (layer 6): what Limited makes, in plain words. -/
/- The reference's made structures (layer 6), walked: what Limited returns. -/
import Derived.Test.YtheclfjbedajfaaR6
import Derived.Deep.DeepCutAuto
import Derived.Deep.CutBlock
namespace Go.Proofs.Ytheclfjbedajfaa
set_option linter.unusedSimpArgs false
set_option linter.unusedVariables false
open Go.RowKit Go.Lib Go.Proofs.YtheclfjbedajfaaW.PrintWords

def limV (l : List Nat) (m : Nat) : Nat := 1 + l.getD 1 0 % m
def limAll (l : List Nat) (m : Nat) : Nat := 2 ^ limV l m - 1
def limFirst (l : List Nat) (m : Nat) : Nat := l.getD 2 0 &&& limAll l m
def limN (l : List Nat) : Nat := 1 + l.getD 3 0 % 10
/-- all pairs of k points -/
def prs (k : Nat) : List Nat := (List.range k).flatMap fun p => (List.range p).map fun q => 2 ^ p ||| 2 ^ q
theorem prs_succ (k : Nat) : prs (k + 1) = prs k ++ (List.range k).map fun q => 2 ^ k ||| 2 ^ q := by simp [prs, List.range_succ, List.flatMap_append]
def limRaw (l : List Nat) (m : Nat) : List Nat :=
  match l.getD 0 0 % 8 with
  | 0 | 1 => (List.range (limV l m)).map fun k => turnB (limFirst l m) (limV l m) k (limV l m)
  | 2 => prs (limV l m)
  | 3 => (List.range 7).map fun k => turnB 11 7 k 7 &&& limAll l m
  | 4 => (List.range (limN l)).map fun k => limFirst l m >>> (l.getD (4 + k) 0 % 2)
  | 5 => ((List.range (limN l)).map fun k => l.getD (4 + k) 0 &&& limAll l m).filter fun b => cnt b 64 == 3
  | _ => (List.range (limN l)).map fun k => l.getD (4 + k) 0 &&& limAll l m
def limB (l : List Nat) (m : Nat) : List Nat := sortedL ((limRaw l m).take 10)

theorem shr_form2 {a q : Nat} : ((a : Int) / 2 ^ q) = ((a >>> q : Nat) : Int) := by rw [Nat.shiftRight_eq_div_pow]; simp
theorem cast_eq3 (x : Nat) : (((x : Nat) : Int) == 3) = (x == 3) := by rw [Bool.eq_iff_iff]; simp; omega
theorem orp_form {p q : Nat} (hp : p < 64) (hq : q < 64) : bits .or .u64 (IntKind.u64.wrap (2 ^ p)) (IntKind.u64.wrap (2 ^ q)) = ((2 ^ p ||| 2 ^ q : Nat) : Int) := by
  have h1 : (2 : Nat) ^ p < 2 ^ 64 := Nat.pow_lt_pow_right (by omega) hp
  have h2 : (2 : Nat) ^ q < 2 ^ 64 := Nat.pow_lt_pow_right (by omega) hq
  rw [show ((2 : Int) ^ p) = ((2 ^ p : Nat) : Int) from by simp, show ((2 : Int) ^ q) = ((2 ^ q : Nat) : Int) from by simp, wrapU_nat h1, wrapU_nat h2, uor h1 h2]
theorem limV_bd (l : List Nat) (m : Nat) (hm1 : 1 ≤ m) : 1 ≤ limV l m ∧ limV l m ≤ m := by
  have := Nat.mod_lt (l.getD 1 0) hm1
  unfold limV
  omega
theorem limRaw_lt {l : List Nat} {m : Nat} (hm1 : 1 ≤ m) (hm7 : m ≤ 7) : ∀ b ∈ limRaw l m, b < 2 ^ limV l m := by
  have hv := limV_bd l m hm1
  have ha : limAll l m < 2 ^ limV l m := by have := Nat.two_pow_pos (limV l m); unfold limAll; omega
  have hf : limFirst l m < 2 ^ limV l m := Nat.lt_of_le_of_lt Nat.and_le_right ha
  intro b hb
  unfold limRaw at hb
  split at hb
  · simp only [List.mem_map, List.mem_range] at hb
    obtain ⟨k, _, rfl⟩ := hb
    exact turnB_lt _ _ _ _ (by omega) (by omega)
  · simp only [List.mem_map, List.mem_range] at hb
    obtain ⟨k, _, rfl⟩ := hb
    exact turnB_lt _ _ _ _ (by omega) (by omega)
  · simp only [prs, List.mem_flatMap, List.mem_map, List.mem_range] at hb
    obtain ⟨p, hp, q, hq, rfl⟩ := hb
    exact Nat.or_lt_two_pow (Nat.pow_lt_pow_right (by omega) hp) (Nat.pow_lt_pow_right (by omega) (by omega))
  · simp only [List.mem_map, List.mem_range] at hb
    obtain ⟨k, _, rfl⟩ := hb
    exact Nat.lt_of_le_of_lt Nat.and_le_right ha
  · simp only [List.mem_map, List.mem_range] at hb
    obtain ⟨k, _, rfl⟩ := hb
    exact Nat.lt_of_le_of_lt (by rw [Nat.shiftRight_eq_div_pow]; exact Nat.div_le_self _ _) hf
  · obtain ⟨hb, _⟩ := List.mem_filter.1 hb
    simp only [List.mem_map, List.mem_range] at hb
    obtain ⟨k, _, rfl⟩ := hb
    exact Nat.lt_of_le_of_lt Nat.and_le_right ha
  · simp only [List.mem_map, List.mem_range] at hb
    obtain ⟨k, _, rfl⟩ := hb
    exact Nat.lt_of_le_of_lt Nat.and_le_right ha
theorem limRaw_len {l : List Nat} {m : Nat} (hm1 : 1 ≤ m) (hm7 : m ≤ 7) : (limRaw l m).length ≤ 100 := by
  have hv := limV_bd l m hm1
  unfold limRaw
  split
  · simp; omega
  · simp; omega
  · have : ∀ k ≤ 7, (prs k).length ≤ 100 := by decide
    exact this _ (by omega)
  · simp
  · simp [limN]; omega
  · refine Nat.le_trans (List.length_filter_le _ _) ?_
    simp [limN]; omega
  · simp [limN]; omega
theorem pairs_len : ∀ k ≤ 6, (prs k).length ≤ 100 := by decide

end Go.Proofs.Ytheclfjbedajfaa


namespace Go.Proofs.Ytheclfjbedajfaa
set_option linter.unusedSimpArgs false
set_option linter.unusedVariables false
open Go.RowKit Go.Lib Go.Proofs.YtheclfjbedajfaaW.PrintWords

set_option maxHeartbeats 20000000 in
set_option maxRecDepth 100000 in
theorem limited_any (A : Option Addr) (n c : Nat) (l : List Nat) (m : Nat) (hm1 : 1 ≤ m) (hm7 : m ≤ 7) (w : World) (hB : NlC .u8 256 w A n l) (hn : n < 2 ^ 63) :
    Calls Try.prog 27 #[.agg #[.slice A n c], .int .i64 m] w fun e w' => ∃ v, e = .returned (.agg #[.int .i64 (limV l m), v]) ∧
      w'.ownsRow w.heap.size 60 1 v (limB l m).length (nums .u64 (il (limB l m))) ∧ Below w.heap.size w w' := by
  have hl0 := at_lt hB.2.2 0
  have hl1 := at_lt hB.2.2 1
  have hl2 := at_lt hB.2.2 2
  have hl3 := at_lt hB.2.2 3
  obtain ⟨k0, hk0⟩ : ∃ k0, l.getD 0 0 = k0 := ⟨_, rfl⟩
  obtain ⟨k1, hk1⟩ : ∃ k0, l.getD 1 0 = k0 := ⟨_, rfl⟩
  obtain ⟨k2, hk2⟩ : ∃ k0, l.getD 2 0 = k0 := ⟨_, rfl⟩
  obtain ⟨k3, hk3⟩ : ∃ k0, l.getD 3 0 = k0 := ⟨_, rfl⟩
  rw [hk0] at hl0
  rw [hk1] at hl1
  rw [hk2] at hl2
  rw [hk3] at hl3
  have HK := hid (show l.getD (0 : Int).toNat 0 = k0 ∧ l.getD (1 : Int).toNat 0 = k1 ∧ l.getD (2 : Int).toNat 0 = k2 ∧ l.getD (3 : Int).toNat 0 = k3 from ⟨hk0, hk1, hk2, hk3⟩)
  clear hk0 hk1 hk2 hk3
  have AT := fun (i : Int) (hi : 0 ≤ i) (W : World) (hW : Below w.heap.size w W) => hid (at_any A n c l i hi W (hB.below hW) hn)
  have HV := hid (show wrap64 (1 + (k1 : Int) % (m : Int)) = ((limV l m : Nat) : Int) from by
    unfold limV; rw [show l.getD 1 0 = k1 from HK.2.1]
    have := Nat.mod_lt k1 hm1
    rw [show 1 + (k1 : Int) % (m : Int) = ((1 + k1 % m : Nat) : Int) from by simp, wrap64_nat (by omega)])
  have HAll := hid (show IntKind.u64.wrap (IntKind.u64.wrap (2 ^ min (IntKind.u64.wrap ((limV l m : Nat) : Int)).toNat 64) - 1) = ((limAll l m : Nat) : Int) from by
    have h1 := limV_bd l m hm1
    have h2 : 2 ^ limV l m < 2 ^ 64 := Nat.pow_lt_pow_right (by omega) (by omega)
    have h3 := Nat.two_pow_pos (limV l m)
    rw [shl_form (by omega), show (((2 ^ limV l m : Nat) : Int) - 1) = ((2 ^ limV l m - 1 : Nat) : Int) from by omega, wrapU_nat (by omega)]; rfl)
  have HFi := hid (show bits BinOp.and IntKind.u64 (k2 : Int) ((limAll l m : Nat) : Int) = ((limFirst l m : Nat) : Int) from by
    have h1 := limV_bd l m hm1
    have h2 : 2 ^ limV l m < 2 ^ 64 := Nat.pow_lt_pow_right (by omega) (by omega)
    rw [uand (by omega) (by unfold limAll; omega)]; unfold limFirst; rw [show l.getD 2 0 = k2 from HK.2.2.1])
  have HNn := hid (show (1 + (k3 : Int) % 10) = ((limN l : Nat) : Int) from by unfold limN; rw [show l.getD 3 0 = k3 from HK.2.2.2]; simp)
  go_enter Try.func27, Try.ntmps27
  go_wp2
  go_quiet ((first
    | (go_at_call_of 41 (Value.int .i64 0); exact Calls.quiet_of_same ((AT 0 (by decide) _ (pw_below_drewN (below_alloc (below_alloc (Below.refl _ _) _) _) _)).mono fun _ _ ⟨h, h'⟩ => ⟨by rw [h, HK.1], h'⟩))
    | (go_at_call_of 41 (Value.int .i64 1); exact Calls.quiet_of_same ((AT 1 (by decide) _ (pw_below_drewN (below_alloc (below_alloc (Below.refl _ _) _) _) _)).mono fun _ _ ⟨h, h'⟩ => ⟨by rw [h, HK.2.1], h'⟩))))
  go_upto_region 6 with (first
    | (go_at_call_of 41 (Value.int .i64 2); refine (AT 2 (by decide) _ (pw_below_drewN (below_alloc (below_alloc (Below.refl _ _) _) _) _)).mono ?_; rintro e w' ⟨h, rfl⟩; rw [HK.2.2.1] at h; subst h)
    | (go_at_call_of 41 (Value.int .i64 3); refine (AT 3 (by decide) _ (below_alloc (pw_below_drewN (below_alloc (below_alloc (Below.refl _ _) _) _) _) _)).mono ?_; rintro e w' ⟨h, rfl⟩; rw [HK.2.2.2] at h; subst h))
  go_cut [2, 4, 6, 7, 8, 9, 10, 45] from 19 to 45 (fun s2 s4 s6 s7 s8 s9 s10 s45 wc => s45 = .int .i64 ((k0 % 8 : Nat) : Int) ∧ s6 = .int .i64 (limV l m) ∧ s7 = .int .u64 (limAll l m) ∧ s8 = .int .u64 (limFirst l m) ∧ s10 = .int .i64 (limN l) ∧
    s2 = .pointer (some ⟨w.heap.size, 0, none⟩) ∧ s4 = .pointer (some ⟨w.heap.size + 1, 0, none⟩) ∧
    Blk wc w.heap.size 24 #[.slice A n c] ∧ Blk wc (w.heap.size + 1) 36 #[.int .i64 0, .slice none 0 0] ∧ wc.ownsRow w.heap.size 60 1 s9 0 [] ∧ Below w.heap.size w wc)
  case first =>
    go_wp2
    go_meet
    exact ⟨by simp, by rw [HV.out], by rw [HV.out, HAll.out], by rw [HV.out, HAll.out, HFi.out], by rw [HNn.out], rfl, rfl,
      ((((Blk.new _ _ _).alloc _).drewN _).alloc _), (((blk_of_heap (heap_new (by simp))).drewN _).alloc _), own_empty (g := w.heap.size + 1 + 1) (heap_new (by simp)) (by omega), below_alloc (pw_below_drewN (below_alloc (below_alloc (Below.refl _ _) _) _) _) _⟩
  case rest =>
    obtain ⟨rfl, rfl, rfl, rfl, rfl, rfl, rfl, hg2, hg4, hown, hbc⟩ := hcut
    have hv0 : 0 < limV l m := by unfold limV; omega
    have hv7 : limV l m ≤ 7 := by have := Nat.mod_lt (l.getD 1 0) hm1; unfold limV; omega
    have hv16 : limV l m ≤ 16 := by omega
    have hp7 : 2 ^ limV l m ≤ 2 ^ 7 := Nat.pow_le_pow_right (by omega) hv7
    have ha64 : limAll l m < 2 ^ 64 := by unfold limAll; omega
    have hf64 : limFirst l m < 2 ^ 64 := Nat.lt_of_le_of_lt Nat.and_le_right ha64
    have hn10 : limN l ≤ 10 := by unfold limN; omega
    clear hp7
    go_upto_block 0 with fail
    go_cut [9] from 11 to 152 (fun s9 wc => wc.ownsRow w.heap.size 60 1 s9 (limRaw l m).length (nums .u64 (il (limRaw l m))) ∧ Blk wc (w.heap.size + 1) 36 #[.int .i64 0, .slice none 0 0] ∧ Below w.heap.size w wc)
    case first =>
      obtain ⟨K, hK8, HK1⟩ : ∃ K, K < 8 ∧ Hid (k0 % 8 = K) := ⟨_, Nat.mod_lt _ (by decide), rfl⟩
      have HK2 := hid (show l.getD 0 0 % 8 = K from (congrArg (· % 8) HK.1).trans HK1.out)
      rw [HK1.out]
      rcases (by omega : K = 0 ∨ K = 1 ∨ K = 2 ∨ K = 3 ∨ K = 4 ∨ K = 5 ∨ K = 6 ∨ K = 7) with rfl | rfl | rfl | rfl | rfl | rfl | rfl | rfl
      · rw [show ((0 : Nat) : Int) = (0 : Int) from rfl]
        go_wp2
        go_loopw [9, 11] (fun v i wr => ∃ k : Nat, k ≤ limV l m ∧ i = .int .i64 k ∧ wr.ownsRow w.heap.size 60 1 v ((List.range (k)).map fun k => turnB (limFirst l m) (limV l m) k (limV l m)).length (nums .u64 (il ((List.range (k)).map fun k => turnB (limFirst l m) (limV l m) k (limV l m)))) ∧ Blk wr w.heap.size 24 #[.slice A n c] ∧ Blk wr (w.heap.size + 1) 36 #[.int .i64 0, .slice none 0 0] ∧ Below w.heap.size w wr) (fun _ i _ => limV l m - (intOf i).toNat)
        case atStart => exact ⟨0, by omega, rfl, hown, hg2, hg4, hbc⟩
        case round =>
          obtain ⟨k, hk, rfl, hown', hg2, hg4, hbc⟩ := hrel
          by_cases hlt : k < limV l m
          · have hle : ((List.range (k)).map fun k => turnB (limFirst l m) (limV l m) k (limV l m)).length ≤ 100 := by simp; omega

            go_wp2_with (first
              | (go_at_call 43; refine (turned_any _ _ k hf64 hv0 hv16 (by omega) _).mono ?_; rintro e w' ⟨rfl, rfl⟩)
              | (at_builtin; refine print_append_num w.heap.size rfl (.tmp 70) (.tmp 75) _ _ .u64 8 rfl Try.underlying34 infoU (by decide) u9 (il ((List.range k).map fun k => turnB (limFirst l m) (limV l m) k (limV l m))) (_) (by simp [Act.eval]) (by simp [Act.eval]) (by rw [il_length]; exact hown') (hbc) ((hbc).size) (by rw [il_length]; omega) ?_; intro v1 w1 hown1 hb1 hg1 hat1))
            go_roundw
            case rel => exact ⟨k + 1, by omega, by go_num, own_range hown1 (rfl), hg2.grown hg1 (fun e => own_blk_ne hown' hg2 (by decide) e.symm), hg4.grown hg1 (fun e => own_blk_ne hown' hg4 (by decide) e.symm), hb1⟩
            case measure => simp [intOf]; omega
          · have : k = limV l m := by omega
            subst this
            go_wp2
            go_meet
            exact ⟨by rw [show limRaw l m = (List.range (limV l m)).map fun k => turnB (limFirst l m) (limV l m) k (limV l m) from by unfold limRaw; rw [HK2.out]; first | done | rfl]; exact hown', hg4, hbc⟩
      · rw [show ((1 : Nat) : Int) = (1 : Int) from rfl]
        go_wp2
        go_loopw [9, 11] (fun v i wr => ∃ k : Nat, k ≤ limV l m ∧ i = .int .i64 k ∧ wr.ownsRow w.heap.size 60 1 v ((List.range (k)).map fun k => turnB (limFirst l m) (limV l m) k (limV l m)).length (nums .u64 (il ((List.range (k)).map fun k => turnB (limFirst l m) (limV l m) k (limV l m)))) ∧ Blk wr w.heap.size 24 #[.slice A n c] ∧ Blk wr (w.heap.size + 1) 36 #[.int .i64 0, .slice none 0 0] ∧ Below w.heap.size w wr) (fun _ i _ => limV l m - (intOf i).toNat)
        case atStart => exact ⟨0, by omega, rfl, hown, hg2, hg4, hbc⟩
        case round =>
          obtain ⟨k, hk, rfl, hown', hg2, hg4, hbc⟩ := hrel
          by_cases hlt : k < limV l m
          · have hle : ((List.range (k)).map fun k => turnB (limFirst l m) (limV l m) k (limV l m)).length ≤ 100 := by simp; omega

            go_wp2_with (first
              | (go_at_call 43; refine (turned_any _ _ k hf64 hv0 hv16 (by omega) _).mono ?_; rintro e w' ⟨rfl, rfl⟩)
              | (at_builtin; refine print_append_num w.heap.size rfl (.tmp 70) (.tmp 75) _ _ .u64 8 rfl Try.underlying34 infoU (by decide) u9 (il ((List.range k).map fun k => turnB (limFirst l m) (limV l m) k (limV l m))) (_) (by simp [Act.eval]) (by simp [Act.eval]) (by rw [il_length]; exact hown') (hbc) ((hbc).size) (by rw [il_length]; omega) ?_; intro v1 w1 hown1 hb1 hg1 hat1))
            go_roundw
            case rel => exact ⟨k + 1, by omega, by go_num, own_range hown1 (rfl), hg2.grown hg1 (fun e => own_blk_ne hown' hg2 (by decide) e.symm), hg4.grown hg1 (fun e => own_blk_ne hown' hg4 (by decide) e.symm), hb1⟩
            case measure => simp [intOf]; omega
          · have : k = limV l m := by omega
            subst this
            go_wp2
            go_meet
            exact ⟨by rw [show limRaw l m = (List.range (limV l m)).map fun k => turnB (limFirst l m) (limV l m) k (limV l m) from by unfold limRaw; rw [HK2.out]; first | done | rfl]; exact hown', hg4, hbc⟩
      · rw [show ((2 : Nat) : Int) = (2 : Int) from rfl]
        go_wp2
        go_loopw [9, 12, 13] (fun v i _ wr => ∃ k : Nat, k ≤ limV l m ∧ i = .int .i64 k ∧ wr.ownsRow w.heap.size 60 1 v (prs (k)).length (nums .u64 (il (prs (k)))) ∧ Blk wr w.heap.size 24 #[.slice A n c] ∧ Blk wr (w.heap.size + 1) 36 #[.int .i64 0, .slice none 0 0] ∧ Below w.heap.size w wr) (fun _ i _ _ => limV l m - (intOf i).toNat)
        case atStart => exact ⟨0, by omega, rfl, hown, hg2, hg4, hbc⟩
        case round =>
          obtain ⟨k, hk, rfl, hown', hg2, hg4, hbc⟩ := hrel
          by_cases hlt : k < limV l m
          · obtain ⟨wo, rfl⟩ : ∃ wo : World, wo = wr := ⟨_, rfl⟩
            have hk6 : k ≤ 6 := by omega
            have hP2 : (prs (k)).length ≤ 100 := pairs_len k hk6
            have HP2 := hid hP2
            clear hP2
            go_wp2
            go_loopw [9, 13] (fun v i wr => ∃ q : Nat, q ≤ k ∧ i = .int .i64 q ∧ wr.ownsRow w.heap.size 60 1 v ((prs (k)) ++ (List.range (q)).map fun q => 2 ^ k ||| 2 ^ q).length (nums .u64 (il ((prs (k)) ++ (List.range (q)).map fun q => 2 ^ k ||| 2 ^ q))) ∧ Blk wr w.heap.size 24 #[.slice A n c] ∧ Blk wr (w.heap.size + 1) 36 #[.int .i64 0, .slice none 0 0] ∧ Below w.heap.size w wr) (fun _ i _ => k - (intOf i).toNat)
            case atStart => exact ⟨0, by omega, rfl, by simpa using hown', hg2, hg4, hbc⟩
            case round =>
              clear hg2 hg4 hbc hown'
              obtain ⟨q, hq, rfl, hown', hg2, hg4, hbc⟩ := hrel
              by_cases hlt2 : q < k
              · have HLE := hid (show ((prs (k)) ++ (List.range (q)).map fun q => 2 ^ k ||| 2 ^ q).length ≤ 200 from by have := HP2.out; rw [List.length_append, List.length_map, List.length_range]; omega)
                go_wp2_with (at_builtin; refine print_append_num w.heap.size rfl (.tmp 89) (.tmp 97) _ _ .u64 8 rfl Try.underlying34 infoU (by decide) u9 (il ((prs (k)) ++ (List.range (q)).map fun q => 2 ^ k ||| 2 ^ q)) (_) (by simp [Act.eval]) (by simp [Act.eval]) (by rw [il_length]; exact hown') (hbc) ((hbc).size) (by rw [il_length]; have := HLE.out; omega) ?_; intro v1 w1 hown1 hb1 hg1 hat1)
                go_roundw
                case rel => exact ⟨q + 1, by omega, by go_num, own_snoc hown1 (orp_form (by omega) (by omega)) (by rw [List.range_succ, List.map_append, ← List.append_assoc]; rfl), hg2.grown hg1 (fun e => own_blk_ne hown' hg2 (by decide) e.symm), hg4.grown hg1 (fun e => own_blk_ne hown' hg4 (by decide) e.symm), hb1⟩
                case measure => simp [intOf]; omega
              · have : q = k := by omega
                subst this
                go_wp2
                go_roundw
                case rel => exact ⟨q + 1, by omega, by go_num, by rw [prs_succ]; exact hown', hg2, hg4, hbc⟩
                case measure => simp [intOf]; omega
          · have : k = limV l m := by omega
            subst this
            go_wp2
            go_meet
            exact ⟨by rw [show limRaw l m = prs (limV l m) from by unfold limRaw; rw [HK2.out]; first | done | rfl]; exact hown', hg4, hbc⟩
      · rw [show ((3 : Nat) : Int) = (3 : Int) from rfl]
        go_wp2
        go_loopw [9, 14] (fun v i wr => ∃ k : Nat, k ≤ 7 ∧ i = .int .i64 k ∧ wr.ownsRow w.heap.size 60 1 v ((List.range (k)).map fun k => turnB 11 7 k 7 &&& limAll l m).length (nums .u64 (il ((List.range (k)).map fun k => turnB 11 7 k 7 &&& limAll l m))) ∧ Blk wr w.heap.size 24 #[.slice A n c] ∧ Blk wr (w.heap.size + 1) 36 #[.int .i64 0, .slice none 0 0] ∧ Below w.heap.size w wr) (fun _ i _ => 7 - (intOf i).toNat)
        case atStart => exact ⟨0, by omega, rfl, hown, hg2, hg4, hbc⟩
        case round =>
          obtain ⟨k, hk, rfl, hown', hg2, hg4, hbc⟩ := hrel
          by_cases hlt : k < 7
          · have hle : ((List.range (k)).map fun k => turnB 11 7 k 7 &&& limAll l m).length ≤ 100 := by simp; omega

            go_wp2_with (first
              | (go_at_call 43; refine (turned_any 11 7 k (by decide) (by decide) (by decide) (by omega) _).mono ?_; rintro e w' ⟨rfl, rfl⟩)
              | (at_builtin; refine print_append_num w.heap.size rfl (.tmp 105) (.tmp 110) _ _ .u64 8 rfl Try.underlying34 infoU (by decide) u9 (il ((List.range k).map fun k => turnB 11 7 k 7 &&& limAll l m)) (_) (by simp [Act.eval]) (by simp [Act.eval]) (by rw [il_length]; exact hown') (hbc) ((hbc).size) (by rw [il_length]; omega) ?_; intro v1 w1 hown1 hb1 hg1 hat1))
            go_roundw
            case rel => exact ⟨k + 1, by omega, by go_num, own_range hown1 (uand (by have := turnB_lt 11 7 k 7 (by decide) (by decide); omega) ha64), hg2.grown hg1 (fun e => own_blk_ne hown' hg2 (by decide) e.symm), hg4.grown hg1 (fun e => own_blk_ne hown' hg4 (by decide) e.symm), hb1⟩
            case measure => simp [intOf]; omega
          · have : k = 7 := by omega
            subst this
            go_wp2
            go_meet
            exact ⟨by rw [show limRaw l m = (List.range (7)).map fun k => turnB 11 7 k 7 &&& limAll l m from by unfold limRaw; rw [HK2.out]; first | done | rfl]; exact hown', hg4, hbc⟩
      · rw [show ((4 : Nat) : Int) = (4 : Int) from rfl]
        go_wp2
        go_loopw [9, 15] (fun v i wr => ∃ k : Nat, k ≤ limN l ∧ i = .int .i64 k ∧ wr.ownsRow w.heap.size 60 1 v ((List.range (k)).map fun k => limFirst l m >>> (l.getD (4 + k) 0 % 2)).length (nums .u64 (il ((List.range (k)).map fun k => limFirst l m >>> (l.getD (4 + k) 0 % 2)))) ∧ Blk wr w.heap.size 24 #[.slice A n c] ∧ Blk wr (w.heap.size + 1) 36 #[.int .i64 0, .slice none 0 0] ∧ Below w.heap.size w wr) (fun _ i _ => limN l - (intOf i).toNat)
        case atStart => exact ⟨0, by omega, rfl, hown, hg2, hg4, hbc⟩
        case round =>
          obtain ⟨k, hk, rfl, hown', hg2, hg4, hbc⟩ := hrel
          by_cases hlt : k < limN l
          · have hle : ((List.range (k)).map fun k => limFirst l m >>> (l.getD (4 + k) 0 % 2)).length ≤ 100 := by simp; omega
            have hx := at_lt hB.2.2 (4 + k)
            obtain ⟨x, HX⟩ : ∃ x, Hid (l.getD (4 + (k : Int)).toNat 0 = x) := ⟨_, rfl⟩
            have HX' := hid (show l.getD (4 + k) 0 = x from by have := HX.out; rwa [show (4 + (k : Int)).toNat = 4 + k from by omega] at this)
            rw [HX'.out] at hx
            have hc2 : wr.cell? ⟨w.heap.size, 0, none⟩ = some (.slice A n c) := hg2.cell 0
            go_wp2_with (first
              | (go_at_call 41; refine (AT (4 + (k : Int)) (by omega) _ hbc).mono ?_; rintro e w' ⟨rfl, rfl⟩; rw [HX.out])
              | (at_builtin; refine print_append_num w.heap.size rfl (.tmp 119) (.tmp 129) _ _ .u64 8 rfl Try.underlying34 infoU (by decide) u9 (il ((List.range k).map fun k => limFirst l m >>> (l.getD (4 + k) 0 % 2))) (_) (by simp [Act.eval]) (by simp [Act.eval]) (by rw [il_length]; exact hown') (hbc) ((hbc).size) (by rw [il_length]; omega) ?_; intro v1 w1 hown1 hb1 hg1 hat1))
            go_roundw
            case rel => exact ⟨k + 1, by omega, by go_num, own_range hown1 (by rw [HX'.out]; exact shr_form2), hg2.grown hg1 (fun e => own_blk_ne hown' hg2 (by decide) e.symm), hg4.grown hg1 (fun e => own_blk_ne hown' hg4 (by decide) e.symm), hb1⟩
            case measure => simp [intOf]; omega
          · have : k = limN l := by omega
            subst this
            go_wp2
            go_meet
            exact ⟨by rw [show limRaw l m = (List.range (limN l)).map fun k => limFirst l m >>> (l.getD (4 + k) 0 % 2) from by unfold limRaw; rw [HK2.out]; first | done | rfl]; exact hown', hg4, hbc⟩
      · rw [show ((5 : Nat) : Int) = (5 : Int) from rfl]
        go_wp2
        go_loopw [9, 16] (fun v i wr => ∃ k : Nat, k ≤ limN l ∧ i = .int .i64 k ∧ wr.ownsRow w.heap.size 60 1 v (((List.range (k)).map fun k => l.getD (4 + k) 0 &&& limAll l m).filter fun b => cnt b 64 == 3).length (nums .u64 (il (((List.range (k)).map fun k => l.getD (4 + k) 0 &&& limAll l m).filter fun b => cnt b 64 == 3))) ∧ Blk wr w.heap.size 24 #[.slice A n c] ∧ Blk wr (w.heap.size + 1) 36 #[.int .i64 0, .slice none 0 0] ∧ Below w.heap.size w wr) (fun _ i _ => limN l - (intOf i).toNat)
        case atStart => exact ⟨0, by omega, rfl, hown, hg2, hg4, hbc⟩
        case round =>
          obtain ⟨k, hk, rfl, hown', hg2, hg4, hbc⟩ := hrel
          by_cases hlt : k < limN l
          · have hle : (((List.range (k)).map fun k => l.getD (4 + k) 0 &&& limAll l m).filter fun b => cnt b 64 == 3).length ≤ 100 := by have := List.length_filter_le (fun b => cnt b 64 == 3) ((List.range k).map fun k => l.getD (4 + k) 0 &&& limAll l m); simp at this ⊢; omega
            have hx := at_lt hB.2.2 (4 + k)
            obtain ⟨x, HX⟩ : ∃ x, Hid (l.getD (4 + (k : Int)).toNat 0 = x) := ⟨_, rfl⟩
            have HX' := hid (show l.getD (4 + k) 0 = x from by have := HX.out; rwa [show (4 + (k : Int)).toNat = 4 + k from by omega] at this)
            rw [HX'.out] at hx
            have hc2 : wr.cell? ⟨w.heap.size, 0, none⟩ = some (.slice A n c) := hg2.cell 0
            have hxa : x &&& limAll l m < 2 ^ 64 := Nat.lt_of_le_of_lt Nat.and_le_right ha64
            have HF := hid (show ((List.range (k + 1)).map fun k => l.getD (4 + k) 0 &&& limAll l m) = ((List.range k).map fun k => l.getD (4 + k) 0 &&& limAll l m) ++ [x &&& limAll l m] from by rw [List.range_succ]; simp only [List.map_append, List.map_cons, List.map_nil, HX'.out])
            have HA := hid (uand (a := x) (b := limAll l m) (by omega) ha64)
            cases h3 : cnt (x &&& limAll l m) 64 == 3
            all_goals
              have H3 := hid h3
              have h3' : (((cnt (x &&& limAll l m) 64 : Nat) : Int) == 3) = _ := (cast_eq3 _).trans h3
              clear h3
              go_wp2_with (first
                | (go_at_call 41; refine (AT (4 + (k : Int)) (by omega) _ hbc).mono ?_; rintro e w' ⟨rfl, rfl⟩; rw [HX.out])
                | (go_at_call 44; rw [HA.out]; refine (size_any _ hxa _).mono ?_; rintro e w' ⟨rfl, rfl⟩)
                | (at_builtin; refine print_append_num w.heap.size rfl (.tmp 149) (.tmp 151) _ _ .u64 8 rfl Try.underlying34 infoU (by decide) u9 (il (((List.range (k)).map fun k => l.getD (4 + k) 0 &&& limAll l m).filter fun b => cnt b 64 == 3)) (_) (by simp [Act.eval]) (by simp [Act.eval]) (by rw [il_length]; exact hown') (hbc) ((hbc).size) (by rw [il_length]; omega) ?_; intro v1 w1 hown1 hb1 hg1 hat1))
              go_roundw
              case measure => simp [intOf]; omega
              case rel => first | exact ⟨k + 1, by omega, by go_num, by rw [HF.out, List.filter_append]; simpa [H3.out] using hown', hg2, hg4, hbc⟩ | exact ⟨k + 1, by omega, by go_num, own_snoc (x := x &&& limAll l m) hown1 (by first | rfl | exact HA.out) (by rw [HF.out, List.filter_append]; simp [H3.out]), hg2.grown hg1 (fun e => own_blk_ne hown' hg2 (by decide) e.symm), hg4.grown hg1 (fun e => own_blk_ne hown' hg4 (by decide) e.symm), hb1⟩
          · have : k = limN l := by omega
            subst this
            go_wp2
            go_meet
            exact ⟨by rw [show limRaw l m = ((List.range (limN l)).map fun k => l.getD (4 + k) 0 &&& limAll l m).filter fun b => cnt b 64 == 3 from by unfold limRaw; rw [HK2.out]; first | done | rfl]; exact hown', hg4, hbc⟩
      · rw [show ((6 : Nat) : Int) = (6 : Int) from rfl]
        go_wp2
        go_loopw [9, 18] (fun v i wr => ∃ k : Nat, k ≤ limN l ∧ i = .int .i64 k ∧ wr.ownsRow w.heap.size 60 1 v ((List.range (k)).map fun k => l.getD (4 + k) 0 &&& limAll l m).length (nums .u64 (il ((List.range (k)).map fun k => l.getD (4 + k) 0 &&& limAll l m))) ∧ Blk wr w.heap.size 24 #[.slice A n c] ∧ Blk wr (w.heap.size + 1) 36 #[.int .i64 0, .slice none 0 0] ∧ Below w.heap.size w wr) (fun _ i _ => limN l - (intOf i).toNat)
        case atStart => exact ⟨0, by omega, rfl, hown, hg2, hg4, hbc⟩
        case round =>
          obtain ⟨k, hk, rfl, hown', hg2, hg4, hbc⟩ := hrel
          by_cases hlt : k < limN l
          · have hle : ((List.range (k)).map fun k => l.getD (4 + k) 0 &&& limAll l m).length ≤ 100 := by simp; omega
            have hx := at_lt hB.2.2 (4 + k)
            obtain ⟨x, HX⟩ : ∃ x, Hid (l.getD (4 + (k : Int)).toNat 0 = x) := ⟨_, rfl⟩
            have HX' := hid (show l.getD (4 + k) 0 = x from by have := HX.out; rwa [show (4 + (k : Int)).toNat = 4 + k from by omega] at this)
            rw [HX'.out] at hx
            have hc2 : wr.cell? ⟨w.heap.size, 0, none⟩ = some (.slice A n c) := hg2.cell 0
            go_wp2_with (first
              | (go_at_call 41; refine (AT (4 + (k : Int)) (by omega) _ hbc).mono ?_; rintro e w' ⟨rfl, rfl⟩; rw [HX.out])
              | (at_builtin; refine print_append_num w.heap.size rfl (.tmp 51) (.tmp 60) _ _ .u64 8 rfl Try.underlying34 infoU (by decide) u9 (il ((List.range k).map fun k => l.getD (4 + k) 0 &&& limAll l m)) (_) (by simp [Act.eval]) (by simp [Act.eval]) (by rw [il_length]; exact hown') (hbc) ((hbc).size) (by rw [il_length]; omega) ?_; intro v1 w1 hown1 hb1 hg1 hat1))
            go_roundw
            case rel => exact ⟨k + 1, by omega, by go_num, own_range hown1 (by rw [HX'.out]; exact uand (by omega) ha64), hg2.grown hg1 (fun e => own_blk_ne hown' hg2 (by decide) e.symm), hg4.grown hg1 (fun e => own_blk_ne hown' hg4 (by decide) e.symm), hb1⟩
            case measure => simp [intOf]; omega
          · have : k = limN l := by omega
            subst this
            go_wp2
            go_meet
            exact ⟨by rw [show limRaw l m = (List.range (limN l)).map fun k => l.getD (4 + k) 0 &&& limAll l m from by unfold limRaw; rw [HK2.out]; first | done | rfl]; exact hown', hg4, hbc⟩
      · rw [show ((7 : Nat) : Int) = (7 : Int) from rfl]
        go_wp2
        go_loopw [9, 18] (fun v i wr => ∃ k : Nat, k ≤ limN l ∧ i = .int .i64 k ∧ wr.ownsRow w.heap.size 60 1 v ((List.range (k)).map fun k => l.getD (4 + k) 0 &&& limAll l m).length (nums .u64 (il ((List.range (k)).map fun k => l.getD (4 + k) 0 &&& limAll l m))) ∧ Blk wr w.heap.size 24 #[.slice A n c] ∧ Blk wr (w.heap.size + 1) 36 #[.int .i64 0, .slice none 0 0] ∧ Below w.heap.size w wr) (fun _ i _ => limN l - (intOf i).toNat)
        case atStart => exact ⟨0, by omega, rfl, hown, hg2, hg4, hbc⟩
        case round =>
          obtain ⟨k, hk, rfl, hown', hg2, hg4, hbc⟩ := hrel
          by_cases hlt : k < limN l
          · have hle : ((List.range (k)).map fun k => l.getD (4 + k) 0 &&& limAll l m).length ≤ 100 := by simp; omega
            have hx := at_lt hB.2.2 (4 + k)
            obtain ⟨x, HX⟩ : ∃ x, Hid (l.getD (4 + (k : Int)).toNat 0 = x) := ⟨_, rfl⟩
            have HX' := hid (show l.getD (4 + k) 0 = x from by have := HX.out; rwa [show (4 + (k : Int)).toNat = 4 + k from by omega] at this)
            rw [HX'.out] at hx
            have hc2 : wr.cell? ⟨w.heap.size, 0, none⟩ = some (.slice A n c) := hg2.cell 0
            go_wp2_with (first
              | (go_at_call 41; refine (AT (4 + (k : Int)) (by omega) _ hbc).mono ?_; rintro e w' ⟨rfl, rfl⟩; rw [HX.out])
              | (at_builtin; refine print_append_num w.heap.size rfl (.tmp 51) (.tmp 60) _ _ .u64 8 rfl Try.underlying34 infoU (by decide) u9 (il ((List.range k).map fun k => l.getD (4 + k) 0 &&& limAll l m)) (_) (by simp [Act.eval]) (by simp [Act.eval]) (by rw [il_length]; exact hown') (hbc) ((hbc).size) (by rw [il_length]; omega) ?_; intro v1 w1 hown1 hb1 hg1 hat1))
            go_roundw
            case rel => exact ⟨k + 1, by omega, by go_num, own_range hown1 (by rw [HX'.out]; exact uand (by omega) ha64), hg2.grown hg1 (fun e => own_blk_ne hown' hg2 (by decide) e.symm), hg4.grown hg1 (fun e => own_blk_ne hown' hg4 (by decide) e.symm), hb1⟩
            case measure => simp [intOf]; omega
          · have : k = limN l := by omega
            subst this
            go_wp2
            go_meet
            exact ⟨by rw [show limRaw l m = (List.range (limN l)).map fun k => l.getD (4 + k) 0 &&& limAll l m from by unfold limRaw; rw [HK2.out]; first | done | rfl]; exact hown', hg4, hbc⟩
    case rest =>
      clear hg2 hg4 hown hbc
      obtain ⟨hown, hg4, hbc⟩ := hcut
      have hlt64 : ∀ b ∈ limRaw l m, b < 2 ^ 64 := fun b hb => Nat.lt_of_lt_of_le (limRaw_lt hm1 hm7 b hb) (Nat.pow_le_pow_right (by omega) (by omega))
      obtain ⟨A1, c1, rfl, hc1, hm1', hB1⟩ := own_BlC hown hlt64
      have HLen := hid (limRaw_len (l := l) hm1 hm7)
      have hg5 := hg4.lt
      have HO := hid hown
      have HL64 := hid hlt64
      clear hown hlt64
      obtain ⟨N, HN⟩ : ∃ N, Hid ((limRaw l m).length = N) := ⟨_, rfl⟩
      rw [HN.out] at hB1 hc1 ⊢
      have SO := fun (k : Nat) (hk : k ≤ N) => hid (sorted_any A1 k c1 _ wc (NlC.take hB1 hk) (by have := HLen.out; rw [HN.out] at this; omega))
      have FIN : ∀ (k : Nat) (v : Value) (w' : World), (k = 10 ∨ k = N ∧ N ≤ 10) → k ≤ N → w'.ownsRow wc.heap.size 60 1 v k (nums .u64 (il (sortedL ((limRaw l m).take k)))) → Below wc.heap.size wc w' →
          Hid (((w'.setCell ⟨w.heap.size + 1, 0, none⟩ (.int .i64 (limV l m))).setCell ⟨w.heap.size + 1, 1, none⟩ v).ownsRow w.heap.size 60 1 v (limB l m).length (nums .u64 (il (limB l m))) ∧ Below w.heap.size w ((w'.setCell ⟨w.heap.size + 1, 0, none⟩ (.int .i64 (limV l m))).setCell ⟨w.heap.size + 1, 1, none⟩ v)) := by
        intro k v w' hk0 hkN ho hb
        have hk := hid (show (limRaw l m).take k = (limRaw l m).take 10 from by
          rcases hk0 with rfl | ⟨rfl, h10⟩
          · rfl
          · rw [List.take_of_length_le (by rw [HN.out]; omega), List.take_of_length_le (by rw [HN.out]; omega)])
        have hne : some (w.heap.size + 1) ≠ v.ownBlock := fun e => by have := own_base ho _ e.symm; omega
        have hl : k = (limB l m).length := by
          unfold limB; rw [sortedL_length, ← hk.out, List.length_take, HN.out]; omega
        refine ⟨?_, ((below_then hbc hbc.size hb).setCell (p := ⟨w.heap.size + 1, 0, none⟩) (by simp) _).setCell (p := ⟨w.heap.size + 1, 1, none⟩) (by simp) _⟩
        have h2 := own_setCell (own_setCell ho (p := ⟨w.heap.size + 1, 0, none⟩) hne (.int .i64 (limV l m))) (p := ⟨w.heap.size + 1, 1, none⟩) hne v
        rw [← hl]
        unfold limB
        rw [← hk.out]
        exact own_weaken h2 hbc.size
      have hgN : N ≤ 100 := by have := HLen.out; rwa [HN.out] at this
      rcases Nat.lt_or_ge 10 N with h10 | h10
      · have hu31 := Try.underlying36
        go_wp2_with (go_at_call 45; ((with_reducible refine (SO 10 (Nat.le_of_lt h10)).out.mono ?_); rintro e w' ⟨v, rfl, hown1, hb1⟩; obtain ⟨A3, c3, rfl⟩ := own_slice hown1; have hq := hg4.below hb1 hg5; have hq0 : w'.cell? ⟨w.heap.size + 1, 0, none⟩ = some (.int .i64 0) := hq.cell 0; have hq1 : w'.cell? ⟨w.heap.size + 1, 1, none⟩ = some (.slice none 0 0) := hq.cell 1; have hf0 := hq.frozen 0; have hf1 := hq.frozen 1; have hsz := hb1.size; have HF := FIN 10 _ w' (by omega) (Nat.le_of_lt h10) hown1 hb1; clear hown1 hb1 hq))
        refine bodyPost_ret (v := .agg #[.int .i64 (limV l m), .slice A3 10 c3]) (by simp [results, Try.results27, go_sem, hq0, hq1, hf0, hf1]) rfl ⟨_, rfl, HF.out⟩
      · have hu31 := Try.underlying36
        go_wp2_with (go_at_call 45; ((with_reducible refine (SO N (Nat.le_refl _)).out.mono ?_); rintro e w' ⟨v, rfl, hown1, hb1⟩; obtain ⟨A3, c3, rfl⟩ := own_slice hown1; have hq := hg4.below hb1 hg5; have hq0 : w'.cell? ⟨w.heap.size + 1, 0, none⟩ = some (.int .i64 0) := hq.cell 0; have hq1 : w'.cell? ⟨w.heap.size + 1, 1, none⟩ = some (.slice none 0 0) := hq.cell 1; have hf0 := hq.frozen 0; have hf1 := hq.frozen 1; have hsz := hb1.size; have HF := FIN N _ w' (by omega) (Nat.le_refl _) hown1 hb1; clear hown1 hb1 hq))
        refine bodyPost_ret (v := .agg #[.int .i64 (limV l m), .slice A3 N c3]) (by simp [results, Try.results27, go_sem, hq0, hq1, hf0, hf1]) rfl ⟨_, rfl, HF.out⟩
end Go.Proofs.Ytheclfjbedajfaa
