/- slices.Index, slices.Contains at ints, and embed.queue, walked. -/
import Derived.Test.YtheclfjbedajfaaCi
import Derived.Laws.CopyOwn
import Derived.Laws.MakeOwn
namespace Go.Proofs.Ytheclfjbedajfaa
set_option linter.unusedSimpArgs false
set_option linter.unusedVariables false
open Go.RowKit Go.Lib Go.Shelf Go.Proofs.YtheclfjbedajfaaW.PrintWords
attribute [local go_sem] Oper.semAt_some

theorem index_any (A : Option Addr) (c : Nat) (xs : List Int) (y : Int) (w : World) (hC : IC w A xs.length xs) (hl : xs.length < 2 ^ 40) :
    Calls Try.prog 60 #[.slice A xs.length c, .int .i64 y] w fun e w' =>
      ∃ r : Int, e = .returned (.int .i64 r) ∧ w' = w ∧ decide (0 ≤ r) = decide (y ∈ xs) := by
  go_enter Try.func60, Try.ntmps60
  go_wp2
  go_loopw [5, 8] (fun _ i wr => ∃ k : Nat, k ≤ xs.length ∧ i = .int .i64 k ∧ wr = w ∧ Hid (y ∉ xs.take k)) (fun _ i _ => xs.length - (intOf i).toNat)
  case atStart => exact ⟨0, by omega, rfl, by first | rfl | trivial, (show _ ∉ _ from by simp)⟩
  case round =>
    obtain ⟨k, hk, rfl, rfl, HG⟩ := hrel
    by_cases hlt : k < xs.length
    · obtain ⟨ad, x, rfl, hcx, HX⟩ := IC.at_ hC hlt
      by_cases hyx : y = x
      · have hq : (y == x) = true := by simp [hyx]
        have HF : Hid (decide ((0 : Int) ≤ k) = decide (y ∈ xs)) := (show _ = _ from by
          rw [decide_eq_true (show (0 : Int) ≤ k by omega), decide_eq_true (show y ∈ xs from hyx ▸ List.mem_of_getElem? HX.out.1)])
        clear hyx
        go_wp2
        go_ret
        exact ⟨k, rfl, by first | rfl | trivial, HF.out⟩
      · have hq : (y == x) = false := by simp [hyx]
        have HY := hid hyx
        clear hyx
        go_wp2
        go_roundw
        case rel =>
          refine ⟨k + 1, by omega, by go_num, by first | rfl | trivial, (show _ ∉ _ from fun hy => ?_)⟩
          rw [List.take_add_one, HX.out.1] at hy
          rcases List.mem_append.1 hy with h | h
          · exact HG.out h
          · exact HY.out (by simpa using h)
        case measure => simp [intOf]; omega
    · obtain rfl : k = xs.length := by omega
      have HF : Hid (decide ((0 : Int) ≤ -1) = decide (y ∈ xs)) := (show _ = _ from by
        have := HG.out
        rw [List.take_length] at this
        rw [decide_eq_false this]; decide)
      go_wp2
      go_ret
      exact ⟨-1, rfl, by first | rfl | trivial, HF.out⟩
theorem contains_any (A : Option Addr) (c : Nat) (xs : List Int) (y : Int) (w : World) (hC : IC w A xs.length xs) (hl : xs.length < 2 ^ 40) :
    Calls Try.prog 55 #[.slice A xs.length c, .int .i64 y] w fun e w' => e = .returned (.bool (decide (y ∈ xs))) ∧ w' = w := by
  have HX := hid (index_any A c xs y w hC hl)
  clear hC
  go_enter Try.func55, Try.ntmps55
  go_wp2_with (go_at_call 60; refine HX.out.mono ?_; rintro e w' ⟨r, rfl, rfl, hr⟩; replace hr := hid hr)
  go_ret
  exact ⟨ret_bool hr.out, rfl⟩
/-- The order in which blocks take blocks: the done ones, sorted; then the others. -/
def queueN (n : Nat) (ds : List Nat) : List Nat := sortedL ds ++ (List.range n).filter fun i => !decide (i ∈ ds)
theorem il_mem {ds : List Nat} {k : Nat} : (k : Int) ∈ il ds ↔ k ∈ ds := by
  unfold il
  rw [List.mem_map]
  exact ⟨fun ⟨a, ha, e⟩ => by rw [← Int.ofNat.inj e]; exact ha, fun h => ⟨k, h, rfl⟩⟩
set_option maxHeartbeats 2000000 in
set_option maxRecDepth 100000 in
theorem queue_any (V : Value) (A : Option Addr) (cA : Nat) (n : Nat) (D : Option Addr) (cd : Nat) (ds : List Nat) (w : World) (hV : V.oneCell' = true) (hD : IC w D ds.length (il ds)) (hdn : ds.length ≤ n) (hd12 : ds.length ≤ 12) (hn : n ≤ 2 ^ 20) :
    Calls Try.prog 48 #[.agg #[V, .slice A n cA], .slice D ds.length cd] w fun e w' =>
      ∃ v, e = .returned v ∧ w'.ownsRow w.heap.size 3 1 v (queueN n ds).length (nums .i64 (il (queueN n ds))) ∧ Below w.heap.size w w' := by
  obtain ⟨i0, hi0, hz0, hz1, hz2⟩ := info_parts infoI
  have hmk0 := fun W : World => run_makeSlice (P := Try.prog) (w := W) 27 3 i0 _ Try.underlying27 hi0 hz0 .i64 .i64 (ds.length : Int) (n : Int) (by omega) (by omega) (by rw [hz1]; simp; omega) (by rw [hz2]; omega) (by omega)
  have hmk : ∀ W : World, (Instr.makeSlice 27 (.int .i64 (ds.length : Int)) (.int .i64 (n : Int))).run Try.prog W = .ok (.slice (some ⟨W.heap.size, 0, none⟩) ds.length n) (W.alloc (.cells (madeCells #[.int .i64 0] n) 3)) := by
    intro W
    have := hmk0 W
    rw [hz1, Nat.mul_one] at this
    exact this
  clear hmk0
  have hsz : (Try.prog.info? 3).map (·.size) = some 1 := by rw [hi0]; simp [hz1]
  have hui := Try.underlying36
  go_enter Try.func48, Try.ntmps48
  go_upto_region 2 with (fail)
  obtain ⟨w1, hw1⟩ : ∃ w1, (w.alloc (.cells #[V, .slice A n cA] 36)).alloc (.cells (madeCells #[.int .i64 0] n) 3) = w1 := ⟨_, rfl⟩
  have hBl : Blk w1 w.heap.size 36 #[V, .slice A n cA] := by rw [← hw1]; exact (Blk.new _ _ _).alloc _
  have hBm : Blk w1 (w.heap.size + 1) 3 (madeCells #[.int .i64 0] n) := by rw [← hw1]; exact heap_new (by simp)
  have hb1 : Below w.heap.size w w1 := by rw [← hw1]; exact below_alloc (below_alloc (Below.refl _ _) _) _
  have hz1s : w1.heap.size = w.heap.size + 2 := by rw [← hw1]; simp
  rw [hw1]
  clear hw1 hmk
  have hCP : Hid (∀ w3 : World, w3.heap[w.heap.size + 1]? = some (.cells (splice (madeCells #[Value.int .i64 0] n).toList 0 (nums .i64 (il ds))).toArray 3 (0, 0)) →
      w3.ownsRow (w.heap.size + 1) 3 1 (.slice (some ⟨w.heap.size + 1, 0, none⟩) ds.length n) ds.length (nums .i64 (il ds))) := (show ∀ w3, _ from fun w3 h => by
    have hsz2 : (madeCells #[Value.int .i64 0] n).size = n := by simp [size_madeCells]
    refine ⟨by simp [nums, il], .inr ⟨w.heap.size + 1, n, _, rfl, Nat.le_refl _, h, hdn, by simp only [maxLen]; omega, ?_, ?_⟩⟩
    · simp [splice, nums, il, hsz2]; omega
    · simp [splice, nums, il])
  obtain ⟨w3, hcp, hh3, hb3⟩ : ∃ w3 : World, (∀ ty : TypeId, (Builtin.copy_ #[27, 27] ty #[.slice (some ⟨w.heap.size + 1, 0, none⟩) ds.length n, .slice D ds.length cd]).run Try.prog w1 = .ok (.int .i64 ds.length) w3) ∧
      w3.heap[w.heap.size + 1]? = some (.cells (splice (madeCells #[Value.int .i64 0] n).toList 0 (nums .i64 (il ds))).toArray 3 (0, 0)) ∧ Below (w.heap.size + 1) w1 w3 := by
    rcases Nat.eq_zero_or_pos ds.length with h0 | h0
    · obtain rfl : ds = [] := List.eq_nil_of_length_eq_zero h0
      exact ⟨w1, fun ty => run_copy_none w1 _ _ ty 3 _ _ _ _ _ _ Try.underlying27 hsz (by simp), by simpa [splice, nums, il, Blk] using hBm, Below.refl _ _⟩
    · have hR := Reads.of_C (Kd.C_below hD hb1 : IC w1 D ds.length (il ds))
      obtain ⟨ad, u, rfl, -, -, -⟩ := hR.at_ h0
      have hrun := fun ty => run_copy_row (P := Try.prog) w1 27 27 ty 3 (w.heap.size + 1) 0 ds.length n ad ds.length cd (madeCells #[Value.int .i64 0] n) 3 (nums .i64 (il ds)) Try.underlying27 hsz hBm (by simp [nums, il])
        (fun j v hj => by
          obtain ⟨ad', u, e, -, hu, hc⟩ := hR.at_ (k := j) (by have := (List.getElem?_eq_some_iff.1 hj).1; simpa [nums, il] using this)
          cases e
          rw [hj] at hu; cases hu; exact hc)
        (by simp [nums, il, size_madeCells]; omega) (nums_one _ _)
      refine ⟨w1.setRow (w.heap.size + 1) ((madeCells #[Value.int .i64 0] n).toList.take 0 ++ nums .i64 (il ds) ++ (madeCells #[Value.int .i64 0] n).toList.drop (0 + (nums .i64 (il ds)).length)).toArray, fun ty => ?_, ?_, below_setRow (Below.refl _ _) (Nat.le_refl _) _⟩
      · have := hrun ty
        rw [show goInt (nums IntKind.i64 (il ds)).length = Value.int .i64 ds.length by simp [goInt, nums, il]] at this
        exact this
      · refine (setRow_heap w1 (w.heap.size + 1) _ _ 3 (0, 0) hBm).trans ?_
        simp [splice]
  have HO3 := hid (hCP.out w3 hh3)
  clear hh3 hBm
  have hBl3 : Blk w3 w.heap.size 36 #[V, .slice A n cA] := hBl.below hb3 (by omega)
  have hb30 := hb1.trans (hb3.mono (Nat.le_succ _))
  have hz3 := Nat.le_trans (Nat.le_of_eq hz1s.symm) hb3.size
  clear hb3 hBl hb1
  have hus := Try.underlying27
  go_wp2_with (go_at_call 54; refine (sort_any (w.heap.size + 1) _ ds w3 HO3.out hd12).mono ?_; rintro e w4 ⟨rfl, ho4, hg4⟩; have HO4 := hid ho4; clear ho4; have hBl4 := hBl3.grown hg4 (by intro e; injection e with e; simp at e); have hc4 : w4.cell? ⟨w.heap.size, 1, none⟩ = some (.slice A n cA) := by rw [hBl4.cell 1]; rfl)
  have hb4 : Below w.heap.size w w4 := hb30.grown hg4 (by omega) (fun r hr => by simp [Value.ownBlock] at hr; omega)
  have hz4 := Nat.le_trans hz3 hg4.size
  clear hb30 hz3 hBl3 hg4 HO3 hcp hc4 hBl4
  go_loopw [5, 6, 21] (fun v _ i wr => ∃ (k : Nat) (T : List Nat) (vv : Value), k ≤ n ∧ v = vv ∧ i = .int .i64 k ∧ Hid (T = sortedL ds ++ (List.range k).filter fun i => !decide (i ∈ ds)) ∧ Hid (wr.ownsRow (w.heap.size + 1) 3 1 vv T.length (nums .i64 (il T))) ∧ Below w.heap.size w wr ∧ w.heap.size + 1 ≤ wr.heap.size) (fun _ _ i _ => n - (intOf i).toNat)
  case atStart => exact ⟨0, sortedL ds, _, by omega, rfl, rfl, (show _ = _ by simp), (show World.ownsRow _ _ _ _ _ _ _ by rw [sortedL_length]; exact HO4.out), hb4, by omega⟩
  case round =>
    clear hb4 hz4 HO4
    obtain ⟨k, T, v, hk, hv, rfl, HT, HO, hb, hz⟩ := hrel
    have hv := hv.symm
    subst hv
    have hTl : T.length ≤ ds.length + k := by
      rw [HT.out, List.length_append, sortedL_length]
      have := List.length_filter_le (fun i => !decide (i ∈ ds)) (List.range k)
      rw [List.length_range] at this
      omega
    by_cases hlt : k < n
    · have hCo := contains_any D cd (il ds) (k : Int) wr (by rw [il_length]; exact Kd.C_below hD hb) (by rw [il_length]; omega)
      rw [il_length] at hCo
      have HCo := hid hCo
      clear hCo
      have hrs : List.range (k + 1) = List.range k ++ [k] := List.range_succ
      by_cases hin : k ∈ ds
      · have hq : decide ((k : Int) ∈ il ds) = true := by simpa using il_mem.2 hin
        have HT1 : Hid (T = sortedL ds ++ (List.range (k + 1)).filter fun i => !decide (i ∈ ds)) := (show _ = _ by rw [hrs, List.filter_append, HT.out]; simp [hin])
        rw [hq] at HCo
        clear hin hq hrs
        go_wp2_with (go_at_call 55; refine HCo.out.mono ?_; rintro e w' ⟨rfl, rfl⟩)
        go_roundw
        case rel => exact ⟨k + 1, T, v, by omega, rfl, by go_num, HT1, HO, hb, hz⟩
        case measure => simp [intOf]; omega
      · have hq : decide ((k : Int) ∈ il ds) = false := by simpa using fun h => hin (il_mem.1 h)
        have HT1 : Hid (T ++ [k] = sortedL ds ++ (List.range (k + 1)).filter fun i => !decide (i ∈ ds)) := (show _ = _ by rw [hrs, List.filter_append, HT.out]; simp [hin])
        rw [hq] at HCo
        clear hin hq hrs
        have HO1 : Hid (wr.ownsRow (w.heap.size + 1) 3 1 v (il T).length (nums .i64 (il T))) := (show World.ownsRow _ _ _ _ _ _ _ by rw [il_length]; exact HO.out)
        go_wp2_with (first
          | (go_at_call 55; refine HCo.out.mono ?_; rintro e w' ⟨rfl, rfl⟩)
          | (at_builtin; refine print_append_num (w.heap.size + 1) rfl (.tmp 28) (.tmp 30) _ _ .i64 8 rfl hus infoI (by decide) v (il T) (k : Int) (by simp [Act.eval]) (by simp [Act.eval]) HO1.out (Below.refl _ _) hz (by rw [il_length]; omega) ?_; intro v1 w1 hown1 hbx hg1 hat1; clear hbx; have HOn := hid hown1; clear hown1))
        go_roundw
        case rel =>
          refine ⟨k + 1, T ++ [k], v1, by omega, rfl, by go_num, HT1, (show World.ownsRow _ _ _ _ _ _ _ from ?_), hb.grown hg1 (by omega) (fun r hr => ?_), Nat.le_trans hz hg1.size⟩
          · have := HOn.out
            rw [show il (T ++ [k]) = il T ++ [(k : Int)] by simp [il], show (T ++ [k]).length = (il T ++ [(k : Int)]).length by simp [il_length]]
            exact this
          · have := own_base HO.out r hr; omega
        case measure => simp [intOf]; omega
    · obtain rfl : k = n := by omega
      go_wp2
      go_ret
      exact ⟨v, rfl, by rw [queueN, ← HT.out]; exact own_less HO.out (Nat.le_succ _), hb⟩
end Go.Proofs.Ytheclfjbedajfaa
