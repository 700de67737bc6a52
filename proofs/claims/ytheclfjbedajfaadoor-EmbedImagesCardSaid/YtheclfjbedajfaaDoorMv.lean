/- slices.Index, slices.Contains at ints, and embed.queue, walked. -/
/- A region that draws its order, walked by an invariant over what has been carried out; inside a fence, in a round too. -/
/- embed.lists, the iterator, walked. -/
/- embed.lists and its iterator. -/
/- embed.find, walked: a map from sets to where they begin and how often they are there. -/
/- embed.moved, walked: the set to which a list takes a set. -/
import Derived.Test.YtheclfjbedajfaaDoorSi
import Derived.Laws.CopyOwn
import Derived.Laws.MakeOwn
import Derived.OrdersIn
import Derived.StillTail
import Derived.Maps.Views
import Derived.Maps.OwnSet
namespace Go.Proofs.YtheclfjbedajfaaDoor
set_option linter.unusedSimpArgs false
set_option linter.unusedVariables false
open Go.RowKit Go.Lib Go.Shelf Go.Proofs.YtheclfjbedajfaaDoorW.PrintWords
attribute [local go_sem] Oper.semAt_some

theorem index_any (A : Option Addr) (c : Nat) (xs : List Int) (y : Int) (w : World) (hC : IC w A xs.length xs) (hl : xs.length < 2 ^ 40) :
    Calls Tryd.prog 63 #[.slice A xs.length c, .int .i64 y] w fun e w' =>
      ∃ r : Int, e = .returned (.int .i64 r) ∧ w' = w ∧ decide (0 ≤ r) = decide (y ∈ xs) := by
  go_enter Tryd.func63, Tryd.ntmps63
  go_wp2
  go_loopw [5, 8] (fun _ i wr => ∃ k : Nat, k ≤ xs.length ∧ i = .int .i64 k ∧ wr = w ∧ Hid (y ∉ xs.take k)) (fun _ i _ => xs.length - (intOf i).toNat)
  case atStart => exact ⟨0, by omega, rfl, by first | rfl | trivial, (show _ ∉ _ from by simp)⟩
  case round =>
    obtain ⟨k, hk, rfl, rfl, HG⟩ := hrel
    by_cases hlt : k < xs.length
    · obtain ⟨ad, x, rfl, hcx, HX⟩ := IC.at_ hC hlt
      by_cases hyx : y = x
      · have hq : (y == x) = true := by simp [hyx]
        have HF : Hid (decide ((0 : Int) ≤ k) = decide (y ∈ xs)) := (show _ = _ from by
          rw [decide_eq_true (show (0 : Int) ≤ k by omega), decide_eq_true (show y ∈ xs from hyx ▸ List.mem_of_getElem? HX.out.1)])
        clear hyx
        go_wp2
        go_ret
        exact ⟨k, rfl, by first | rfl | trivial, HF.out⟩
      · have hq : (y == x) = false := by simp [hyx]
        have HY := hid hyx
        clear hyx
        go_wp2
        go_roundw
        case rel =>
          refine ⟨k + 1, by omega, by go_num, by first | rfl | trivial, (show _ ∉ _ from fun hy => ?_)⟩
          rw [List.take_add_one, HX.out.1] at hy
          rcases List.mem_append.1 hy with h | h
          · exact HG.out h
          · exact HY.out (by simpa using h)
        case measure => simp [intOf]; omega
    · obtain rfl : k = xs.length := by omega
      have HF : Hid (decide ((0 : Int) ≤ -1) = decide (y ∈ xs)) := (show _ = _ from by
        have := HG.out
        rw [List.take_length] at this
        rw [decide_eq_false this]; decide)
      go_wp2
      go_ret
      exact ⟨-1, rfl, by first | rfl | trivial, HF.out⟩
theorem contains_any (A : Option Addr) (c : Nat) (xs : List Int) (y : Int) (w : World) (hC : IC w A xs.length xs) (hl : xs.length < 2 ^ 40) :
    Calls Tryd.prog 48 #[.slice A xs.length c, .int .i64 y] w fun e w' => e = .returned (.bool (decide (y ∈ xs))) ∧ w' = w := by
  have HX := hid (index_any A c xs y w hC hl)
  clear hC
  go_enter Tryd.func48, Tryd.ntmps48
  go_wp2_with (go_at_call 63; refine HX.out.mono ?_; rintro e w' ⟨r, rfl, rfl, hr⟩; replace hr := hid hr)
  go_ret
  exact ⟨ret_bool hr.out, rfl⟩
/-- The order in which blocks take blocks: the done ones, sorted; then the others. -/
def queueN (n : Nat) (ds : List Nat) : List Nat := sortedL ds ++ (List.range n).filter fun i => !decide (i ∈ ds)
theorem il_mem {ds : List Nat} {k : Nat} : (k : Int) ∈ il ds ↔ k ∈ ds := by
  unfold il
  rw [List.mem_map]
  exact ⟨fun ⟨a, ha, e⟩ => by rw [← Int.ofNat.inj e]; exact ha, fun h => ⟨k, h, rfl⟩⟩
set_option maxHeartbeats 2000000 in
set_option maxRecDepth 100000 in
theorem queue_any (V : Value) (A : Option Addr) (cA : Nat) (n : Nat) (D : Option Addr) (cd : Nat) (ds : List Nat) (w : World) (hV : V.oneCell' = true) (hD : IC w D ds.length (il ds)) (hdn : ds.length ≤ n) (hd12 : ds.length ≤ 12) (hn : n ≤ 2 ^ 20) :
    Calls Tryd.prog 41 #[.agg #[V, .slice A n cA], .slice D ds.length cd] w fun e w' =>
      ∃ v, e = .returned v ∧ w'.ownsRow w.heap.size 3 1 v (queueN n ds).length (nums .i64 (il (queueN n ds))) ∧ Below w.heap.size w w' := by
  obtain ⟨i0, hi0, hz0, hz1, hz2⟩ := info_parts infoI
  have hmk0 := fun W : World => run_makeSlice (P := Tryd.prog) (w := W) 32 3 i0 _ Tryd.underlying32 hi0 hz0 .i64 .i64 (ds.length : Int) (n : Int) (by omega) (by omega) (by rw [hz1]; simp; omega) (by rw [hz2]; omega) (by omega)
  have hmk : ∀ W : World, (Instr.makeSlice 32 (.int .i64 (ds.length : Int)) (.int .i64 (n : Int))).run Tryd.prog W = .ok (.slice (some ⟨W.heap.size, 0, none⟩) ds.length n) (W.alloc (.cells (madeCells #[.int .i64 0] n) 3)) := by
    intro W
    have := hmk0 W
    rw [hz1, Nat.mul_one] at this
    exact this
  clear hmk0
  have hsz : (Tryd.prog.info? 3).map (·.size) = some 1 := by rw [hi0]; simp [hz1]
  have hui := Tryd.underlying29
  go_enter Tryd.func41, Tryd.ntmps41
  go_upto_region 2 with (fail)
  obtain ⟨w1, hw1⟩ : ∃ w1, (w.alloc (.cells #[V, .slice A n cA] 29)).alloc (.cells (madeCells #[.int .i64 0] n) 3) = w1 := ⟨_, rfl⟩
  have hBl : Blk w1 w.heap.size 29 #[V, .slice A n cA] := by rw [← hw1]; exact (Blk.new _ _ _).alloc _
  have hBm : Blk w1 (w.heap.size + 1) 3 (madeCells #[.int .i64 0] n) := by rw [← hw1]; exact heap_new (by simp)
  have hb1 : Below w.heap.size w w1 := by rw [← hw1]; exact below_alloc (below_alloc (Below.refl _ _) _) _
  have hz1s : w1.heap.size = w.heap.size + 2 := by rw [← hw1]; simp
  rw [hw1]
  clear hw1 hmk
  have hCP : Hid (∀ w3 : World, w3.heap[w.heap.size + 1]? = some (.cells (splice (madeCells #[Value.int .i64 0] n).toList 0 (nums .i64 (il ds))).toArray 3 (0, 0)) →
      w3.ownsRow (w.heap.size + 1) 3 1 (.slice (some ⟨w.heap.size + 1, 0, none⟩) ds.length n) ds.length (nums .i64 (il ds))) := (show ∀ w3, _ from fun w3 h => by
    have hsz2 : (madeCells #[Value.int .i64 0] n).size = n := by simp [size_madeCells]
    refine ⟨by simp [nums, il], .inr ⟨w.heap.size + 1, n, _, rfl, Nat.le_refl _, h, hdn, by simp only [maxLen]; omega, ?_, ?_⟩⟩
    · simp [splice, nums, il, hsz2]; omega
    · simp [splice, nums, il])
  obtain ⟨w3, hcp, hh3, hb3⟩ : ∃ w3 : World, (∀ ty : TypeId, (Builtin.copy_ #[32, 32] ty #[.slice (some ⟨w.heap.size + 1, 0, none⟩) ds.length n, .slice D ds.length cd]).run Tryd.prog w1 = .ok (.int .i64 ds.length) w3) ∧
      w3.heap[w.heap.size + 1]? = some (.cells (splice (madeCells #[Value.int .i64 0] n).toList 0 (nums .i64 (il ds))).toArray 3 (0, 0)) ∧ Below (w.heap.size + 1) w1 w3 := by
    rcases Nat.eq_zero_or_pos ds.length with h0 | h0
    · obtain rfl : ds = [] := List.eq_nil_of_length_eq_zero h0
      exact ⟨w1, fun ty => run_copy_none w1 _ _ ty 3 _ _ _ _ _ _ Tryd.underlying32 hsz (by simp), by simpa [splice, nums, il, Blk] using hBm, Below.refl _ _⟩
    · have hR := Reads.of_C (Kd.C_below hD hb1 : IC w1 D ds.length (il ds))
      obtain ⟨ad, u, rfl, -, -, -⟩ := hR.at_ h0
      have hrun := fun ty => run_copy_row (P := Tryd.prog) w1 32 32 ty 3 (w.heap.size + 1) 0 ds.length n ad ds.length cd (madeCells #[Value.int .i64 0] n) 3 (nums .i64 (il ds)) Tryd.underlying32 hsz hBm (by simp [nums, il])
        (fun j v hj => by
          obtain ⟨ad', u, e, -, hu, hc⟩ := hR.at_ (k := j) (by have := (List.getElem?_eq_some_iff.1 hj).1; simpa [nums, il] using this)
          cases e
          rw [hj] at hu; cases hu; exact hc)
        (by simp [nums, il, size_madeCells]; omega) (nums_one _ _)
      refine ⟨w1.setRow (w.heap.size + 1) ((madeCells #[Value.int .i64 0] n).toList.take 0 ++ nums .i64 (il ds) ++ (madeCells #[Value.int .i64 0] n).toList.drop (0 + (nums .i64 (il ds)).length)).toArray, fun ty => ?_, ?_, below_setRow (Below.refl _ _) (Nat.le_refl _) _⟩
      · have := hrun ty
        rw [show goInt (nums IntKind.i64 (il ds)).length = Value.int .i64 ds.length by simp [goInt, nums, il]] at this
        exact this
      · refine (setRow_heap w1 (w.heap.size + 1) _ _ 3 (0, 0) hBm).trans ?_
        simp [splice]
  have HO3 := hid (hCP.out w3 hh3)
  clear hh3 hBm
  have hBl3 : Blk w3 w.heap.size 29 #[V, .slice A n cA] := hBl.below hb3 (by omega)
  have hb30 := hb1.trans (hb3.mono (Nat.le_succ _))
  have hz3 := Nat.le_trans (Nat.le_of_eq hz1s.symm) hb3.size
  clear hb3 hBl hb1
  have hus := Tryd.underlying32
  go_wp2_with (go_at_call 47; refine (sort_anyI (w.heap.size + 1) _ ds w3 HO3.out hd12).mono ?_; rintro e w4 ⟨rfl, ho4, hg4⟩; have HO4 := hid ho4; clear ho4; have hBl4 := hBl3.grown hg4 (by intro e; injection e with e; simp at e); have hc4 : w4.cell? ⟨w.heap.size, 1, none⟩ = some (.slice A n cA) := by rw [hBl4.cell 1]; rfl)
  have hb4 : Below w.heap.size w w4 := hb30.grown hg4 (by omega) (fun r hr => by simp [Value.ownBlock] at hr; omega)
  have hz4 := Nat.le_trans hz3 hg4.size
  clear hb30 hz3 hBl3 hg4 HO3 hcp hc4 hBl4
  go_loopw [5, 6, 21] (fun v _ i wr => ∃ (k : Nat) (T : List Nat) (vv : Value), k ≤ n ∧ v = vv ∧ i = .int .i64 k ∧ Hid (T = sortedL ds ++ (List.range k).filter fun i => !decide (i ∈ ds)) ∧ Hid (wr.ownsRow (w.heap.size + 1) 3 1 vv T.length (nums .i64 (il T))) ∧ Below w.heap.size w wr ∧ w.heap.size + 1 ≤ wr.heap.size) (fun _ _ i _ => n - (intOf i).toNat)
  case atStart => exact ⟨0, sortedL ds, _, by omega, rfl, rfl, (show _ = _ by simp), (show World.ownsRow _ _ _ _ _ _ _ by rw [sortedL_length]; exact HO4.out), hb4, by omega⟩
  case round =>
    clear hb4 hz4 HO4
    obtain ⟨k, T, v, hk, hv, rfl, HT, HO, hb, hz⟩ := hrel
    have hv := hv.symm
    subst hv
    have hTl : T.length ≤ ds.length + k := by
      rw [HT.out, List.length_append, sortedL_length]
      have := List.length_filter_le (fun i => !decide (i ∈ ds)) (List.range k)
      rw [List.length_range] at this
      omega
    by_cases hlt : k < n
    · have hCo := contains_any D cd (il ds) (k : Int) wr (by rw [il_length]; exact Kd.C_below hD hb) (by rw [il_length]; omega)
      rw [il_length] at hCo
      have HCo := hid hCo
      clear hCo
      have hrs : List.range (k + 1) = List.range k ++ [k] := List.range_succ
      by_cases hin : k ∈ ds
      · have hq : decide ((k : Int) ∈ il ds) = true := by simpa using il_mem.2 hin
        have HT1 : Hid (T = sortedL ds ++ (List.range (k + 1)).filter fun i => !decide (i ∈ ds)) := (show _ = _ by rw [hrs, List.filter_append, HT.out]; simp [hin])
        rw [hq] at HCo
        clear hin hq hrs
        go_wp2_with (go_at_call 48; refine HCo.out.mono ?_; rintro e w' ⟨rfl, rfl⟩)
        go_roundw
        case rel => exact ⟨k + 1, T, v, by omega, rfl, by go_num, HT1, HO, hb, hz⟩
        case measure => simp [intOf]; omega
      · have hq : decide ((k : Int) ∈ il ds) = false := by simpa using fun h => hin (il_mem.1 h)
        have HT1 : Hid (T ++ [k] = sortedL ds ++ (List.range (k + 1)).filter fun i => !decide (i ∈ ds)) := (show _ = _ by rw [hrs, List.filter_append, HT.out]; simp [hin])
        rw [hq] at HCo
        clear hin hq hrs
        have HO1 : Hid (wr.ownsRow (w.heap.size + 1) 3 1 v (il T).length (nums .i64 (il T))) := (show World.ownsRow _ _ _ _ _ _ _ by rw [il_length]; exact HO.out)
        go_wp2_with (first
          | (go_at_call 48; refine HCo.out.mono ?_; rintro e w' ⟨rfl, rfl⟩)
          | (at_builtin; refine print_append_num (w.heap.size + 1) rfl (.tmp 28) (.tmp 30) _ _ .i64 8 rfl hus infoI (by decide) v (il T) (k : Int) (by simp [Act.eval]) (by simp [Act.eval]) HO1.out (Below.refl _ _) hz (by rw [il_length]; omega) ?_; intro v1 w1 hown1 hbx hg1 hat1; clear hbx; have HOn := hid hown1; clear hown1))
        go_roundw
        case rel =>
          refine ⟨k + 1, T ++ [k], v1, by omega, rfl, by go_num, HT1, (show World.ownsRow _ _ _ _ _ _ _ from ?_), hb.grown hg1 (by omega) (fun r hr => ?_), Nat.le_trans hz hg1.size⟩
          · have := HOn.out
            rw [show il (T ++ [k]) = il T ++ [(k : Int)] by simp [il], show (T ++ [k]).length = (il T ++ [(k : Int)]).length by simp [il_length]]
            exact this
          · have := own_base HO.out r hr; omega
        case measure => simp [intOf]; omega
    · obtain rfl : k = n := by omega
      go_wp2
      go_ret
      exact ⟨v, rfl, by rw [queueN, ← HT.out]; exact own_less HO.out (Nat.le_succ _), hb⟩
end Go.Proofs.YtheclfjbedajfaaDoor


namespace Go.Proofs.YtheclfjbedajfaaDoor
set_option linter.unusedSimpArgs false
set_option linter.unusedVariables false
open Go.RowKit Go.Lib Go.Shelf Go.Proofs.YtheclfjbedajfaaDoorW.PrintWords

section
variable {F : Fence} {n : Nat} {P : Program} {ops : Array Oper} {md : Region.Mode} {Q : Exit → Act → World → Prop}

def listedOf (listed : Array Bool) (i : Nat) : Bool := listed.getD i false
def put1 (L : Nat → Bool) (i : Nat) : Nat → Bool := fun j => j == i || L j
theorem listedOf_set {listed : Array Bool} {i : Nat} (h : i < listed.size) : listedOf (listed.setIfInBounds i true) = put1 (listedOf listed) i := by
  funext j
  unfold listedOf put1
  by_cases hij : i = j
  · subst hij; simp [h]
  · have : (j == i) = false := by simp; omega
    rw [getD_set_ne false hij, this]; rfl

theorem countP_put1 {L : Nat → Bool} {i : Nat} : ∀ (l : List Nat), i ∈ l → L i = false → l.countP (fun j => !put1 L i j) + 1 ≤ l.countP (fun j => !L j) := by
  intro l
  induction l with
  | nil => intro h; cases h
  | cons x r ih =>
    intro h hL
    by_cases hx : x = i
    · subst hx
      have hle : r.countP (fun j => !put1 L x j) ≤ r.countP (fun j => !L j) := List.countP_mono_left (fun j _ hj => by
        simp only [put1, Bool.not_or, Bool.and_eq_true] at hj
        exact hj.2)
      simp [List.countP_cons, put1, hL] at hle ⊢
      simpa [put1] using hle
    · have hr : i ∈ r := by
        rcases List.mem_cons.1 h with h | h
        · exact absurd h.symm hx
        · exact h
      have := ih hr hL
      have hb : (x == i) = false := by simp [hx]
      simp only [List.countP_cons, put1, hb, Bool.false_or] at this ⊢
      omega
theorem wpAnyIn_inv (Inv : (Nat → Bool) → Act → World → Prop)
    (acyc : ∀ (i : Nat) (o : Oper), ops[i]? = some o → ∀ e ∈ o.after, e.on < i)
    (step : ∀ (i : Nat) (o : Oper) (L : Nat → Bool) (a : Act) (w : World), ops[i]? = some o → L i = false → (∀ e ∈ o.after, Region.binds md e = true → L e.on = true) → Inv L a w →
      ∀ K : Act → World → Prop, (∀ a' w', Inv (put1 L i) a' w' → K a' w') → if Region.wanted o (yielded ops a.tmps) = true then Oper.wpIn F n P o a w K Q else (∀ f, o.about P w a.eval = some f → F.fn f) ∧ K (a.put o.dst undef) w)
    (done : ∀ L a w, (∀ i < ops.size, L i = true) → Inv L a w → Q .normal a w) :
    ∀ (fuel : Nat) (listed : Array Bool) (a : Act) (w : World), listed.size = ops.size → (List.range ops.size).countP (fun i => !listedOf listed i) ≤ fuel → Inv (listedOf listed) a w → wpAnyIn F n P md ops Q fuel listed a w := by
  have allIn : ∀ listed : Array Bool, listed.size = ops.size → Region.ready md ops listed = [] → ∀ i < ops.size, listedOf listed i = true := by
    intro listed hs hr i
    induction i using Nat.strongRecOn with
    | _ i ih =>
      intro hi
      cases hl : listedOf listed i
      · exfalso
        have : i ∈ Region.ready md ops listed := by
          rw [mem_ready]
          refine ⟨getD_in (by omega) hl, ops[i], by simp [hi], fun e he _ => ?_⟩
          have h1 := acyc i ops[i] (by simp [hi]) e he
          exact ih e.on h1 (by omega)
        rw [hr] at this
        cases this
      · rfl
  intro fuel
  induction fuel with
  | zero =>
    intro listed a w hs hc hi
    have h0 : ∀ i < ops.size, listedOf listed i = true := by
      intro i hi
      have := List.countP_eq_zero.1 (Nat.le_zero.1 hc) i (List.mem_range.2 hi)
      simpa using this
    refine ⟨?_, done _ _ _ h0 hi⟩
    rw [List.eq_nil_iff_forall_not_mem]
    intro j hj
    rw [mem_ready] at hj
    obtain ⟨h1, o, ho, _⟩ := hj
    have hlt : j < ops.size := (Array.getElem?_eq_some_iff.1 ho).1
    have := h0 j hlt
    have h2 := getD_both h1
    rw [listedOf, h2] at this
    cases this
  | succ fuel ih =>
    intro listed a w hs hc hi
    refine ⟨fun hr => done _ _ _ (allIn listed hs hr) hi, fun i hir => ?_⟩
    obtain ⟨h1, o, ho, hall⟩ := mem_ready.1 hir
    have hlt : i < ops.size := (Array.getElem?_eq_some_iff.1 ho).1
    refine wpOpIn_step ho (fun K hK => step i o (listedOf listed) a w ho (getD_both h1) hall hi K (fun a' w' h' => hK a' w' (ih _ a' w' (by simp [hs]) ?_ ?_)))
    · have h3 : listedOf listed i = false := getD_both h1
      have : (List.range ops.size).countP (fun j => !listedOf (listed.setIfInBounds i true) j) + 1 ≤ (List.range ops.size).countP (fun j => !listedOf listed j) := by
        rw [listedOf_set (by omega)]
        exact countP_put1 _ (List.mem_range.2 hlt) h3
      omega
    · rw [listedOf_set (by omega)]; exact h'

theorem wpIn_region_inv {id : Nat} {a : Act} {w : World} (hm : P.follows .mixedOrders = true) (Inv : (Nat → Bool) → Act → World → Prop)
    (acyc : ∀ (i : Nat) (o : Oper), ops[i]? = some o → ∀ e ∈ o.after, e.on < i)
    (h0 : Inv (fun _ => false) a w.drew)
    (step : ∀ (i : Nat) (o : Oper) (L : Nat → Bool) (a : Act) (w : World), ops[i]? = some o → L i = false → (∀ e ∈ o.after, Region.binds .any e = true → L e.on = true) → Inv L a w →
      ∀ K : Act → World → Prop, (∀ a' w', Inv (put1 L i) a' w' → K a' w') → if Region.wanted o (yielded ops a.tmps) = true then Oper.wpIn F n P o a w K Q else (∀ f, o.about P w a.eval = some f → F.fn f) ∧ K (a.put o.dst undef) w)
    (done : ∀ L a w, (∀ i < ops.size, L i = true) → Inv L a w → Q .normal a w) : (Code.region id ops true).wpIn F n P Q a w := by
  refine wpIn_region_any hm (wpAnyIn_inv Inv acyc step done ops.size _ a _ (by simp) ?_ ?_)
  · exact Nat.le_trans (List.countP_le_length) (by simp)
  · have : listedOf (Array.replicate ops.size false) = fun _ => false := by funext j; exact getD_replicate_false _ _
    rw [this]; exact h0
end
/-- Each operation waits for earlier ones alone. -/
def acycOk (ops : Array Oper) : Bool := (List.range ops.size).all fun i => match ops[i]? with | some o => o.after.toList.all fun e => decide (e.on < i) | none => true
theorem acyc_of {ops : Array Oper} (h : acycOk ops = true) (i : Nat) (o : Oper) (ho : ops[i]? = some o) : ∀ e ∈ o.after, e.on < i := by
  have hi : i < ops.size := (Array.getElem?_eq_some_iff.1 ho).1
  have h1 := List.all_eq_true.1 h i (List.mem_range.2 hi)
  rw [ho] at h1
  intro e he
  exact of_decide_eq_true (List.all_eq_true.1 h1 e (Array.mem_toList_iff.2 he))
end Go.Proofs.YtheclfjbedajfaaDoor


namespace Go.Proofs.YtheclfjbedajfaaDoor
set_option linter.unusedSimpArgs false
set_option linter.unusedVariables false
open Go.RowKit Go.Lib Go.Shelf Go.Proofs.YtheclfjbedajfaaDoorW.PrintWords
attribute [local go_sem] Oper.semAt_some

/-- The lists that are yielded below a list. -/
def lsL (n : Nat) : Nat → List Nat → List (List Nat)
  | 0, f => [f]
  | l + 1, f => (List.range n).flatMap fun p => if p ∈ f then [] else lsL n l (f ++ [p])
theorem lsL_mem {n : Nat} : ∀ {l : Nat} {f x : List Nat}, x ∈ lsL n l f → (∀ q ∈ f, q < n) → f.Nodup → x.length = f.length + l ∧ (∀ q ∈ x, q < n) ∧ x.Nodup
  | 0, f, x, h, hf, hd => by
    rw [lsL, List.mem_singleton] at h
    subst h
    exact ⟨rfl, hf, hd⟩
  | l + 1, f, x, h, hf, hd => by
    rw [lsL, List.mem_flatMap] at h
    obtain ⟨p, hp, h⟩ := h
    split at h
    · cases h
    · rename_i hpf
      obtain ⟨h1, h2, h3⟩ := lsL_mem h (by intro q hq; rcases List.mem_append.1 hq with hq | hq; exact hf q hq; rw [List.mem_singleton] at hq; subst hq; exact List.mem_range.1 hp) (List.nodup_append.2 ⟨hd, by simp, fun a ha b hb e => by rw [List.mem_singleton] at hb; subst hb; subst e; exact hpf ha⟩)
      exact ⟨by rw [h1, List.length_append]; simp; omega, h2, h3⟩
abbrev ROw (B : Nat) (x : List Nat) (v : Value) (W : World) : Prop := W.ownsRow B 3 1 v x.length (nums .i64 (il x))
abbrev downV (B1 B2 B3 B4 : Nat) : Value := .func (.func 50) #[] #[.pointer (some ⟨B1, 0, none⟩), .pointer (some ⟨B2, 0, none⟩), .pointer (some ⟨B3, 0, none⟩), .pointer (some ⟨B4, 0, none⟩)]
theorem operIn_app {F : Fence} {n : Nat} {P : Program} {w w' : World} {o : Oper} {a : Act} {Q : Exit → Act → World → Prop} {K : Act → World → Prop} (s x : Operand) (t : TypeId) (v1 v2 v : Value)
    (hop : o.op = .call { callee := .builtin .append, args := #[s, x], argTypes := #[t, t] }) (hs : a.eval s = v1) (hx : a.eval x = v2) (hrun : ∀ ty : TypeId, (Builtin.append_ #[t, t] ty #[v1, v2]).run P w = .ok v w')
    (hK : K (a.put o.dst v) w') : o.wpIn F n P a w K Q := by
  unfold Oper.wpIn
  refine ⟨?_, ?_⟩
  · simp [Oper.about, hop, resolve, Target.leads, Sem.run_pure]
  · rw [Oper.semAt_plain F _ _ (by rw [hop]; intro c hc'; cases hc')]
    simp [execOp, hop, resolve, invoke, builtin, hs, hx, hrun, Result.andThen]
    exact hK
theorem opt_add (A : Option Addr) : Option.map (fun x => x.add 0) A = A := by
  cases A with
  | none => rfl
  | some a => simp [Addr.add]
theorem own_cap {B : Nat} {f : List Nat} {A : Option Addr} {c : Nat} {W : World} (h : ROw B f (.slice A f.length c) W) : f.length ≤ c := by
  obtain ⟨_, _, e', h1, h2, _⟩ := own_IC h
  injection e' with _ _ e2
  omega
theorem contains_own {B : Nat} {f : List Nat} {A : Option Addr} {c : Nat} {W : World} (h : ROw B f (.slice A f.length c) W) (p : Int) (hl : f.length < 2 ^ 40) :
    Calls Tryd.prog 48 #[.slice A f.length c, .int .i64 p] W fun e w' => e = .returned (.bool (decide (p ∈ il f))) ∧ w' = W := by
  obtain ⟨_, _, e', _, _, hC⟩ := own_IC h
  injection e' with e1 _ e2
  subst e1 e2
  have := contains_any A c (il f) p W (by rw [il_length]; exact hC) (by rw [il_length]; omega)
  rwa [il_length] at this
set_option maxHeartbeats 1000000 in
set_option maxRecDepth 100000 in
theorem down_any (l B n k : Nat) (hn : n ≤ 16) (hk : k ≤ 16) (XS : List (List Nat)) (J : List (List Nat) → World → Prop) (hJ : ∀ s W W', J s W → W.grownBy W' none → J s W')
    (hY : ∀ m pre x v W, pre ++ [x] <+: XS → ROw B x v W → J pre W → YieldAt Fence.wide m Tryd.prog l #[v] W fun e W' => e = .returned (.bool true) ∧ J (pre ++ [x]) W' ∧ KC B W W')
    (B1 B2 B3 B4 : Nat) (h1 : B ≤ B1) (h2 : B ≤ B2) (h3 : B ≤ B3) (h4 : B ≤ B4) (left : Nat) :
    ∀ (f : List Nat) (v : Value) (pre : List (List Nat)) (W : World), f.length + left = k → ROw B f v W → B ≤ W.heap.size → pre ++ lsL n left f <+: XS → J pre W → W.cell? ⟨B1, 0, none⟩ = some (.int .i64 k) → W.cell? ⟨B2, 0, none⟩ = some (.func (.yield l) #[] #[]) → W.cell? ⟨B3, 0, none⟩ = some (.int .i64 n) →
      W.cell? ⟨B4, 0, none⟩ = some (downV B1 B2 B3 B4) →
      Calls Tryd.prog 50 #[v, .pointer (some ⟨B1, 0, none⟩), .pointer (some ⟨B2, 0, none⟩), .pointer (some ⟨B3, 0, none⟩), .pointer (some ⟨B4, 0, none⟩)] W fun e W' =>
        e = .returned (.bool true) ∧ J (pre ++ lsL n left f) W' ∧ KC B W W' := by
  induction left with
  | zero =>
    intro f v pre W hf hR hBW hpre hJ0 c1 c2 c3 c4
    obtain ⟨A, c, rfl⟩ := own_slice hR
    have hkf : k = f.length := by omega
    subst hkf
    refine (callsIn_wide (n := 3)).1 ?_
    refine callsIn_of_wp Tryd.func50 rfl trivial ?_ rfl
    simp only [Tryd.ntmps50, List.size_toArray, List.length_cons, List.length_nil, Nat.reduceAdd, Nat.reduceSub, Array.replicate_succ, Array.replicate_zero, List.push_toArray, List.append_toArray, List.nil_append, List.cons_append]
    obtain ⟨fn, tmps, assign, body, hy, hR2⟩ := hY 2 pre f _ W hpre hR hJ0
    gi_wp2
    refine hR2.mono ?_
    rintro e W' ⟨rfl, hJ', hk⟩
    gi_wp2
    go_ret
    exact ⟨rfl, hJ', hk⟩
  | succ left ih =>
    intro f v pre W hf hR hBW hpre hJ0 c1 c2 c3 c4
    obtain ⟨A, c, rfl⟩ := own_slice hR
    have hne : ((f.length : Int) == (k : Int)) = false := by rw [beq_eq_false_iff_ne]; omega
    have hfl : f.length < 16 := by omega
    have IH := fun (p : Nat) (v : Value) (pre : List (List Nat)) (W : World) => hid (ih (f ++ [p]) v pre W (by rw [List.length_append]; simp; omega))
    have HJ := hid hJ
    have HPRE := hid hpre
    have HOW := hid hR
    clear ih hJ hY hpre hR
    go_enter Tryd.func50, Tryd.ntmps50
    go_wp2
    clear hne
    go_loopw [16] (fun i wr => ∃ j : Nat, j ≤ n ∧ i = .int .i64 j ∧ Hid (J (pre ++ (List.range j).flatMap fun p => if p ∈ f then [] else lsL n left (f ++ [p])) wr) ∧ KC B W wr) (fun i _ => n - (intOf i).toNat)
    case atStart => exact ⟨0, by omega, rfl, (show J _ _ by simpa using hJ0), KC.refl _ _⟩
    case round =>
      clear hJ0
      obtain ⟨j, hj, rfl, HJw, hk1⟩ := hrel
      have c1' := hk1.cell h1 c1
      have c2' := hk1.cell h2 c2
      have c3' := hk1.cell h3 c3
      have c4' := hk1.cell h4 c4
      have hBr : B ≤ wr.heap.size := Nat.le_trans hBW hk1.1
      by_cases hlt : j < n
      · have HCo := hid (fun W' (hW' : KC B W W') => contains_own (own_KC HOW.out hW' (Nat.le_refl _)) (j : Int) (by omega))
        have hrs : List.range (j + 1) = List.range j ++ [j] := List.range_succ
        by_cases hin : j ∈ f
        · have hq : decide ((j : Int) ∈ il f) = true := by simpa using il_mem.2 hin
          have HF : Hid ((List.range (j + 1)).flatMap (fun p => if p ∈ f then [] else lsL n left (f ++ [p])) = (List.range j).flatMap fun p => if p ∈ f then [] else lsL n left (f ++ [p])) := (show _ = _ by rw [hrs, List.flatMap_append]; simp [hin])
          rw [hq] at HCo
          obtain ⟨QQ, hQQ⟩ : ∃ QQ, (pre ++ (List.range j).flatMap fun p => if p ∈ f then [] else lsL n left (f ++ [p])) = QQ := ⟨_, rfl⟩
          have HQQ := hid hQQ
          rw [hQQ] at HJw
          have HJ2 := hid (HJ.out _ _ _ HJw.out (grown_drew _))
          have hk2 : KC B W wr.drew := hk1.trans (KC.of_below (below_drew (Below.refl _ _)))
          clear hin hq hrs hQQ
          go_upto_region 6 with (fail)
          refine (wpIn_wide (n := 8)).1 ?_
          obtain ⟨vv, hvv⟩ : ∃ vv : Nat → Value, vv = fun i => (#[.slice A f.length c, .int .i64 j, .bool true, .bool false, .bool false, undef, undef, undef, undef, undef, undef, undef, undef, undef, undef, undef, undef, .bool false] : Array Value).getD i undef := ⟨_, rfl⟩
          have mk : ∀ (L : Nat → Bool) (a' : Act) (w' : World), a' = ({ tmps := #[.slice A f.length c, .pointer (some ⟨B1, 0, none⟩), .pointer (some ⟨B2, 0, none⟩), .pointer (some ⟨B3, 0, none⟩), .pointer (some ⟨B4, 0, none⟩), undef, u6, .int .i64 j, .slice A f.length c, .int .i64 f.length, .int .i64 k, .bool false, undef, undef, undef, .int .i64 n, .int .i64 j, .bool true, .int .i64 j, a'.tmps.getD (19 + 0) undef, a'.tmps.getD (19 + 1) undef, a'.tmps.getD (19 + 2) undef, a'.tmps.getD (19 + 3) undef, a'.tmps.getD (19 + 4) undef, a'.tmps.getD (19 + 5) undef, a'.tmps.getD (19 + 6) undef, a'.tmps.getD (19 + 7) undef, a'.tmps.getD (19 + 8) undef, a'.tmps.getD (19 + 9) undef, a'.tmps.getD (19 + 10) undef, a'.tmps.getD (19 + 11) undef, a'.tmps.getD (19 + 12) undef, a'.tmps.getD (19 + 13) undef, a'.tmps.getD (19 + 14) undef, a'.tmps.getD (19 + 15) undef, a'.tmps.getD (19 + 16) undef, a'.tmps.getD (19 + 17) undef, u37], defers := [] } : Act) → (∀ j < 18, L j = true → a'.tmps.getD (19 + j) undef = vv j) → (fun (L : Nat → Bool) (wz : World) => KC B W wz ∧ Hid (J QQ wz)) L w' → ∃ y : Nat → Value, a' = ({ tmps := #[.slice A f.length c, .pointer (some ⟨B1, 0, none⟩), .pointer (some ⟨B2, 0, none⟩), .pointer (some ⟨B3, 0, none⟩), .pointer (some ⟨B4, 0, none⟩), undef, u6, .int .i64 j, .slice A f.length c, .int .i64 f.length, .int .i64 k, .bool false, undef, undef, undef, .int .i64 n, .int .i64 j, .bool true, .int .i64 j, y 0, y 1, y 2, y 3, y 4, y 5, y 6, y 7, y 8, y 9, y 10, y 11, y 12, y 13, y 14, y 15, y 16, y 17, u37], defers := [] } : Act) ∧ (∀ j < 18, L j = true → y j = vv j) ∧ (fun (L : Nat → Bool) (wz : World) => KC B W wz ∧ Hid (J QQ wz)) L w' := fun L a' w' h1 h2 h3 => ⟨fun m => a'.tmps.getD (19 + m) undef, h1, h2, h3⟩
          refine wpIn_region_inv (by kernel_rfl) (fun L aI wI => ∃ y : Nat → Value, aI = ({ tmps := #[.slice A f.length c, .pointer (some ⟨B1, 0, none⟩), .pointer (some ⟨B2, 0, none⟩), .pointer (some ⟨B3, 0, none⟩), .pointer (some ⟨B4, 0, none⟩), undef, u6, .int .i64 j, .slice A f.length c, .int .i64 f.length, .int .i64 k, .bool false, undef, undef, undef, .int .i64 n, .int .i64 j, .bool true, .int .i64 j, y 0, y 1, y 2, y 3, y 4, y 5, y 6, y 7, y 8, y 9, y 10, y 11, y 12, y 13, y 14, y 15, y 16, y 17, u37], defers := [] } : Act) ∧ (∀ j < 18, L j = true → y j = vv j) ∧ (fun (L : Nat → Bool) (wz : World) => KC B W wz ∧ Hid (J QQ wz)) L wI) ?acyc ?start ?step ?rdone
          case acyc => exact fun i o ho => acyc_of (by kernel_rfl) i o ho
          case start => exact mk (fun _ => false) _ _ rfl (fun _ _ h => by cases h) (by exact ⟨hk2, HJ2⟩)
          case step =>
            rintro i o L a wx ho hLi hdep ⟨y, rfl, hy, hWI⟩ K hK
            have hi : i < 18 := (Array.getElem?_eq_some_iff.1 ho).1
            rcases i with _ | _ | _ | _ | _ | _ | _ | _ | _ | _ | _ | _ | _ | _ | _ | _ | _ | _ | i
            · obtain rfl := Option.some.inj ho
              clear hdep ho
              go_simp
              refine hK _ _ (mk _ _ _ rfl ?_ ?_)
              rotate_left
              · exact hWI
              · intro j hj h
                rcases j with _ | _ | _ | _ | _ | _ | _ | _ | _ | _ | _ | _ | _ | _ | _ | _ | _ | _ | j
                all_goals first | (rw [hvv]; rfl) | exact hy _ (by omega) (by simpa [put1] using h) | (exfalso; omega)
            · obtain rfl := Option.some.inj ho
              clear hdep ho
              go_simp
              refine hK _ _ (mk _ _ _ rfl ?_ ?_)
              rotate_left
              · exact hWI
              · intro j hj h
                rcases j with _ | _ | _ | _ | _ | _ | _ | _ | _ | _ | _ | _ | _ | _ | _ | _ | _ | _ | j
                all_goals first | (rw [hvv]; rfl) | exact hy _ (by omega) (by simpa [put1] using h) | (exfalso; omega)
            · obtain rfl := Option.some.inj ho
              have d0 : L 0 = true := hdep ⟨0, .data⟩ (by simp) rfl
              have d1 : L 1 = true := hdep ⟨1, .data⟩ (by simp) rfl
              have e0 : y 0 = .slice A f.length c := (hy 0 (by omega) d0).trans (by rw [hvv]; rfl)
              have e1 : y 1 = .int .i64 j := (hy 1 (by omega) d1).trans (by rw [hvv]; rfl)
              clear hdep ho
              rw [e0, e1]
              go_simp
              gi_wp2_with (refine ⟨trivial, ?_⟩; gi_at_call 48; refine (callsIn_wide.2 (HCo.out _ (by exact hWI.1))).mono ?_; rintro e w' ⟨rfl, rfl⟩)
              refine mk _ _ _ rfl ?_ ?_
              rotate_left
              · exact hWI
              · intro j hj h
                rcases j with _ | _ | _ | _ | _ | _ | _ | _ | _ | _ | _ | _ | _ | _ | _ | _ | _ | _ | j
                all_goals first | (rw [hvv]; rfl) | exact hy _ (by omega) (by simpa [put1] using h) | (exfalso; omega)
            · obtain rfl := Option.some.inj ho
              have d2 : L 2 = true := hdep ⟨2, .data⟩ (by simp) rfl
              have e2 : y 2 = .bool true := (hy 2 (by omega) d2).trans (by rw [hvv]; rfl)
              clear hdep ho
              rw [e2]
              go_simp
              refine hK _ _ (mk _ _ _ rfl ?_ ?_)
              rotate_left
              · exact hWI
              · intro j hj h
                rcases j with _ | _ | _ | _ | _ | _ | _ | _ | _ | _ | _ | _ | _ | _ | _ | _ | _ | _ | j
                all_goals first | (rw [hvv]; rfl) | exact hy _ (by omega) (by simpa [put1] using h) | (exfalso; omega)
            · obtain rfl := Option.some.inj ho
              have d3 : L 3 = true := hdep ⟨3, .data⟩ (by simp) rfl
              have e3 : y 3 = .bool false := (hy 3 (by omega) d3).trans (by rw [hvv]; rfl)
              clear hdep ho
              rw [e3]
              go_simp
              refine hK _ _ (mk _ _ _ rfl ?_ ?_)
              rotate_left
              · exact hWI
              · intro j hj h
                rcases j with _ | _ | _ | _ | _ | _ | _ | _ | _ | _ | _ | _ | _ | _ | _ | _ | _ | _ | j
                all_goals first | (rw [hvv]; rfl) | exact hy _ (by omega) (by simpa [put1] using h) | (exfalso; omega)
            · obtain rfl := Option.some.inj ho
              have d4 : L 4 = true := hdep ⟨4, .guard⟩ (by simp) rfl
              have e4 : y 4 = .bool false := (hy 4 (by omega) d4).trans (by rw [hvv]; rfl)
              clear hdep ho
              rw [e4]
              rw [if_neg (by intro h; cases h)]
              refine ⟨fun _ _ => trivial, ?_⟩
              go_simp
              refine hK _ _ (mk _ _ _ rfl ?_ ?_)
              rotate_left
              · exact hWI
              · intro j hj h
                rcases j with _ | _ | _ | _ | _ | _ | _ | _ | _ | _ | _ | _ | _ | _ | _ | _ | _ | _ | j
                all_goals first | (rw [hvv]; rfl) | exact hy _ (by omega) (by simpa [put1] using h) | (exfalso; omega)
            · obtain rfl := Option.some.inj ho
              have d4 : L 4 = true := hdep ⟨4, .guard⟩ (by simp) rfl
              have e4 : y 4 = .bool false := (hy 4 (by omega) d4).trans (by rw [hvv]; rfl)
              clear hdep ho
              rw [e4]
              rw [if_neg (by intro h; cases h)]
              refine ⟨fun _ _ => trivial, ?_⟩
              go_simp
              refine hK _ _ (mk _ _ _ rfl ?_ ?_)
              rotate_left
              · exact hWI
              · intro j hj h
                rcases j with _ | _ | _ | _ | _ | _ | _ | _ | _ | _ | _ | _ | _ | _ | _ | _ | _ | _ | j
                all_goals first | (rw [hvv]; rfl) | exact hy _ (by omega) (by simpa [put1] using h) | (exfalso; omega)
            · obtain rfl := Option.some.inj ho
              have d4 : L 4 = true := hdep ⟨4, .guard⟩ (by simp) rfl
              have e4 : y 4 = .bool false := (hy 4 (by omega) d4).trans (by rw [hvv]; rfl)
              clear hdep ho
              rw [e4]
              rw [if_neg (by intro h; cases h)]
              refine ⟨fun _ _ => trivial, ?_⟩
              go_simp
              refine hK _ _ (mk _ _ _ rfl ?_ ?_)
              rotate_left
              · exact hWI
              · intro j hj h
                rcases j with _ | _ | _ | _ | _ | _ | _ | _ | _ | _ | _ | _ | _ | _ | _ | _ | _ | _ | j
                all_goals first | (rw [hvv]; rfl) | exact hy _ (by omega) (by simpa [put1] using h) | (exfalso; omega)
            · obtain rfl := Option.some.inj ho
              have d7 : L 7 = true := hdep ⟨7, .data⟩ (by simp) rfl
              have d4 : L 4 = true := hdep ⟨4, .guard⟩ (by simp) rfl
              have e4 : y 4 = .bool false := (hy 4 (by omega) d4).trans (by rw [hvv]; rfl)
              have e7 : y 7 = undef := (hy 7 (by omega) d7).trans (by rw [hvv]; rfl)
              clear hdep ho
              rw [e4, e7]
              rw [if_neg (by intro h; cases h)]
              refine ⟨fun _ _ => trivial, ?_⟩
              go_simp
              refine hK _ _ (mk _ _ _ rfl ?_ ?_)
              rotate_left
              · exact hWI
              · intro j hj h
                rcases j with _ | _ | _ | _ | _ | _ | _ | _ | _ | _ | _ | _ | _ | _ | _ | _ | _ | _ | j
                all_goals first | (rw [hvv]; rfl) | exact hy _ (by omega) (by simpa [put1] using h) | (exfalso; omega)
            · obtain rfl := Option.some.inj ho
              have d4 : L 4 = true := hdep ⟨4, .guard⟩ (by simp) rfl
              have e4 : y 4 = .bool false := (hy 4 (by omega) d4).trans (by rw [hvv]; rfl)
              clear hdep ho
              rw [e4]
              rw [if_neg (by intro h; cases h)]
              refine ⟨fun _ _ => trivial, ?_⟩
              go_simp
              refine hK _ _ (mk _ _ _ rfl ?_ ?_)
              rotate_left
              · exact hWI
              · intro j hj h
                rcases j with _ | _ | _ | _ | _ | _ | _ | _ | _ | _ | _ | _ | _ | _ | _ | _ | _ | _ | j
                all_goals first | (rw [hvv]; rfl) | exact hy _ (by omega) (by simpa [put1] using h) | (exfalso; omega)
            · obtain rfl := Option.some.inj ho
              have d9 : L 9 = true := hdep ⟨9, .data⟩ (by simp) rfl
              have d4 : L 4 = true := hdep ⟨4, .guard⟩ (by simp) rfl
              have e4 : y 4 = .bool false := (hy 4 (by omega) d4).trans (by rw [hvv]; rfl)
              have e9 : y 9 = undef := (hy 9 (by omega) d9).trans (by rw [hvv]; rfl)
              clear hdep ho
              rw [e4, e9]
              rw [if_neg (by intro h; cases h)]
              refine ⟨fun _ _ => trivial, ?_⟩
              go_simp
              refine hK _ _ (mk _ _ _ rfl ?_ ?_)
              rotate_left
              · exact hWI
              · intro j hj h
                rcases j with _ | _ | _ | _ | _ | _ | _ | _ | _ | _ | _ | _ | _ | _ | _ | _ | _ | _ | j
                all_goals first | (rw [hvv]; rfl) | exact hy _ (by omega) (by simpa [put1] using h) | (exfalso; omega)
            · obtain rfl := Option.some.inj ho
              have d6 : L 6 = true := hdep ⟨6, .data⟩ (by simp) rfl
              have d8 : L 8 = true := hdep ⟨8, .data⟩ (by simp) rfl
              have d10 : L 10 = true := hdep ⟨10, .data⟩ (by simp) rfl
              have d4 : L 4 = true := hdep ⟨4, .guard⟩ (by simp) rfl
              have e4 : y 4 = .bool false := (hy 4 (by omega) d4).trans (by rw [hvv]; rfl)
              have e6 : y 6 = undef := (hy 6 (by omega) d6).trans (by rw [hvv]; rfl)
              have e8 : y 8 = undef := (hy 8 (by omega) d8).trans (by rw [hvv]; rfl)
              have e10 : y 10 = undef := (hy 10 (by omega) d10).trans (by rw [hvv]; rfl)
              clear hdep ho
              rw [e4, e6, e8, e10]
              rw [if_neg (by intro h; cases h)]
              refine ⟨fun _ _ => trivial, ?_⟩
              go_simp
              refine hK _ _ (mk _ _ _ rfl ?_ ?_)
              rotate_left
              · exact hWI
              · intro j hj h
                rcases j with _ | _ | _ | _ | _ | _ | _ | _ | _ | _ | _ | _ | _ | _ | _ | _ | _ | _ | j
                all_goals first | (rw [hvv]; rfl) | exact hy _ (by omega) (by simpa [put1] using h) | (exfalso; omega)
            · obtain rfl := Option.some.inj ho
              have d4 : L 4 = true := hdep ⟨4, .guard⟩ (by simp) rfl
              have e4 : y 4 = .bool false := (hy 4 (by omega) d4).trans (by rw [hvv]; rfl)
              clear hdep ho
              rw [e4]
              rw [if_neg (by intro h; cases h)]
              refine ⟨fun _ _ => trivial, ?_⟩
              go_simp
              refine hK _ _ (mk _ _ _ rfl ?_ ?_)
              rotate_left
              · exact hWI
              · intro j hj h
                rcases j with _ | _ | _ | _ | _ | _ | _ | _ | _ | _ | _ | _ | _ | _ | _ | _ | _ | _ | j
                all_goals first | (rw [hvv]; rfl) | exact hy _ (by omega) (by simpa [put1] using h) | (exfalso; omega)
            · obtain rfl := Option.some.inj ho
              have d12 : L 12 = true := hdep ⟨12, .data⟩ (by simp) rfl
              have d4 : L 4 = true := hdep ⟨4, .guard⟩ (by simp) rfl
              have e4 : y 4 = .bool false := (hy 4 (by omega) d4).trans (by rw [hvv]; rfl)
              have e12 : y 12 = undef := (hy 12 (by omega) d12).trans (by rw [hvv]; rfl)
              clear hdep ho
              rw [e4, e12]
              rw [if_neg (by intro h; cases h)]
              refine ⟨fun _ _ => trivial, ?_⟩
              go_simp
              refine hK _ _ (mk _ _ _ rfl ?_ ?_)
              rotate_left
              · exact hWI
              · intro j hj h
                rcases j with _ | _ | _ | _ | _ | _ | _ | _ | _ | _ | _ | _ | _ | _ | _ | _ | _ | _ | j
                all_goals first | (rw [hvv]; rfl) | exact hy _ (by omega) (by simpa [put1] using h) | (exfalso; omega)
            · obtain rfl := Option.some.inj ho
              have d11 : L 11 = true := hdep ⟨11, .data⟩ (by simp) rfl
              have d13 : L 13 = true := hdep ⟨13, .data⟩ (by simp) rfl
              have d4 : L 4 = true := hdep ⟨4, .guard⟩ (by simp) rfl
              have e4 : y 4 = .bool false := (hy 4 (by omega) d4).trans (by rw [hvv]; rfl)
              have e11 : y 11 = undef := (hy 11 (by omega) d11).trans (by rw [hvv]; rfl)
              have e13 : y 13 = undef := (hy 13 (by omega) d13).trans (by rw [hvv]; rfl)
              clear hdep ho
              rw [e4, e11, e13]
              rw [if_neg (by intro h; cases h)]
              refine ⟨fun _ _ => trivial, ?_⟩
              go_simp
              refine hK _ _ (mk _ _ _ rfl ?_ ?_)
              rotate_left
              · exact hWI
              · intro j hj h
                rcases j with _ | _ | _ | _ | _ | _ | _ | _ | _ | _ | _ | _ | _ | _ | _ | _ | _ | _ | j
                all_goals first | (rw [hvv]; rfl) | exact hy _ (by omega) (by simpa [put1] using h) | (exfalso; omega)
            · obtain rfl := Option.some.inj ho
              have d5 : L 5 = true := hdep ⟨5, .data⟩ (by simp) rfl
              have d14 : L 14 = true := hdep ⟨14, .data⟩ (by simp) rfl
              have d4 : L 4 = true := hdep ⟨4, .guard⟩ (by simp) rfl
              have e4 : y 4 = .bool false := (hy 4 (by omega) d4).trans (by rw [hvv]; rfl)
              have e5 : y 5 = undef := (hy 5 (by omega) d5).trans (by rw [hvv]; rfl)
              have e14 : y 14 = undef := (hy 14 (by omega) d14).trans (by rw [hvv]; rfl)
              clear hdep ho
              rw [e4, e5, e14]
              rw [if_neg (by intro h; cases h)]
              refine ⟨fun _ _ => trivial, ?_⟩
              go_simp
              refine hK _ _ (mk _ _ _ rfl ?_ ?_)
              rotate_left
              · exact hWI
              · intro j hj h
                rcases j with _ | _ | _ | _ | _ | _ | _ | _ | _ | _ | _ | _ | _ | _ | _ | _ | _ | _ | j
                all_goals first | (rw [hvv]; rfl) | exact hy _ (by omega) (by simpa [put1] using h) | (exfalso; omega)
            · obtain rfl := Option.some.inj ho
              have d15 : L 15 = true := hdep ⟨15, .data⟩ (by simp) rfl
              have d4 : L 4 = true := hdep ⟨4, .guard⟩ (by simp) rfl
              have e4 : y 4 = .bool false := (hy 4 (by omega) d4).trans (by rw [hvv]; rfl)
              have e15 : y 15 = undef := (hy 15 (by omega) d15).trans (by rw [hvv]; rfl)
              clear hdep ho
              rw [e4, e15]
              rw [if_neg (by intro h; cases h)]
              refine ⟨fun _ _ => trivial, ?_⟩
              go_simp
              refine hK _ _ (mk _ _ _ rfl ?_ ?_)
              rotate_left
              · exact hWI
              · intro j hj h
                rcases j with _ | _ | _ | _ | _ | _ | _ | _ | _ | _ | _ | _ | _ | _ | _ | _ | _ | _ | j
                all_goals first | (rw [hvv]; rfl) | exact hy _ (by omega) (by simpa [put1] using h) | (exfalso; omega)
            · obtain rfl := Option.some.inj ho
              have d4 : L 4 = true := hdep ⟨4, .data⟩ (by simp) rfl
              have d16 : L 16 = true := hdep ⟨16, .data⟩ (by simp) rfl
              have e4 : y 4 = .bool false := (hy 4 (by omega) d4).trans (by rw [hvv]; rfl)
              have e16 : y 16 = undef := (hy 16 (by omega) d16).trans (by rw [hvv]; rfl)
              clear hdep ho
              rw [e4, e16]
              go_simp
              refine hK _ _ (mk _ _ _ rfl ?_ ?_)
              rotate_left
              · exact hWI
              · intro j hj h
                rcases j with _ | _ | _ | _ | _ | _ | _ | _ | _ | _ | _ | _ | _ | _ | _ | _ | _ | _ | j
                all_goals first | (rw [hvv]; rfl) | exact hy _ (by omega) (by simpa [put1] using h) | (exfalso; omega)
            · exfalso; omega
          case rdone =>
            rintro L a w4 hall ⟨y, rfl, hy, hWI⟩
            obtain ⟨hk4, HJ4⟩ := hWI
            have e17 : y 17 = .bool false := (hy 17 (by omega) (hall 17 (by decide))).trans (by rw [hvv]; rfl)
            rw [e17]
            generalize y 0 = y0
            generalize y 1 = y1
            generalize y 2 = y2
            generalize y 3 = y3
            generalize y 4 = y4
            generalize y 5 = y5
            generalize y 6 = y6
            generalize y 7 = y7
            generalize y 8 = y8
            generalize y 9 = y9
            generalize y 10 = y10
            generalize y 11 = y11
            generalize y 12 = y12
            generalize y 13 = y13
            generalize y 14 = y14
            generalize y 15 = y15
            generalize y 16 = y16
            clear mk hvv hy hall e17 HCo
            go_wp2
            exact ⟨⟨j + 1, by omega, by simp, hid (by rw [HF.out, HQQ.out]; exact HJ4.out), hk4⟩, by show n - ((j : Int) + 1).toNat < n - ((j : Int)).toNat; omega⟩
        · have hq : decide ((j : Int) ∈ il f) = false := by simpa using fun h => hin (il_mem.1 h)
          obtain ⟨LL, hLL⟩ : ∃ LL, lsL n left (f ++ [j]) = LL := ⟨_, rfl⟩
          obtain ⟨PP, hPP⟩ : ∃ PP, (pre ++ (List.range j).flatMap fun p => if p ∈ f then [] else lsL n left (f ++ [p])) = PP := ⟨_, rfl⟩
          have HF : Hid (pre ++ (List.range (j + 1)).flatMap (fun p => if p ∈ f then [] else lsL n left (f ++ [p])) = PP ++ LL) := (show _ = _ by rw [hrs, List.flatMap_append, ← List.append_assoc, hPP]; simp [hin, hLL])
          have hpp : PP ++ LL <+: XS := List.IsPrefix.trans (by
            rw [← HF.out, lsL]
            obtain ⟨q, hq⟩ : ∃ q, n = (j + 1) + q := ⟨n - (j + 1), by omega⟩
            rw [hq, List.range_add (n := j + 1), List.flatMap_append, ← List.append_assoc]
            exact List.prefix_append _ _) HPRE.out
          rw [hPP] at HJw
          rw [hq] at HCo
          obtain ⟨w8, hw8⟩ : ∃ w8, wr.drew.alloc (.cells #[.int .i64 j] 3) = w8 := ⟨_, rfl⟩
          have hb8 : Below wr.heap.size wr w8 := by rw [← hw8]; exact below_alloc (below_drew (Below.refl _ _)) _
          have hz8 : w8.heap.size = wr.heap.size + 1 := by rw [← hw8]; simp
          have hk8 : KC B W w8 := hk1.trans (KC.of_below hb8)
          obtain ⟨v9, w9, hrun, own9, hb9⟩ := append_full (A := A) (c := c) (m := f.length) (xs := il f) (p := (j : Int)) (g := wr.heap.size) (W := w8) (base := B) (own_KC HOW.out hk8 (Nat.le_refl _)) (by rw [← hw8]; simp [go_sem]) (by omega)
          have hk9 : KC B W w9 := hk8.trans (KC.of_below hb9)
          have hk2 : KC B W wr.drew := hk1.trans (KC.of_below (below_drew (Below.refl _ _)))
          have hfc : f.length ≤ c := own_cap HOW.out
          have hAA : (if f.length = 0 then A else Option.map (fun x => x.add 0) A) = A := by split <;> first | rfl | exact opt_add A
          have hdown := hid ((IH j v9 PP w9).out (by have := own_less own9 (show B ≤ _ by omega); simpa [ROw, il] using this) (by have := hb9.size; omega) (by rw [hLL]; exact hpp) (HJ.out _ _ _ (HJ.out _ _ _ HJw.out (grown_of_below hb8 none)) (grown_of_below hb9 none)) (hk9.cell h1 c1) (hk9.cell h2 c2) (hk9.cell h3 c3) (hk9.cell h4 c4))
          rw [hLL] at hdown
          clear hin hq hrs hpp IH HPRE hLL hPP own9 hb9 c1 c2 c3 c1' c2' c3' c4'
          go_upto_region 6 with (fail)
          refine (wpIn_wide (n := 8)).1 ?_
          obtain ⟨vv, hvv⟩ : ∃ vv : Nat → Value, vv = fun i => (#[.slice A f.length c, .int .i64 j, .bool false, .bool true, .bool true, downV B1 B2 B3 B4, .slice A f.length c, .slice A f.length c, .int .i64 f.length, .slice A f.length c, .int .i64 f.length, .slice A f.length f.length, .int .i64 j, .slice (some ⟨wr.heap.size, 0, none⟩) 1 1, v9, .bool true, .bool false, .bool false] : Array Value).getD i undef := ⟨_, rfl⟩
          have mk : ∀ (L : Nat → Bool) (a' : Act) (w' : World), a' = ({ tmps := #[.slice A f.length c, .pointer (some ⟨B1, 0, none⟩), .pointer (some ⟨B2, 0, none⟩), .pointer (some ⟨B3, 0, none⟩), .pointer (some ⟨B4, 0, none⟩), undef, u6, .int .i64 j, .slice A f.length c, .int .i64 f.length, .int .i64 k, .bool false, undef, undef, undef, .int .i64 n, .int .i64 j, .bool true, .int .i64 j, a'.tmps.getD (19 + 0) undef, a'.tmps.getD (19 + 1) undef, a'.tmps.getD (19 + 2) undef, a'.tmps.getD (19 + 3) undef, a'.tmps.getD (19 + 4) undef, a'.tmps.getD (19 + 5) undef, a'.tmps.getD (19 + 6) undef, a'.tmps.getD (19 + 7) undef, a'.tmps.getD (19 + 8) undef, a'.tmps.getD (19 + 9) undef, a'.tmps.getD (19 + 10) undef, a'.tmps.getD (19 + 11) undef, a'.tmps.getD (19 + 12) undef, a'.tmps.getD (19 + 13) undef, a'.tmps.getD (19 + 14) undef, a'.tmps.getD (19 + 15) undef, a'.tmps.getD (19 + 16) undef, a'.tmps.getD (19 + 17) undef, u37], defers := [] } : Act) → (∀ j < 18, L j = true → a'.tmps.getD (19 + j) undef = vv j) → (fun (L : Nat → Bool) (wz : World) => KC B W wz ∧ ((L 13 = false ∧ L 14 = false ∧ L 15 = false ∧ wz = wr.drew) ∨ (L 13 = true ∧ L 14 = false ∧ L 15 = false ∧ wz = w8) ∨ (L 13 = true ∧ L 14 = true ∧ L 15 = false ∧ wz = w9) ∨ (L 13 = true ∧ L 14 = true ∧ L 15 = true ∧ Hid (J (PP ++ LL) wz)))) L w' → ∃ y : Nat → Value, a' = ({ tmps := #[.slice A f.length c, .pointer (some ⟨B1, 0, none⟩), .pointer (some ⟨B2, 0, none⟩), .pointer (some ⟨B3, 0, none⟩), .pointer (some ⟨B4, 0, none⟩), undef, u6, .int .i64 j, .slice A f.length c, .int .i64 f.length, .int .i64 k, .bool false, undef, undef, undef, .int .i64 n, .int .i64 j, .bool true, .int .i64 j, y 0, y 1, y 2, y 3, y 4, y 5, y 6, y 7, y 8, y 9, y 10, y 11, y 12, y 13, y 14, y 15, y 16, y 17, u37], defers := [] } : Act) ∧ (∀ j < 18, L j = true → y j = vv j) ∧ (fun (L : Nat → Bool) (wz : World) => KC B W wz ∧ ((L 13 = false ∧ L 14 = false ∧ L 15 = false ∧ wz = wr.drew) ∨ (L 13 = true ∧ L 14 = false ∧ L 15 = false ∧ wz = w8) ∨ (L 13 = true ∧ L 14 = true ∧ L 15 = false ∧ wz = w9) ∨ (L 13 = true ∧ L 14 = true ∧ L 15 = true ∧ Hid (J (PP ++ LL) wz)))) L w' := fun L a' w' h1 h2 h3 => ⟨fun m => a'.tmps.getD (19 + m) undef, h1, h2, h3⟩
          refine wpIn_region_inv (by kernel_rfl) (fun L aI wI => ∃ y : Nat → Value, aI = ({ tmps := #[.slice A f.length c, .pointer (some ⟨B1, 0, none⟩), .pointer (some ⟨B2, 0, none⟩), .pointer (some ⟨B3, 0, none⟩), .pointer (some ⟨B4, 0, none⟩), undef, u6, .int .i64 j, .slice A f.length c, .int .i64 f.length, .int .i64 k, .bool false, undef, undef, undef, .int .i64 n, .int .i64 j, .bool true, .int .i64 j, y 0, y 1, y 2, y 3, y 4, y 5, y 6, y 7, y 8, y 9, y 10, y 11, y 12, y 13, y 14, y 15, y 16, y 17, u37], defers := [] } : Act) ∧ (∀ j < 18, L j = true → y j = vv j) ∧ (fun (L : Nat → Bool) (wz : World) => KC B W wz ∧ ((L 13 = false ∧ L 14 = false ∧ L 15 = false ∧ wz = wr.drew) ∨ (L 13 = true ∧ L 14 = false ∧ L 15 = false ∧ wz = w8) ∨ (L 13 = true ∧ L 14 = true ∧ L 15 = false ∧ wz = w9) ∨ (L 13 = true ∧ L 14 = true ∧ L 15 = true ∧ Hid (J (PP ++ LL) wz)))) L wI) ?acyc ?start ?step ?rdone
          case acyc => exact fun i o ho => acyc_of (by kernel_rfl) i o ho
          case start => exact mk (fun _ => false) _ _ rfl (fun _ _ h => by cases h) (by exact ⟨hk2, .inl ⟨rfl, rfl, rfl, rfl⟩⟩)
          case step =>
            rintro i o L a wx ho hLi hdep ⟨y, rfl, hy, hWI⟩ K hK
            have hi : i < 18 := (Array.getElem?_eq_some_iff.1 ho).1
            rcases i with _ | _ | _ | _ | _ | _ | _ | _ | _ | _ | _ | _ | _ | _ | _ | _ | _ | _ | i
            · obtain rfl := Option.some.inj ho
              clear hdep ho
              go_simp
              refine hK _ _ (mk _ _ _ rfl ?_ ?_)
              rotate_left
              · exact ⟨hWI.1, by simpa [put1] using hWI.2⟩
              · intro j hj h
                rcases j with _ | _ | _ | _ | _ | _ | _ | _ | _ | _ | _ | _ | _ | _ | _ | _ | _ | _ | j
                all_goals first | (rw [hvv]; rfl) | exact hy _ (by omega) (by simpa [put1] using h) | (exfalso; omega)
            · obtain rfl := Option.some.inj ho
              clear hdep ho
              go_simp
              refine hK _ _ (mk _ _ _ rfl ?_ ?_)
              rotate_left
              · exact ⟨hWI.1, by simpa [put1] using hWI.2⟩
              · intro j hj h
                rcases j with _ | _ | _ | _ | _ | _ | _ | _ | _ | _ | _ | _ | _ | _ | _ | _ | _ | _ | j
                all_goals first | (rw [hvv]; rfl) | exact hy _ (by omega) (by simpa [put1] using h) | (exfalso; omega)
            · obtain rfl := Option.some.inj ho
              have d0 : L 0 = true := hdep ⟨0, .data⟩ (by simp) rfl
              have d1 : L 1 = true := hdep ⟨1, .data⟩ (by simp) rfl
              have e0 : y 0 = .slice A f.length c := (hy 0 (by omega) d0).trans (by rw [hvv]; rfl)
              have e1 : y 1 = .int .i64 j := (hy 1 (by omega) d1).trans (by rw [hvv]; rfl)
              clear hdep ho
              rw [e0, e1]
              go_simp
              gi_wp2_with (refine ⟨trivial, ?_⟩; gi_at_call 48; refine (callsIn_wide.2 (HCo.out _ (by exact hWI.1))).mono ?_; rintro e w' ⟨rfl, rfl⟩)
              refine mk _ _ _ rfl ?_ ?_
              rotate_left
              · exact ⟨hWI.1, by simpa [put1] using hWI.2⟩
              · intro j hj h
                rcases j with _ | _ | _ | _ | _ | _ | _ | _ | _ | _ | _ | _ | _ | _ | _ | _ | _ | _ | j
                all_goals first | (rw [hvv]; rfl) | exact hy _ (by omega) (by simpa [put1] using h) | (exfalso; omega)
            · obtain rfl := Option.some.inj ho
              have d2 : L 2 = true := hdep ⟨2, .data⟩ (by simp) rfl
              have e2 : y 2 = .bool false := (hy 2 (by omega) d2).trans (by rw [hvv]; rfl)
              clear hdep ho
              rw [e2]
              go_simp
              refine hK _ _ (mk _ _ _ rfl ?_ ?_)
              rotate_left
              · exact ⟨hWI.1, by simpa [put1] using hWI.2⟩
              · intro j hj h
                rcases j with _ | _ | _ | _ | _ | _ | _ | _ | _ | _ | _ | _ | _ | _ | _ | _ | _ | _ | j
                all_goals first | (rw [hvv]; rfl) | exact hy _ (by omega) (by simpa [put1] using h) | (exfalso; omega)
            · obtain rfl := Option.some.inj ho
              have d3 : L 3 = true := hdep ⟨3, .data⟩ (by simp) rfl
              have e3 : y 3 = .bool true := (hy 3 (by omega) d3).trans (by rw [hvv]; rfl)
              clear hdep ho
              rw [e3]
              go_simp
              refine hK _ _ (mk _ _ _ rfl ?_ ?_)
              rotate_left
              · exact ⟨hWI.1, by simpa [put1] using hWI.2⟩
              · intro j hj h
                rcases j with _ | _ | _ | _ | _ | _ | _ | _ | _ | _ | _ | _ | _ | _ | _ | _ | _ | _ | j
                all_goals first | (rw [hvv]; rfl) | exact hy _ (by omega) (by simpa [put1] using h) | (exfalso; omega)
            · obtain rfl := Option.some.inj ho
              have d4 : L 4 = true := hdep ⟨4, .guard⟩ (by simp) rfl
              have e4 : y 4 = .bool true := (hy 4 (by omega) d4).trans (by rw [hvv]; rfl)
              clear hdep ho
              rw [e4]
              have hcl := hWI.1.cell h4 c4
              rw [if_pos (by rfl)]
              go_simp
              refine hK _ _ (mk _ _ _ rfl ?_ ?_)
              rotate_left
              · exact ⟨hWI.1, by simpa [put1] using hWI.2⟩
              · intro j hj h
                rcases j with _ | _ | _ | _ | _ | _ | _ | _ | _ | _ | _ | _ | _ | _ | _ | _ | _ | _ | j
                all_goals first | (rw [hvv]; rfl) | exact hy _ (by omega) (by simpa [put1] using h) | (exfalso; omega)
            · obtain rfl := Option.some.inj ho
              have d4 : L 4 = true := hdep ⟨4, .guard⟩ (by simp) rfl
              have e4 : y 4 = .bool true := (hy 4 (by omega) d4).trans (by rw [hvv]; rfl)
              clear hdep ho
              rw [e4]
              rw [if_pos (by rfl)]
              go_simp
              refine hK _ _ (mk _ _ _ rfl ?_ ?_)
              rotate_left
              · exact ⟨hWI.1, by simpa [put1] using hWI.2⟩
              · intro j hj h
                rcases j with _ | _ | _ | _ | _ | _ | _ | _ | _ | _ | _ | _ | _ | _ | _ | _ | _ | _ | j
                all_goals first | (rw [hvv]; rfl) | exact hy _ (by omega) (by simpa [put1] using h) | (exfalso; omega)
            · obtain rfl := Option.some.inj ho
              have d4 : L 4 = true := hdep ⟨4, .guard⟩ (by simp) rfl
              have e4 : y 4 = .bool true := (hy 4 (by omega) d4).trans (by rw [hvv]; rfl)
              clear hdep ho
              rw [e4]
              rw [if_pos (by rfl)]
              go_simp
              refine hK _ _ (mk _ _ _ rfl ?_ ?_)
              rotate_left
              · exact ⟨hWI.1, by simpa [put1] using hWI.2⟩
              · intro j hj h
                rcases j with _ | _ | _ | _ | _ | _ | _ | _ | _ | _ | _ | _ | _ | _ | _ | _ | _ | _ | j
                all_goals first | (rw [hvv]; rfl) | exact hy _ (by omega) (by simpa [put1] using h) | (exfalso; omega)
            · obtain rfl := Option.some.inj ho
              have d7 : L 7 = true := hdep ⟨7, .data⟩ (by simp) rfl
              have d4 : L 4 = true := hdep ⟨4, .guard⟩ (by simp) rfl
              have e4 : y 4 = .bool true := (hy 4 (by omega) d4).trans (by rw [hvv]; rfl)
              have e7 : y 7 = .slice A f.length c := (hy 7 (by omega) d7).trans (by rw [hvv]; rfl)
              clear hdep ho
              rw [e4, e7]
              rw [if_pos (by rfl)]
              go_simp
              refine hK _ _ (mk _ _ _ rfl ?_ ?_)
              rotate_left
              · exact ⟨hWI.1, by simpa [put1] using hWI.2⟩
              · intro j hj h
                rcases j with _ | _ | _ | _ | _ | _ | _ | _ | _ | _ | _ | _ | _ | _ | _ | _ | _ | _ | j
                all_goals first | (rw [hvv]; rfl) | exact hy _ (by omega) (by simpa [put1] using h) | (exfalso; omega)
            · obtain rfl := Option.some.inj ho
              have d4 : L 4 = true := hdep ⟨4, .guard⟩ (by simp) rfl
              have e4 : y 4 = .bool true := (hy 4 (by omega) d4).trans (by rw [hvv]; rfl)
              clear hdep ho
              rw [e4]
              rw [if_pos (by rfl)]
              go_simp
              refine hK _ _ (mk _ _ _ rfl ?_ ?_)
              rotate_left
              · exact ⟨hWI.1, by simpa [put1] using hWI.2⟩
              · intro j hj h
                rcases j with _ | _ | _ | _ | _ | _ | _ | _ | _ | _ | _ | _ | _ | _ | _ | _ | _ | _ | j
                all_goals first | (rw [hvv]; rfl) | exact hy _ (by omega) (by simpa [put1] using h) | (exfalso; omega)
            · obtain rfl := Option.some.inj ho
              have d9 : L 9 = true := hdep ⟨9, .data⟩ (by simp) rfl
              have d4 : L 4 = true := hdep ⟨4, .guard⟩ (by simp) rfl
              have e4 : y 4 = .bool true := (hy 4 (by omega) d4).trans (by rw [hvv]; rfl)
              have e9 : y 9 = .slice A f.length c := (hy 9 (by omega) d9).trans (by rw [hvv]; rfl)
              clear hdep ho
              rw [e4, e9]
              rw [if_pos (by rfl)]
              go_simp
              refine hK _ _ (mk _ _ _ rfl ?_ ?_)
              rotate_left
              · exact ⟨hWI.1, by simpa [put1] using hWI.2⟩
              · intro j hj h
                rcases j with _ | _ | _ | _ | _ | _ | _ | _ | _ | _ | _ | _ | _ | _ | _ | _ | _ | _ | j
                all_goals first | (rw [hvv]; rfl) | exact hy _ (by omega) (by simpa [put1] using h) | (exfalso; omega)
            · obtain rfl := Option.some.inj ho
              have d6 : L 6 = true := hdep ⟨6, .data⟩ (by simp) rfl
              have d8 : L 8 = true := hdep ⟨8, .data⟩ (by simp) rfl
              have d10 : L 10 = true := hdep ⟨10, .data⟩ (by simp) rfl
              have d4 : L 4 = true := hdep ⟨4, .guard⟩ (by simp) rfl
              have e4 : y 4 = .bool true := (hy 4 (by omega) d4).trans (by rw [hvv]; rfl)
              have e6 : y 6 = .slice A f.length c := (hy 6 (by omega) d6).trans (by rw [hvv]; rfl)
              have e8 : y 8 = .int .i64 f.length := (hy 8 (by omega) d8).trans (by rw [hvv]; rfl)
              have e10 : y 10 = .int .i64 f.length := (hy 10 (by omega) d10).trans (by rw [hvv]; rfl)
              clear hdep ho
              rw [e4, e6, e8, e10]
              rw [if_pos (by rfl)]
              go_simp
              refine hK _ _ (mk _ _ _ rfl ?_ ?_)
              rotate_left
              · exact ⟨hWI.1, by simpa [put1] using hWI.2⟩
              · intro j hj h
                rcases j with _ | _ | _ | _ | _ | _ | _ | _ | _ | _ | _ | _ | _ | _ | _ | _ | _ | _ | j
                all_goals first | (rw [hvv]; rfl) | exact hy _ (by omega) (by simpa [put1] using h) | (exfalso; omega)
            · obtain rfl := Option.some.inj ho
              have d4 : L 4 = true := hdep ⟨4, .guard⟩ (by simp) rfl
              have e4 : y 4 = .bool true := (hy 4 (by omega) d4).trans (by rw [hvv]; rfl)
              clear hdep ho
              rw [e4]
              rw [if_pos (by rfl)]
              go_simp
              refine hK _ _ (mk _ _ _ rfl ?_ ?_)
              rotate_left
              · exact ⟨hWI.1, by simpa [put1] using hWI.2⟩
              · intro j hj h
                rcases j with _ | _ | _ | _ | _ | _ | _ | _ | _ | _ | _ | _ | _ | _ | _ | _ | _ | _ | j
                all_goals first | (rw [hvv]; rfl) | exact hy _ (by omega) (by simpa [put1] using h) | (exfalso; omega)
            · obtain rfl := Option.some.inj ho
              have d12 : L 12 = true := hdep ⟨12, .data⟩ (by simp) rfl
              have d4 : L 4 = true := hdep ⟨4, .guard⟩ (by simp) rfl
              have e4 : y 4 = .bool true := (hy 4 (by omega) d4).trans (by rw [hvv]; rfl)
              have e12 : y 12 = .int .i64 j := (hy 12 (by omega) d12).trans (by rw [hvv]; rfl)
              clear hdep ho
              rw [e4, e12]
              obtain ⟨f14, f15, rfl⟩ : L 14 = false ∧ L 15 = false ∧ wx = wr.drew := by
                rcases hWI.2 with ⟨_, h1, h2, h⟩ | ⟨h, _⟩ | ⟨h, _⟩ | ⟨h, _⟩
                · exact ⟨h1, h2, h⟩
                all_goals (rw [hLi] at h; cases h)
              rw [if_pos (by rfl)]
              go_simp
              refine hK _ _ (mk _ _ _ rfl ?_ ?_)
              rotate_left
              · exact ⟨hk8, .inr (.inl ⟨by simp [put1], by simpa [put1] using f14, by simpa [put1] using f15, by rw [← hw8]⟩)⟩
              · intro j hj h
                rcases j with _ | _ | _ | _ | _ | _ | _ | _ | _ | _ | _ | _ | _ | _ | _ | _ | _ | _ | j
                all_goals first | (rw [hvv]; rfl) | exact hy _ (by omega) (by simpa [put1] using h) | (exfalso; omega)
            · obtain rfl := Option.some.inj ho
              have d11 : L 11 = true := hdep ⟨11, .data⟩ (by simp) rfl
              have d13 : L 13 = true := hdep ⟨13, .data⟩ (by simp) rfl
              have d4 : L 4 = true := hdep ⟨4, .guard⟩ (by simp) rfl
              have e4 : y 4 = .bool true := (hy 4 (by omega) d4).trans (by rw [hvv]; rfl)
              have e11 : y 11 = .slice A f.length f.length := (hy 11 (by omega) d11).trans (by rw [hvv]; rfl)
              have e13 : y 13 = .slice (some ⟨wr.heap.size, 0, none⟩) 1 1 := (hy 13 (by omega) d13).trans (by rw [hvv]; rfl)
              clear hdep ho
              rw [e4, e11, e13]
              obtain ⟨f15, rfl⟩ : L 15 = false ∧ wx = w8 := by
                rcases hWI.2 with ⟨h, _⟩ | ⟨_, _, h1, h2⟩ | ⟨_, h, _⟩ | ⟨_, h, _⟩
                · rw [d13] at h; cases h
                · exact ⟨h1, h2⟩
                all_goals (rw [hLi] at h; cases h)
              rw [if_pos (by rfl)]
              refine operIn_app (.tmp 30) (.tmp 32) 32 _ _ v9 rfl rfl rfl hrun ?_
              go_simp
              refine hK _ _ (mk _ _ _ rfl ?_ ?_)
              rotate_left
              · exact ⟨hk9, .inr (.inr (.inl ⟨by simpa [put1] using d13, by simp [put1], by simpa [put1] using f15, rfl⟩))⟩
              · intro j hj h
                rcases j with _ | _ | _ | _ | _ | _ | _ | _ | _ | _ | _ | _ | _ | _ | _ | _ | _ | _ | j
                all_goals first | (rw [hvv]; rfl) | exact hy _ (by omega) (by simpa [put1] using h) | (exfalso; omega)
            · obtain rfl := Option.some.inj ho
              have d5 : L 5 = true := hdep ⟨5, .data⟩ (by simp) rfl
              have d14 : L 14 = true := hdep ⟨14, .data⟩ (by simp) rfl
              have d4 : L 4 = true := hdep ⟨4, .guard⟩ (by simp) rfl
              have e4 : y 4 = .bool true := (hy 4 (by omega) d4).trans (by rw [hvv]; rfl)
              have e5 : y 5 = downV B1 B2 B3 B4 := (hy 5 (by omega) d5).trans (by rw [hvv]; rfl)
              have e14 : y 14 = v9 := (hy 14 (by omega) d14).trans (by rw [hvv]; rfl)
              clear hdep ho
              rw [e4, e5, e14]
              obtain ⟨f13, rfl⟩ : L 13 = true ∧ wx = w9 := by
                rcases hWI.2 with ⟨_, h, _⟩ | ⟨_, h, _⟩ | ⟨h1, _, _, h2⟩ | ⟨_, _, h, _⟩
                · rw [d14] at h; cases h
                · rw [d14] at h; cases h
                · exact ⟨h1, h2⟩
                · rw [hLi] at h; cases h
              rw [if_pos (by rfl)]
              go_simp
              gi_wp2_with (refine ⟨trivial, ?_⟩; gi_at_call 50; refine (callsIn_wide.2 hdown.out).mono ?_; rintro e w' ⟨rfl, hJ', hk'⟩)
              refine mk _ _ _ rfl ?_ ?_
              rotate_left
              · exact ⟨hk9.trans hk', .inr (.inr (.inr ⟨by simpa [put1] using f13, by simpa [put1] using d14, by simp [put1], hid hJ'⟩))⟩
              · intro j hj h
                rcases j with _ | _ | _ | _ | _ | _ | _ | _ | _ | _ | _ | _ | _ | _ | _ | _ | _ | _ | j
                all_goals first | (rw [hvv]; rfl) | exact hy _ (by omega) (by simpa [put1] using h) | (exfalso; omega)
            · obtain rfl := Option.some.inj ho
              have d15 : L 15 = true := hdep ⟨15, .data⟩ (by simp) rfl
              have d4 : L 4 = true := hdep ⟨4, .guard⟩ (by simp) rfl
              have e4 : y 4 = .bool true := (hy 4 (by omega) d4).trans (by rw [hvv]; rfl)
              have e15 : y 15 = .bool true := (hy 15 (by omega) d15).trans (by rw [hvv]; rfl)
              clear hdep ho
              rw [e4, e15]
              rw [if_pos (by rfl)]
              go_simp
              refine hK _ _ (mk _ _ _ rfl ?_ ?_)
              rotate_left
              · exact ⟨hWI.1, by simpa [put1] using hWI.2⟩
              · intro j hj h
                rcases j with _ | _ | _ | _ | _ | _ | _ | _ | _ | _ | _ | _ | _ | _ | _ | _ | _ | _ | j
                all_goals first | (rw [hvv]; rfl) | exact hy _ (by omega) (by simpa [put1] using h) | (exfalso; omega)
            · obtain rfl := Option.some.inj ho
              have d4 : L 4 = true := hdep ⟨4, .data⟩ (by simp) rfl
              have d16 : L 16 = true := hdep ⟨16, .data⟩ (by simp) rfl
              have e4 : y 4 = .bool true := (hy 4 (by omega) d4).trans (by rw [hvv]; rfl)
              have e16 : y 16 = .bool false := (hy 16 (by omega) d16).trans (by rw [hvv]; rfl)
              clear hdep ho
              rw [e4, e16]
              go_simp
              refine hK _ _ (mk _ _ _ rfl ?_ ?_)
              rotate_left
              · exact ⟨hWI.1, by simpa [put1] using hWI.2⟩
              · intro j hj h
                rcases j with _ | _ | _ | _ | _ | _ | _ | _ | _ | _ | _ | _ | _ | _ | _ | _ | _ | _ | j
                all_goals first | (rw [hvv]; rfl) | exact hy _ (by omega) (by simpa [put1] using h) | (exfalso; omega)
            · exfalso; omega
          case rdone =>
            rintro L a w4 hall ⟨y, rfl, hy, hWI⟩
            obtain ⟨hk4, hWI⟩ := hWI
            have HJ4 : Hid (J (PP ++ LL) w4) := by
              rcases hWI with ⟨h, _⟩ | ⟨_, h, _⟩ | ⟨_, _, h, _⟩ | ⟨_, _, _, h⟩
              · rw [hall 13 (by decide)] at h; cases h
              · rw [hall 14 (by decide)] at h; cases h
              · rw [hall 15 (by decide)] at h; cases h
              · exact h
            have e17 : y 17 = .bool false := (hy 17 (by omega) (hall 17 (by decide))).trans (by rw [hvv]; rfl)
            rw [e17]
            generalize y 0 = y0
            generalize y 1 = y1
            generalize y 2 = y2
            generalize y 3 = y3
            generalize y 4 = y4
            generalize y 5 = y5
            generalize y 6 = y6
            generalize y 7 = y7
            generalize y 8 = y8
            generalize y 9 = y9
            generalize y 10 = y10
            generalize y 11 = y11
            generalize y 12 = y12
            generalize y 13 = y13
            generalize y 14 = y14
            generalize y 15 = y15
            generalize y 16 = y16
            clear mk hvv hy hall e17 HCo hWI hdown hrun
            go_wp2
            exact ⟨⟨j + 1, by omega, by simp, hid (by rw [HF.out]; exact HJ4.out), hk4⟩, by show n - ((j : Int) + 1).toNat < n - ((j : Int)).toNat; omega⟩
      · obtain rfl : j = n := by omega
        go_wp2
        go_ret
        exact ⟨rfl, HJw.out, hk1⟩
end Go.Proofs.YtheclfjbedajfaaDoor


namespace Go.Proofs.YtheclfjbedajfaaDoor
set_option linter.unusedSimpArgs false
set_option linter.unusedVariables false
open Go.RowKit Go.Lib Go.Shelf Go.Proofs.YtheclfjbedajfaaDoorW.PrintWords

set_option maxHeartbeats 1000000 in
set_option maxRecDepth 100000 in
theorem lists_iter (n k B Bk Bn : Nat) (w : World) (hn : n ≤ 16) (hk : k ≤ 16) (h1 : B ≤ Bk) (h3 : B ≤ Bn) (l1 : Bk < w.heap.size) (l3 : Bn < w.heap.size) (ck : w.cell? ⟨Bk, 0, none⟩ = some (.int .i64 k)) (cn : w.cell? ⟨Bn, 0, none⟩ = some (.int .i64 n)) :
    IterM Tryd.prog 49 (fun y => #[] ++ #[y] ++ #[.pointer (some ⟨Bk, 0, none⟩), .pointer (some ⟨Bn, 0, none⟩)]) (fun x v W => ROw B x v W) (KC B) (lsL n k []) w := by
  intro l J W hW hsz hJ hY h0
  have hg : ∀ s W1 W2, J s W1 → W1.grownBy W2 none → J s W2 := fun s W1 W2 hs hg => hJ s W1 W2 none hs hg (by rintro r ⟨⟩)
  have ck' := (hW.cell (p := ⟨Bk, 0, none⟩) l1).trans ck
  have cn' := (hW.cell (p := ⟨Bn, 0, none⟩) l3).trans cn
  obtain ⟨W3, hW3⟩ : ∃ W3, ((W.alloc (.cells #[.func (.yield l) #[] #[]] 90)).alloc (.cells #[Value.nilFunc] 90)).setCell ⟨W.heap.size + 1, 0, none⟩ (downV Bk W.heap.size Bn (W.heap.size + 1)) = W3 := ⟨_, rfl⟩
  have hb3 : Below W.heap.size W W3 := by rw [← hW3]; exact (below_alloc (below_alloc (Below.refl _ _) _) _).setCell (p := ⟨W.heap.size + 1, 0, none⟩) (Nat.le_succ _) _
  have hz3 : W.heap.size + 2 ≤ W3.heap.size := by rw [← hW3]; simp [go_sem]
  have k3 := (hb3.cell (p := ⟨Bk, 0, none⟩) (show Bk < _ by omega)).trans ck'
  have n3 := (hb3.cell (p := ⟨Bn, 0, none⟩) (show Bn < _ by omega)).trans cn'
  have y3 : W3.cell? ⟨W.heap.size, 0, none⟩ = some (.func (.yield l) #[] #[]) := by rw [← hW3]; simp [go_sem]
  have d3 : W3.cell? ⟨W.heap.size + 1, 0, none⟩ = some (downV Bk W.heap.size Bn (W.heap.size + 1)) := by rw [← hW3]; simp [go_sem]
  have HD := hid (down_any l B n k hn hk (lsL n k []) J hg hY Bk W.heap.size Bn (W.heap.size + 1) h1 (by omega) h3 (by omega) k [] (.slice none 0 0) [] W3 (by simp) (World.ownsRow_nil _ _ _ _) (by omega) (List.prefix_refl _) (hg _ _ _ h0 (grown_of_below hb3 none)) k3 y3 n3 d3)
  clear hY h0 hJ hg
  show Calls _ _ #[.func (.yield l) #[] #[], .pointer (some ⟨Bk, 0, none⟩), .pointer (some ⟨Bn, 0, none⟩)] _ _
  go_enter Tryd.func49, Tryd.ntmps49
  go_wp2_with (go_at_call 50; refine HD.out.mono ?_; rintro e w' ⟨rfl, hJ', -⟩)
  exact bodyPost_end (v := .tuple #[]) (by simp [results, Tryd.results49, go_sem]) rfl ⟨⟨_, rfl⟩, hJ'⟩
theorem lists_any (n k : Nat) (w : World) : Calls Tryd.prog 42 #[.int .i64 n, .int .i64 k] w fun e w' =>
    e = .returned (.func (.func 49) #[] #[.pointer (some ⟨w.heap.size + 1, 0, none⟩), .pointer (some ⟨w.heap.size, 0, none⟩)]) ∧
      w'.cell? ⟨w.heap.size + 1, 0, none⟩ = some (.int .i64 k) ∧ w'.cell? ⟨w.heap.size, 0, none⟩ = some (.int .i64 n) ∧ Below w.heap.size w w' ∧ w'.heap.size = w.heap.size + 2 := by
  go_enter Tryd.func42, Tryd.ntmps42
  go_wp2
  go_ret
  exact ⟨rfl, by simp [go_sem], by simp [go_sem], below_alloc (below_alloc (Below.refl _ _) _) _, by simp⟩
end Go.Proofs.YtheclfjbedajfaaDoor


namespace Go.Proofs.YtheclfjbedajfaaDoor
set_option linter.unusedSimpArgs false
set_option linter.unusedVariables false
open Go.RowKit Go.Lib Go.Shelf Go.Proofs.YtheclfjbedajfaaDoorW.PrintWords
attribute [local go_sem] Oper.semAt_some

/-- A pair of ints in a map. -/
def pairR : Value → Option (DataW Unit × List MemPlace)
  | .agg cs => match cs.toList with
    | [.int .i64 a, .int .i64 b] => some (.agg [.lit (.int .i64 a), .lit (.int .i64 b)], [])
    | _ => none
  | _ => none
def pairD (a b : Int) : DataW Unit := .agg [.lit (.int .i64 a), .lit (.int .i64 b)]
theorem pairR_mk (a b : Int) : pairR (.agg #[.int .i64 a, .int .i64 b]) = some (pairD a b, []) := rfl
theorem pairR_inv {v : Value} {a b : Int} {ps : List MemPlace} (h : pairR v = some (pairD a b, ps)) : v = .agg #[.int .i64 a, .int .i64 b] := by
  cases v with
  | agg cs =>
    rcases cs with ⟨l⟩
    unfold pairR at h
    simp only at h
    split at h
    · rename_i e
      have h1 := congrArg Prod.fst (Option.some.inj h)
      simp only [pairD, DataW.agg.injEq, List.cons.injEq, DataW.lit.injEq, Lit.int.injEq, true_and, and_true] at h1
      obtain ⟨rfl, rfl⟩ := h1
      congr
    · cases h
  | _ => cases h
theorem keyedU : Maps.Keyed Tryd.prog 25 := Maps.int_keyed Tryd.underlying25
theorem zeroP (w : World) : (zeroValue 87).run Tryd.prog w = .ok (.agg #[.int .i64 0, .int .i64 0]) w := by kernel_rfl
/-- What the map of places holds when the first k blocks are in. -/
def PlK (W : World) (b k : Nat) (bs : List Nat) : Prop := ∃ D, W.ownsMap (H := Unit) Tryd.prog 25 pairR b k D ∧ ∀ (s : Nat) (z : DataW Unit), D.atKey (.int .u64 s) z = if s ∈ bs.take k then pairD (bs.idxOf s) ((bs.take k).count s) else z
abbrev Pl (W : World) (b : Nat) (bs : List Nat) : Prop := PlK W b bs.length bs
theorem keyU {s : Nat} (hs : s < 2 ^ 64) : keyOf Tryd.prog 25 (.int .u64 s) = some (.int .u64 s) :=
  Maps.keyOf_int_mk Tryd.underlying25 (by simp [Lit.wf, IntKind.min, IntKind.max, IntKind.signed, IntKind.bits]; omega)
theorem PlK.kept {W W' : World} {b k : Nat} {bs : List Nat} {row : Option Nat} (h : PlK W b k bs) (hg : W.grownBy W' row) (hne : some b ≠ row) : PlK W' b k bs := by
  obtain ⟨D, h1, h2⟩ := h
  exact ⟨D, h1.kept hg hne, h2⟩
theorem idx_new {bs : List Nat} {k x : Nat} (h : bs[k]? = some x) (hn : x ∉ bs.take k) : bs.idxOf x = k := by
  induction bs generalizing k with
  | nil => cases h
  | cons a r ih =>
    cases k with
    | zero => simp at h; simp [h]
    | succ k =>
      simp at h hn
      have hax : (a == x) = false := by simpa using fun e => hn.1 e.symm
      simp [List.idxOf_cons, hax, ih h hn.2]
theorem pl_next {bs : List Nat} {k x J C : Nat} {D : DataW Unit} (hD : ∀ (s : Nat) (z : DataW Unit), D.atKey (.int .u64 s) z = if s ∈ bs.take k then pairD (bs.idxOf s) ((bs.take k).count s) else z) (hM : Maps.IsMap D)
    (ht : bs.take (k + 1) = bs.take k ++ [x]) (hJ : bs.idxOf x = J) (hC : (bs.take k).count x = C) :
    ∀ (s : Nat) (z : DataW Unit), (D.put (.int .u64 x) (pairD J (C + 1))).atKey (.int .u64 s) z = if s ∈ bs.take (k + 1) then pairD (bs.idxOf s) ((bs.take (k + 1)).count s) else z := by
  intro s z
  rw [ht]
  by_cases hs : s = x
  · subst hs
    rw [Maps.atKey_put_same hM (show WideAt.IsKeyLit (.int .u64 (s : Int)) from trivial), if_pos (by simp), hJ, List.count_append, hC]
    simp
  · rw [Maps.atKey_put_other (fun e => hs (by injection e with _ e; exact Int.ofNat.inj e)), hD s z]
    have h1 : (s ∈ bs.take k ++ [x]) ↔ s ∈ bs.take k := by simp [hs]
    simp only [h1, List.count_append, List.count_singleton]
    have h2 : (x == s) = false := by simpa using fun e => hs e.symm
    simp [h2]
set_option maxHeartbeats 2000000 in
set_option maxRecDepth 100000 in
theorem find_any (V : Value) (A : Option Addr) (c : Nat) (bs : List Nat) (w : World) (hV : V.oneCell' = true) (hB : BlC w A bs.length bs) (hn : bs.length ≤ 2 ^ 20) :
    Calls Tryd.prog 40 #[.agg #[V, .slice A bs.length c]] w fun e w' => ∃ b, e = .returned (.map (some b)) ∧ w.heap.size ≤ b ∧ b < w'.heap.size ∧ Pl w' b bs ∧ Below w.heap.size w w' := by
  have hmm := @run_makeMap Tryd.prog
  have hui := Tryd.underlying29
  go_enter Tryd.func40, Tryd.ntmps40
  go_upto_region 2 with (fail)
  obtain ⟨w1, hw1⟩ : ∃ w1, ((w.alloc (.cells #[V, .slice A bs.length c] 29)).alloc (.map #[] 0)) = w1 := ⟨_, rfl⟩
  have hc1 : w1.cell? ⟨w.heap.size, 1, none⟩ = some (.slice A bs.length c) := by
    rw [← hw1]
    exact (((Blk.new w 29 #[V, .slice A bs.length c]).alloc (.map #[] 0)).cell 1).trans rfl
  have hb1 : Below w.heap.size w w1 := by rw [← hw1]; exact below_alloc (below_alloc (Below.refl _ _) _) _
  have hmo : PlK w1 (w.heap.size + 1) 0 bs := by
    refine ⟨.map [], ?_, fun s z => by simp; rfl⟩
    rw [← hw1]
    have := World.ownsMap_made (H := Unit) (w.alloc (.cells #[V, .slice A bs.length c] 29)) Tryd.prog 25 pairR
    simpa using this
  have hz1 : w.heap.size + 2 ≤ w1.heap.size := by rw [← hw1]; simp
  rw [hw1]
  clear hw1 hmm
  go_wp2
  clear hc1
  have HM := hid hmo
  clear hmo
  go_loopw [12] (fun i wr => ∃ k : Nat, k ≤ bs.length ∧ i = .int .i64 k ∧ Hid (PlK wr (w.heap.size + 1) k bs) ∧ Below w.heap.size w wr ∧ w.heap.size + 2 ≤ wr.heap.size) (fun i _ => bs.length - (intOf i).toNat)
  case atStart => exact ⟨0, by omega, rfl, HM, hb1, hz1⟩
  case round =>
    clear HM hb1 hz1
    obtain ⟨k, hk, rfl, HM, hb, hz⟩ := hrel
    by_cases hlt : k < bs.length
    · obtain ⟨ad, x, rfl, hcx, HX⟩ := NlC.at_ (hB.below hb) hlt
      obtain ⟨hx64, HX⟩ := HX
      obtain ⟨D, hmo, hD⟩ := HM.out
      obtain ⟨v, ps, hlk, hv⟩ := hmo.look_ok (t := 76) keyedU Tryd.underlying76 (zeroP wr) (pairR_mk 0 0) (keyU hx64)
      by_cases hin : x ∈ bs.take k
      · have hhas : Maps.has D (.int .u64 x) = true := Maps.has_true_of_atKey (y := pairD (bs.idxOf x) ((bs.take k).count x)) fun z => by rw [hD x z, if_pos hin]
        rw [hD x _, if_pos hin] at hv
        obtain rfl := pairR_inv hv
        rw [hhas] at hlk
        obtain ⟨J, hJ⟩ : ∃ J, bs.idxOf x = J := ⟨_, rfl⟩
        obtain ⟨C, hC⟩ : ∃ C, (bs.take k).count x = C := ⟨_, rfl⟩
        have hCl : C ≤ k := by
          rw [← hC]
          have := List.count_le_length (a := x) (l := bs.take k)
          rw [List.length_take] at this
          omega
        rw [hJ, hC] at hlk
        have HN := hid (pl_next (k := k) (x := x) (J := J) (C := C) hD hmo.isMap HX.out.1 hJ hC)
        have hkey := keyU hx64
        have HO := hid hmo
        clear hv hhas hD hin hmo hJ hC
        go_wp2_with (first
          | (at_mapUpdate; refine wpList_mapUpdate_own _ rfl _ _ _ 76 rfl 25 87 keyedU Tryd.underlying76 pairR (w.heap.size + 1) k D rfl (HO.out.alloc _) (by unfold maxLen; omega) _ _ _ rfl rfl hkey _ [] (pairR_mk _ _) ?_; intro w2 hown2 hgrow2)
          | go_in)
        go_roundw
        case rel =>
          refine ⟨k + 1, by omega, by go_num, (show PlK _ _ _ _ from ⟨_, hown2, ?_⟩), (below_alloc hb _).grown hgrow2 (by simp; omega) (fun r hr => by cases hr; omega), Nat.le_trans hz (Nat.le_trans (by simp) hgrow2.size)⟩
          exact HN.out
        case measure => simp [intOf]; omega
      · have hhas : Maps.has D (.int .u64 x) = false := Maps.has_false_of_atKey fun z => by rw [hD x z, if_neg hin]
        rw [hD x _, if_neg hin] at hv
        obtain rfl := pairR_inv hv
        rw [hhas] at hlk
        have hJ : bs.idxOf x = k := idx_new HX.out.2.1 hin
        have HN := hid (pl_next (k := k) (x := x) (J := k) (C := 0) hD hmo.isMap HX.out.1 hJ (List.count_eq_zero.2 hin))
        have hkey := keyU hx64
        have HO := hid hmo
        clear hv hhas hD hin hmo hJ 
        go_wp2_with (first
          | (at_mapUpdate; refine wpList_mapUpdate_own _ rfl _ _ _ 76 rfl 25 87 keyedU Tryd.underlying76 pairR (w.heap.size + 1) k D rfl (HO.out.alloc _) (by unfold maxLen; omega) _ _ _ rfl rfl hkey _ [] (pairR_mk _ _) ?_; intro w2 hown2 hgrow2)
          | go_in)
        go_roundw
        case rel =>
          refine ⟨k + 1, by omega, by go_num, (show PlK _ _ _ _ from ⟨_, hown2, ?_⟩), (below_alloc hb _).grown hgrow2 (by simp; omega) (fun r hr => by cases hr; omega), Nat.le_trans hz (Nat.le_trans (by simp) hgrow2.size)⟩
          exact HN.out
        case measure => simp [intOf]; omega
    · obtain rfl : k = bs.length := by omega
      go_wp2
      go_ret
      exact ⟨w.heap.size + 1, rfl, by omega, by omega, HM.out, hb⟩
end Go.Proofs.YtheclfjbedajfaaDoor


namespace Go.Proofs.YtheclfjbedajfaaDoor
set_option linter.unusedSimpArgs false
set_option linter.unusedVariables false
open Go.RowKit Go.Lib Go.Shelf Go.Proofs.YtheclfjbedajfaaDoorW.PrintWords
attribute [local go_sem] Oper.semAt_some

def mvK (s : Nat) (fs : List Nat) : Nat → Nat
  | 0 => 0
  | k + 1 => mvK s fs k ||| (if s.testBit k then 2 ^ fs.getD k 0 else 0)
def movedN (s : Nat) (fs : List Nat) : Nat := mvK s fs fs.length
theorem mvK_lt {s B : Nat} {fs : List Nat} (h : ∀ q ∈ fs, q < B) : ∀ k ≤ fs.length, mvK s fs k < 2 ^ B
  | 0, _ => Nat.two_pow_pos _
  | k + 1, hk => by
    refine Nat.or_lt_two_pow (mvK_lt h k (by omega)) ?_
    split
    · exact Nat.pow_lt_pow_right (by decide) (h _ (getD_mem hk))
    · exact Nat.two_pow_pos _
theorem movedN_lt {s B : Nat} {fs : List Nat} (h : ∀ q ∈ fs, q < B) : movedN s fs < 2 ^ B := mvK_lt h _ (Nat.le_refl _)
theorem mv_step {s k q M : Nat} (hs : s < 2 ^ 64) (hq : q < 60) (hM : M < 2 ^ 64) :
    bits BinOp.or IntKind.u64 (M : Int) (IntKind.u64.wrap (bits BinOp.and IntKind.u64 ((s : Int) / 2 ^ k) 1 * 2 ^ q)) = ((M ||| (if s.testBit k then 2 ^ q else 0) : Nat) : Int) := by
  have e1 : ((s : Int) / 2 ^ k) = ((s / 2 ^ k : Nat) : Int) := by simp
  have e2 : bits BinOp.and IntKind.u64 ((s : Int) / 2 ^ k) 1 = ((s / 2 ^ k % 2 : Nat) : Int) := by
    rw [e1]
    have := uand (a := s / 2 ^ k) (b := 1) (Nat.lt_of_le_of_lt (Nat.div_le_self _ _) hs) (by decide)
    rw [Nat.and_one_is_mod] at this
    exact this
  have hq2 : 2 ^ q < 2 ^ 64 := Nat.pow_lt_pow_right (by decide) (by omega)
  have e3 : IntKind.u64.wrap (((s / 2 ^ k % 2 : Nat) : Int) * 2 ^ q) = (((if s.testBit k then 2 ^ q else 0) : Nat) : Int) := by
    rw [Nat.testBit_eq_decide_div_mod_eq]
    rcases Nat.mod_two_eq_zero_or_one (s / 2 ^ k) with h | h
    · rw [h]; simp; exact wrapU_nat (p := 0) (by decide)
    · rw [h]; simp
      have := wrapU_nat hq2
      simpa using this
  rw [e2, e3]
  refine uor hM ?_
  split
  · exact hq2
  · decide
set_option maxHeartbeats 1000000 in
theorem moved_any (s : Nat) (A : Option Addr) (c : Nat) (fs : List Nat) (w : World) (hs : s < 2 ^ 64) (hF : IC w A fs.length (il fs)) (hl : fs.length ≤ 60) (hq : ∀ q ∈ fs, q < 60) :
    Calls Tryd.prog 33 #[.int .u64 s, .slice A fs.length c] w fun e w' => e = .returned (.int .u64 (movedN s fs)) ∧ w' = w := by
  go_enter Tryd.func33, Tryd.ntmps33
  go_wp2
  have HQ := hid hq
  clear hq
  go_loopw [5, 10] (fun o i wr => ∃ k : Nat, k ≤ fs.length ∧ o = .int .u64 (mvK s fs k) ∧ i = .int .i64 k ∧ wr = w) (fun _ i _ => fs.length - (intOf i).toNat)
  case atStart => exact ⟨0, by omega, rfl, rfl, by first | rfl | trivial⟩
  case round =>
    obtain ⟨k, hk, rfl, rfl, rfl⟩ := hrel
    by_cases hlt : k < fs.length
    · obtain ⟨ad, x, rfl, hcx, HX⟩ := IC.at_ hF (show k < fs.length from hlt)
      obtain ⟨q, hq, rfl⟩ : ∃ q, fs.getD k 0 = q ∧ x = (q : Int) := ⟨_, rfl, by rw [← HX.out.2]; exact rd_il hlt⟩
      have hq60 : q < 60 := hq ▸ HQ.out _ (getD_mem hlt)
      obtain ⟨M, hM⟩ : ∃ M, mvK s fs k = M := ⟨_, rfl⟩
      rw [hM]
      have hM64 : M < 2 ^ 64 := by rw [← hM]; exact Nat.lt_trans (mvK_lt HQ.out k hk) (by decide)
      have HST := hid (mv_step (k := k) hs hq60 hM64)
      have HMK : Hid (mvK s fs (k + 1) = M ||| (if s.testBit k then 2 ^ q else 0)) := (show _ = _ by rw [mvK, hM, hq])
      clear hM hq hM64
      go_wp2
      go_roundw
      case rel => exact ⟨k + 1, by omega, by rw [HST.out, HMK.out], by go_num, by first | rfl | trivial⟩
      case measure => simp [intOf]; omega
    · obtain rfl : k = fs.length := by omega
      go_wp2
      go_ret
      exact ⟨rfl, by first | rfl | trivial⟩
end Go.Proofs.YtheclfjbedajfaaDoor
