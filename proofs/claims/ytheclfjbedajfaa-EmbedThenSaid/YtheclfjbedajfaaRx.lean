/- A region that draws its order, walked by an invariant over what has been carried out; inside a fence, in a round too. -/
/- A region that draws its order, walked by an invariant, where an edge that does not bind may point ahead. -/
import Derived.Test.YtheclfjbedajfaaIw
import Derived.OrdersIn
import Derived.StillTail
namespace Go.Proofs.Ytheclfjbedajfaa
set_option linter.unusedSimpArgs false
set_option linter.unusedVariables false
open Go.RowKit Go.Lib Go.Shelf Go.Proofs.YtheclfjbedajfaaW.PrintWords

section
variable {F : Fence} {n : Nat} {P : Program} {ops : Array Oper} {md : Region.Mode} {Q : Exit → Act → World → Prop}

def listedOf (listed : Array Bool) (i : Nat) : Bool := listed.getD i false
def put1 (L : Nat → Bool) (i : Nat) : Nat → Bool := fun j => j == i || L j
theorem listedOf_set {listed : Array Bool} {i : Nat} (h : i < listed.size) : listedOf (listed.setIfInBounds i true) = put1 (listedOf listed) i := by
  funext j
  unfold listedOf put1
  by_cases hij : i = j
  · subst hij; simp [h]
  · have : (j == i) = false := by simp; omega
    rw [getD_set_ne false hij, this]; rfl

theorem countP_put1 {L : Nat → Bool} {i : Nat} : ∀ (l : List Nat), i ∈ l → L i = false → l.countP (fun j => !put1 L i j) + 1 ≤ l.countP (fun j => !L j) := by
  intro l
  induction l with
  | nil => intro h; cases h
  | cons x r ih =>
    intro h hL
    by_cases hx : x = i
    · subst hx
      have hle : r.countP (fun j => !put1 L x j) ≤ r.countP (fun j => !L j) := List.countP_mono_left (fun j _ hj => by
        simp only [put1, Bool.not_or, Bool.and_eq_true] at hj
        exact hj.2)
      simp [List.countP_cons, put1, hL] at hle ⊢
      simpa [put1] using hle
    · have hr : i ∈ r := by
        rcases List.mem_cons.1 h with h | h
        · exact absurd h.symm hx
        · exact h
      have := ih hr hL
      have hb : (x == i) = false := by simp [hx]
      simp only [List.countP_cons, put1, hb, Bool.false_or] at this ⊢
      omega
theorem wpAnyIn_inv (Inv : (Nat → Bool) → Act → World → Prop)
    (acyc : ∀ (i : Nat) (o : Oper), ops[i]? = some o → ∀ e ∈ o.after, e.on < i)
    (step : ∀ (i : Nat) (o : Oper) (L : Nat → Bool) (a : Act) (w : World), ops[i]? = some o → L i = false → (∀ e ∈ o.after, Region.binds md e = true → L e.on = true) → Inv L a w →
      ∀ K : Act → World → Prop, (∀ a' w', Inv (put1 L i) a' w' → K a' w') → if Region.wanted o (yielded ops a.tmps) = true then Oper.wpIn F n P o a w K Q else (∀ f, o.about P w a.eval = some f → F.fn f) ∧ K (a.put o.dst undef) w)
    (done : ∀ L a w, (∀ i < ops.size, L i = true) → Inv L a w → Q .normal a w) :
    ∀ (fuel : Nat) (listed : Array Bool) (a : Act) (w : World), listed.size = ops.size → (List.range ops.size).countP (fun i => !listedOf listed i) ≤ fuel → Inv (listedOf listed) a w → wpAnyIn F n P md ops Q fuel listed a w := by
  have allIn : ∀ listed : Array Bool, listed.size = ops.size → Region.ready md ops listed = [] → ∀ i < ops.size, listedOf listed i = true := by
    intro listed hs hr i
    induction i using Nat.strongRecOn with
    | _ i ih =>
      intro hi
      cases hl : listedOf listed i
      · exfalso
        have : i ∈ Region.ready md ops listed := by
          rw [mem_ready]
          refine ⟨getD_in (by omega) hl, ops[i], by simp [hi], fun e he _ => ?_⟩
          have h1 := acyc i ops[i] (by simp [hi]) e he
          exact ih e.on h1 (by omega)
        rw [hr] at this
        cases this
      · rfl
  intro fuel
  induction fuel with
  | zero =>
    intro listed a w hs hc hi
    have h0 : ∀ i < ops.size, listedOf listed i = true := by
      intro i hi
      have := List.countP_eq_zero.1 (Nat.le_zero.1 hc) i (List.mem_range.2 hi)
      simpa using this
    refine ⟨?_, done _ _ _ h0 hi⟩
    rw [List.eq_nil_iff_forall_not_mem]
    intro j hj
    rw [mem_ready] at hj
    obtain ⟨h1, o, ho, _⟩ := hj
    have hlt : j < ops.size := (Array.getElem?_eq_some_iff.1 ho).1
    have := h0 j hlt
    have h2 := getD_both h1
    rw [listedOf, h2] at this
    cases this
  | succ fuel ih =>
    intro listed a w hs hc hi
    refine ⟨fun hr => done _ _ _ (allIn listed hs hr) hi, fun i hir => ?_⟩
    obtain ⟨h1, o, ho, hall⟩ := mem_ready.1 hir
    have hlt : i < ops.size := (Array.getElem?_eq_some_iff.1 ho).1
    refine wpOpIn_step ho (fun K hK => step i o (listedOf listed) a w ho (getD_both h1) hall hi K (fun a' w' h' => hK a' w' (ih _ a' w' (by simp [hs]) ?_ ?_)))
    · have h3 : listedOf listed i = false := getD_both h1
      have : (List.range ops.size).countP (fun j => !listedOf (listed.setIfInBounds i true) j) + 1 ≤ (List.range ops.size).countP (fun j => !listedOf listed j) := by
        rw [listedOf_set (by omega)]
        exact countP_put1 _ (List.mem_range.2 hlt) h3
      omega
    · rw [listedOf_set (by omega)]; exact h'

theorem wpIn_region_inv {id : Nat} {a : Act} {w : World} (hm : P.follows .mixedOrders = true) (Inv : (Nat → Bool) → Act → World → Prop)
    (acyc : ∀ (i : Nat) (o : Oper), ops[i]? = some o → ∀ e ∈ o.after, e.on < i)
    (h0 : Inv (fun _ => false) a w.drew)
    (step : ∀ (i : Nat) (o : Oper) (L : Nat → Bool) (a : Act) (w : World), ops[i]? = some o → L i = false → (∀ e ∈ o.after, Region.binds .any e = true → L e.on = true) → Inv L a w →
      ∀ K : Act → World → Prop, (∀ a' w', Inv (put1 L i) a' w' → K a' w') → if Region.wanted o (yielded ops a.tmps) = true then Oper.wpIn F n P o a w K Q else (∀ f, o.about P w a.eval = some f → F.fn f) ∧ K (a.put o.dst undef) w)
    (done : ∀ L a w, (∀ i < ops.size, L i = true) → Inv L a w → Q .normal a w) : (Code.region id ops true).wpIn F n P Q a w := by
  refine wpIn_region_any hm (wpAnyIn_inv Inv acyc step done ops.size _ a _ (by simp) ?_ ?_)
  · exact Nat.le_trans (List.countP_le_length) (by simp)
  · have : listedOf (Array.replicate ops.size false) = fun _ => false := by funext j; exact getD_replicate_false _ _
    rw [this]; exact h0
end
/-- Each operation waits for earlier ones alone. -/
def acycOk (ops : Array Oper) : Bool := (List.range ops.size).all fun i => match ops[i]? with | some o => o.after.toList.all fun e => decide (e.on < i) | none => true
theorem acyc_of {ops : Array Oper} (h : acycOk ops = true) (i : Nat) (o : Oper) (ho : ops[i]? = some o) : ∀ e ∈ o.after, e.on < i := by
  have hi : i < ops.size := (Array.getElem?_eq_some_iff.1 ho).1
  have h1 := List.all_eq_true.1 h i (List.mem_range.2 hi)
  rw [ho] at h1
  intro e he
  exact of_decide_eq_true (List.all_eq_true.1 h1 e (Array.mem_toList_iff.2 he))
end Go.Proofs.Ytheclfjbedajfaa


namespace Go.Proofs.Ytheclfjbedajfaa
set_option linter.unusedSimpArgs false
set_option linter.unusedVariables false
open Go.RowKit Go.Lib Go.Shelf Go.Proofs.YtheclfjbedajfaaW.PrintWords

section
variable {F : Fence} {n : Nat} {P : Program} {ops : Array Oper} {md : Region.Mode} {Q : Exit → Act → World → Prop}

theorem wpAnyIn_inv2 (Inv : (Nat → Bool) → Act → World → Prop)
    (acyc : ∀ (i : Nat) (o : Oper), ops[i]? = some o → ∀ e ∈ o.after, Region.binds md e = true → e.on < i)
    (step : ∀ (i : Nat) (o : Oper) (L : Nat → Bool) (a : Act) (w : World), ops[i]? = some o → L i = false → (∀ e ∈ o.after, Region.binds md e = true → L e.on = true) → Inv L a w →
      ∀ K : Act → World → Prop, (∀ a' w', Inv (put1 L i) a' w' → K a' w') → if Region.wanted o (yielded ops a.tmps) = true then Oper.wpIn F n P o a w K Q else (∀ f, o.about P w a.eval = some f → F.fn f) ∧ K (a.put o.dst undef) w)
    (done : ∀ L a w, (∀ i < ops.size, L i = true) → Inv L a w → Q .normal a w) :
    ∀ (fuel : Nat) (listed : Array Bool) (a : Act) (w : World), listed.size = ops.size → (List.range ops.size).countP (fun i => !listedOf listed i) ≤ fuel → Inv (listedOf listed) a w → wpAnyIn F n P md ops Q fuel listed a w := by
  have allIn : ∀ listed : Array Bool, listed.size = ops.size → Region.ready md ops listed = [] → ∀ i < ops.size, listedOf listed i = true := by
    intro listed hs hr i
    induction i using Nat.strongRecOn with
    | _ i ih =>
      intro hi
      cases hl : listedOf listed i
      · exfalso
        have : i ∈ Region.ready md ops listed := by
          rw [mem_ready]
          refine ⟨getD_in (by omega) hl, ops[i], by simp [hi], fun e he hbd => ?_⟩
          have h1 := acyc i ops[i] (by simp [hi]) e he hbd
          exact ih e.on h1 (by omega)
        rw [hr] at this
        cases this
      · rfl
  intro fuel
  induction fuel with
  | zero =>
    intro listed a w hs hc hi
    have h0 : ∀ i < ops.size, listedOf listed i = true := by
      intro i hi
      have := List.countP_eq_zero.1 (Nat.le_zero.1 hc) i (List.mem_range.2 hi)
      simpa using this
    refine ⟨?_, done _ _ _ h0 hi⟩
    rw [List.eq_nil_iff_forall_not_mem]
    intro j hj
    rw [mem_ready] at hj
    obtain ⟨h1, o, ho, _⟩ := hj
    have hlt : j < ops.size := (Array.getElem?_eq_some_iff.1 ho).1
    have := h0 j hlt
    have h2 := getD_both h1
    rw [listedOf, h2] at this
    cases this
  | succ fuel ih =>
    intro listed a w hs hc hi
    refine ⟨fun hr => done _ _ _ (allIn listed hs hr) hi, fun i hir => ?_⟩
    obtain ⟨h1, o, ho, hall⟩ := mem_ready.1 hir
    have hlt : i < ops.size := (Array.getElem?_eq_some_iff.1 ho).1
    refine wpOpIn_step ho (fun K hK => step i o (listedOf listed) a w ho (getD_both h1) hall hi K (fun a' w' h' => hK a' w' (ih _ a' w' (by simp [hs]) ?_ ?_)))
    · have h3 : listedOf listed i = false := getD_both h1
      have : (List.range ops.size).countP (fun j => !listedOf (listed.setIfInBounds i true) j) + 1 ≤ (List.range ops.size).countP (fun j => !listedOf listed j) := by
        rw [listedOf_set (by omega)]
        exact countP_put1 _ (List.mem_range.2 hlt) h3
      omega
    · rw [listedOf_set (by omega)]; exact h'

theorem wpIn_region_inv2 {id : Nat} {a : Act} {w : World} (hm : P.follows .mixedOrders = true) (Inv : (Nat → Bool) → Act → World → Prop)
    (acyc : ∀ (i : Nat) (o : Oper), ops[i]? = some o → ∀ e ∈ o.after, Region.binds .any e = true → e.on < i)
    (h0 : Inv (fun _ => false) a w.drew)
    (step : ∀ (i : Nat) (o : Oper) (L : Nat → Bool) (a : Act) (w : World), ops[i]? = some o → L i = false → (∀ e ∈ o.after, Region.binds .any e = true → L e.on = true) → Inv L a w →
      ∀ K : Act → World → Prop, (∀ a' w', Inv (put1 L i) a' w' → K a' w') → if Region.wanted o (yielded ops a.tmps) = true then Oper.wpIn F n P o a w K Q else (∀ f, o.about P w a.eval = some f → F.fn f) ∧ K (a.put o.dst undef) w)
    (done : ∀ L a w, (∀ i < ops.size, L i = true) → Inv L a w → Q .normal a w) : (Code.region id ops true).wpIn F n P Q a w := by
  refine wpIn_region_any hm (wpAnyIn_inv2 Inv acyc step done ops.size _ a _ (by simp) ?_ ?_)
  · exact Nat.le_trans (List.countP_le_length) (by simp)
  · have : listedOf (Array.replicate ops.size false) = fun _ => false := by funext j; exact getD_replicate_false _ _
    rw [this]; exact h0
end
/-- Each operation waits for earlier ones alone, as far as an edge binds. -/
def acycOk2 (ops : Array Oper) : Bool := (List.range ops.size).all fun i => match ops[i]? with | some o => o.after.toList.all fun e => !Region.binds .any e || decide (e.on < i) | none => true
theorem acyc_of2 {ops : Array Oper} (h : acycOk2 ops = true) (i : Nat) (o : Oper) (ho : ops[i]? = some o) : ∀ e ∈ o.after, Region.binds .any e = true → e.on < i := by
  have hi : i < ops.size := (Array.getElem?_eq_some_iff.1 ho).1
  have h1 := List.all_eq_true.1 h i (List.mem_range.2 hi)
  rw [ho] at h1
  intro e he hb
  have h2 := List.all_eq_true.1 h1 e (Array.mem_toList_iff.2 he)
  rw [hb] at h2
  exact of_decide_eq_true (by simpa using h2)
end Go.Proofs.Ytheclfjbedajfaa
