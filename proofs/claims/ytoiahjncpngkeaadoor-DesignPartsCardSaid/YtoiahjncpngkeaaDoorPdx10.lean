-- Written by this session's program xprint.py: it drives the kit's print with contracts of this session's own.
import Derived.Test.YtoiahjncpngkeaaDoorPdx0
import Derived.Test.YtoiahjncpngkeaaDoorPdExt
import Derived.Test.YtoiahjncpngkeaaDoorPdx3
import Derived.Test.YtoiahjncpngkeaaDoorPdx6
import Derived.Test.YtoiahjncpngkeaaDoorPdx9
namespace Go.Proofs.YtoiahjncpngkeaaDoor.Pd
open Go.RowKit Go.Proofs.YtoiahjncpngkeaaDoorW.PrintWords Go.Proofs.YtoiahjncpngkeaaDoorW.PrintLast Go.Proofs.YtoiahjncpngkeaaDoorW.PrintMore
attribute [local go_sem] max2_int min2_int max_two min_two max_three min_three max_four min_four   -- for this text's walks alone
set_option linter.unusedVariables false
set_option linter.unusedSimpArgs false

attribute [local go_sem high] eqA26 eqA41
/-! ### plexuslaw09_examples: function 9 -/
set_option maxRecDepth 1000000 in
theorem exs_true : exs.f 40 = some true := by kernel_rfl
def plexuslaw09_examples.f : Option (Bool) := some true
theorem plexuslaw09_examples.calls (r : Bool) (w : World) (hT : TabOk w) (h : plexuslaw09_examples.f = some r) : Calls Tryd.prog 9 #[] w fun e w' => e = .returned (.bool r) ∧ Below w.heap.size w w' := by
  obtain rfl := Option.some.inj h
  exact exs.calls 40 w hT exs_true

/-! ### incidence_set_size: function 48 -/
def incidence_set_size.f (a0 : Int) : Option (Int) := (bits_OnesCount64.f a0).bind fun t229 => (some t229)
set_option maxHeartbeats 8000000 in
set_option maxRecDepth 100000 in
theorem incidence_set_size.calls (a0 : Int) (r : Int) (w : World) (h : incidence_set_size.f a0 = some r) :
    Calls Tryd.prog 48 #[.int .u64 a0] w fun e w' => e = .returned (.int .i64 r) ∧ Drawn0 w w' := by
  have H : ((bits_OnesCount64.f a0).bind fun t229 => (some t229)) = some r := h
  clear h
  replace H := Option.bind_eq_some_iff.mp H
  obtain ⟨t229, A20, H⟩ := H
  replace H : (some t229) = some r := H
  have A2 := Aside0.mk A20
  clear A20
  obtain rfl := Option.some.inj H
  go_enter Tryd.func48, Tryd.ntmps48
  go_wp2_with (first | ((with_reducible refine gate_callee (f := 34) rfl ?_); refine goesL_ (some 4) rfl rfl Tryd.func34 (by kernel_rfl) rfl #[.int .u64 a0] rfl (by (try simp only [List.map_toArray, List.map_cons, List.map_nil]); first | done | rfl | (simp only [List.length_drop, List.length_take]; rfl)) ?_; (with_reducible refine (bits_OnesCount64.calls a0 t229 _ A2.out).mono ?_); rintro e w' ⟨rfl, ⟨nd, rfl⟩⟩; refine ⟨_, rfl, ?_⟩))
  go_ret
  exact ⟨by first | rfl | (simp; done) | (simp [*]; done), by repeat (first | exact Drawn0.refl _ | apply Drawn0.step)⟩

end Go.Proofs.YtoiahjncpngkeaaDoor.Pd
