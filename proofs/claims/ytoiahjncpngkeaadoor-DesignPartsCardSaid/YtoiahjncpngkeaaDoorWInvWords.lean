-- The words of the print that this claim uses; the others are struck by trim.py, a program of this session.
import Derived.Test.YtoiahjncpngkeaaDoorWInv
import Derived.Test.YtoiahjncpngkeaaDoorWNEv
namespace Go.Proofs.YtoiahjncpngkeaaDoorW.PrintWords
open Go.RowKit
end Go.Proofs.YtoiahjncpngkeaaDoorW.PrintWords
namespace Go.Proofs.YtoiahjncpngkeaaDoorW.PrintLast
section
variable {ops : Array Oper} {a : Act} {o og : Oper} {g : Nat} {t : Tmp} {u : Bool}
/-- A guarded operation whose guard has yielded what it wants. -/
theorem wanted_on (hg : o.guard = some (g, u)) (ho : ops[g]? = some og) (hd : og.dst = some t) (hv : a.tmps[t]? = some (.bool u)) : Region.wanted o (yielded ops a.tmps) = true := by
  simp [Region.wanted, hg, yielded, ho, hd, hv]
end
end Go.Proofs.YtoiahjncpngkeaaDoorW.PrintLast
