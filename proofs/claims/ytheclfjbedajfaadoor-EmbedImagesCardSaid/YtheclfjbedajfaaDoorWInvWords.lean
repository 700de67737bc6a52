-- The words of the print that this claim uses; the others are struck by trim.py, a program of this session.
import Derived.Test.YtheclfjbedajfaaDoorWInv
import Derived.Test.YtheclfjbedajfaaDoorWNEv
namespace Go.Proofs.YtheclfjbedajfaaDoorW.PrintWords
open Go.RowKit
end Go.Proofs.YtheclfjbedajfaaDoorW.PrintWords
namespace Go.Proofs.YtheclfjbedajfaaDoorW.PrintLast
section
variable {ops : Array Oper} {a : Act} {o og : Oper} {g : Nat} {t : Tmp} {u : Bool}
end
end Go.Proofs.YtheclfjbedajfaaDoorW.PrintLast
