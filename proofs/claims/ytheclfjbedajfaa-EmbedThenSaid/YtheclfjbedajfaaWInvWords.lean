-- The words of the print that this claim uses; the others are struck by trim.py, a program of this session.
import Derived.Test.YtheclfjbedajfaaWInv
import Derived.Test.YtheclfjbedajfaaWNEv
namespace Go.Proofs.YtheclfjbedajfaaW.PrintWords
open Go.RowKit
end Go.Proofs.YtheclfjbedajfaaW.PrintWords
namespace Go.Proofs.YtheclfjbedajfaaW.PrintLast
section
variable {ops : Array Oper} {a : Act} {o og : Oper} {g : Nat} {t : Tmp} {u : Bool}
end
end Go.Proofs.YtheclfjbedajfaaW.PrintLast
