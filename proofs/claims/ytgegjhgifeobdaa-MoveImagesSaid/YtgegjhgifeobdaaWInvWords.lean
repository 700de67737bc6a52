-- The words of the print that this claim uses; the others are struck by trim.py, a program of this session.
import Derived.Test.YtgegjhgifeobdaaWInv
import Derived.Test.YtgegjhgifeobdaaWNEv
namespace Go.Proofs.YtgegjhgifeobdaaW.PrintWords
open Go.RowKit
end Go.Proofs.YtgegjhgifeobdaaW.PrintWords
namespace Go.Proofs.YtgegjhgifeobdaaW.PrintLast
section
variable {ops : Array Oper} {a : Act} {o og : Oper} {g : Nat} {t : Tmp} {u : Bool}
end
end Go.Proofs.YtgegjhgifeobdaaW.PrintLast
