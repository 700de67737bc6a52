-- The words of the print that this claim uses; the others are struck by trim.py, a program of this session.
import Derived.Test.YtmfmlfaglemgfaaWInv
import Derived.Test.YtmfmlfaglemgfaaWNEv
namespace Go.Proofs.YtmfmlfaglemgfaaW.PrintWords
open Go.RowKit
end Go.Proofs.YtmfmlfaglemgfaaW.PrintWords
namespace Go.Proofs.YtmfmlfaglemgfaaW.PrintLast
section
variable {ops : Array Oper} {a : Act} {o og : Oper} {g : Nat} {t : Tmp} {u : Bool}
end
end Go.Proofs.YtmfmlfaglemgfaaW.PrintLast
