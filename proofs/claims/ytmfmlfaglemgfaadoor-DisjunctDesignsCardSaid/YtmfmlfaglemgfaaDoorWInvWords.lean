-- The words of the print that this claim uses; the others are struck by trim.py, a program of this session.
import Derived.Test.YtmfmlfaglemgfaaDoorWInv
import Derived.Test.YtmfmlfaglemgfaaDoorWNEv
namespace Go.Proofs.YtmfmlfaglemgfaaDoorW.PrintWords
open Go.RowKit
end Go.Proofs.YtmfmlfaglemgfaaDoorW.PrintWords
namespace Go.Proofs.YtmfmlfaglemgfaaDoorW.PrintLast
section
variable {ops : Array Oper} {a : Act} {o og : Oper} {g : Nat} {t : Tmp} {u : Bool}
end
end Go.Proofs.YtmfmlfaglemgfaaDoorW.PrintLast
