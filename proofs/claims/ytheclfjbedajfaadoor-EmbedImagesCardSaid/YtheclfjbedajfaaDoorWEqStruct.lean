-- The words of the print that this claim uses; the others are struck by trim.py, a program of this session.
import Derived.Test.YtheclfjbedajfaaDoorWWords
import Derived.Laws.StructEq
/-! ### 53. '==' of structs as_ one Bool -/
namespace Go.Proofs.YtheclfjbedajfaaDoorW.PrintWords
open Go.RowKit
section
variable {P : Program} {d : Nat} {xs ys : Array Value} {f : Field} {fs : List Field} {a b : Value} {r s : Bool} {w : World}
end
end Go.Proofs.YtheclfjbedajfaaDoorW.PrintWords
