/-
  curve.Low.
-/
import Derived.Test.YtjohieongjnemaaCurveAB
namespace Go.Proofs.Ytjohieongjnemaa
open Go.RowKit
open Go.BigFrame

/-- What Low tells. -/
def lowB (us : List UInt8) : Bool := if us.length = 32 then ((multE (List.replicate 32 0) us : Nat) : Int) == 5 else false
end Go.Proofs.Ytjohieongjnemaa
