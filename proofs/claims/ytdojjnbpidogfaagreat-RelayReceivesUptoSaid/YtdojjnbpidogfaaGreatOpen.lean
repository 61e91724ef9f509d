/-
  What the walks are told of arguments that came in.
-/
import Derived.Test.YtdojjnbpidogfaaGreatProg
import Derived.Test.YtdojjnbpidogfaaGreatMem
import Derived.ProofKit
import Derived.OpenShut
namespace Go.Proofs.YtdojjnbpidogfaaGreat
open Go.ChangeShapes Go.WideShapes Go.ChangeAt Go.RowKit
end Go.Proofs.YtdojjnbpidogfaaGreat

