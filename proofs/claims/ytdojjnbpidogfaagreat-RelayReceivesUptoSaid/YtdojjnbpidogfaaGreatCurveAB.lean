/-
  curve.Public, NewPair, Shared, Low, and the twins' Public.
  shallotlaw06: awake.
  shallotlaw06: CurveMults.
-/
import Derived.Test.YtdojjnbpidogfaaGreatCurve8
import Derived.Test.YtdojjnbpidogfaaGreatLists
namespace Go.Proofs.YtdojjnbpidogfaaGreat
open Go.RowKit
open Go.BigFrame

end Go.Proofs.YtdojjnbpidogfaaGreat
namespace Go.Proofs.YtdojjnbpidogfaaGreat
open Go.RowKit
open Go.BigFrame

end Go.Proofs.YtdojjnbpidogfaaGreat
namespace Go.Proofs.YtdojjnbpidogfaaGreat
open Go.RowKit
open Go.BigFrame

end Go.Proofs.YtdojjnbpidogfaaGreat

