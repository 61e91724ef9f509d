/-
  The law DirRoutes: its walk.
-/
import Derived.Test.YtkibgdigcgakfaaDirD
import Derived.Test.YtkibgdigcgakfaaDirR
namespace Go.Proofs.Ytkibgdigcgakfaa
open Go.RowKit
open Go.BigFrame

end Go.Proofs.Ytkibgdigcgakfaa
