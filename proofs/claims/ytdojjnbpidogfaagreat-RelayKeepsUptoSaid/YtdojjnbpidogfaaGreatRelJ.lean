/-
  Frames of parts: what is framed is read again; what is framed anew and the same.
-/
import Derived.Test.YtdojjnbpidogfaaGreatRelM
import Derived.Test.YtdojjnbpidogfaaGreatRelF
namespace Go.Proofs.YtdojjnbpidogfaaGreat
open Go.RowKit
open Go.BigFrame

theorem sizeP_lt (b : List UInt8) (hb : b.length = 480) : sizeP b < 65536 := by
  have := beN_lt (subB b 28 2) 0 1 (by omega)
  rw [subB_length (by omega)] at this
  unfold sizeP
  omega
theorem prtOf_len (b : List UInt8) (hb : b.length = 480) (hs : sizeP b ≤ 450) : (prtOf b).da.length = sizeP b := subB_length (by omega)
end Go.Proofs.YtdojjnbpidogfaaGreat

