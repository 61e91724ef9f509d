/-
  Hops: plain.
-/
import Derived.Test.YtdojjnbpidogfaaGreatDirX
namespace Go.Proofs.YtdojjnbpidogfaaGreat
open Go.RowKit

/-- A hop. -/
structure Hp where
  nod : Nod
  delay : Int
  flags : Int
def hp0 : Hp := ⟨nod0, 0, 0⟩
def HC (x : Hp) : List Value := NC x.nod ++ [.int .i64 x.delay, .int .i64 x.flags]
end Go.Proofs.YtdojjnbpidogfaaGreat

