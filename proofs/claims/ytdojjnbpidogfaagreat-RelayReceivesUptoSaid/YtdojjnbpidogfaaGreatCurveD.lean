/-
  curve.Chain.
-/
import Derived.Test.YtdojjnbpidogfaaGreatCurveAB
namespace Go.Proofs.YtdojjnbpidogfaaGreat
open Go.RowKit
open Go.BigFrame

/-- One scalar behind the other. -/
def chainAt : List (List UInt8) → List UInt8 → List UInt8 × Nat
  | [], at_ => (at_, 0)
  | k :: ks, at_ => if multE k at_ = 0 then chainAt ks (multB k at_) else (List.replicate 32 0, multE k at_)
def chainR (us : List UInt8) (ps : List (List UInt8)) : List UInt8 × Nat :=
  if us.length = 32 ∧ ∀ p ∈ ps, p.length = 32 then chainAt ps (nb (readN us)) else (List.replicate 32 0, 2)
theorem chainAt_length : ∀ (ps : List (List UInt8)) (at_ : List UInt8), at_.length = 32 → (chainAt ps at_).1.length = 32
  | [], _, h => h
  | k :: ks, at_, _ => by
    unfold chainAt
    split
    · exact chainAt_length ks _ (multB_length _ _)
    · simp
theorem chainR_length (us : List UInt8) (ps : List (List UInt8)) : (chainR us ps).1.length = 32 := by
  unfold chainR
  split
  · exact chainAt_length _ _ (nb_length _)
  · simp
end Go.Proofs.YtdojjnbpidogfaaGreat

