/-
  shallotref06.Mult.
-/
import Derived.Test.YtkibgdigcgakfaaCMult
import Derived.Test.YtkibgdigcgakfaaCanP
import Derived.Test.YtkibgdigcgakfaaBag
namespace Go.Proofs.Ytkibgdigcgakfaa
open Go.RowKit
open Go.BigFrame

theorem bit_eq2 (x : UInt8) (m : Nat) : (shr8 x m % 2 == 1) = decide (x.toNat / 2 ^ m % 2 = 1) := by
  rw [← bit_eq]
  have h : ∀ y : UInt8, y % 2 = y &&& 1 := by
    intro y
    apply UInt8.toNat_inj.1
    rw [UInt8.toNat_mod, UInt8.toNat_and]
    exact (Nat.and_two_pow_sub_one_eq_mod _ 1).symm
  rw [h]
theorem nb_of_zero {Q : Nat} (h : Q = 0) : (nb Q).map W8 = List.replicate 32 (W8 0) := by subst h; rw [nb_zeros]; rfl
end Go.Proofs.Ytkibgdigcgakfaa
