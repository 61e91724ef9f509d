/-
  shallotref02: the roots, as plain numbers; the tables of sha are they.
-/
import Derived.Test.YtmdbekdphkkmkaaTab2
import Derived.Test.YtmdbekdphkkmkaaShaA
namespace Go.Proofs.Ytmdbekdphkkmkaa
open Go.RowKit
open Go.BigFrame

/-- Bit by bit, from bit 'm' - 1 on down to bit 0. -/
def rootN (p k : Nat) : Nat → Nat → Nat
  | 0, x => x
  | m + 1, x => rootN p k m (if p * 4294967296 ^ k < (x + 2 ^ m) ^ k then x else x + 2 ^ m)
def initL : List UInt32 := [0x6a09e667, 0xbb67ae85, 0x3c6ef372, 0xa54ff53a, 0x510e527f, 0x9b05688c, 0x1f83d9ab, 0x5be0cd19]
theorem initL_eq : shaInit.list = initL.map W32 := rfl
def rootOk (p : Nat) : Bool := !(prB p && decide (2 ≤ p) && decide (cntP p < 64)) ||
  (shaK.getD (cntP p) 0 == UInt32.ofNat (rootN p 3 37 0 % 4294967296) && (decide (8 ≤ cntP p) || initL.getD (cntP p) 0 == UInt32.ofNat (rootN p 2 37 0 % 4294967296)))
theorem rootAll : ((List.range 312).all rootOk) = true := by decide +kernel
end Go.Proofs.Ytmdbekdphkkmkaa
