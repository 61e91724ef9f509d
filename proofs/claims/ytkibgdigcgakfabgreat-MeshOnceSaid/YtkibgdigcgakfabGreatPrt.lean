/-
  Parts of messages: what they hold, and what is wrong with them; commands.
-/
import Derived.Test.YtkibgdigcgakfabGreatBase
namespace Go.Proofs.YtkibgdigcgakfabGreat
open Go.RowKit

structure Prt where
  kd : UInt8
  id : UInt64
  ix : Int
  ct : Int
  da : List UInt8
def prt0 : Prt := ⟨0, 0, 0, 0, []⟩
/-- A part's cells; v: its data. -/
def PaC (p : Prt) (v : Value) : List Value := [W8 p.kd, W64 p.id, .int .i64 p.ix, .int .i64 p.ct, v]
/-- The error of a part. -/
def prtE (p : Prt) : Nat :=
  if p.kd < 1 ∨ 3 < p.kd then 1 else if 450 < p.da.length then 2 else if p.ct < 1 ∨ 16 < p.ct ∨ p.ix < 0 ∨ p.ct ≤ p.ix then 3
  else if p.kd ≠ 1 ∧ p.ct ≠ 1 then 3 else if p.kd = 2 ∧ (p.id ≠ 0 ∨ p.da.length ≠ 0) then 3 else 0
/-! ### Commands -/
abbrev Y16 := {l : List UInt8 // l.length = 16}
structure Cmd where
  kd : UInt8
  fl : UInt8
  dl : UInt32
  nx : UInt64
  ma : Y16
def zero16 : Y16 := ⟨List.replicate 16 0, by simp⟩
def cmd0 : Cmd := ⟨0, 0, 0, 0, zero16⟩
/-- A command's cells. -/
def CC (c : Cmd) : List Value := W8 c.kd :: W8 c.fl :: W32 c.dl :: W64 c.nx :: c.ma.val.map W8
theorem CC_length (c : Cmd) : (CC c).length = 20 := by simp [CC, c.ma.2]
theorem CC_mark (c : Cmd) : (CC c).drop 4 = c.ma.val.map W8 := rfl
end Go.Proofs.YtkibgdigcgakfabGreat
