/-
  Frames of parts: in plain lists.
-/
import Derived.Test.YtdojjnbpidogfaaGreatRcC
namespace Go.Proofs.YtdojjnbpidogfaaGreat
open Go.RowKit
open Go.BigFrame

structure Prt where
  kd : UInt8
  id : UInt64
  ix : Int
  ct : Int
  da : List UInt8
def prt0 : Prt := ⟨0, 0, 0, 0, []⟩
/-- A part's cells; v: its data. -/
def PaC (p : Prt) (v : Value) : List Value := [W8 p.kd, W64 p.id, .int .i64 p.ix, .int .i64 p.ct, v]
/-- The error of a part. -/
def prtE (p : Prt) : Nat :=
  if p.kd < 1 ∨ 3 < p.kd then 1 else if 450 < p.da.length then 2 else if p.ct < 1 ∨ 16 < p.ct ∨ p.ix < 0 ∨ p.ct ≤ p.ix then 3
  else if p.kd ≠ 1 ∧ p.ct ≠ 1 then 3 else if p.kd = 2 ∧ (p.id ≠ 0 ∨ p.da.length ≠ 0) then 3 else 0
def sizeP (b : List UInt8) : Nat := beN (subB b 28 2) 0
def prtOf (b : List UInt8) : Prt := ⟨b.getD 16 0, UInt64.ofNat (beN (subB b 20 8) 0), ((b.getD 17 0).toNat : Int), ((b.getD 18 0).toNat : Int), subB b 30 (sizeP b)⟩
/-- The error of bytes that shall be a frame. -/
def parE (b : List UInt8) : Nat :=
  if b.length ≠ 480 then 2 else if b.take 16 ≠ List.replicate 16 0 then 7 else if b.getD 16 0 < 1 ∨ 3 < b.getD 16 0 then 1
  else if b.getD 19 0 ≠ 0 ∨ 450 < sizeP b then 3 else if prtE (prtOf b) ≠ 0 ∨ b.drop (30 + sizeP b) ≠ List.replicate (450 - sizeP b) 0 then 3 else 0
def parP (b : List UInt8) : Prt := if parE b = 0 then prtOf b else prt0
/-- What is asked of a command and its part. -/
def recE (k p : List UInt8) : Nat :=
  if unwE k p ≠ 0 then unwE k p else if (unwC k p).kd = 1 then 10 else if (unwC k p).kd = 4 then 0 else if parE (unwB k p) ≠ 0 then parE (unwB k p)
  else if (parP (unwB k p)).kd ≠ (if (unwC k p).kd = 3 then 2 else 1) then 10 else 0
end Go.Proofs.YtdojjnbpidogfaaGreat

