/-
  Arrivals, visits, letters: their cells.
-/
import Derived.Test.YtkibgdigcgakfabGreatLetP
import Derived.Test.YtkibgdigcgakfabGreatMemP
namespace Go.Proofs.YtkibgdigcgakfabGreat
open Go.RowKit

/-- An arrival in memory; va: its part's data. -/
structure Arv where
  ar : Arr
  va : Value
def av0 : Arv := ⟨⟨prt0, 0, 0, 0, zero16⟩, .slice none 0 0⟩
def AvC (x : Arv) : List Value := PaC x.ar.pt x.va ++ (W8 x.ar.kd :: W64 x.ar.to :: .int .i64 x.ar.tk :: x.ar.ma.val.map W8)
theorem AvC_length (x : Arv) : (AvC x).length = 24 := by simp [AvC, PaC, x.ar.ma.2]
def AvOk (w : World) (x : Arv) : Prop := ∃ A n c, x.va = .slice A n c ∧ n ≤ c ∧ RdB w A n x.ar.pt.da
theorem AvOk.later {w w' : World} {x : Arv} (h : AvOk w x) (hl : Later w w') : AvOk w' x := by
  obtain ⟨A, n, c, h1, h2, h3⟩ := h
  exact ⟨A, n, c, h1, h2, h3.later hl⟩
/-- A visit. -/
structure Vst where
  cm : Cmd
  id : UInt64
  tk : Int
def vst0 : Vst := ⟨cmd0, 0, 0⟩
def VC (x : Vst) : List Value := CC x.cm ++ [W64 x.id, .int .i64 x.tk]
theorem VC_length (x : Vst) : (VC x).length = 22 := by simp [VC, CC_length]
end Go.Proofs.YtkibgdigcgakfabGreat
