/-
  Slices of slices of bytes that read as lists.
-/
import Derived.Test.YtallecbmnpcepaaMem2
namespace Go.Proofs.Ytallecbmnpcepaa
open Go.RowKit

theorem own_cap {w : World} {base : Nat} {e : TypeId} {A : Option Addr} {n c : Nat} {vs : List Value} (h : w.ownsRow base e 1 (.slice A n c) n vs) : n ≤ c := by
  rcases h.2 with ⟨_, h0⟩ | ⟨g, cap, cur, hv, _, _, hnc, _⟩
  · omega
  · cases hv
    exact hnc
theorem OwnB.cap {w : World} {base : Nat} {A : Option Addr} {n c : Nat} {bs : List UInt8} (h : OwnB w base A n c bs) : n ≤ c := own_cap h
/-- It leads to no bad block (where it leads anywhere). -/
def Avoid (bad : Nat → Prop) (A : Option Addr) (n : Nat) : Prop := 0 < n → ∀ ad, A = some ad → ¬ bad ad.block
theorem Avoid.off {bad : Nat → Prop} {A : Option Addr} {n : Nat} (h : Avoid bad A n) {g : Nat} (hg : bad g) (hn : 0 < n) : Off A g := fun ad hd e => h hn ad hd (e ▸ hg)
/-- A slice that reads as bytes. -/
def Part (w : World) (bad : Nat → Prop) (v : Value) (p : List UInt8) : Prop := ∃ A n c, v = .slice A n c ∧ n ≤ c ∧ RdB w A n p ∧ Avoid bad A n
/-- A slice of such slices. -/
def Parts (w : World) (bad : Nat → Prop) (A : Option Addr) (n : Nat) (ps : List (List UInt8)) : Prop :=
  ∃ vs : List Value, Rd w A n vs ∧ Avoid bad A n ∧ vs.length = ps.length ∧ ∀ (j : Nat) v p, vs[j]? = some v → ps[j]? = some p → Part w bad v p
theorem Part.later {w w' : World} {bad : Nat → Prop} {v : Value} {p : List UInt8} (h : Part w bad v p) (hl : Later w w') : Part w' bad v p := by
  obtain ⟨A, n, c, h1, h2, h3, h4⟩ := h
  exact ⟨A, n, c, h1, h2, h3.later hl, h4⟩
theorem Rd.onlyAvoid {w w' : World} {A : Option Addr} {n : Nat} {vs : List Value} {g : Nat} {bad : Nat → Prop} (h : Rd w A n vs) (hv : Avoid bad A n) (ho : Only g w w') (hg : bad g) : Rd w' A n vs := by
  by_cases hn : 0 < n
  · exact h.onlyOff ho (hv.off hg hn)
  · exact ⟨h.1, fun h' => absurd h' hn⟩
theorem Part.only {w w' : World} {bad : Nat → Prop} {v : Value} {p : List UInt8} {g : Nat} (h : Part w bad v p) (ho : Only g w w') (hg : bad g) : Part w' bad v p := by
  obtain ⟨A, n, c, h1, h2, h3, h4⟩ := h
  exact ⟨A, n, c, h1, h2, Rd.onlyAvoid h3 h4 ho hg, h4⟩
theorem Parts.later {w w' : World} {bad : Nat → Prop} {A : Option Addr} {n : Nat} {ps : List (List UInt8)} (h : Parts w bad A n ps) (hl : Later w w') : Parts w' bad A n ps := by
  obtain ⟨vs, h1, h2, h3, h4⟩ := h
  exact ⟨vs, h1.later hl, h2, h3, fun j v p hv hp => (h4 j v p hv hp).later hl⟩
theorem Parts.only {w w' : World} {bad : Nat → Prop} {A : Option Addr} {n : Nat} {ps : List (List UInt8)} {g : Nat} (h : Parts w bad A n ps) (ho : Only g w w') (hg : bad g) : Parts w' bad A n ps := by
  obtain ⟨vs, h1, h2, h3, h4⟩ := h
  exact ⟨vs, h1.onlyAvoid h2 ho hg, h2, h3, fun j v p hv hp => (h4 j v p hv hp).only ho hg⟩
theorem Avoid.more {w : World} {bad bad' : Nat → Prop} {A : Option Addr} {n : Nat} {vs : List Value} (h : Avoid bad A n) (hr : Rd w A n vs) (hb : ∀ b, bad' b → bad b ∨ w.heap.size ≤ b) : Avoid bad' A n := by
  intro hn ad hd hbad
  rcases hb _ hbad with h1 | h1
  · exact h hn ad hd h1
  · obtain ⟨b, o, rfl, hlt, _⟩ := hr.2 hn
    cases hd
    exact absurd hlt (by simpa using h1)
theorem Parts.more {w : World} {bad bad' : Nat → Prop} {A : Option Addr} {n : Nat} {ps : List (List UInt8)} (h : Parts w bad A n ps) (hb : ∀ b, bad' b → bad b ∨ w.heap.size ≤ b) : Parts w bad' A n ps := by
  obtain ⟨vs, h1, h2, h3, h4⟩ := h
  refine ⟨vs, h1, h2.more h1 hb, h3, fun j v p hv hp => ?_⟩
  obtain ⟨A', n', c', e1, e2, e3, e4⟩ := h4 j v p hv hp
  exact ⟨A', n', c', e1, e2, e3, e4.more e3 hb⟩
theorem Parts.len {w : World} {bad : Nat → Prop} {A : Option Addr} {n : Nat} {ps : List (List UInt8)} (h : Parts w bad A n ps) : ps.length = n := by
  obtain ⟨vs, h1, _, h3, _⟩ := h
  rw [← h3, h1.1]
theorem flatten_take_succ (ps : List (List UInt8)) (k : Nat) (h : k < ps.length) : (ps.take (k + 1)).flatten = (ps.take k).flatten ++ ps[k] := by
  rw [List.take_succ_eq_append_getElem h, List.flatten_append]
  simp
theorem flatten_take_le (ps : List (List UInt8)) (k : Nat) : (ps.take k).flatten.length ≤ ps.flatten.length := by
  have : ps.flatten = (ps.take k).flatten ++ (ps.drop k).flatten := by rw [← List.flatten_append, List.take_append_drop]
  rw [this, List.length_append]
  omega
end Go.Proofs.Ytallecbmnpcepaa
