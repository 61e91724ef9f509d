/-
  A struct that is built with one part of several cells.
-/
import Derived.Test.YtallecbmnpcepaaMem
import Derived.Laws.Tables
namespace Go.Proofs.Ytallecbmnpcepaa
open Go.RowKit

theorem foldl_splice : ∀ (vs : List Value) (k off : Nat) (cells : List Value), off + vs.length ≤ cells.length →
    (vs.zipIdx k).foldl (fun (cs : Array Value) (x : Value × Nat) => cs.setIfInBounds (off - k + x.2) x.1) cells.toArray = (spliced cells off vs).toArray ∨ off < k
  | [], k, off, cells, _ => .inl (by simp [spliced])
  | v :: vs, k, off, cells, h => by
    rcases Nat.lt_or_ge off k with hk | hk
    · exact .inr hk
    left
    simp only [List.length_cons] at h
    have ih := foldl_splice vs (k + 1) (off + 1) (cells.set off v) (by simp; omega)
    rcases ih with ih | ih
    · rw [List.zipIdx_cons, List.foldl_cons, show off - k + k = off by omega]
      simp only [List.setIfInBounds_toArray]
      rw [show off + 1 - (k + 1) = off - k by omega] at ih
      rw [ih]
      congr 1
      rw [spliced, spliced, List.take_succ_eq_append_getElem (by simp; omega), List.drop_set_of_lt (by omega)]
      simp only [List.take_set_of_le (Nat.le_refl off), List.getElem_set_self, List.append_assoc, List.cons_append, List.nil_append, List.length_cons, show off + 1 + vs.length = off + (vs.length + 1) by omega]
    · omega
theorem fold_cells (vs cells : List Value) (off : Nat) (h : off + vs.length ≤ cells.length) :
    vs.toArray.zipIdx.foldl (fun (cs : Array Value) (x : Value × Nat) => cs.setIfInBounds (off + x.2) x.1) cells.toArray = (spliced cells off vs).toArray := by
  rcases foldl_splice vs 0 off cells h with h | h
  · rw [← Array.foldl_toList, Array.toList_zipIdx]
    simpa using h
  · omega
theorem built_one {P : Program} {t : TypeId} {i off : Nat} {zs vs : List Value} {fs : Array Field} {pl : List (Nat × Nat)} (hu : P.underlying t = some (.struct fs)) (hz : (P.info? t).bind (·.zero) = some (.agg zs.toArray))
    (hp : (fs.toList.mapM fun f => (P.info? f.type).map fun i => (f.offset, i.size)) = some pl) (hpi : pl[i]? = some (off, vs.length)) (hfit : off + vs.length ≤ zs.length) : P.built t [(i, .agg vs.toArray)] = some (spliced zs off vs).toArray := by
  cases hq : P.info? t with
  | none => simp [hq] at hz
  | some it =>
    have hz' : it.zero = some (.agg zs.toArray) := by simpa [hq] using hz
    have hc : (Value.agg vs.toArray).cells = vs.toArray := rfl
    have hc2 : (Value.agg zs.toArray).cells = zs.toArray := rfl
    unfold Program.built
    rw [hq, hu]
    simp only [hz', hp, Instr.fill, List.getElem?_toArray, hpi, hc, hc2, List.size_toArray]
    rw [if_neg (by simp; omega), fold_cells _ _ _ hfit]
end Go.Proofs.Ytallecbmnpcepaa
