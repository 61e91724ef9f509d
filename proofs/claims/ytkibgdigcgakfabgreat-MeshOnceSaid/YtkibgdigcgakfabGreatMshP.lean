/-
  The document's Take and Whole: in plain lists.
-/
import Derived.Test.YtkibgdigcgakfabGreatLetP
namespace Go.Proofs.YtkibgdigcgakfabGreat
open Go.RowKit

section
variable {α : Type} (pr : α → Prt)
theorem tksE_snoc (id : UInt64) (x : α) : ∀ (xs ks : List α), tksE pr id ks (xs ++ [x]) = if tksE pr id ks xs ≠ 0 then tksE pr id ks xs else tkE pr id (tksK pr id ks xs) (pr x)
  | [], ks => by
    show (if tkE pr id ks (pr x) ≠ 0 then tkE pr id ks (pr x) else 0) = if (0 : Nat) ≠ 0 then 0 else tkE pr id ks (pr x)
    split <;> simp_all
  | y :: xs, ks => by
    have ih := tksE_snoc id x xs (tkK pr id ks y)
    show (if tkE pr id ks (pr y) ≠ 0 then tkE pr id ks (pr y) else tksE pr id (tkK pr id ks y) (xs ++ [x])) = if (if tkE pr id ks (pr y) ≠ 0 then tkE pr id ks (pr y) else tksE pr id (tkK pr id ks y) xs) ≠ 0 then (if tkE pr id ks (pr y) ≠ 0 then tkE pr id ks (pr y) else tksE pr id (tkK pr id ks y) xs) else tkE pr id (tksK pr id (tkK pr id ks y) xs) (pr x)
    rw [ih]
    split <;> simp_all
/-- What the document asks ahead of the kept ones. -/
def tkA (id : UInt64) (p : Prt) : Nat := if p.kd ≠ 1 ∨ prtE p ≠ 0 then 3 else if p.id ≠ id then 4 else 0
/-- .. and behind the first j of them. -/
def tkJ (id : UInt64) (ks : List α) (p : Prt) (j : Nat) : Nat := if tkA id p ≠ 0 then tkA id p else if (ks.take j).any (fun q => (pr q).ct != p.ct || (pr q).ix == p.ix) then 3 else 0
theorem tkJ_zero (id : UInt64) (ks : List α) (p : Prt) : tkJ pr id ks p 0 = tkA id p := by
  unfold tkJ
  split <;> simp_all
theorem tkJ_all (id : UInt64) (ks : List α) (p : Prt) {j : Nat} (h : ks.length ≤ j) : tkJ pr id ks p j = tkE pr id ks p := by
  unfold tkJ tkA tkE
  rw [List.take_of_length_le h]
  split
  · split <;> simp_all
  · split <;> simp_all
theorem tkJ_stop (id : UInt64) (ks : List α) (p : Prt) {j : Nat} (h : tkJ pr id ks p j ≠ 0) : tkJ pr id ks p j = tkE pr id ks p := by
  rw [← tkJ_all pr id ks p (Nat.le_refl _)]
  unfold tkJ at *
  split
  · rfl
  · rename_i h0
    rw [if_neg h0] at h
    split at h
    · rename_i h1
      have h2 : (ks.take ks.length).any (fun q => (pr q).ct != p.ct || (pr q).ix == p.ix) = true := by
        rw [List.take_length]
        obtain ⟨q, hq, hb⟩ := List.any_eq_true.1 h1
        exact List.any_eq_true.2 ⟨q, List.mem_of_mem_take hq, hb⟩
      rw [if_pos h1, if_pos h2]
    · exact absurd rfl h
theorem tkJ_succ (id : UInt64) (ks : List α) (p : Prt) {j : Nat} {q : α} (hq : ks[j]? = some q) (h : tkJ pr id ks p j = 0) : tkJ pr id ks p (j + 1) = if ((pr q).ct != p.ct || (pr q).ix == p.ix) = true then 3 else 0 := by
  unfold tkJ at *
  split at h
  · rename_i h0
    exact absurd h h0
  · rename_i h0
    rw [if_neg h0]
    split at h
    · cases h
    · rename_i h1
      have h1' : (ks.take j).any (fun q => (pr q).ct != p.ct || (pr q).ix == p.ix) = false := by simpa using h1
      rw [List.take_add_one, hq, List.any_append, h1']
      simp
end
/-- The bytes that are joined at one place, of the first k kept ones. -/
def atP (ks : List Prt) (i k : Nat) : List UInt8 := ((ks.take k).filter (fun q => q.ix == (i : Int))).flatMap (·.da)
theorem atP_succ (ks : List Prt) (i : Nat) {k : Nat} {q : Prt} (hq : ks[k]? = some q) : atP ks i (k + 1) = atP ks i k ++ (if (q.ix == (i : Int)) = true then q.da else []) := by
  unfold atP
  rw [List.take_add_one, hq, List.filter_append, List.flatMap_append]
  congr 1
  by_cases h : (q.ix == (i : Int)) = true
  · simp [h]
  · simp [h]
def wholeI (ks : List Prt) (i : Nat) : List UInt8 := (List.range i).flatMap fun (i : Nat) => atP ks i ks.length
theorem wholeI_succ (ks : List Prt) (i : Nat) : wholeI ks (i + 1) = wholeI ks i ++ atP ks i ks.length := by
  unfold wholeI
  rw [List.range_succ, List.flatMap_append]
  simp
theorem wholeI_all (ks : List Prt) : wholeI ks ks.length = whole ks := by
  unfold wholeI whole atP
  rw [List.take_length]
theorem flatMap_le {α : Type} {f : α → List UInt8} {c : Nat} : ∀ {l : List α}, (∀ x ∈ l, (f x).length ≤ c) → (l.flatMap f).length ≤ l.length * c
  | [], _ => by simp
  | x :: l, h => by
    have h1 := h x (by simp)
    have h2 := flatMap_le (f := f) (c := c) (l := l) (fun y hy => h y (by simp [hy]))
    rw [List.flatMap_cons, List.length_append, List.length_cons, Nat.add_mul]
    omega
theorem atP_le {ks : List Prt} (h : ∀ q ∈ ks, q.da.length ≤ 450) (hl : ks.length ≤ 16) (i k : Nat) : (atP ks i k).length ≤ 7200 := by
  have h1 : ((ks.take k).filter (fun q => q.ix == (i : Int))).length ≤ 16 := Nat.le_trans (List.length_filter_le _ _) (by rw [List.length_take]; omega)
  have h2 := flatMap_le (f := fun q : Prt => q.da) (c := 450) (l := (ks.take k).filter (fun q => q.ix == (i : Int))) (fun q hq => h q (List.mem_of_mem_take (List.mem_filter.1 hq).1))
  unfold atP
  have := Nat.mul_le_mul_right 450 h1
  omega
theorem wholeI_le {ks : List Prt} (h : ∀ q ∈ ks, q.da.length ≤ 450) (hl : ks.length ≤ 16) (i : Nat) : (wholeI ks i).length ≤ i * 7200 := by
  have := flatMap_le (f := fun i : Nat => atP ks i ks.length) (c := 7200) (l := List.range i) (fun j _ => atP_le h hl j _)
  rwa [List.length_range] at this
end Go.Proofs.YtkibgdigcgakfabGreat
