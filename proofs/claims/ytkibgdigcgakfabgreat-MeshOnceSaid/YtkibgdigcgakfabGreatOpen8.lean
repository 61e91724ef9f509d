/-
  Arguments that came in: slices of int.
-/
import Derived.Test.YtkibgdigcgakfabGreatOpen2
import Derived.Test.YtkibgdigcgakfabGreatWideP
namespace Go.Proofs.YtkibgdigcgakfabGreat
open Go.ChangeShapes Go.WideShapes Go.ChangeAt Go.RowKit
open _root_.Go.Proofs.YtkibgdigcgakfabGreat.Rows (uptoBulk uptoBulkAll uptoSmall)

theorem cellsI : Tryz.prog.cellsOf 3 = 1 := by kernel_rfl
section
variable {H : Type} {enc : TypeId × Value → H} {P : Program} {w : World} {base b0 : Nat} {sp : Nat → Bool} {held : Bool} {r : Reach}
set_option maxRecDepth 100000 in
theorem open_ints {t : TypeId} {v : Value} {d : DataW H} {pl : List MemPlace} (ht : Tryz.prog.underlying t = some (.slice 3)) (hval : Value.okWide Tryz.prog w r b0 t v) (h : DataW.Trod enc Tryz.prog w base sp held t v d pl) :
    ∃ (A : Option Addr) (n c : Nat) (rs : List Int), v = .slice A n c ∧ n ≤ c ∧ Rd w A n (rs.map intV) ∧ n + 1 ≤ uptoBulk d := by
  obtain ⟨A, n, c, rfl⟩ := okWide_slice ht hval
  obtain ⟨f, hf⟩ := h
  obtain ⟨A', n', c', vs, xs, h1, h2, h3, h4, h5, h6, h7⟩ := trod_row ht cellsI hf
  have h7' : uptoBulkAll (xs.map (·.1)) + 1 ≤ uptoBulk d := h7
  have hl : ∀ l : List Value, (∀ (j : Nat) u, l[j]? = some u → ∃ x : Int, u = intV x) → ∃ rs : List Int, l = rs.map intV := by
    intro l
    induction l with
    | nil => exact fun _ => ⟨[], rfl⟩
    | cons u l ih =>
      intro hl
      obtain ⟨b, rfl⟩ := hl 0 u rfl
      obtain ⟨rs, rfl⟩ := ih fun j v hv => hl (j + 1) v (by simpa using hv)
      exact ⟨b :: rs, rfl⟩
  obtain ⟨rs, rfl⟩ := hl vs fun j u hu => by
    obtain ⟨y, f, _, hy⟩ := h6 j u hu
    obtain ⟨m, hm, rfl, hw⟩ := DataW.trod_int Tryz.underlying3 hy
    obtain rfl : u = .int .i64 m := by simpa using hm
    exact ⟨m, rfl⟩
  have e1 := bulk_len (xs.map (·.1))
  rw [List.length_map, h5] at e1
  exact ⟨A', n', c', rs, h1, h2, h4, by omega⟩
set_option maxRecDepth 100000 in
theorem open_ints2 {t : TypeId} {v : Value} {d : DataW H} {pl : List MemPlace} (ht : Tryz.prog.underlying t = some (.slice 3)) (hval : Value.okWide Tryz.prog w r b0 t v) (h : DataW.Trod enc Tryz.prog w base sp held t v d pl) :
    ∃ (A : Option Addr) (n c : Nat) (rs : List Int), v = .slice A n c ∧ n ≤ c ∧ c ≤ maxLen ∧ Rd w A n (rs.map intV) ∧ n + 1 ≤ uptoBulk d := by
  obtain ⟨A, n, c, rfl⟩ := okWide_slice ht hval
  obtain ⟨f, hf⟩ := h
  obtain ⟨A', n', c', vs, xs, h1, h2, h3, h4, h5, h6, h7⟩ := trod_row ht cellsI hf
  have h7' : uptoBulkAll (xs.map (·.1)) + 1 ≤ uptoBulk d := h7
  have hl : ∀ l : List Value, (∀ (j : Nat) u, l[j]? = some u → ∃ x : Int, u = intV x) → ∃ rs : List Int, l = rs.map intV := by
    intro l
    induction l with
    | nil => exact fun _ => ⟨[], rfl⟩
    | cons u l ih =>
      intro hl
      obtain ⟨b, rfl⟩ := hl 0 u rfl
      obtain ⟨rs, rfl⟩ := ih fun j v hv => hl (j + 1) v (by simpa using hv)
      exact ⟨b :: rs, rfl⟩
  obtain ⟨rs, rfl⟩ := hl vs fun j u hu => by
    obtain ⟨y, f, _, hy⟩ := h6 j u hu
    obtain ⟨m, hm, rfl, hw⟩ := DataW.trod_int Tryz.underlying3 hy
    obtain rfl : u = .int .i64 m := by simpa using hm
    exact ⟨m, rfl⟩
  have e1 := bulk_len (xs.map (·.1))
  rw [List.length_map, h5] at e1
  exact ⟨A', n', c', rs, h1, h2, h3, h4, by omega⟩
end
end Go.Proofs.YtkibgdigcgakfabGreat
