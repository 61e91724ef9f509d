/-
  Arguments that came in: slices of strings.
-/
import Derived.Test.YtkibgdigcgakfaaOpen2
import Derived.Test.YtkibgdigcgakfaaMacP
namespace Go.Proofs.Ytkibgdigcgakfaa
open Go.ChangeShapes Go.WideShapes Go.ChangeAt Go.RowKit
open _root_.Go.Proofs.Ytkibgdigcgakfaa.Rows (uptoBulk uptoBulkAll uptoSmall)

theorem cellsS : Try.prog.cellsOf 9 = 1 := by kernel_rfl
section
variable {H : Type} {enc : TypeId × Value → H} {P : Program} {w : World} {base b0 : Nat} {sp : Nat → Bool} {held : Bool} {r : Reach}
set_option maxRecDepth 100000 in
theorem open_strs {t : TypeId} {v : Value} {d : DataW H} {pl : List MemPlace} (ht : Try.prog.underlying t = some (.slice 9)) (hval : Value.okWide Try.prog w r b0 t v) (h : DataW.Trod enc Try.prog w base sp held t v d pl) :
    ∃ A n c ss, v = .slice A n c ∧ n ≤ c ∧ Strs w A n ss ∧ n + 1 ≤ uptoBulk d ∧ ∀ s ∈ ss, s.size + 1 ≤ uptoBulk d := by
  obtain ⟨A, n, c, rfl⟩ := okWide_slice ht hval
  obtain ⟨f, hf⟩ := h
  obtain ⟨A', n', c', vs, xs, h1, h2, h3, h4, h5, h6, h7⟩ := trod_row ht cellsS hf
  have h7' : uptoBulkAll (xs.map (·.1)) + 1 ≤ uptoBulk d := h7
  have hl : ∀ (l : List Value) (ys : List (DataW H × List MemPlace)), (∀ (j : Nat) u, l[j]? = some u → ∃ y f, ys[j]? = some y ∧ DataW.trod enc Try.prog w base sp held f 9 [u] = some y) →
      ∃ ss : List ByteArray, l = ss.map Value.string ∧ ∀ s ∈ ss, s.size + 1 ≤ uptoBulkAll (ys.map (·.1)) := by
    intro l
    induction l with
    | nil => exact fun ys _ => ⟨[], rfl, fun s hs => by cases hs⟩
    | cons u l ih =>
      intro ys hl
      obtain ⟨y, f, hy, ht⟩ := hl 0 u rfl
      cases ys with
      | nil => simp at hy
      | cons y' ys =>
        obtain rfl : y' = y := by simpa using hy
        obtain ⟨s, hu, hx', _⟩ := DataW.trod_string Try.underlying9 ht
        obtain rfl : u = .string s := by simpa using hu
        have hx : y'.1 = .lit (.string s.data.toList) := by rw [hx']
        obtain ⟨ss, rfl, hle⟩ := ih ys fun j v hv => by
          obtain ⟨y, f, hy, ht⟩ := hl (j + 1) v (by simpa using hv)
          exact ⟨y, f, by simpa using hy, ht⟩
        refine ⟨s :: ss, rfl, fun q hq => ?_⟩
        simp only [List.map_cons, uptoBulkAll, hx, uptoBulk]
        have hsz : s.data.toList.length = s.size := by simp
        rcases List.mem_cons.1 hq with rfl | hq
        · omega
        · have := hle q hq
          omega
  obtain ⟨ss, rfl, hle⟩ := hl vs xs h6
  have e1 := bulk_len (xs.map (·.1))
  rw [List.length_map, h5] at e1
  exact ⟨A', n', c', ss, h1, h2, h4, by omega, fun s hs => by have := hle s hs; omega⟩
end
end Go.Proofs.Ytkibgdigcgakfaa
