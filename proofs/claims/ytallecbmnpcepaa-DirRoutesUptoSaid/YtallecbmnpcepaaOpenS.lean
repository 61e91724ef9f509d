/-
  Arguments that came in: lists of stops.
-/
import Derived.Test.YtallecbmnpcepaaOpen9
import Derived.Test.YtallecbmnpcepaaDirR
namespace Go.Proofs.Ytallecbmnpcepaa
open Go.ChangeShapes Go.WideShapes Go.ChangeAt Go.RowKit
open _root_.Go.Proofs.Ytallecbmnpcepaa.Rows (uptoBulk uptoBulkAll uptoSmall)
section
variable {H : Type} {enc : TypeId × Value → H} {w : World} {base : Nat} {sp : Nat → Bool} {held : Bool}
set_option maxRecDepth 100000 in
theorem trod_stp {fuel : Nat} {cs : List Value} {x : DataW H × List MemPlace} (h : DataW.trod enc Try.prog w base sp held fuel 62 cs = some x) : ∃ y : Stp, cs = SC y := by
  obtain ⟨xs, m, rfl, rfl, hl, hxl, he⟩ := DataW.trod_struct Try.underlying62 h
  have hn : Try.prog.cellsOf 62 = 3 := by kernel_rfl
  have hS : Try.prog.cellsOf 9 = 1 := by kernel_rfl
  have hI : Try.prog.cellsOf 3 = 1 := by kernel_rfl
  rw [hn] at hl
  have hxl3 : xs.length = 3 := hxl
  have e0 : DataW.trod enc Try.prog w base sp held m 9 ((cs.drop 0).take (Try.prog.cellsOf 9)) = xs[0]? := he 0 _ rfl
  have e1 : DataW.trod enc Try.prog w base sp held m 3 ((cs.drop 1).take (Try.prog.cellsOf 3)) = xs[1]? := he 1 _ rfl
  have e2 : DataW.trod enc Try.prog w base sp held m 3 ((cs.drop 2).take (Try.prog.cellsOf 3)) = xs[2]? := he 2 _ rfl
  rw [hS, List.getElem?_eq_getElem (by omega)] at e0
  rw [hI, List.getElem?_eq_getElem (by omega)] at e1 e2
  obtain ⟨s, hs, _, _⟩ := DataW.trod_string Try.underlying9 e0
  obtain ⟨y, hy, _, _⟩ := DataW.trod_int Try.underlying3 e1
  obtain ⟨z, hz, _, _⟩ := DataW.trod_int Try.underlying3 e2
  have c0 := drop_take1 hs
  have c1 := drop_take1 hy
  have c2 := drop_take1 hz
  refine ⟨⟨s, y, z⟩, ?_⟩
  match cs, hl, c0, c1, c2 with
  | [a, b, c], _, c0, c1, c2 =>
    obtain rfl : a = .string s := by simpa using c0
    obtain rfl : b = .int .i64 y := by simpa using c1
    obtain rfl : c = .int .i64 z := by simpa using c2
    rfl
theorem trod_stps {fuel : Nat} {v : Value} {x : DataW H × List MemPlace} (h : DataW.trod enc Try.prog w base sp held fuel 69 [v] = some x) :
    ∃ A n c xs, v = .slice A n c ∧ n ≤ c ∧ RdS w A n xs ∧ n + 1 ≤ uptoBulk x.1 := by
  rcases DataW.trod_slice Try.underlying69 h with ⟨hcs, rfl⟩ | ⟨a, len, cap, elems, rest, n, rfl, hcs, rfl, hb, hl, hm, hlen, hel, hsp, hns⟩
  · obtain rfl : v = .slice none 0 0 := by simpa using hcs
    exact ⟨none, 0, 0, [], rfl, Nat.le_refl _, rdF_none w, by simp [uptoBulk]⟩
  · obtain rfl : v = .slice (some a) len cap := by simpa using hcs
    have hc : Try.prog.cellsOf 62 = 3 := by kernel_rfl
    have each : ∀ i, ∃ y : Stp, i < len → w.cells? base (a.add (i * 3)) 3 = some (SC y) := by
      intro i
      by_cases hi : i < len
      · have hE := hel i hi
        rw [hc] at hE
        have hy : elems[i]? = some (elems[i]'(by omega)) := List.getElem?_eq_getElem _
        rw [hy, Option.bind_eq_some_iff] at hE
        obtain ⟨c1, hc1, hy1⟩ := hE
        obtain ⟨y, rfl⟩ := trod_stp hy1
        exact ⟨y, fun _ => hc1⟩
      · exact ⟨stp0, fun h => absurd h hi⟩
    obtain ⟨f, hf⟩ := Classical.axiomOfChoice each
    have hfl : ∀ j, j < len → ((List.range len).map f).getD j stp0 = f j := by
      intro j hj
      rw [List.getD_eq_getElem?_getD, List.getElem?_map, List.getElem?_range hj]
      rfl
    have e2 := bulk_len (elems.map (·.1))
    rw [List.length_map, hlen] at e2
    refine ⟨some a, len, cap, (List.range len).map f, rfl, hl, ⟨by simp, fun h0 => ?_⟩, ?_⟩
    · have e0 : a.add (0 * 3) = a := by simp [Addr.add]
      have h00 := (cells_get9 (hf 0 h0)).2 0 (by omega)
      rw [e0] at h00
      have e1 : a.add 0 = a := by simp [Addr.add]
      rw [e1, SC, List.getElem?_cons_zero] at h00
      obtain ⟨h1, h2⟩ := cell_spot h00
      obtain ⟨b, o, s⟩ := a
      simp only at h1
      subst h1
      refine ⟨b, o, rfl, h2, fun j i v hj hv => ?_⟩
      rw [hfl j hj] at hv
      have hi : i < 3 := by
        have := (List.getElem?_eq_some_iff.1 hv).1
        rwa [SC_length] at this
      have := (cells_get9 (hf j hj)).2 i hi
      rw [add_at, add_at] at this
      rw [this]
      exact hv
    · simp only [uptoBulk]
      omega
set_option maxRecDepth 100000 in
theorem open_stops {b0 : Nat} {r : Reach} {v : Value} {d : DataW H} {ps : List MemPlace} (ht : Try.prog.underlying 69 = some (.slice 62)) (hval : Value.okWide Try.prog w r b0 69 v) (h : DataW.Trod enc Try.prog w base sp held 69 v d ps) :
    ∃ A n c xs, v = .slice A n c ∧ n ≤ c ∧ RdS w A n xs ∧ n + 1 ≤ uptoBulk d := by
  obtain ⟨A, n, c, rfl⟩ := okWide_slice ht hval
  obtain ⟨f, hf⟩ := h
  obtain ⟨A', n', c', ns, h1, h2, h3, h4⟩ := trod_stps hf
  exact ⟨A', n', c', ns, h1, h2, h3, h4⟩
end
end Go.Proofs.Ytallecbmnpcepaa
