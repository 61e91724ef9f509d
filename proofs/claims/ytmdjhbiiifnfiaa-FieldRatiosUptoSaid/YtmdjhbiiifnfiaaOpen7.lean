/-
  Arguments that came in: lists of pairs of elements.
-/
import Derived.Test.YtmdjhbiiifnfiaaOpen6
import Derived.Test.YtmdjhbiiifnfiaaFLaw7
namespace Go.Proofs.Ytmdjhbiiifnfiaa
open Go.ChangeShapes Go.WideShapes Go.ChangeAt Go.RowKit
open _root_.Go.Proofs.Ytmdjhbiiifnfiaa.Rows (uptoBulk uptoBulkAll uptoSmall)
section
variable {H : Type} {enc : TypeId × Value → H} {w : World} {base : Nat} {sp : Nat → Bool} {held : Bool}
theorem trod_four2 {fuel : Nat} {cs : List Value} {x : DataW H × List MemPlace} (h : DataW.trod enc Try.prog w base sp held fuel 51 cs = some x) (hl : cs.length = 8) : ∃ n m, n < T256 ∧ m < T256 ∧ cs = RL n m := by
  cases fuel with
  | zero => simp [DataW.trod] at h
  | succ m =>
    rw [DataW.trod_step] at h
    unfold DataW.trodStep at h
    have hn : Try.prog.cellsOf 51 = 8 := by kernel_rfl
    have hf : Try.prog.cellsOf 24 = 4 := by kernel_rfl
    simp only [Try.underlying51] at h
    rw [if_pos (by rw [hn]; exact hl)] at h
    simp only [Option.map_eq_some_iff] at h
    obtain ⟨ys, hy, e1⟩ := h
    rw [hf] at hy
    simp only [List.range_succ, List.range_zero, List.nil_append, List.cons_append, List.mapM_cons, List.mapM_nil, Nat.zero_mul, Nat.one_mul, List.drop_zero, bind, pure, Option.bind_eq_some_iff] at hy
    obtain ⟨y1, h1, _, ⟨y2, h2, _⟩, _⟩ := hy
    obtain ⟨n1, hn1, e3⟩ := trod_four h1 (by simp; omega)
    obtain ⟨n2, hn2, e4⟩ := trod_four h2 (by simp; omega)
    refine ⟨n1, n2, hn1, hn2, ?_⟩
    rw [RL, ← e3, ← e4, List.take_of_length_le (l := cs.drop 4) (by simp; omega), List.take_append_drop]
theorem trod_four2s {fuel : Nat} {v : Value} {x : DataW H × List MemPlace} (h : DataW.trod enc Try.prog w base sp held fuel 46 [v] = some x) :
    ∃ A n c us vs, v = .slice A n c ∧ n ≤ c ∧ c ≤ maxLen ∧ RdR w A n us vs ∧ (∀ y ∈ us, y < T256) ∧ (∀ y ∈ vs, y < T256) ∧ n + 1 ≤ uptoBulk x.1 := by
  rcases DataW.trod_slice Try.underlying46 h with ⟨hcs, rfl⟩ | ⟨a, len, cap, elems, rest, n, rfl, hcs, rfl, hb, hl, hm, hlen, hel, hsp, hns⟩
  · obtain rfl : v = .slice none 0 0 := by simpa using hcs
    exact ⟨none, 0, 0, [], [], rfl, Nat.le_refl _, Nat.zero_le _, rdR_none w, by simp, by simp, by simp [uptoBulk]⟩
  · obtain rfl : v = .slice (some a) len cap := by simpa using hcs
    have hc : Try.prog.cellsOf 51 = 8 := by kernel_rfl
    have each : ∀ i, ∃ m : Nat × Nat, i < len → m.1 < T256 ∧ m.2 < T256 ∧ w.cells? base (a.add (i * 8)) 8 = some (RL m.1 m.2) := by
      intro i
      by_cases hi : i < len
      · have hE := hel i hi
        rw [hc] at hE
        have hy : elems[i]? = some (elems[i]'(by omega)) := List.getElem?_eq_getElem _
        rw [hy, Option.bind_eq_some_iff] at hE
        obtain ⟨c1, hc1, hy1⟩ := hE
        obtain ⟨m1, m2, h1, h2, rfl⟩ := trod_four2 hy1 (cells_get hc1).1
        exact ⟨(m1, m2), fun _ => ⟨h1, h2, hc1⟩⟩
      · exact ⟨(0, 0), fun h => absurd h hi⟩
    obtain ⟨f, hf⟩ := Classical.axiomOfChoice each
    have hfl : ∀ (g : Nat × Nat → Nat) j, j < len → ((List.range len).map fun j => g (f j)).getD j 0 = g (f j) := by
      intro g j hj
      rw [List.getD_eq_getElem?_getD, List.getElem?_map, List.getElem?_range hj]
      rfl
    refine ⟨some a, len, cap, (List.range len).map fun j => (f j).1, (List.range len).map fun j => (f j).2, rfl, hl, hm, ⟨by simp, by simp, fun h0 => ?_⟩, fun y hy => ?_, fun y hy => ?_, ?_⟩
    · have e0 : a.add (0 * 8) = a := by simp [Addr.add]
      have h00 := (cells_get (hf 0 h0).2.2).2 0 (by omega)
      rw [e0] at h00
      have e1 : a.add 0 = a := by simp [Addr.add]
      rw [e1, RL, List.getElem?_append_left (by rw [EL_length]; omega), EL_get _ 0 (by omega)] at h00
      obtain ⟨h1, h2⟩ := cell_spot h00
      obtain ⟨b, o, s⟩ := a
      simp only at h1
      subst h1
      refine ⟨b, o, rfl, h2, fun j i v hj hv => ?_⟩
      rw [hfl Prod.fst j hj, hfl Prod.snd j hj] at hv
      have hi : i < 8 := by
        have := (List.getElem?_eq_some_iff.1 hv).1
        rwa [RL_length] at this
      have := (cells_get (hf j hj).2.2).2 i hi
      rw [add_at, add_at] at this
      rw [this]
      exact hv
    · obtain ⟨j, hj, rfl⟩ := List.mem_map.1 hy
      exact (hf j (List.mem_range.1 hj)).1
    · obtain ⟨j, hj, rfl⟩ := List.mem_map.1 hy
      exact (hf j (List.mem_range.1 hj)).2.1
    · have e2 := bulk_len (elems.map (·.1))
      rw [List.length_map, hlen] at e2
      simp only [uptoBulk]
      omega
set_option maxRecDepth 100000 in
theorem open_four2s {b0 : Nat} {r : Reach} {v : Value} {d : DataW H} {ps : List MemPlace} (ht : Try.prog.underlying 46 = some (.slice 51)) (hval : Value.okWide Try.prog w r b0 46 v) (h : DataW.Trod enc Try.prog w base sp held 46 v d ps) :
    ∃ A n c us vs, v = .slice A n c ∧ n ≤ c ∧ RdR w A n us vs ∧ (∀ y ∈ us, y < T256) ∧ (∀ y ∈ vs, y < T256) ∧ n + 1 ≤ uptoBulk d := by
  obtain ⟨A, n, c, rfl⟩ := okWide_slice ht hval
  obtain ⟨f, hf⟩ := h
  obtain ⟨A', n', c', us, vs, h1, h2, _, h3, h4, h5, h6⟩ := trod_four2s hf
  exact ⟨A', n', c', us, vs, h1, h2, h3, h4, h5, h6⟩
end
end Go.Proofs.Ytmdjhbiiifnfiaa
