/-
  Arguments that came in: lists of elements.
-/
import Derived.Test.YtmdjhbiiifnfiaaOpen2
import Derived.Test.YtmdjhbiiifnfiaaOpen5
import Derived.Test.YtmdjhbiiifnfiaaAppend
namespace Go.Proofs.Ytmdjhbiiifnfiaa
open Go.ChangeShapes Go.WideShapes Go.ChangeAt Go.RowKit
open _root_.Go.Proofs.Ytmdjhbiiifnfiaa.Rows (uptoBulk uptoBulkAll uptoSmall)
theorem mapM_at {α β : Type} (f : α → Option β) : ∀ (l : List α) (ys : List β), l.mapM f = some ys → ys.length = l.length ∧ ∀ (i : Nat) x, l[i]? = some x → f x = ys[i]?
  | [], ys, h => by
    simp only [List.mapM_nil, pure, Option.some.injEq] at h
    subst h
    exact ⟨rfl, fun i x hx => by simp at hx⟩
  | a :: l, ys, h => by
    rw [List.mapM_cons] at h
    simp only [bind, Option.bind_eq_some_iff, pure, Option.some.injEq] at h
    obtain ⟨y, hy, ys', h', rfl⟩ := h
    obtain ⟨h1, h2⟩ := mapM_at f l ys' h'
    refine ⟨by simp [h1], fun i x hx => ?_⟩
    cases i with
    | zero =>
      obtain rfl : a = x := by simpa using hx
      simpa using hy
    | succ i => simpa using h2 i x (by simpa using hx)
theorem cells_get {w : World} {base k : Nat} {a : Addr} {cs : List Value} (h : w.cells? base a k = some cs) : cs.length = k ∧ ∀ i, i < k → w.cell? (a.add i) = cs[i]? := by
  unfold World.cells? at h
  split at h
  · obtain ⟨h1, h2⟩ := mapM_at _ _ _ h
    exact ⟨by simpa using h1, fun i hi => h2 i i (by rw [List.getElem?_range hi])⟩
  · cases h
section
variable {H : Type} {enc : TypeId × Value → H} {w : World} {base : Nat} {sp : Nat → Bool} {held : Bool}
theorem trod_four {fuel : Nat} {cs : List Value} {x : DataW H × List MemPlace} (h : DataW.trod enc Try.prog w base sp held fuel 24 cs = some x) (hl : cs.length = 4) : ∃ n, n < T256 ∧ cs = EL n := by
  cases fuel with
  | zero => simp [DataW.trod] at h
  | succ m =>
    rw [DataW.trod_step] at h
    unfold DataW.trodStep at h
    have hn : Try.prog.cellsOf 24 = 4 := by kernel_rfl
    simp only [Try.underlying24] at h
    rw [if_pos (by rw [hn]; exact hl)] at h
    simp only [Option.map_eq_some_iff] at h
    obtain ⟨ys, hy, e1⟩ := h
    have h1 : Try.prog.cellsOf 22 = 1 := by kernel_rfl
    rw [h1, List.range_eq_range'] at hy
    obtain ⟨zs, hz, hw⟩ := mapM_ints Try.underlying22 cs 4 0 ys (by simp [hl]) hy
    rw [List.drop_zero] at hz
    have hzl : zs.length = 4 := by
      have := congrArg List.length hz
      simp at this
      omega
    have e : cs = (zs.map fun z => UInt64.ofNat z.toNat).map W64 := by
      rw [hz, List.map_map]
      refine List.map_congr_left fun z hz => ?_
      have := hw z hz
      have hr : 0 ≤ z ∧ z ≤ 18446744073709551615 := by simpa [Lit.wf, IntKind.min, IntKind.max, IntKind.signed, IntKind.bits] using this
      exact lit_w64 z hr.1 (by omega)
    obtain ⟨n, hn2, he⟩ := four_E (zs.map fun z => UInt64.ofNat z.toNat) (by simp [hzl])
    exact ⟨n, hn2, by rw [e, he]⟩
theorem trod_fours {fuel : Nat} {v : Value} {x : DataW H × List MemPlace} (h : DataW.trod enc Try.prog w base sp held fuel 55 [v] = some x) :
    ∃ A n c ns, v = .slice A n c ∧ n ≤ c ∧ c ≤ maxLen ∧ RdE w A n ns ∧ (∀ y ∈ ns, y < T256) ∧ n + 1 ≤ uptoBulk x.1 := by
  rcases DataW.trod_slice Try.underlying55 h with ⟨hcs, rfl⟩ | ⟨a, len, cap, elems, rest, n, rfl, hcs, rfl, hb, hl, hm, hlen, hel, hsp, hns⟩
  · obtain rfl : v = .slice none 0 0 := by simpa using hcs
    exact ⟨none, 0, 0, [], rfl, Nat.le_refl _, Nat.zero_le _, rdE_none w, by simp, by simp [uptoBulk]⟩
  · obtain rfl : v = .slice (some a) len cap := by simpa using hcs
    have hc : Try.prog.cellsOf 24 = 4 := by kernel_rfl
    have each : ∀ i, ∃ m, i < len → m < T256 ∧ w.cells? base (a.add (i * 4)) 4 = some (EL m) := by
      intro i
      by_cases hi : i < len
      · have hE := hel i hi
        rw [hc] at hE
        have hy : elems[i]? = some (elems[i]'(by omega)) := List.getElem?_eq_getElem _
        rw [hy, Option.bind_eq_some_iff] at hE
        obtain ⟨c1, hc1, hy1⟩ := hE
        obtain ⟨m, hm1, rfl⟩ := trod_four hy1 (cells_get hc1).1
        exact ⟨m, fun _ => ⟨hm1, hc1⟩⟩
      · exact ⟨0, fun h => absurd h hi⟩
    obtain ⟨f, hf⟩ := Classical.axiomOfChoice each
    have hfl : ∀ j, j < len → ((List.range len).map f).getD j 0 = f j := by
      intro j hj
      rw [List.getD_eq_getElem?_getD, List.getElem?_map, List.getElem?_range hj]
      rfl
    refine ⟨some a, len, cap, (List.range len).map f, rfl, hl, hm, ⟨by simp, fun h0 => ?_⟩, fun y hy => ?_, ?_⟩
    · have e0 : a.add (0 * 4) = a := by simp [Addr.add]
      have h00 := (cells_get (hf 0 h0).2).2 0 (by omega)
      rw [e0] at h00
      have e1 : a.add 0 = a := by simp [Addr.add]
      rw [e1, EL_get _ 0 (by omega)] at h00
      obtain ⟨h1, h2⟩ := cell_spot h00
      obtain ⟨b, o, s⟩ := a
      simp only at h1
      subst h1
      refine ⟨b, o, rfl, h2, fun j i v hj hv => ?_⟩
      rw [hfl j hj] at hv
      have hi : i < 4 := by
        have := (List.getElem?_eq_some_iff.1 hv).1
        rwa [EL_length] at this
      have := (cells_get (hf j hj).2).2 i hi
      rw [add_at, add_at] at this
      rw [this]
      exact hv
    · obtain ⟨j, hj, rfl⟩ := List.mem_map.1 hy
      exact (hf j (List.mem_range.1 hj)).1
    · have e2 := bulk_len (elems.map (·.1))
      rw [List.length_map, hlen] at e2
      simp only [uptoBulk]
      omega
set_option maxRecDepth 100000 in
theorem open_fours {b0 : Nat} {r : Reach} {v : Value} {d : DataW H} {ps : List MemPlace} (ht : Try.prog.underlying 55 = some (.slice 24)) (hval : Value.okWide Try.prog w r b0 55 v) (h : DataW.Trod enc Try.prog w base sp held 55 v d ps) :
    ∃ A n c ns, v = .slice A n c ∧ n ≤ c ∧ RdE w A n ns ∧ (∀ y ∈ ns, y < T256) ∧ n + 1 ≤ uptoBulk d := by
  obtain ⟨A, n, c, rfl⟩ := okWide_slice ht hval
  obtain ⟨f, hf⟩ := h
  obtain ⟨A', n', c', ns, h1, h2, _, h3, h4, h5⟩ := trod_fours hf
  exact ⟨A', n', c', ns, h1, h2, h3, h4, h5⟩
end
end Go.Proofs.Ytmdjhbiiifnfiaa
