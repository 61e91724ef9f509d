/-
  Arguments that came in: lists of nodes.
-/
import Derived.Test.YtkibgdigcgakfaaOpen3
import Derived.Test.YtkibgdigcgakfaaDirX
import Derived.OpenShut
namespace Go.Proofs.Ytkibgdigcgakfaa
open Go.ChangeShapes Go.WideShapes Go.ChangeAt Go.RowKit
open _root_.Go.Proofs.Ytkibgdigcgakfaa.Rows (uptoBulk uptoBulkAll uptoSmall)
theorem mapM_at9 {α β : Type} (f : α → Option β) : ∀ (l : List α) (ys : List β), l.mapM f = some ys → ys.length = l.length ∧ ∀ (i : Nat) x, l[i]? = some x → f x = ys[i]?
  | [], ys, h => by
    simp only [List.mapM_nil, pure, Option.some.injEq] at h
    subst h
    exact ⟨rfl, fun i x hx => by simp at hx⟩
  | a :: l, ys, h => by
    rw [List.mapM_cons] at h
    simp only [bind, Option.bind_eq_some_iff, pure, Option.some.injEq] at h
    obtain ⟨y, hy, ys', h', rfl⟩ := h
    obtain ⟨h1, h2⟩ := mapM_at9 f l ys' h'
    refine ⟨by simp [h1], fun i x hx => ?_⟩
    cases i with
    | zero =>
      obtain rfl : a = x := by simpa using hx
      simpa using hy
    | succ i => simpa using h2 i x (by simpa using hx)
theorem cells_get9 {w : World} {base k : Nat} {a : Addr} {cs : List Value} (h : w.cells? base a k = some cs) : cs.length = k ∧ ∀ i, i < k → w.cell? (a.add i) = cs[i]? := by
  unfold World.cells? at h
  split at h
  · obtain ⟨h1, h2⟩ := mapM_at9 _ _ _ h
    exact ⟨by simpa using h1, fun i hi => h2 i i (by rw [List.getElem?_range hi])⟩
  · cases h
theorem drop_take1 {l : List Value} {i : Nat} {v : Value} (h : (l.drop i).take 1 = [v]) : l[i]? = some v := by
  have := congrArg (·[0]?) h
  simpa [List.getElem?_take, List.getElem?_drop] using this
section
variable {H : Type} {enc : TypeId × Value → H} {w : World} {base : Nat} {sp : Nat → Bool} {held : Bool}
theorem trod_y32 {fuel : Nat} {cs : List Value} {x : DataW H × List MemPlace} (h : DataW.trod enc Try.prog w base sp held fuel 48 cs = some x) : ∃ K : Y32, cs = K.val.map W8 := by
  obtain ⟨xs, m, rfl, rfl, hl, hxl, he⟩ := DataW.trod_array Try.underlying48 h
  have hn : Try.prog.cellsOf 48 = 32 := by kernel_rfl
  have h1 : Try.prog.cellsOf 5 = 1 := by kernel_rfl
  rw [hn] at hl
  rw [h1] at he
  have each : ∀ i, ∃ b : UInt8, i < 32 → cs[i]? = some (W8 b) := by
    intro i
    by_cases hi : i < 32
    · have := he i hi
      rw [List.getElem?_eq_getElem (by omega), Nat.mul_one] at this
      obtain ⟨z, hz, _, hw⟩ := DataW.trod_int Try.underlying5 this
      have hr : 0 ≤ z ∧ z ≤ 255 := by simpa [Lit.wf, IntKind.min, IntKind.max, IntKind.signed, IntKind.bits] using hw
      exact ⟨_, fun _ => by rw [drop_take1 hz, lit_w8 z hr.1 (by omega)]⟩
    · exact ⟨0, fun h => absurd h hi⟩
  obtain ⟨f, hf⟩ := Classical.axiomOfChoice each
  refine ⟨⟨(List.range 32).map f, by simp⟩, ?_⟩
  apply List.ext_getElem?
  intro i
  rcases Nat.lt_or_ge i 32 with hi | hi
  · rw [hf i hi, List.getElem?_map, List.getElem?_map, List.getElem?_range hi]
    rfl
  · rw [List.getElem?_eq_none (by omega), List.getElem?_eq_none (by simp; omega)]
set_option maxRecDepth 100000 in
theorem trod_nod {fuel : Nat} {cs : List Value} {x : DataW H × List MemPlace} (h : DataW.trod enc Try.prog w base sp held fuel 50 cs = some x) : ∃ y : Nod, cs = NC y ∧ y.nm.size ≤ uptoBulk x.1 := by
  obtain ⟨xs, m, rfl, rfl, hl, hxl, he⟩ := DataW.trod_struct Try.underlying50 h
  have hn : Try.prog.cellsOf 50 = 66 := by kernel_rfl
  have hS : Try.prog.cellsOf 9 = 1 := by kernel_rfl
  have hU : Try.prog.cellsOf 22 = 1 := by kernel_rfl
  have hB : Try.prog.cellsOf 48 = 32 := by kernel_rfl
  rw [hn] at hl
  have hxl4 : xs.length = 4 := hxl
  have e0 : DataW.trod enc Try.prog w base sp held m 9 ((cs.drop 0).take (Try.prog.cellsOf 9)) = xs[0]? := he 0 _ rfl
  have e1 : DataW.trod enc Try.prog w base sp held m 22 ((cs.drop 1).take (Try.prog.cellsOf 22)) = xs[1]? := he 1 _ rfl
  have e2 : DataW.trod enc Try.prog w base sp held m 48 ((cs.drop 2).take (Try.prog.cellsOf 48)) = xs[2]? := he 2 _ rfl
  have e3 : DataW.trod enc Try.prog w base sp held m 48 ((cs.drop 34).take (Try.prog.cellsOf 48)) = xs[3]? := he 3 _ rfl
  rw [hS, List.getElem?_eq_getElem (by omega)] at e0
  rw [hU, List.getElem?_eq_getElem (by omega)] at e1
  rw [hB, List.getElem?_eq_getElem (by omega)] at e2 e3
  obtain ⟨s, hs, hx0, _⟩ := DataW.trod_string Try.underlying9 e0
  obtain ⟨z, hz, _, hw⟩ := DataW.trod_int Try.underlying22 e1
  obtain ⟨K, hK⟩ := trod_y32 e2
  obtain ⟨P, hP⟩ := trod_y32 e3
  have hr : 0 ≤ z ∧ z ≤ 18446744073709551615 := by simpa [Lit.wf, IntKind.min, IntKind.max, IntKind.signed, IntKind.bits] using hw
  have c0 := drop_take1 hs
  have c1 := drop_take1 hz
  rw [lit_w64 z hr.1 (by omega)] at c1
  refine ⟨⟨s, UInt64.ofNat z.toNat, K, P⟩, ?_, ?_⟩
  · match cs, hl, c0, c1, hK, hP with
    | a :: b :: r, hl, c0, c1, hK, hP =>
      have hrl : r.length = 64 := by simpa using hl
      rw [List.drop_succ_cons, List.drop_succ_cons, List.drop_zero] at hK
      rw [show (34 : Nat) = 32 + 1 + 1 from rfl, List.drop_succ_cons, List.drop_succ_cons, List.take_of_length_le (by simp; omega)] at hP
      obtain rfl : a = .string s := by simpa using c0
      obtain rfl : b = W64 (UInt64.ofNat z.toNat) := by simpa using c1
      rw [NC, ← hK, ← hP, List.take_append_drop]
  · have hb : xs[0].1 = .lit (.string s.data.toList) := by rw [hx0]
    have := bulk_mem (d := xs[0].1) (l := xs.map (·.1)) (List.mem_map.2 ⟨_, List.getElem_mem _, rfl⟩)
    rw [hb] at this
    simp only [uptoBulk] at this ⊢
    have hsz : s.data.toList.length = s.size := by simp
    show s.size ≤ _
    omega
theorem trod_nods {fuel : Nat} {v : Value} {x : DataW H × List MemPlace} (h : DataW.trod enc Try.prog w base sp held fuel 35 [v] = some x) :
    ∃ A n c xs, v = .slice A n c ∧ n ≤ c ∧ RdN w A n xs ∧ n + 1 ≤ uptoBulk x.1 ∧ ∀ y ∈ xs, y.nm.size ≤ uptoBulk x.1 := by
  rcases DataW.trod_slice Try.underlying35 h with ⟨hcs, rfl⟩ | ⟨a, len, cap, elems, rest, n, rfl, hcs, rfl, hb, hl, hm, hlen, hel, hsp, hns⟩
  · obtain rfl : v = .slice none 0 0 := by simpa using hcs
    exact ⟨none, 0, 0, [], rfl, Nat.le_refl _, rdF_none w, by simp [uptoBulk], by simp⟩
  · obtain rfl : v = .slice (some a) len cap := by simpa using hcs
    have hc : Try.prog.cellsOf 50 = 66 := by kernel_rfl
    have each : ∀ i, ∃ y : Nod, i < len → (w.cells? base (a.add (i * 66)) 66 = some (NC y) ∧ y.nm.size ≤ uptoBulkAll (elems.map (·.1))) := by
      intro i
      by_cases hi : i < len
      · have hE := hel i hi
        rw [hc] at hE
        have hy : elems[i]? = some (elems[i]'(by omega)) := List.getElem?_eq_getElem _
        rw [hy, Option.bind_eq_some_iff] at hE
        obtain ⟨c1, hc1, hy1⟩ := hE
        obtain ⟨y, rfl, hsz⟩ := trod_nod hy1
        exact ⟨y, fun _ => ⟨hc1, Nat.le_trans hsz (bulk_mem (List.mem_map.2 ⟨_, List.getElem_mem _, rfl⟩))⟩⟩
      · exact ⟨nod0, fun h => absurd h hi⟩
    obtain ⟨f, hf⟩ := Classical.axiomOfChoice each
    have hfl : ∀ j, j < len → ((List.range len).map f).getD j nod0 = f j := by
      intro j hj
      rw [List.getD_eq_getElem?_getD, List.getElem?_map, List.getElem?_range hj]
      rfl
    have e2 := bulk_len (elems.map (·.1))
    rw [List.length_map, hlen] at e2
    refine ⟨some a, len, cap, (List.range len).map f, rfl, hl, ⟨by simp, fun h0 => ?_⟩, ?_, fun y hy => ?_⟩
    · have e0 : a.add (0 * 66) = a := by simp [Addr.add]
      have h00 := (cells_get9 (hf 0 h0).1).2 0 (by omega)
      rw [e0] at h00
      have e1 : a.add 0 = a := by simp [Addr.add]
      rw [e1, NC, List.getElem?_cons_zero] at h00
      obtain ⟨h1, h2⟩ := cell_spot h00
      obtain ⟨b, o, s⟩ := a
      simp only at h1
      subst h1
      refine ⟨b, o, rfl, h2, fun j i v hj hv => ?_⟩
      rw [hfl j hj] at hv
      have hi : i < 66 := by
        have := (List.getElem?_eq_some_iff.1 hv).1
        rwa [NC_length] at this
      have := (cells_get9 (hf j hj).1).2 i hi
      rw [add_at, add_at] at this
      rw [this]
      exact hv
    · simp only [uptoBulk]
      omega
    · obtain ⟨j, hj, rfl⟩ := List.mem_map.1 hy
      have := (hf j (List.mem_range.1 hj)).2
      simp only [uptoBulk]
      omega
set_option maxRecDepth 100000 in
theorem open_nods {b0 : Nat} {r : Reach} {v : Value} {d : DataW H} {ps : List MemPlace} (ht : Try.prog.underlying 35 = some (.slice 50)) (hval : Value.okWide Try.prog w r b0 35 v) (h : DataW.Trod enc Try.prog w base sp held 35 v d ps) :
    ∃ A n c xs, v = .slice A n c ∧ n ≤ c ∧ RdN w A n xs ∧ n + 1 ≤ uptoBulk d ∧ ∀ y ∈ xs, y.nm.size ≤ uptoBulk d := by
  obtain ⟨A, n, c, rfl⟩ := okWide_slice ht hval
  obtain ⟨f, hf⟩ := h
  obtain ⟨A', n', c', ns, h1, h2, h3, h4, h5⟩ := trod_nods hf
  exact ⟨A', n', c', ns, h1, h2, h3, h4, h5⟩
end
end Go.Proofs.Ytkibgdigcgakfaa
