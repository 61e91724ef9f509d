/-
  Arguments that came in: slices of bytes, slices of such slices; what the bound gives.
-/
import Derived.Test.YtkibgdigcgakfabGreatRows
import Derived.Test.YtkibgdigcgakfabGreatOpen
import Derived.Test.YtkibgdigcgakfabGreatMemP
import Derived.LaidMore
import Derived.JoinedCond
namespace Go.Proofs.YtkibgdigcgakfabGreat
open Go.ChangeShapes Go.WideShapes Go.ChangeAt Go.RowKit
open _root_.Go.Proofs.YtkibgdigcgakfabGreat.Rows (uptoBulk uptoBulkAll uptoSmall)

theorem bulk_one {H : Type} (d : DataW H) : 1 ≤ uptoBulk d := by
  cases d with
  | lit l => cases l <;> simp [uptoBulk]
  | _ => simp [uptoBulk]
theorem bulk_mem {H : Type} {d : DataW H} {l : List (DataW H)} (h : d ∈ l) : uptoBulk d ≤ uptoBulkAll l := by
  induction l with
  | nil => cases h
  | cons x r ih =>
    simp only [uptoBulkAll]
    cases List.mem_cons.1 h with
    | inl e => subst e; omega
    | inr e => have := ih e; omega
theorem bulk_len {H : Type} (l : List (DataW H)) : l.length ≤ uptoBulkAll l := by
  induction l with
  | nil => simp [uptoBulkAll]
  | cons x r ih => have := bulk_one x; simp only [uptoBulkAll, List.length_cons]; omega
theorem bulk_bound {H : Type} {l : List (DataW H)} (hk : uptoSmall H l = true) : uptoBulkAll l ≤ 1048576 := of_decide_eq_true hk

section
variable {H : Type} {enc : TypeId × Value → H} {P : Program} {w : World} {base : Nat} {sp : Nat → Bool} {held : Bool}
theorem cell_one {a : Addr} {c : List Value} (h : w.cells? base a 1 = some c) : ∃ u, c = [u] ∧ w.cell? a = some u := by
  have e0 : a.add 0 = a := by simp [Addr.add]
  unfold World.cells? at h
  split at h
  · simp only [List.range_succ, List.range_zero, List.nil_append, List.mapM_cons, List.mapM_nil, e0] at h
    cases hcc : w.cell? a with
    | none => simp [hcc] at h
    | some u => simp [hcc] at h; exact ⟨u, h.symm, rfl⟩
  · cases h
theorem cell_spot {a : Addr} {u : Value} (h : w.cell? a = some u) : a.spot = none ∧ a.block < w.heap.size := by
  unfold World.cell? at h
  split at h
  · rename_i c t fz hc
    refine ⟨?_, (Array.getElem?_eq_some_iff.1 hc).1⟩
    cases hs : a.spot with
    | none => rfl
    | some x => simp [hs] at h
  · cases h
/-- A slice of elements of one cell each. -/
theorem trod_row {t e : TypeId} {fuel : Nat} {v : Value} {x : DataW H × List MemPlace} (ht : P.underlying t = some (.slice e)) (hc : P.cellsOf e = 1) (h : DataW.trod enc P w base sp held fuel t [v] = some x) :
    ∃ A n c, ∃ (vs : List Value) (xs : List (DataW H × List MemPlace)), v = .slice A n c ∧ n ≤ c ∧ c ≤ maxLen ∧ Rd w A n vs ∧ xs.length = n ∧
      (∀ (j : Nat) u, vs[j]? = some u → ∃ y f, xs[j]? = some y ∧ DataW.trod enc P w base sp held f e [u] = some y) ∧ uptoBulkAll (xs.map (·.1)) + 1 ≤ uptoBulk x.1 := by
  rcases DataW.trod_slice ht h with ⟨hcs, rfl⟩ | ⟨a, len, cap, elems, rest, n, rfl, hcs, rfl, hb, hl, hm, hlen, hel, hsp, hns⟩
  · obtain rfl : v = .slice none 0 0 := by simpa using hcs
    exact ⟨none, 0, 0, [], [], rfl, Nat.le_refl _, Nat.zero_le _, ⟨rfl, fun h => absurd h (by omega)⟩, rfl, fun j u hu => by simp at hu, by simp [uptoBulk, uptoBulkAll]⟩
  · obtain rfl : v = .slice (some a) len cap := by simpa using hcs
    have each : ∀ i, i < len → ∃ u y, w.cell? (a.add i) = some u ∧ elems[i]? = some y ∧ DataW.trod enc P w base sp held n e [u] = some y := by
      intro i hi
      have hE := hel i hi
      rw [hc, Nat.mul_one] at hE
      have hy : elems[i]? = some (elems[i]'(by omega)) := List.getElem?_eq_getElem _
      rw [hy, Option.bind_eq_some_iff] at hE
      obtain ⟨c1, hc1, hy1⟩ := hE
      obtain ⟨u, rfl, hu⟩ := cell_one hc1
      exact ⟨u, _, hu, hy, hy1⟩
    refine ⟨some a, len, cap, (List.range len).map fun i => (w.cell? (a.add i)).getD undef, elems, rfl, hl, hm, ⟨by simp, fun h0 => ?_⟩, hlen, fun j u hu => ?_, ?_⟩
    · obtain ⟨u, y, hu, _, _⟩ := each 0 h0
      have e0 : a.add 0 = a := by simp [Addr.add]
      rw [e0] at hu
      obtain ⟨h1, h2⟩ := cell_spot hu
      obtain ⟨b, o, s⟩ := a
      simp only at h1
      subst h1
      refine ⟨b, o, rfl, h2, fun j v hv => ?_⟩
      rw [List.getElem?_map] at hv
      have hj : j < len := by
        rcases Nat.lt_or_ge j len with h | h
        · exact h
        · rw [List.getElem?_eq_none (by simpa using h)] at hv
          cases hv
      obtain ⟨u', y', hu', _, _⟩ := each j hj
      rw [List.getElem?_range hj] at hv
      simp only [Option.map_some, Option.some.injEq, hu', Option.getD_some] at hv
      rw [← add_at, hu', hv]
    · rw [List.getElem?_map] at hu
      have hj : j < len := by
        rcases Nat.lt_or_ge j len with h | h
        · exact h
        · rw [List.getElem?_eq_none (by simpa using h)] at hu
          cases hu
      obtain ⟨u', y', hu', hy', ht'⟩ := each j hj
      rw [List.getElem?_range hj] at hu
      simp only [Option.map_some, Option.some.injEq, hu', Option.getD_some] at hu
      exact ⟨y', n, hy', hu ▸ ht'⟩
    · simp only [uptoBulk]
      omega
theorem trod_bytes {t e : TypeId} {fuel : Nat} {v : Value} {x : DataW H × List MemPlace} (ht : P.underlying t = some (.slice e)) (he : P.underlying e = some (.int .u8)) (hc : P.cellsOf e = 1) (h : DataW.trod enc P w base sp held fuel t [v] = some x) :
    ∃ A n c bs, v = .slice A n c ∧ n ≤ c ∧ c ≤ maxLen ∧ RdB w A n bs ∧ bs.length + 1 ≤ uptoBulk x.1 := by
  obtain ⟨A, n, c, vs, xs, rfl, h1, h2, h3, h4, h5, h6⟩ := trod_row ht hc h
  have hb : ∀ (j : Nat) u, vs[j]? = some u → ∃ b : UInt8, u = W8 b := by
    intro j u hu
    obtain ⟨y, f, _, hy⟩ := h5 j u hu
    obtain ⟨m, hm, rfl, hw⟩ := DataW.trod_int he hy
    obtain rfl : u = .int .u8 m := by simpa using hm
    have hr : 0 ≤ m ∧ m ≤ 255 := by simpa [Lit.wf, IntKind.min, IntKind.max, IntKind.signed, IntKind.bits] using hw
    exact ⟨UInt8.ofNat m.toNat, by rw [W8, UInt8.toNat_ofNat']; congr 1; omega⟩
  have hl : ∀ l : List Value, (∀ (j : Nat) u, l[j]? = some u → ∃ b : UInt8, u = W8 b) → ∃ bs : List UInt8, l = bs.map W8 := by
    intro l
    induction l with
    | nil => exact fun _ => ⟨[], rfl⟩
    | cons u l ih =>
      intro hl
      obtain ⟨b, rfl⟩ := hl 0 u rfl
      obtain ⟨bs, rfl⟩ := ih fun j v hv => hl (j + 1) v (by simpa using hv)
      exact ⟨b :: bs, rfl⟩
  obtain ⟨bs, rfl⟩ := hl vs hb
  refine ⟨A, n, c, bs, rfl, h1, h2, h3, ?_⟩
  have e1 : bs.length = n := by have := h3.1; simpa using this
  have e2 := bulk_len (xs.map (·.1))
  rw [List.length_map, h4] at e2
  omega
end
theorem cells8 : Tryz.prog.cellsOf 5 = 1 := by kernel_rfl
theorem cellsB : Tryz.prog.cellsOf 23 = 1 := by kernel_rfl
section
variable {H : Type} {enc : TypeId × Value → H} {w : World} {base b0 : Nat} {sp : Nat → Bool} {held : Bool} {r : Reach}
set_option maxRecDepth 100000 in
theorem open_bytes {t : TypeId} {v : Value} {d : DataW H} {ps : List MemPlace} (ht : Tryz.prog.underlying t = some (.slice 5)) (hval : Value.okWide Tryz.prog w r b0 t v) (h : DataW.Trod enc Tryz.prog w base sp held t v d ps) :
    ∃ A n c bs, v = .slice A n c ∧ n ≤ c ∧ c ≤ maxLen ∧ RdB w A n bs ∧ bs.length + 1 ≤ uptoBulk d := by
  obtain ⟨A, n, c, rfl⟩ := okWide_slice ht hval
  obtain ⟨f, hf⟩ := h
  obtain ⟨A', n', c', bs, h1, h2⟩ := trod_bytes ht Tryz.underlying5 cells8 hf
  exact ⟨A', n', c', bs, h1, h2⟩
set_option maxRecDepth 100000 in
theorem open_bytess {t : TypeId} {v : Value} {d : DataW H} {pl : List MemPlace} (ht : Tryz.prog.underlying t = some (.slice 23)) (hval : Value.okWide Tryz.prog w r b0 t v) (h : DataW.Trod enc Tryz.prog w base sp held t v d pl) :
    ∃ A n c ps, v = .slice A n c ∧ n ≤ c ∧ Parts w (fun _ => False) A n ps ∧ ps.flatten.length + n + 1 ≤ uptoBulk d := by
  obtain ⟨A, n, c, rfl⟩ := okWide_slice ht hval
  obtain ⟨f, hf⟩ := h
  obtain ⟨A', n', c', vs, xs, h1, h2, h3, h4, h5, h6, h7⟩ := trod_row ht cellsB hf
  have hl : ∀ (l : List Value) (ys : List (DataW H × List MemPlace)), l.length = ys.length → (∀ (j : Nat) u, l[j]? = some u → ∃ y f, ys[j]? = some y ∧ DataW.trod enc Tryz.prog w base sp held f 23 [u] = some y) →
      ∃ ps : List (List UInt8), PartAll w (fun _ => False) l ps ∧ ps.flatten.length + l.length ≤ uptoBulkAll (ys.map (·.1)) := by
    intro l
    induction l with
    | nil => exact fun ys _ _ => ⟨[], trivial, by simp⟩
    | cons u l ih =>
      intro ys hlen hl
      obtain ⟨y, f, hy, ht⟩ := hl 0 u rfl
      cases ys with
      | nil => simp at hy
      | cons y' ys =>
        obtain rfl : y' = y := by simpa using hy
        obtain ⟨B, m, k, bs, rfl, e1, _, e2, e3⟩ := trod_bytes Tryz.underlying23 Tryz.underlying5 cells8 ht
        obtain ⟨ps, hp, hle⟩ := ih ys (by simpa using hlen) fun j v hv => by
          obtain ⟨y, f, hy, ht⟩ := hl (j + 1) v (by simpa using hv)
          exact ⟨y, f, by simpa using hy, ht⟩
        refine ⟨bs :: ps, ⟨part_of e2 e1, hp⟩, ?_⟩
        simp only [List.flatten_cons, List.length_append, List.length_cons, List.map_cons, uptoBulkAll]
        omega
  obtain ⟨ps, hp, hle⟩ := hl vs xs (by rw [h4.1, h5]) h6
  have hv := h4.1
  have h7' : uptoBulkAll (xs.map (·.1)) + 1 ≤ uptoBulk d := h7
  exact ⟨A', n', c', ps, h1, h2, parts_of h4 hp, by omega⟩
end
theorem mem_flatten_le {p : List UInt8} {ps : List (List UInt8)} (h : p ∈ ps) : p.length ≤ ps.flatten.length := by
  induction ps with
  | nil => cases h
  | cons q ps ih =>
    rw [List.flatten_cons, List.length_append]
    cases List.mem_cons.1 h with
    | inl e => subst e; omega
    | inr e => have := ih e; omega
end Go.Proofs.YtkibgdigcgakfabGreat
