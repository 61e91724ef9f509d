/-
  Arguments that came in: lists of structs, of whatever kind; lists of arrivals; traces.
-/
import Derived.Test.YtkibgdigcgakfaaGreatOpen2
import Derived.Test.YtkibgdigcgakfaaGreatRowP
import Derived.Test.YtkibgdigcgakfaaGreatMeshC
namespace Go.Proofs.YtkibgdigcgakfaaGreat
open Go.ChangeShapes Go.WideShapes Go.ChangeAt Go.RowKit
open _root_.Go.Proofs.YtkibgdigcgakfaaGreat.Rows (uptoBulk uptoBulkAll uptoSmall)
theorem mapM_atM {α β : Type} (f : α → Option β) : ∀ (l : List α) (ys : List β), l.mapM f = some ys → ys.length = l.length ∧ ∀ (i : Nat) x, l[i]? = some x → f x = ys[i]?
  | [], ys, h => by
    simp only [List.mapM_nil, pure, Option.some.injEq] at h
    subst h
    exact ⟨rfl, fun i x hx => by simp at hx⟩
  | a :: l, ys, h => by
    rw [List.mapM_cons] at h
    simp only [bind, Option.bind_eq_some_iff, pure, Option.some.injEq] at h
    obtain ⟨y, hy, ys', h', rfl⟩ := h
    obtain ⟨h1, h2⟩ := mapM_atM f l ys' h'
    refine ⟨by simp [h1], fun i x hx => ?_⟩
    cases i with
    | zero =>
      obtain rfl : a = x := by simpa using hx
      simpa using hy
    | succ i => simpa using h2 i x (by simpa using hx)
theorem cells_getM {w : World} {base k : Nat} {a : Addr} {cs : List Value} (h : w.cells? base a k = some cs) : cs.length = k ∧ ∀ i, i < k → w.cell? (a.add i) = cs[i]? := by
  unfold World.cells? at h
  split at h
  · obtain ⟨h1, h2⟩ := mapM_atM _ _ _ h
    exact ⟨by simpa using h1, fun i hi => h2 i i (by rw [List.getElem?_range hi])⟩
  · cases h
theorem drop_takeM {l : List Value} {i : Nat} {v : Value} (h : (l.drop i).take 1 = [v]) : l[i]? = some v := by
  have := congrArg (·[0]?) h
  simpa [List.getElem?_take, List.getElem?_drop] using this
section
variable {H : Type} {enc : TypeId × Value → H} {P : Program} {w : World} {base b0 : Nat} {sp : Nat → Bool} {held : Bool} {r : Reach}
/-- A list of structs. -/
theorem trod_rowF {α : Type} {F : α → List Value} {sz : Nat} (d0 : α) {G : α → Nat → Prop} {t e : TypeId} (ht : P.underlying t = some (.slice e)) (hc : P.cellsOf e = sz) (h0 : 0 < sz) (hF : ∀ x, (F x).length = sz) (hG : ∀ y m n, m ≤ n → G y m → G y n)
    (el : ∀ fuel cs x, DataW.trod enc P w base sp held fuel e cs = some x → ∃ y, cs = F y ∧ G y (uptoBulk x.1)) {fuel : Nat} {v : Value} {x : DataW H × List MemPlace} (h : DataW.trod enc P w base sp held fuel t [v] = some x) :
    ∃ A n c xs, v = .slice A n c ∧ n ≤ c ∧ RdF F sz d0 w A n xs ∧ n + 1 ≤ uptoBulk x.1 ∧ ∀ y ∈ xs, G y (uptoBulk x.1) := by
  rcases DataW.trod_slice ht h with ⟨hcs, rfl⟩ | ⟨a, len, cap, elems, rest, n, rfl, hcs, rfl, hb, hl, hm, hlen, hel, hsp, hns⟩
  · obtain rfl : v = .slice none 0 0 := by simpa using hcs
    exact ⟨none, 0, 0, [], rfl, Nat.le_refl _, rdF_none w, by simp [uptoBulk], by simp⟩
  · obtain rfl : v = .slice (some a) len cap := by simpa using hcs
    have each : ∀ i, ∃ y : α, i < len → (w.cells? base (a.add (i * sz)) sz = some (F y) ∧ G y (uptoBulkAll (elems.map (·.1)))) := by
      intro i
      by_cases hi : i < len
      · have hE := hel i hi
        rw [hc] at hE
        have hy : elems[i]? = some (elems[i]'(by omega)) := List.getElem?_eq_getElem _
        rw [hy, Option.bind_eq_some_iff] at hE
        obtain ⟨c1, hc1, hy1⟩ := hE
        obtain ⟨y, rfl, hg⟩ := el _ _ _ hy1
        exact ⟨y, fun _ => ⟨hc1, hG _ _ _ (bulk_mem (List.mem_map.2 ⟨_, List.getElem_mem _, rfl⟩)) hg⟩⟩
      · exact ⟨d0, fun h => absurd h hi⟩
    obtain ⟨f, hf⟩ := Classical.axiomOfChoice each
    have hfl : ∀ j, j < len → ((List.range len).map f).getD j d0 = f j := by
      intro j hj
      rw [List.getD_eq_getElem?_getD, List.getElem?_map, List.getElem?_range hj]
      rfl
    have e2 := bulk_len (elems.map (·.1))
    rw [List.length_map, hlen] at e2
    refine ⟨some a, len, cap, (List.range len).map f, rfl, hl, ⟨by simp, fun h1 => ?_⟩, ?_, fun y hy => ?_⟩
    · have e0 : a.add (0 * sz) = a := by simp [Addr.add]
      have h00 := (cells_getM (hf 0 h1).1).2 0 h0
      rw [e0] at h00
      have e1 : a.add 0 = a := by simp [Addr.add]
      rw [e1, List.getElem?_eq_getElem (by rw [hF]; exact h0)] at h00
      obtain ⟨h1, h2⟩ := cell_spot h00
      obtain ⟨b, o, s⟩ := a
      simp only at h1
      subst h1
      refine ⟨b, o, rfl, h2, fun j i v hj hv => ?_⟩
      rw [hfl j hj] at hv
      have hi : i < sz := by
        have := (List.getElem?_eq_some_iff.1 hv).1
        rwa [hF] at this
      have := (cells_getM (hf j hj).1).2 i hi
      rw [add_at, add_at] at this
      rw [this]
      exact hv
    · simp only [uptoBulk]
      omega
    · obtain ⟨j, hj, rfl⟩ := List.mem_map.1 hy
      refine hG _ _ _ ?_ (hf j (List.mem_range.1 hj)).2
      simp only [uptoBulk]
      omega
end
section
variable {H : Type} {enc : TypeId × Value → H} {w : World} {base b0 : Nat} {sp : Nat → Bool} {held : Bool} {r : Reach}
theorem trod_i64 {fuel i : Nat} {cs : List Value} {x : DataW H × List MemPlace} (h : DataW.trod enc Tryz.prog w base sp held fuel 3 ((cs.drop i).take (Tryz.prog.cellsOf 3)) = some x) : ∃ z : Int, cs[i]? = some (.int .i64 z) := by
  rw [show Tryz.prog.cellsOf 3 = 1 by kernel_rfl] at h
  obtain ⟨z, hz, _, _⟩ := DataW.trod_int Tryz.underlying3 h
  exact ⟨z, drop_takeM hz⟩
theorem trod_u8 {fuel i : Nat} {cs : List Value} {x : DataW H × List MemPlace} (h : DataW.trod enc Tryz.prog w base sp held fuel 5 ((cs.drop i).take (Tryz.prog.cellsOf 5)) = some x) : ∃ z : UInt8, cs[i]? = some (W8 z) := by
  rw [show Tryz.prog.cellsOf 5 = 1 by kernel_rfl] at h
  obtain ⟨z, hz, _, hw⟩ := DataW.trod_int Tryz.underlying5 h
  have hr : 0 ≤ z ∧ z ≤ 255 := by simpa [Lit.wf, IntKind.min, IntKind.max, IntKind.signed, IntKind.bits] using hw
  exact ⟨_, by rw [drop_takeM hz, lit_w8 z hr.1 (by omega)]⟩
theorem trod_u64 {fuel i : Nat} {cs : List Value} {x : DataW H × List MemPlace} (h : DataW.trod enc Tryz.prog w base sp held fuel 25 ((cs.drop i).take (Tryz.prog.cellsOf 25)) = some x) : ∃ z : UInt64, cs[i]? = some (W64 z) := by
  rw [show Tryz.prog.cellsOf 25 = 1 by kernel_rfl] at h
  obtain ⟨z, hz, _, hw⟩ := DataW.trod_int Tryz.underlying25 h
  have hr : 0 ≤ z ∧ z ≤ 18446744073709551615 := by simpa [Lit.wf, IntKind.min, IntKind.max, IntKind.signed, IntKind.bits] using hw
  exact ⟨_, by rw [drop_takeM hz, lit_w64 z hr.1 (by omega)]⟩
theorem trod_u32 {fuel i : Nat} {cs : List Value} {x : DataW H × List MemPlace} (h : DataW.trod enc Tryz.prog w base sp held fuel 88 ((cs.drop i).take (Tryz.prog.cellsOf 88)) = some x) : ∃ z : UInt32, cs[i]? = some (W32 z) := by
  rw [show Tryz.prog.cellsOf 88 = 1 by kernel_rfl] at h
  obtain ⟨z, hz, _, hw⟩ := DataW.trod_int Tryz.underlying88 h
  have hr : 0 ≤ z ∧ z ≤ 4294967295 := by simpa [Lit.wf, IntKind.min, IntKind.max, IntKind.signed, IntKind.bits] using hw
  exact ⟨_, by rw [drop_takeM hz, lit_w32 z hr.1 (by omega)]⟩
theorem trod_y16 {fuel i : Nat} {cs : List Value} {x : DataW H × List MemPlace} (h : DataW.trod enc Tryz.prog w base sp held fuel 29 ((cs.drop i).take (Tryz.prog.cellsOf 29)) = some x) : ∃ K : Y16, (cs.drop i).take 16 = K.val.map W8 := by
  obtain ⟨xs, m, rfl, rfl, hl, hxl, he⟩ := DataW.trod_array Tryz.underlying29 h
  have hn : Tryz.prog.cellsOf 29 = 16 := by kernel_rfl
  rw [hn] at hl he
  have each : ∀ j, ∃ b : UInt8, j < 16 → ((cs.drop i).take 16)[j]? = some (W8 b) := by
    intro j
    by_cases hj : j < 16
    · have := he j hj
      rw [List.getElem?_eq_getElem (by omega), show j * Tryz.prog.cellsOf 5 = j by rw [show Tryz.prog.cellsOf 5 = 1 by kernel_rfl, Nat.mul_one]] at this
      obtain ⟨b, hb⟩ := trod_u8 this
      exact ⟨b, fun _ => hb⟩
    · exact ⟨0, fun h => absurd h hj⟩
  obtain ⟨f, hf⟩ := Classical.axiomOfChoice each
  refine ⟨⟨(List.range 16).map f, by simp⟩, ?_⟩
  apply List.ext_getElem?
  intro j
  rcases Nat.lt_or_ge j 16 with hj | hj
  · rw [hf j hj, List.getElem?_map, List.getElem?_map, List.getElem?_range hj]
    rfl
  · rw [List.getElem?_eq_none (by omega), List.getElem?_eq_none (by simp; omega)]
theorem list5 {cs : List Value} {a b c d e : Value} (hl : cs.length = 5) (h0 : cs[0]? = some a) (h1 : cs[1]? = some b) (h2 : cs[2]? = some c) (h3 : cs[3]? = some d) (h4 : cs[4]? = some e) : cs = [a, b, c, d, e] := by
  match cs, hl with
  | [a', b', c', d', e'], _ => simp_all
set_option maxRecDepth 100000 in
theorem trod_partM {fuel : Nat} {cs : List Value} {x : DataW H × List MemPlace} (h : DataW.trod enc Tryz.prog w base sp held fuel 28 cs = some x) : ∃ (p : Prt) (A : Option Addr) (n c : Nat), cs = PaC p (.slice A n c) ∧ n ≤ c ∧ RdB w A n p.da ∧ n + 1 ≤ uptoBulk x.1 := by
  obtain ⟨xs, m, rfl, rfl, hl, hxl, he⟩ := DataW.trod_struct Tryz.underlying28 h
  have hn : Tryz.prog.cellsOf 28 = 5 := by kernel_rfl
  rw [hn] at hl
  have hxl5 : xs.length = 5 := hxl
  have g : ∀ i, i < 5 → xs[i]? = some (xs.getD i (.nil, [])) := fun i hi => by rw [List.getD_eq_getElem?_getD, List.getElem?_eq_getElem (by omega)]; rfl
  obtain ⟨z0, hz0⟩ := trod_u8 (i := 0) ((he 0 _ rfl).trans (g 0 (by omega)))
  obtain ⟨z1, hz1⟩ := trod_u64 (i := 1) ((he 1 _ rfl).trans (g 1 (by omega)))
  obtain ⟨z2, hz2⟩ := trod_i64 (i := 2) ((he 2 _ rfl).trans (g 2 (by omega)))
  obtain ⟨z3, hz3⟩ := trod_i64 (i := 3) ((he 3 _ rfl).trans (g 3 (by omega)))
  have e4 : DataW.trod enc Tryz.prog w base sp held m 26 ((cs.drop 4).take (Tryz.prog.cellsOf 26)) = some (xs.getD 4 (.nil, [])) := (he 4 _ rfl).trans (g 4 (by omega))
  rw [show Tryz.prog.cellsOf 26 = 1 by kernel_rfl, show (cs.drop 4).take 1 = [cs.getD 4 undef] by
    rw [List.getD_eq_getElem?_getD, List.getElem?_eq_getElem (by omega), List.drop_eq_getElem_cons (by omega)]; rfl] at e4
  obtain ⟨A, n, cp, bs, hv, h1, h2, h3, h4⟩ := trod_bytes Tryz.underlying26 Tryz.underlying5 cells8 e4
  have hz4 : cs[4]? = some (.slice A n cp) := by
    rw [← hv, List.getD_eq_getElem?_getD, List.getElem?_eq_getElem (by omega)]; rfl
  refine ⟨⟨z0, z1, z2, z3, bs⟩, A, n, cp, list5 hl hz0 hz1 hz2 hz3 hz4, h1, h3, ?_⟩
  have hbl := h3.len
  have := bulk_mem (d := (xs.getD 4 (.nil, [])).1) (l := xs.map (·.1)) (List.mem_map.2 ⟨_, List.mem_of_getElem? (g 4 (by omega)), rfl⟩)
  simp only [uptoBulk]
  omega
theorem join_cells {cs : List Value} (k n : Nat) (h : cs.length = k + n) : cs = cs.take k ++ (cs.drop k).take n := by
  rw [List.take_of_length_le (l := cs.drop k) (by rw [List.length_drop]; omega)]
  exact (List.take_append_drop k cs).symm
set_option maxRecDepth 100000 in
theorem trod_arrival {fuel : Nat} {cs : List Value} {x : DataW H × List MemPlace} (h : DataW.trod enc Tryz.prog w base sp held fuel 31 cs = some x) : ∃ y : Arv, cs = AvC y ∧ AvOk w y ∧ y.ar.pt.da.length ≤ uptoBulk x.1 := by
  obtain ⟨xs, m, rfl, rfl, hl, hxl, he⟩ := DataW.trod_struct Tryz.underlying31 h
  have hn : Tryz.prog.cellsOf 31 = 24 := by kernel_rfl
  have hP : Tryz.prog.cellsOf 28 = 5 := by kernel_rfl
  rw [hn] at hl
  have hxl5 : xs.length = 5 := hxl
  have g : ∀ i, i < 5 → xs[i]? = some (xs.getD i (.nil, [])) := fun i hi => by rw [List.getD_eq_getElem?_getD, List.getElem?_eq_getElem (by omega)]; rfl
  have e0 : DataW.trod enc Tryz.prog w base sp held m 28 ((cs.drop 0).take (Tryz.prog.cellsOf 28)) = some (xs.getD 0 (.nil, [])) := (he 0 _ rfl).trans (g 0 (by omega))
  rw [hP, List.drop_zero] at e0
  obtain ⟨p, A, n, c, h5, hnc, hr, hb⟩ := trod_partM e0
  obtain ⟨kd, hkd⟩ := trod_u8 (i := 5) ((he 1 _ rfl).trans (g 1 (by omega)))
  obtain ⟨to, hto⟩ := trod_u64 (i := 6) ((he 2 _ rfl).trans (g 2 (by omega)))
  obtain ⟨tk, htk⟩ := trod_i64 (i := 7) ((he 3 _ rfl).trans (g 3 (by omega)))
  obtain ⟨ma, hma⟩ := trod_y16 (i := 8) ((he 4 _ rfl).trans (g 4 (by omega)))
  refine ⟨⟨⟨p, kd, to, tk, ma⟩, .slice A n c⟩, ?_, ⟨A, n, c, rfl, hnc, hr⟩, ?_⟩
  · have e1 := join_cells (cs := cs) 5 19 (by omega)
    have e2 := join_cells (cs := (cs.drop 5).take 19) 3 16 (by rw [List.length_take, List.length_drop]; omega)
    rw [List.take_of_length_le (i := 19) (by rw [List.length_drop]; omega), List.drop_drop] at e2
    have e3 : (cs.drop 5).take 3 = [W8 kd, W64 to, .int .i64 tk] := by
      apply List.ext_getElem?
      intro i
      rw [List.getElem?_take]
      rcases i with _ | _ | _ | i
      · rw [if_pos (by omega), List.getElem?_drop]; exact hkd
      · rw [if_pos (by omega), List.getElem?_drop]; exact hto
      · rw [if_pos (by omega), List.getElem?_drop]; exact htk
      · rw [if_neg (by omega)]; rfl
    rw [List.take_of_length_le (i := 19) (by rw [List.length_drop]; omega), e2, h5, e3, hma] at e1
    exact e1
  · have hbl := hr.len
    have := bulk_mem (d := (xs.getD 0 (.nil, [])).1) (l := xs.map (·.1)) (List.mem_map.2 ⟨_, List.mem_of_getElem? (g 0 (by omega)), rfl⟩)
    simp only [uptoBulk]
    show p.da.length ≤ _
    omega
set_option maxRecDepth 100000 in
theorem open_arrs {v : Value} {d : DataW H} {ps : List MemPlace} (ht : Tryz.prog.underlying 22 = some (.slice 31)) (hval : Value.okWide Tryz.prog w r b0 22 v) (h : DataW.Trod enc Tryz.prog w base sp held 22 v d ps) :
    ∃ A n c xs, v = .slice A n c ∧ n ≤ c ∧ RdF AvC 24 av0 w A n xs ∧ n + 1 ≤ uptoBulk d ∧ ∀ y ∈ xs, AvOk w y ∧ y.ar.pt.da.length ≤ uptoBulk d := by
  obtain ⟨A, n, c, rfl⟩ := okWide_slice ht hval
  obtain ⟨f, hf⟩ := h
  obtain ⟨A', n', c', ns, h1, h2, h3, h4, h5⟩ := trod_rowF (F := AvC) (sz := 24) av0 (G := fun y k => AvOk w y ∧ y.ar.pt.da.length ≤ k) ht (by kernel_rfl) (by omega) AvC_length (fun y m n hm hy => ⟨hy.1, Nat.le_trans hy.2 hm⟩) (fun _ _ _ h => trod_arrival h) hf
  exact ⟨A', n', c', ns, h1, h2, h3, h4, h5⟩
end
end Go.Proofs.YtkibgdigcgakfaaGreat
