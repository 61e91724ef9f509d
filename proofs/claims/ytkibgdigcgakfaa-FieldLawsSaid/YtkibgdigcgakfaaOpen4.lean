/-
  Arguments that came in: arrays of words.
-/
import Derived.Test.YtkibgdigcgakfaaOpen
import Derived.Test.YtkibgdigcgakfaaBase
namespace Go.Proofs.Ytkibgdigcgakfaa
open Go.ChangeShapes Go.WideShapes Go.ChangeAt Go.RowKit
section
variable {H : Type} {enc : TypeId × Value → H} {P : Program} {w : World} {base b0 : Nat} {sp : Nat → Bool} {held : Bool} {r : Reach}
theorem mapM_ints {e : TypeId} {q : IntKind} {fuel : Nat} (he : P.underlying e = some (.int q)) (cs : List Value) : ∀ (n o : Nat) (ys : List (DataW H × List MemPlace)), o + n = cs.length →
    (List.range' o n).mapM (fun i => DataW.trod enc P w base sp held fuel e ((cs.drop (i * 1)).take 1)) = some ys →
    ∃ zs : List Int, cs.drop o = zs.map (Value.int q) ∧ ∀ z ∈ zs, (Lit.int q z).wf = true
  | 0, o, ys, hn, _ => ⟨[], by rw [List.drop_eq_nil_of_le (by omega)]; rfl, fun z hz => by cases hz⟩
  | n + 1, o, ys, hn, h => by
    rw [List.range'_succ, List.mapM_cons] at h
    simp only [bind, Option.bind_eq_some_iff, pure, Option.some.injEq] at h
    obtain ⟨y0, h0, ys', h1, rfl⟩ := h
    obtain ⟨zs, hz, hw⟩ := mapM_ints he cs n (o + 1) ys' (by omega) h1
    obtain ⟨z, ez, _, wz⟩ := DataW.trod_int he h0
    have hd : cs.drop o = cs[o] :: cs.drop (o + 1) := List.drop_eq_getElem_cons (by omega)
    rw [Nat.mul_one, hd] at ez
    simp only [List.take_succ_cons, List.take_zero, List.cons.injEq, and_true] at ez
    refine ⟨z :: zs, by rw [hd, ez, hz]; rfl, fun x hx => ?_⟩
    rcases List.mem_cons.1 hx with rfl | hx
    · exact wz
    · exact hw x hx
/-- An array of integers. -/
theorem open_arr_ints {t e : TypeId} {q : IntKind} {n : Nat} {v : Value} {d : DataW H} {ps : List MemPlace} (ht : P.underlying t = some (.array n e)) (he : P.underlying e = some (.int q)) (h1 : P.cellsOf e = 1) (hn : P.cellsOf t = n) (hval : Value.okWide P w r b0 t v) (hd : DataW.Trod enc P w base sp held t v d ps) :
    ∃ zs : List Int, v = .agg (zs.map (Value.int q)).toArray ∧ zs.length = n ∧ ∀ z ∈ zs, (Lit.int q z).wf = true := by
  simp only [Value.okWide, ht] at hval
  obtain ⟨cs, rfl, h2, _⟩ := hval
  rw [hn] at h2
  obtain ⟨fuel, hf⟩ := hd
  cases fuel with
  | zero => simp [DataW.trod] at hf
  | succ m =>
    rw [DataW.trod_step] at hf
    unfold DataW.trodStep at hf
    simp only [ht, Value.cells] at hf
    rw [if_pos (by rw [hn]; simp [h2])] at hf
    simp only [Option.map_eq_some_iff] at hf
    obtain ⟨ys, hy, e1⟩ := hf
    rw [h1, List.range_eq_range'] at hy
    obtain ⟨zs, hz, hw⟩ := mapM_ints he cs.toList n 0 ys (by simp [h2]) hy
    rw [List.drop_zero] at hz
    refine ⟨zs, ?_, ?_, hw⟩
    · rw [← hz]
    · have := congrArg List.length hz
      simp at this
      omega
theorem open_arr32 {t e : TypeId} {n : Nat} {v : Value} {d : DataW H} {ps : List MemPlace} (ht : P.underlying t = some (.array n e)) (he : P.underlying e = some (.int .u32)) (h1 : P.cellsOf e = 1) (hn : P.cellsOf t = n) (hval : Value.okWide P w r b0 t v) (hd : DataW.Trod enc P w base sp held t v d ps) :
    ∃ xs : List UInt32, v = .agg (xs.map W32).toArray ∧ xs.length = n := by
  obtain ⟨zs, rfl, hl, hw⟩ := open_arr_ints ht he h1 hn hval hd
  refine ⟨zs.map fun z => UInt32.ofNat z.toNat, ?_, by simpa using hl⟩
  congr 2
  rw [List.map_map]
  refine List.map_congr_left fun z hz => ?_
  have := hw z hz
  have hr : 0 ≤ z ∧ z ≤ 4294967295 := by simpa [Lit.wf, IntKind.min, IntKind.max, IntKind.signed, IntKind.bits] using this
  exact lit_w32 z hr.1 (by omega)
theorem open_arr64 {t e : TypeId} {n : Nat} {v : Value} {d : DataW H} {ps : List MemPlace} (ht : P.underlying t = some (.array n e)) (he : P.underlying e = some (.int .u64)) (h1 : P.cellsOf e = 1) (hn : P.cellsOf t = n) (hval : Value.okWide P w r b0 t v) (hd : DataW.Trod enc P w base sp held t v d ps) :
    ∃ xs : List UInt64, v = .agg (xs.map W64).toArray ∧ xs.length = n := by
  obtain ⟨zs, rfl, hl, hw⟩ := open_arr_ints ht he h1 hn hval hd
  refine ⟨zs.map fun z => UInt64.ofNat z.toNat, ?_, by simpa using hl⟩
  congr 2
  rw [List.map_map]
  refine List.map_congr_left fun z hz => ?_
  have := hw z hz
  have hr : 0 ≤ z ∧ z ≤ 18446744073709551615 := by simpa [Lit.wf, IntKind.min, IntKind.max, IntKind.signed, IntKind.bits] using this
  exact lit_w64 z hr.1 (by omega)
end
end Go.Proofs.Ytkibgdigcgakfaa
