/-
  The law ShaTables: its walk.
-/
import Derived.Test.YtmdbekdphkkmkaaTab6
namespace Go.Proofs.Ytmdbekdphkkmkaa
open Go.RowKit
open Go.BigFrame

theorem root_all (p k : Nat) (hp : p < 312) (hk : k ≤ 3) (w : World) :
    Calls Try.prog 22 #[.int .i64 p, .int .i64 k] w fun e w' => e = .returned (W32 (UInt32.ofNat (rootN p k 37 0 % 4294967296))) ∧ Later w w' :=
  root_02 (fun y p k w hy hp hk => above_02 y p k w hy hp hk) p k hp hk w
theorem initL_agg : Value.agg shaInit.list.toArray = Value.agg (initL.map W32).toArray := by rw [initL_eq]
set_option maxRecDepth 100000 in
theorem shaTables_walk (i : Int) (w : World) :
    Calls Try.prog 4 #[.int .i64 i] w fun e w' => e = .returned (.bool true) ∧ Later w w' := by
  by_cases hi : i < 0 ∨ 64 ≤ i
  · have hio : (decide (i < 0) || decide (64 ≤ i)) = true := by simpa using hi
    go_enter Try.func4, Try.ntmps4
    go_wp2_with (first
      | (go_at_call 19; refine (start_any _).mono ?_; rintro e w1 ⟨rfl, hl1⟩; rw [initL_agg])
      | (go_at_call 20; refine (constants_any _).mono ?_; rintro e w2 ⟨rfl, hl2⟩)
      | (refine wpList_store_agg rfl rfl 31 _ _ rfl w2.heap.size 0 31 (List.replicate 8 (W32 0)) (initL.map W32) ?b ?hx ?hy ?hi ?hf ?h1 ?_; (case hx => rfl); (case hy => rfl); (case hi => kernel_rfl); (case hf => decide); (case h1 => exact w32_one _); (case b => exact (Blk.new w2 _ _).later (later_alloc _ _)); intro w3 hb3 ho3)
      | (refine wpList_store_agg rfl rfl 33 _ _ rfl (w2.heap.size + 1) 0 33 (List.replicate 64 (W32 0)) (shaK.map W32) ?b ?hx ?hy ?hi ?hf ?h1 ?_; (case hx => rfl); (case hy => rfl); (case hi => kernel_rfl); (case hf => decide); (case h1 => exact w32_one _); (case b => exact (Blk.new' _ _ (List.replicate 64 (W32 0)) (by simp)).only ho3 (by simp)); intro w4 hb4 ho4; rw [spliced_all _ _ (by rfl)] at hb3 hb4; replace hb3 := hb3.only ho4 (by omega); have ls := hb3.cellD 0 (u := W32 0x6a09e667) rfl; have lk := hb4.cellD 63 (u := W32 0xc67178f2) rfl)
      | fail)
    all_goals
      have L : Later w w4 := by
        have e2 := hl2.size
        exact (((((hl1.trans hl2).alloc _).alloc _).only ho3 (by have := hl1.size; omega)).only ho4 (by have := hl1.size; omega))
      go_ret
      exact ⟨rfl, L⟩
  · obtain ⟨n, rfl⟩ := Int.eq_ofNat_of_zero_le (show 0 ≤ i by omega)
    have hn : n < 64 := by omega
    have hP := hid (fun w => prime_02 n hn w)
    go_enter Try.func4, Try.ntmps4
    go_wp2_with (first
      | (go_at_call 19; refine (start_any _).mono ?_; rintro e w1 ⟨rfl, hl1⟩; rw [initL_agg])
      | (go_at_call 20; refine (constants_any _).mono ?_; rintro e w2 ⟨rfl, hl2⟩)
      | (refine wpList_store_agg rfl rfl 31 _ _ rfl w2.heap.size 0 31 (List.replicate 8 (W32 0)) (initL.map W32) ?b ?hx ?hy ?hi ?hf ?h1 ?_; (case hx => rfl); (case hy => rfl); (case hi => kernel_rfl); (case hf => decide); (case h1 => exact w32_one _); (case b => exact (Blk.new w2 _ _).later (later_alloc _ _)); intro w3 hb3 ho3)
      | (refine wpList_store_agg rfl rfl 33 _ _ rfl (w2.heap.size + 1) 0 33 (List.replicate 64 (W32 0)) (shaK.map W32) ?b ?hx ?hy ?hi ?hf ?h1 ?_; (case hx => rfl); (case hy => rfl); (case hi => kernel_rfl); (case hf => decide); (case h1 => exact w32_one _); (case b => exact (Blk.new' _ _ (List.replicate 64 (W32 0)) (by simp)).only ho3 (by simp)); intro w4 hb4 ho4; rw [spliced_all _ _ (by rfl)] at hb3 hb4; replace hb3 := hb3.only ho4 (by omega); have ls := hb3.cellD 0 (u := W32 0x6a09e667) rfl; have lk := hb4.cellD 63 (u := W32 0xc67178f2) rfl)
      | fail)
    have L : Later w w4 := by
      have e2 := hl2.size
      exact (((((hl1.trans hl2).alloc _).alloc _).only ho3 (by have := hl1.size; omega)).only ho4 (by have := hl1.size; omega))
    clear hl1 hl2 ho3 ho4 ls lk
    refine (hP.out _).mono ?_
    rintro e w5 ⟨p, rfl, hp2, hp, hpr, hcn, hl5⟩
    have hok : rootOk p = true := List.all_eq_true.1 rootAll p (List.mem_range.2 hp)
    have hok' : (shaK.getD n 0 == UInt32.ofNat (rootN p 3 37 0 % 4294967296) && (decide (8 ≤ n) || initL.getD n 0 == UInt32.ofNat (rootN p 2 37 0 % 4294967296))) = true := by
      rw [rootOk, hpr, hcn, decide_eq_true hp2, decide_eq_true hn] at hok
      simpa using hok
    rw [Bool.and_eq_true, Bool.or_eq_true, beq_iff_eq, beq_iff_eq, decide_eq_true_iff] at hok'
    obtain ⟨h3, h2⟩ := hok'
    have c3 := hid (fun w => root_all p 3 hp (by omega) w)
    have c2 := hid (fun w => root_all p 2 hp (by omega) w)
    clear hok
    have lk := (hb4.later hl5).cellD n (u := W32 (shaK.getD n 0)) (by rw [List.getElem?_map, List.getD_eq_getElem?_getD, List.getElem?_eq_getElem (show n < shaK.length by rw [show shaK.length = 64 from rfl]; exact hn)]; rfl)
    rw [h3] at lk
    clear h3
    generalize UInt32.ofNat (rootN p 3 37 0 % 4294967296) = R3 at *
    by_cases h8 : 8 ≤ n
    · have hg8 : decide ((8 : Int) ≤ (n : Int)) = true := decide_eq_true (by omega)
      go_wp2_with fail
      refine wp_region_parts [([0, 1, 2, 3], 4), ([5, 6, 7, 8, 9, 10, 11, 12, 13], 14)] [15, 16, 17, 18] [] (by as_aux_lemma => kernel_rfl) (by as_aux_lemma => kernel_rfl) (by intro _ _ d _ _ h; cases d <;> exact h) ?_
      simp only [wpParts, pick, List.getElem?_cons_succ, List.getElem?_cons_zero, Option.toList_some, List.cons_append, List.nil_append]
      repeat (go_big_quiet_step (fail))
      refine wpQuiet_nil ?_
      go_wp2_with fail
      refine (c3.out _).mono ?_
      rintro e w6 ⟨rfl, hl6⟩
      go_wp2_with fail
      try refine ⟨by first | assumption | exact later_drew _ | exact later_alloc _ _ | exact Later.refl _, ?_⟩
      try simp only [wpParts, pick, List.getElem?_cons_succ, List.getElem?_cons_zero, Option.toList_some, List.cons_append, List.nil_append]
      repeat (go_big_quiet_step (fail))
      refine wpQuiet_nil ?_
      go_wp2_with fail
      try refine ⟨by first | assumption | exact later_drew _ | exact later_alloc _ _ | exact Later.refl _, ?_⟩
      try simp only [wpParts, pick, List.getElem?_cons_succ, List.getElem?_cons_zero, Option.toList_some, List.cons_append, List.nil_append]
      repeat (go_big_quiet_step (fail))
      refine wpQuiet_nil ?_
      go_wp2
      go_ret
      exact ⟨rfl, ((L.trans hl5).trans (later_drew _)).trans hl6⟩
    · have hel : (initL.map W32)[n]? = some (W32 (initL.getD n 0)) := (by rw [List.getElem?_map, List.getD_eq_getElem?_getD, List.getElem?_eq_getElem (show n < initL.length by rw [show initL.length = 8 from rfl]; omega)]; rfl)
      rw [h2.resolve_left h8] at hel
      clear h2
      have hg8 : decide ((8 : Int) ≤ (n : Int)) = false := decide_eq_false (by omega)
      have h8' : n < 8 := by omega
      have hls := hid (fun w6 (h : Later w5.drew w6) => (((hb3.later hl5).drew).later h).cellD n hel)
      generalize UInt32.ofNat (rootN p 2 37 0 % 4294967296) = R2 at *
      go_wp2_with fail
      refine wp_region_parts [([0, 1, 2, 3], 4), ([5, 6, 7, 8, 9, 10, 11, 12, 13], 14)] [15, 16, 17, 18] [] (by as_aux_lemma => kernel_rfl) (by as_aux_lemma => kernel_rfl) (by intro _ _ d _ _ h; cases d <;> exact h) ?_
      simp only [wpParts, pick, List.getElem?_cons_succ, List.getElem?_cons_zero, Option.toList_some, List.cons_append, List.nil_append]
      repeat (go_big_quiet_step (fail))
      refine wpQuiet_nil ?_
      go_wp2_with fail
      refine (c3.out _).mono ?_
      rintro e w6 ⟨rfl, hl6⟩
      have ls6 := hls.out w6 hl6
      go_wp2_with fail
      try refine ⟨by first | assumption | exact later_drew _ | exact later_alloc _ _ | exact Later.refl _, ?_⟩
      try simp only [wpParts, pick, List.getElem?_cons_succ, List.getElem?_cons_zero, Option.toList_some, List.cons_append, List.nil_append]
      repeat (go_big_quiet_step (fail))
      refine wpQuiet_nil ?_
      go_wp2_with fail
      refine (c2.out _).mono ?_
      rintro e w7 ⟨rfl, hl7⟩
      go_wp2_with fail
      try refine ⟨by first | assumption | exact later_drew _ | exact later_alloc _ _ | exact Later.refl _, ?_⟩
      try simp only [wpParts, pick, List.getElem?_cons_succ, List.getElem?_cons_zero, Option.toList_some, List.cons_append, List.nil_append]
      repeat (go_big_quiet_step (fail))
      refine wpQuiet_nil ?_
      go_wp2
      go_ret
      exact ⟨rfl, (((L.trans hl5).trans (later_drew _)).trans hl6).trans hl7⟩
end Go.Proofs.Ytmdbekdphkkmkaa
