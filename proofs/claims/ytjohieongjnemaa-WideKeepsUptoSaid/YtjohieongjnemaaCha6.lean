/-
  shallotref04: Quarter.
-/
import Derived.Test.YtjohieongjnemaaCha5
namespace Go.Proofs.Ytjohieongjnemaa
open Go.RowKit
open Go.BigFrame

/-- Behind k half rounds. -/
def qSt (v : UInt32 × UInt32 × UInt32 × UInt32) : Nat → UInt32 × UInt32 × UInt32 × UInt32
  | 0 => v
  | 1 => halfE v 16
  | 2 => halfO (halfE v 16) 12
  | 3 => halfE (halfO (halfE v 16) 12) 8
  | _ => halfO (halfE (halfO (halfE v 16) 12) 8) 7
def qL (v : UInt32 × UInt32 × UInt32 × UInt32) : List UInt32 := [v.1, v.2.1, v.2.2.1, v.2.2.2]
theorem size_4w : (Try.prog.info? 137).map (·.size) = some 4 := by kernel_rfl
set_option maxRecDepth 100000 in
set_option maxHeartbeats 4000000 in
theorem quarterR_any (v : UInt32 × UInt32 × UInt32 × UInt32) (w : World) :
    Calls Try.prog 93 #[.agg ((qL v).map W32).toArray] w fun e w' => e = .returned (.agg ((qL (quart v.1 v.2.1 v.2.2.1 v.2.2.2)).map W32).toArray) ∧ Later w w' := by
  have hQ := hid (show quart v.1 v.2.1 v.2.2.1 v.2.2.2 = qSt v 4 from rfl)
  have q1 := hid (show qSt v 1 = halfE (qSt v 0) 16 from rfl)
  have q2 := hid (show qSt v 2 = halfO (qSt v 1) 12 from rfl)
  have q3 := hid (show qSt v 3 = halfE (qSt v 2) 8 from rfl)
  have q4 := hid (show qSt v 4 = halfO (qSt v 3) 7 from rfl)
  have q0 : Hid (qSt v 0 = v) := hid rfl
  generalize quart v.1 v.2.1 v.2.2.1 v.2.2.2 = R at *
  have hle := hid left_at
  go_enter Try.func93, Try.ntmps93
  go_wp2_with fail
  have B0 := ((bag_new w 137 ((qL v).map W32)).fresh (later_alloc _ (.cells (List.replicate 4 (Value.int .u32 0)).toArray 137)) (Nat.le_refl _) (Blk.new _ _ _)).fresh (later_alloc _ (.cells [Value.int .i64 16, .int .i64 12, .int .i64 8, .int .i64 7].toArray 135)) (Nat.le_refl _) (Blk.new _ _ _)
  have e1 : (w.alloc (.cells ((qL v).map W32).toArray 137)).heap.size = w.heap.size + 1 := by simp
  have e2 : ((w.alloc (.cells ((qL v).map W32).toArray 137)).alloc (.cells (List.replicate 4 (Value.int .u32 0)).toArray 137)).heap.size = w.heap.size + 1 + 1 := by simp
  rw [e1, e2] at B0
  clear e1 e2
  generalize hg1 : w.heap.size = g1 at *
  generalize hg2 : g1 + 1 = g2 at *
  generalize hg3 : g2 + 1 = g3 at *
  clear hg1 hg2 hg3
  go_loopw [4] (fun i wr => ∃ k : Nat, k ≤ 4 ∧ i = .int .i64 k ∧ Bag w wr [(g3, 135, [.int .i64 16, .int .i64 12, .int .i64 8, .int .i64 7]), (g2, 137, List.replicate 4 (.int .u32 0)), (g1, 137, (qL (qSt v k)).map W32)]) (fun i _ => 4 - (intOf i).toNat)
  case atStart => exact ⟨0, by omega, rfl, by rw [q0.out]; exact B0⟩
  case round =>
    clear B0
    obtain ⟨k, hk, rfl, B⟩ := hrel
    by_cases hlt : k < 4
    · have hk4 : k = 0 ∨ k = 1 ∨ k = 2 ∨ k = 3 := by omega
      clear hk hlt
      rcases hk4 with rfl | rfl | rfl | rfl
      · have Q := hid (q1.out)
        generalize qSt v 0 = s at *
        generalize hs' : qSt v (0 + 1) = s' at *
        replace hs' := hid hs'
        obtain ⟨a, b, c, d⟩ := s
        have c0 := (B.nth 2 rfl).cellD 0 rfl
        have c1 := (B.nth 2 rfl).cellD 1 rfl
        dsimp only [qL] at c0 c1
        go_wp2_with (first
          | (refine wpList_store_in rfl rfl _ _ _ rfl g1 0 _ _ (B.nth 2 rfl) rfl (by simp [qL]) rfl size_u32 ?_; intro v' w5 hv' hb5 ho5; simp [go_sem] at hv'; subst hv')
          | fail)
        have B5 : Bag w w5.drew [(g3, 135, [.int .i64 16, .int .i64 12, .int .i64 8, .int .i64 7]), (g2, 137, List.replicate 4 (.int .u32 0)), (g1, 137, [W32 (a + b), W32 b, W32 c, W32 d])] := (B.write 2 rfl ho5 hb5).drew
        have ct := (B5.nth 0 rfl).cellD 0 rfl
        have d0 := (B5.nth 2 rfl).cellD 0 rfl
        have d3 := (B5.nth 2 rfl).cellD 3 rfl
        clear c0 c1 hb5 ho5 B
        refine wp_region_parts [([0, 1, 2, 3, 4, 5, 6, 7], 8)] [9] [10] (by as_aux_lemma => kernel_rfl) (by as_aux_lemma => kernel_rfl) (by intro _ _ d _ _ h; cases d <;> exact h) ?_
        simp only [wpParts, pick, List.getElem?_cons_succ, List.getElem?_cons_zero, Option.toList_some, List.cons_append, List.nil_append]
        repeat (go_big_quiet_step (fail))
        refine wpQuiet_nil ?_
        go_wp2_with fail
        (refine (hle.out _ 16 _ rfl (by omega) _).mono ?_); rintro e w6 ⟨rfl, j6⟩
        have B6 := B5.later j6
        clear B5 d0 d3 ct
        go_wp2_with fail
        try refine ⟨by first | assumption | exact later_drew _ | exact later_alloc _ _ | exact Later.refl _, ?_⟩
        try simp only [wpParts, pick, List.getElem?_cons_succ, List.getElem?_cons_zero, Option.toList_some, List.cons_append, List.nil_append]
        repeat (go_big_quiet_step (fail))
        refine wpQuiet_nil ?_
        go_wp2_with (first
          | (refine wpList_store_in rfl rfl _ _ _ rfl g1 3 _ _ (B6.nth 2 rfl) rfl (by simp) rfl size_u32 ?_; intro v' w7 hv' hb7 ho7; simp [go_sem] at hv'; subst hv')
          | fail)
        go_roundw
        case rel => exact ⟨0 + 1, by omega, by go_num, by rw [hs'.out, Q.out]; exact B6.write 2 rfl ho7 hb7⟩
        case measure => simp [intOf]; try omega
      · have Q := hid (q2.out)
        generalize qSt v 1 = s at *
        generalize hs' : qSt v (1 + 1) = s' at *
        replace hs' := hid hs'
        obtain ⟨a, b, c, d⟩ := s
        have c0 := (B.nth 2 rfl).cellD 2 rfl
        have c1 := (B.nth 2 rfl).cellD 3 rfl
        dsimp only [qL] at c0 c1
        go_wp2_with (first
          | (refine wpList_store_in rfl rfl _ _ _ rfl g1 2 _ _ (B.nth 2 rfl) rfl (by simp [qL]) rfl size_u32 ?_; intro v' w5 hv' hb5 ho5; simp [go_sem] at hv'; subst hv')
          | fail)
        have B5 : Bag w w5.drew [(g3, 135, [.int .i64 16, .int .i64 12, .int .i64 8, .int .i64 7]), (g2, 137, List.replicate 4 (.int .u32 0)), (g1, 137, [W32 a, W32 b, W32 (c + d), W32 d])] := (B.write 2 rfl ho5 hb5).drew
        have ct := (B5.nth 0 rfl).cellD 1 rfl
        have d0 := (B5.nth 2 rfl).cellD 1 rfl
        have d3 := (B5.nth 2 rfl).cellD 2 rfl
        clear c0 c1 hb5 ho5 B
        refine wp_region_parts [([0, 1, 2, 3, 4, 5, 6, 7], 8)] [9] [10] (by as_aux_lemma => kernel_rfl) (by as_aux_lemma => kernel_rfl) (by intro _ _ d _ _ h; cases d <;> exact h) ?_
        simp only [wpParts, pick, List.getElem?_cons_succ, List.getElem?_cons_zero, Option.toList_some, List.cons_append, List.nil_append]
        repeat (go_big_quiet_step (fail))
        refine wpQuiet_nil ?_
        go_wp2_with fail
        (refine (hle.out _ 12 _ rfl (by omega) _).mono ?_); rintro e w6 ⟨rfl, j6⟩
        have B6 := B5.later j6
        clear B5 d0 d3 ct
        go_wp2_with fail
        try refine ⟨by first | assumption | exact later_drew _ | exact later_alloc _ _ | exact Later.refl _, ?_⟩
        try simp only [wpParts, pick, List.getElem?_cons_succ, List.getElem?_cons_zero, Option.toList_some, List.cons_append, List.nil_append]
        repeat (go_big_quiet_step (fail))
        refine wpQuiet_nil ?_
        go_wp2_with (first
          | (refine wpList_store_in rfl rfl _ _ _ rfl g1 1 _ _ (B6.nth 2 rfl) rfl (by simp) rfl size_u32 ?_; intro v' w7 hv' hb7 ho7; simp [go_sem] at hv'; subst hv')
          | fail)
        go_roundw
        case rel => exact ⟨1 + 1, by omega, by go_num, by rw [hs'.out, Q.out]; exact B6.write 2 rfl ho7 hb7⟩
        case measure => simp [intOf]; try omega
      · have Q := hid (q3.out)
        generalize qSt v 2 = s at *
        generalize hs' : qSt v (2 + 1) = s' at *
        replace hs' := hid hs'
        obtain ⟨a, b, c, d⟩ := s
        have c0 := (B.nth 2 rfl).cellD 0 rfl
        have c1 := (B.nth 2 rfl).cellD 1 rfl
        dsimp only [qL] at c0 c1
        go_wp2_with (first
          | (refine wpList_store_in rfl rfl _ _ _ rfl g1 0 _ _ (B.nth 2 rfl) rfl (by simp [qL]) rfl size_u32 ?_; intro v' w5 hv' hb5 ho5; simp [go_sem] at hv'; subst hv')
          | fail)
        have B5 : Bag w w5.drew [(g3, 135, [.int .i64 16, .int .i64 12, .int .i64 8, .int .i64 7]), (g2, 137, List.replicate 4 (.int .u32 0)), (g1, 137, [W32 (a + b), W32 b, W32 c, W32 d])] := (B.write 2 rfl ho5 hb5).drew
        have ct := (B5.nth 0 rfl).cellD 2 rfl
        have d0 := (B5.nth 2 rfl).cellD 0 rfl
        have d3 := (B5.nth 2 rfl).cellD 3 rfl
        clear c0 c1 hb5 ho5 B
        refine wp_region_parts [([0, 1, 2, 3, 4, 5, 6, 7], 8)] [9] [10] (by as_aux_lemma => kernel_rfl) (by as_aux_lemma => kernel_rfl) (by intro _ _ d _ _ h; cases d <;> exact h) ?_
        simp only [wpParts, pick, List.getElem?_cons_succ, List.getElem?_cons_zero, Option.toList_some, List.cons_append, List.nil_append]
        repeat (go_big_quiet_step (fail))
        refine wpQuiet_nil ?_
        go_wp2_with fail
        (refine (hle.out _ 8 _ rfl (by omega) _).mono ?_); rintro e w6 ⟨rfl, j6⟩
        have B6 := B5.later j6
        clear B5 d0 d3 ct
        go_wp2_with fail
        try refine ⟨by first | assumption | exact later_drew _ | exact later_alloc _ _ | exact Later.refl _, ?_⟩
        try simp only [wpParts, pick, List.getElem?_cons_succ, List.getElem?_cons_zero, Option.toList_some, List.cons_append, List.nil_append]
        repeat (go_big_quiet_step (fail))
        refine wpQuiet_nil ?_
        go_wp2_with (first
          | (refine wpList_store_in rfl rfl _ _ _ rfl g1 3 _ _ (B6.nth 2 rfl) rfl (by simp) rfl size_u32 ?_; intro v' w7 hv' hb7 ho7; simp [go_sem] at hv'; subst hv')
          | fail)
        go_roundw
        case rel => exact ⟨2 + 1, by omega, by go_num, by rw [hs'.out, Q.out]; exact B6.write 2 rfl ho7 hb7⟩
        case measure => simp [intOf]; try omega
      · have Q := hid (q4.out)
        generalize qSt v 3 = s at *
        generalize hs' : qSt v (3 + 1) = s' at *
        replace hs' := hid hs'
        obtain ⟨a, b, c, d⟩ := s
        have c0 := (B.nth 2 rfl).cellD 2 rfl
        have c1 := (B.nth 2 rfl).cellD 3 rfl
        dsimp only [qL] at c0 c1
        go_wp2_with (first
          | (refine wpList_store_in rfl rfl _ _ _ rfl g1 2 _ _ (B.nth 2 rfl) rfl (by simp [qL]) rfl size_u32 ?_; intro v' w5 hv' hb5 ho5; simp [go_sem] at hv'; subst hv')
          | fail)
        have B5 : Bag w w5.drew [(g3, 135, [.int .i64 16, .int .i64 12, .int .i64 8, .int .i64 7]), (g2, 137, List.replicate 4 (.int .u32 0)), (g1, 137, [W32 a, W32 b, W32 (c + d), W32 d])] := (B.write 2 rfl ho5 hb5).drew
        have ct := (B5.nth 0 rfl).cellD 3 rfl
        have d0 := (B5.nth 2 rfl).cellD 1 rfl
        have d3 := (B5.nth 2 rfl).cellD 2 rfl
        clear c0 c1 hb5 ho5 B
        refine wp_region_parts [([0, 1, 2, 3, 4, 5, 6, 7], 8)] [9] [10] (by as_aux_lemma => kernel_rfl) (by as_aux_lemma => kernel_rfl) (by intro _ _ d _ _ h; cases d <;> exact h) ?_
        simp only [wpParts, pick, List.getElem?_cons_succ, List.getElem?_cons_zero, Option.toList_some, List.cons_append, List.nil_append]
        repeat (go_big_quiet_step (fail))
        refine wpQuiet_nil ?_
        go_wp2_with fail
        (refine (hle.out _ 7 _ rfl (by omega) _).mono ?_); rintro e w6 ⟨rfl, j6⟩
        have B6 := B5.later j6
        clear B5 d0 d3 ct
        go_wp2_with fail
        try refine ⟨by first | assumption | exact later_drew _ | exact later_alloc _ _ | exact Later.refl _, ?_⟩
        try simp only [wpParts, pick, List.getElem?_cons_succ, List.getElem?_cons_zero, Option.toList_some, List.cons_append, List.nil_append]
        repeat (go_big_quiet_step (fail))
        refine wpQuiet_nil ?_
        go_wp2_with (first
          | (refine wpList_store_in rfl rfl _ _ _ rfl g1 1 _ _ (B6.nth 2 rfl) rfl (by simp) rfl size_u32 ?_; intro v' w7 hv' hb7 ho7; simp [go_sem] at hv'; subst hv')
          | fail)
        go_roundw
        case rel => exact ⟨3 + 1, by omega, by go_num, by rw [hs'.out, Q.out]; exact B6.write 2 rfl ho7 hb7⟩
        case measure => simp [intOf]; try omega
    · obtain rfl : 4 = k := by omega
      rw [← hQ.out] at B
      obtain ⟨ra, rb, rc, rd⟩ := R
      have c0 := (B.nth 2 rfl).cellD 0 rfl
      have c1 := (B.nth 2 rfl).cellD 1 rfl
      have c2 := (B.nth 2 rfl).cellD 2 rfl
      have c3 := (B.nth 2 rfl).cellD 3 rfl
      dsimp only [qL] at c0 c1 c2 c3
      go_wp2_with (first
        | (refine wpList_store_agg rfl rfl 137 _ _ rfl g2 0 _ _ [W32 ra, W32 rb, W32 rc, W32 rd] (B.nth 1 rfl) rfl rfl size_4w (by simp) ?_ ?_; (intro u hu; simp at hu; rcases hu with rfl | rfl | rfl | rfl <;> rfl); intro w9 hb9 ho9; rw [spliced_all _ _ (by simp)] at hb9)
        | fail)
      exact bodyPost_ret (results_blk rfl _ _ _ _ _ _ hb9 rfl Try.underlying137 rfl size_4w) rfl ⟨rfl, B.lat.only ho9 (B.at_low 1 rfl)⟩
end Go.Proofs.Ytjohieongjnemaa
