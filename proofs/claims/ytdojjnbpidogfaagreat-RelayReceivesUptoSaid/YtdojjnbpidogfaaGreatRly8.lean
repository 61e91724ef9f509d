/-
  shallotref15.Receive.
-/
import Derived.Test.YtdojjnbpidogfaaGreatRly7
import Derived.Test.YtdojjnbpidogfaaGreatFrmC
namespace Go.Proofs.YtdojjnbpidogfaaGreat
open Go.RowKit
open Go.BigFrame

set_option maxRecDepth 100000 in
set_option maxHeartbeats 8000000 in
theorem rrecv_ref (A B : Option Addr) (n c d : Nat) (k p : List UInt8) (w : World) (hk : RdB w A n k) (hn : n ≤ 35184372088832) (hp : RdB w B 768 p) (hd : 768 ≤ d) :
    Calls Tryz.prog 28 #[.slice A n c, .slice B 768 d] w fun e w' => ∃ A1 c1 A2 c2 A3 c3, e = .returned (.tuple #[.agg (PaC (recP k p) (.slice A1 (recP k p).da.length c1)).toArray, .agg (RCc (recC k p) (.slice A3 0 c3) (.slice A2 (recB k p).length c2)).toArray, .int .i64 (recE k p : Nat)]) ∧
      OwnB w' w.heap.size A1 (recP k p).da.length c1 (recP k p).da ∧ OwnB w' w.heap.size A2 (recB k p).length c2 (recB k p) ∧ Later w w' := by
  have hpl := hp.len
  have C2 := bag_new w 86 pz0
  have C3 := C2.add (later_alloc _ (.cells re0.toArray 30)) (k := w.heap.size + 1) (by simp) (by omega) (Blk.new' _ _ re0 (by simp))
  clear C2
  have hU := hid (fun (w : World) h1 h2 => unwrapR_any A B n c d k p w h1 hn h2 hd)
  have hR : Hid (recE k p = if unwE k p ≠ 0 then unwE k p else if (unwC k p).kd = 1 then 10 else if (unwC k p).kd = 4 then 0 else if parE (unwB k p) ≠ 0 then parE (unwB k p) else if (parP (unwB k p)).kd ≠ (if (unwC k p).kd = 3 then 2 else 1) then 10 else 0) := hid rfl
  have hRC : Hid (recC k p = if recE k p = 0 then unwC k p else cmd0) := hid rfl
  have hRB : Hid (recB k p = if recE k p = 0 then unwB k p else []) := hid rfl
  have hRP : Hid (recP k p = if recE k p = 0 ∧ (unwC k p).kd ≠ 4 then parP (unwB k p) else prt0) := hid rfl
  have hBl := hid (fun h0 h1 => unwB_len (k := k) hpl h0 h1)
  have hUQ := hid (fun (h : (unwC k p).kd ≠ 1) => show unwQ k p = [] by rw [unwQ, if_neg (fun x => h x.2)])
  have hF := hid (fun (w : World) A' c' h hc => pparse_ref A' c' (unwB k p) w h hc)
  have hSl : (unwS k p).length = 32 := by
    unfold unwS
    split
    · exact subB_length (by rw [peelB_length]; omega)
    · exact List.length_replicate
  generalize recE k p = RE at *
  generalize recC k p = RC at *
  generalize recB k p = RB at *
  generalize recP k p = RP at *
  generalize unwE k p = UE at *
  generalize unwC k p = UC at *
  generalize unwQ k p = UQ at *
  generalize unwS k p = US at *
  generalize unwB k p = UB at *
  generalize parE UB = FE at *
  generalize parP UB = FP at *
  have hb0 := built_re0
  have hb1 := built_pa0
  have hz0 : re0.length = 22 := rfl
  go_enter Tryz.func28, Tryz.ntmps28
  go_wp2_with fail
  (refine (hU.out _ (hk.later C3.lat) (hp.later C3.lat)).mono ?_); rintro e w4 ⟨A3, c3, A4, c4, rfl, o3, o4, j4⟩
  clear o3
  have Ca := (C3.later j4).fresh (later_alloc w4 (.cells re0.toArray 30)) (Nat.le_refl _) (Blk.new w4 _ re0)
  have Cb := Ca.add (later_alloc _ (.cells (List.replicate 32 (Value.int .u8 0)).toArray 31)) (k := w4.heap.size + 1) (fun q hq e => by
    have := (Ca.blk q hq).lt
    simp at this
    omega) (by have := (C3.later j4).lat.size; omega) (Blk.new' _ _ (List.replicate 32 (Value.int .u8 0)) (by simp))
  have jn := (later_alloc w4 (.cells re0.toArray 30)).trans (later_alloc _ (.cells (List.replicate 32 (Value.int .u8 0)).toArray 31))
  have o5 := own_later (own_mono o4 C3.lat.size) jn
  clear C3 Ca j4 jn o4 hU
  by_cases h0 : UE = 0
  · subst h0
    replace hR := hid (hR.out.trans (if_neg (by simp)))
    cases hk1 : (UC.kd == 1)
    · have hk1n : UC.kd ≠ 1 := by simpa using hk1
      replace hR := hid (hR.out.trans (if_neg hk1n))
      have hB480 := hid (hBl.out (by trivial) hk1n)
      have hq0 := hUQ.out hk1n
      subst hq0
      clear hBl hUQ
      cases hk4 : (UC.kd == 4)
      · have hk4n : UC.kd ≠ 4 := by simpa using hk4
        replace hR := hid (hR.out.trans (if_neg hk4n))
        have o5' := o5
        rw [hB480.out] at o5'
        have hcap := OwnB.cap o5'
        go_wp2_with (first
          | (refine store_RC rfl rfl _ _ rfl (Cb.nth 1 rfl) rfl rfl rfl rfl hz0 ?_; intro w5 hb5 ho5
             have Cc := Cb.write 1 rfl ho5 hb5
             have o6 := own_onlyK o5 (Cb.nth 1 rfl) (by decide) ho5)
          | (refine store_B rfl rfl _ _ rfl (Cc.nth 0 rfl) rfl rfl hSl rfl ?_; intro w6 hb6 ho6
             have C6 := (Cc.write 0 rfl ho6 hb6).drop 1
             have o7 := own_onlyK o6 (Cc.nth 0 rfl) (by decide) ho6
             have x0 := (C6.nth 0 rfl).cellD 0 (RCc_cmd _ _ _ 0 _ rfl)
             have x8 := (C6.nth 0 rfl).cellD 21 (RCc_B _ _ _)
             rw [hB480.out] at x8
             have y0 := (C6.nth 0 rfl).lt)
          | fail)
        have o7' := o7
        rw [hB480.out] at o7'
        (refine (hF.out _ _ _ (OwnB.rd o7') hcap).mono ?_); rintro e w8 ⟨A8, c8, rfl, o8, j8⟩
        have C8 := C6.later j8
        have q7 := own_later (own_later o7 j8) (later_alloc w8 (.cells pz0.toArray 86))
        have q8 := own_later (own_mono o8 C6.lat.size) (later_alloc w8 (.cells pz0.toArray 86))
        have hnp : Blk (w8.alloc (.cells pz0.toArray 86)) w8.heap.size 86 pz0 := Blk.new w8 _ _
        clear o7 o7' o5 o5' o6 o8 j8 hF Cb Cc
        by_cases hf0 : FE = 0
        · subst hf0
          replace hR := hid (hR.out.trans (if_neg (by simp)))
          obtain ⟨mt, hmt⟩ : ∃ mt : UInt8, mt = if UC.kd = 3 then 2 else 1 := ⟨_, rfl⟩
          rw [← hmt] at hR
          have hm3 : Hid ((UC.kd == 3) = true → mt = 2) := hid (fun h => by rw [hmt, if_pos (by simpa using h)])
          have hm1 : Hid ((UC.kd == 3) = false → mt = 1) := hid (fun h => by rw [hmt, if_neg (by simpa using h)])
          clear hmt
          cases hk3 : (UC.kd == 3)
          · have hmt := hm1.out hk3
            subst hmt
            have hn2 : (FP.kd != 1) = !(FP.kd == 1) := rfl
            cases hfk : (FP.kd == 1)
            · rw [hfk] at hn2
              replace hR := hid (hR.out.trans (if_pos (show FP.kd ≠ 1 by simpa using hfk)))
              have hr0 : RE ≠ 0 := by rw [hR.out]; decide
              have HC : RC = cmd0 := by rw [hRC.out, if_neg hr0]
              have HB : RB = [] := by rw [hRB.out, if_neg hr0]
              have HP : RP = prt0 := by rw [hRP.out, if_neg (fun h => hr0 h.1)]
              replace HC := hid HC
              replace HB := hid HB
              replace HP := hid HP
              clear hr0
              go_wp2_with (first
                | (refine store_Pa rfl rfl _ _ rfl (Blk.new w8 _ pz0) rfl rfl rfl rfl ?_; intro w9 hb9 ho9
                   have C9 := C8.push (later_alloc _ _) (Nat.le_refl _) ho9 hb9
                   have r7 := own_onlyK q7 hnp (by decide) ho9
                   have r8 := own_onlyK q8 hnp (by decide) ho9
                   have z0 := (C9.nth 1 rfl).cellD 0 (RCc_cmd _ _ _ 0 _ rfl)
                   have z1 := (prt_cells (C9.nth 0 rfl)).1
                   have u0 := (C9.nth 0 rfl).lt
                   have u1 := (C9.nth 1 rfl).lt)
                | (refine wpList_build_w rfl 86 _ rfl (PaC prt0 (.slice none 0 0)) (by simp only [List.map_toArray, List.map_nil]; exact hb1) ?_)
                | (refine wpList_build_w rfl 30 _ rfl (RCc cmd0 nil8 nil8) (by simp only [List.map_toArray, List.map_nil]; exact hb0) ?_)
                | (refine store_Pa rfl rfl _ _ rfl (C9.nth 3 rfl) rfl rfl rfl rfl ?_; intro e7 eb7 eo7
                   have E7 := C9.write 3 rfl eo7 eb7)
                | (refine store_RC rfl rfl _ _ rfl (E7.nth 2 rfl) rfl rfl rfl rfl hz0 ?_; intro e8 eb8 eo8
                   have E8 := E7.write 2 rfl eo8 eb8)
                | fail)
              exact bodyPost_ret (results_cct rfl _ _ _ _ _ _ _ _ _ _ (E8.nth 3 rfl) rfl Tryz.underlying86 rfl (by rw [PaC_length]; exact size5p) (E8.nth 2 rfl) rfl Tryz.underlying30 rfl (by rw [RCc_length]; exact size22)) rfl ⟨none, 0, none, 0, none, 0, by rw [hR.out, HC.out, HB.out, HP.out]; rfl, nil_own _ _ (by rw [HP.out]; rfl), nil_own _ _ HB.out, E8.lat⟩
            · rw [hfk] at hn2
              replace hR := hid (hR.out.trans (if_neg (show ¬ FP.kd ≠ 1 by simpa using hfk)))
              have HC : RC = UC := by rw [hRC.out, if_pos hR.out]
              have HB : RB = UB := by rw [hRB.out, if_pos hR.out]
              have HP : RP = FP := by rw [hRP.out, if_pos ⟨hR.out, hk4n⟩]
              replace HC := hid HC
              replace HB := hid HB
              replace HP := hid HP
              go_wp2_with (first
                | (refine store_Pa rfl rfl _ _ rfl (Blk.new w8 _ pz0) rfl rfl rfl rfl ?_; intro w9 hb9 ho9
                   have C9 := C8.push (later_alloc _ _) (Nat.le_refl _) ho9 hb9
                   have r7 := own_onlyK q7 hnp (by decide) ho9
                   have r8 := own_onlyK q8 hnp (by decide) ho9
                   have z0 := (C9.nth 1 rfl).cellD 0 (RCc_cmd _ _ _ 0 _ rfl)
                   have z1 := (prt_cells (C9.nth 0 rfl)).1
                   have u0 := (C9.nth 0 rfl).lt
                   have u1 := (C9.nth 1 rfl).lt)
                | fail)
              have nA := C9.ne 0 2 rfl rfl (by decide)
              have nB := C9.ne 0 3 rfl rfl (by decide)
              have nC := C9.ne 1 2 rfl rfl (by decide)
              have nD := C9.ne 1 3 rfl rfl (by decide)
              have C10 := C9.drew
              clear z0 z1 u0 u1
              refine wp_region_partsS (Spared w9 [w.heap.size, w.heap.size + 1]) [([0, 1], 2), ([], 3)] [4] (by as_aux_lemma => kernel_rfl) (by as_aux_lemma => kernel_rfl) (by intro _ _ d _ _ h; cases d <;> exact h) ⟨Spared.refl _ _, ?_⟩
              simp only [wpPartsS, pick, List.getElem?_cons_succ, List.getElem?_cons_zero, Option.toList_some, List.cons_append, List.nil_append]
              repeat (first | go_big_quiet_skip | (go_big_quiet_want; (first | refine quiet_late _ _ rfl 0 (PaC FP (.slice A8 FP.da.length c8)) (C9.nth 0 rfl) (by intro b hb; simp only [List.mem_cons, List.not_mem_nil, or_false] at hb; rcases hb with rfl | rfl <;> first | exact nA | exact nB) rfl (all_cells _) _ Tryz.underlying86 rfl (by rw [PaC_length]; exact size5p) ?_ | refine quiet_late _ _ rfl 0 (RCc UC (.slice A3 0 c3) (.slice A4 UB.length c4)) (C9.nth 1 rfl) (by intro b hb; simp only [List.mem_cons, List.not_mem_nil, or_false] at hb; rcases hb with rfl | rfl <;> first | exact nC | exact nD) rfl (all_cells _) _ Tryz.underlying30 rfl (by rw [RCc_length]; exact size22) ?_); simp only [Act.put, List.setIfInBounds_toArray, List.set_cons_succ, List.set_cons_zero]; go_big_quiet_on) | (go_big_quiet_step (fail)) | (go_big_quiet_want; go_big_quiet_op; refine ⟨_, fun _ _ => rfl, ?_⟩; go_big_quiet_on))
              refine wpQuiet_nil ?_
              go_wp2_with (first
                | (refine store_Pa rfl rfl _ _ rfl (C10.nth 3 rfl) rfl rfl rfl rfl ?_; intro w11 hb11 ho11
                   have C11 := C10.write 3 rfl ho11 hb11)
                | fail)
              have S11 := (Spared.refl w9 [w.heap.size, w.heap.size + 1]).only ho11 (by simp)
              refine ⟨S11, ?_⟩
              try simp only [wpPartsS, pick, List.getElem?_cons_succ, List.getElem?_cons_zero, Option.toList_some, List.cons_append, List.nil_append]
              repeat (first | (go_big_quiet_step (fail)) | (go_big_quiet_want; go_big_quiet_op; refine ⟨_, fun _ _ => rfl, ?_⟩; go_big_quiet_on))
              refine wpQuiet_nil ?_
              go_wp2_with (first
                | (refine store_RC rfl rfl _ _ rfl (C11.nth 2 rfl) rfl rfl rfl rfl hz0 ?_; intro w12 hb12 ho12
                   have C12 := C11.write 2 rfl ho12 hb12)
                | fail)
              refine ⟨S11.only ho12 (by simp), ?_⟩
              try simp only [wpPartsS, pick, List.getElem?_cons_succ, List.getElem?_cons_zero, Option.toList_some, List.cons_append, List.nil_append]
              repeat (first | (go_big_quiet_step (fail)) | (go_big_quiet_want; go_big_quiet_op; refine ⟨_, fun _ _ => rfl, ?_⟩; go_big_quiet_on))
              refine wpQuiet_nil ?_
              go_wp2_with fail
              have s7 := own_onlyK (own_onlyK (own_later r7 (later_drew w9)) (C10.nth 3 rfl) (by decide) ho11) (C11.nth 2 rfl) (by decide) ho12
              have s8 := own_onlyK (own_onlyK (own_later r8 (later_drew w9)) (C10.nth 3 rfl) (by decide) ho11) (C11.nth 2 rfl) (by decide) ho12
              exact bodyPost_ret (results_cct rfl _ _ _ _ _ _ _ _ _ _ (C12.nth 3 rfl) rfl Tryz.underlying86 rfl (by rw [PaC_length]; exact size5p) (C12.nth 2 rfl) rfl Tryz.underlying30 rfl (by rw [RCc_length]; exact size22)) rfl ⟨A8, c8, A4, c4, A3, c3, by rw [hR.out, HC.out, HB.out, HP.out]; rfl, by rw [HP.out]; exact s8, by rw [HB.out]; exact s7, C12.lat⟩
          · have hmt := hm3.out hk3
            subst hmt
            have hn2 : (FP.kd != 2) = !(FP.kd == 2) := rfl
            cases hfk : (FP.kd == 2)
            · rw [hfk] at hn2
              replace hR := hid (hR.out.trans (if_pos (show FP.kd ≠ 2 by simpa using hfk)))
              have hr0 : RE ≠ 0 := by rw [hR.out]; decide
              have HC : RC = cmd0 := by rw [hRC.out, if_neg hr0]
              have HB : RB = [] := by rw [hRB.out, if_neg hr0]
              have HP : RP = prt0 := by rw [hRP.out, if_neg (fun h => hr0 h.1)]
              replace HC := hid HC
              replace HB := hid HB
              replace HP := hid HP
              clear hr0
              go_wp2_with (first
                | (refine store_Pa rfl rfl _ _ rfl (Blk.new w8 _ pz0) rfl rfl rfl rfl ?_; intro w9 hb9 ho9
                   have C9 := C8.push (later_alloc _ _) (Nat.le_refl _) ho9 hb9
                   have r7 := own_onlyK q7 hnp (by decide) ho9
                   have r8 := own_onlyK q8 hnp (by decide) ho9
                   have z0 := (C9.nth 1 rfl).cellD 0 (RCc_cmd _ _ _ 0 _ rfl)
                   have z1 := (prt_cells (C9.nth 0 rfl)).1
                   have u0 := (C9.nth 0 rfl).lt
                   have u1 := (C9.nth 1 rfl).lt)
                | (refine wpList_build_w rfl 86 _ rfl (PaC prt0 (.slice none 0 0)) (by simp only [List.map_toArray, List.map_nil]; exact hb1) ?_)
                | (refine wpList_build_w rfl 30 _ rfl (RCc cmd0 nil8 nil8) (by simp only [List.map_toArray, List.map_nil]; exact hb0) ?_)
                | (refine store_Pa rfl rfl _ _ rfl (C9.nth 3 rfl) rfl rfl rfl rfl ?_; intro e7 eb7 eo7
                   have E7 := C9.write 3 rfl eo7 eb7)
                | (refine store_RC rfl rfl _ _ rfl (E7.nth 2 rfl) rfl rfl rfl rfl hz0 ?_; intro e8 eb8 eo8
                   have E8 := E7.write 2 rfl eo8 eb8)
                | fail)
              exact bodyPost_ret (results_cct rfl _ _ _ _ _ _ _ _ _ _ (E8.nth 3 rfl) rfl Tryz.underlying86 rfl (by rw [PaC_length]; exact size5p) (E8.nth 2 rfl) rfl Tryz.underlying30 rfl (by rw [RCc_length]; exact size22)) rfl ⟨none, 0, none, 0, none, 0, by rw [hR.out, HC.out, HB.out, HP.out]; rfl, nil_own _ _ (by rw [HP.out]; rfl), nil_own _ _ HB.out, E8.lat⟩
            · rw [hfk] at hn2
              replace hR := hid (hR.out.trans (if_neg (show ¬ FP.kd ≠ 2 by simpa using hfk)))
              have HC : RC = UC := by rw [hRC.out, if_pos hR.out]
              have HB : RB = UB := by rw [hRB.out, if_pos hR.out]
              have HP : RP = FP := by rw [hRP.out, if_pos ⟨hR.out, hk4n⟩]
              replace HC := hid HC
              replace HB := hid HB
              replace HP := hid HP
              go_wp2_with (first
                | (refine store_Pa rfl rfl _ _ rfl (Blk.new w8 _ pz0) rfl rfl rfl rfl ?_; intro w9 hb9 ho9
                   have C9 := C8.push (later_alloc _ _) (Nat.le_refl _) ho9 hb9
                   have r7 := own_onlyK q7 hnp (by decide) ho9
                   have r8 := own_onlyK q8 hnp (by decide) ho9
                   have z0 := (C9.nth 1 rfl).cellD 0 (RCc_cmd _ _ _ 0 _ rfl)
                   have z1 := (prt_cells (C9.nth 0 rfl)).1
                   have u0 := (C9.nth 0 rfl).lt
                   have u1 := (C9.nth 1 rfl).lt)
                | fail)
              have nA := C9.ne 0 2 rfl rfl (by decide)
              have nB := C9.ne 0 3 rfl rfl (by decide)
              have nC := C9.ne 1 2 rfl rfl (by decide)
              have nD := C9.ne 1 3 rfl rfl (by decide)
              have C10 := C9.drew
              clear z0 z1 u0 u1
              refine wp_region_partsS (Spared w9 [w.heap.size, w.heap.size + 1]) [([0, 1], 2), ([], 3)] [4] (by as_aux_lemma => kernel_rfl) (by as_aux_lemma => kernel_rfl) (by intro _ _ d _ _ h; cases d <;> exact h) ⟨Spared.refl _ _, ?_⟩
              simp only [wpPartsS, pick, List.getElem?_cons_succ, List.getElem?_cons_zero, Option.toList_some, List.cons_append, List.nil_append]
              repeat (first | go_big_quiet_skip | (go_big_quiet_want; (first | refine quiet_late _ _ rfl 0 (PaC FP (.slice A8 FP.da.length c8)) (C9.nth 0 rfl) (by intro b hb; simp only [List.mem_cons, List.not_mem_nil, or_false] at hb; rcases hb with rfl | rfl <;> first | exact nA | exact nB) rfl (all_cells _) _ Tryz.underlying86 rfl (by rw [PaC_length]; exact size5p) ?_ | refine quiet_late _ _ rfl 0 (RCc UC (.slice A3 0 c3) (.slice A4 UB.length c4)) (C9.nth 1 rfl) (by intro b hb; simp only [List.mem_cons, List.not_mem_nil, or_false] at hb; rcases hb with rfl | rfl <;> first | exact nC | exact nD) rfl (all_cells _) _ Tryz.underlying30 rfl (by rw [RCc_length]; exact size22) ?_); simp only [Act.put, List.setIfInBounds_toArray, List.set_cons_succ, List.set_cons_zero]; go_big_quiet_on) | (go_big_quiet_step (fail)) | (go_big_quiet_want; go_big_quiet_op; refine ⟨_, fun _ _ => rfl, ?_⟩; go_big_quiet_on))
              refine wpQuiet_nil ?_
              go_wp2_with (first
                | (refine store_Pa rfl rfl _ _ rfl (C10.nth 3 rfl) rfl rfl rfl rfl ?_; intro w11 hb11 ho11
                   have C11 := C10.write 3 rfl ho11 hb11)
                | fail)
              have S11 := (Spared.refl w9 [w.heap.size, w.heap.size + 1]).only ho11 (by simp)
              refine ⟨S11, ?_⟩
              try simp only [wpPartsS, pick, List.getElem?_cons_succ, List.getElem?_cons_zero, Option.toList_some, List.cons_append, List.nil_append]
              repeat (first | (go_big_quiet_step (fail)) | (go_big_quiet_want; go_big_quiet_op; refine ⟨_, fun _ _ => rfl, ?_⟩; go_big_quiet_on))
              refine wpQuiet_nil ?_
              go_wp2_with (first
                | (refine store_RC rfl rfl _ _ rfl (C11.nth 2 rfl) rfl rfl rfl rfl hz0 ?_; intro w12 hb12 ho12
                   have C12 := C11.write 2 rfl ho12 hb12)
                | fail)
              refine ⟨S11.only ho12 (by simp), ?_⟩
              try simp only [wpPartsS, pick, List.getElem?_cons_succ, List.getElem?_cons_zero, Option.toList_some, List.cons_append, List.nil_append]
              repeat (first | (go_big_quiet_step (fail)) | (go_big_quiet_want; go_big_quiet_op; refine ⟨_, fun _ _ => rfl, ?_⟩; go_big_quiet_on))
              refine wpQuiet_nil ?_
              go_wp2_with fail
              have s7 := own_onlyK (own_onlyK (own_later r7 (later_drew w9)) (C10.nth 3 rfl) (by decide) ho11) (C11.nth 2 rfl) (by decide) ho12
              have s8 := own_onlyK (own_onlyK (own_later r8 (later_drew w9)) (C10.nth 3 rfl) (by decide) ho11) (C11.nth 2 rfl) (by decide) ho12
              exact bodyPost_ret (results_cct rfl _ _ _ _ _ _ _ _ _ _ (C12.nth 3 rfl) rfl Tryz.underlying86 rfl (by rw [PaC_length]; exact size5p) (C12.nth 2 rfl) rfl Tryz.underlying30 rfl (by rw [RCc_length]; exact size22)) rfl ⟨A8, c8, A4, c4, A3, c3, by rw [hR.out, HC.out, HB.out, HP.out]; rfl, by rw [HP.out]; exact s8, by rw [HB.out]; exact s7, C12.lat⟩
        · have hne : ((FE : Int) != 0) = true := by simp; omega
          replace hR := hid (hR.out.trans (if_pos hf0))
          have hr0 : RE ≠ 0 := by rw [hR.out]; exact hf0
          have HC : RC = cmd0 := by rw [hRC.out, if_neg hr0]
          have HB : RB = [] := by rw [hRB.out, if_neg hr0]
          have HP : RP = prt0 := by rw [hRP.out, if_neg (fun h => hr0 h.1)]
          replace HC := hid HC
          replace HB := hid HB
          replace HP := hid HP
          clear hr0
          go_wp2_with (first
            | (refine store_Pa rfl rfl _ _ rfl (Blk.new w8 _ pz0) rfl rfl rfl rfl ?_; intro w9 hb9 ho9
               have C9 := C8.push (later_alloc _ _) (Nat.le_refl _) ho9 hb9
               have r7 := own_onlyK q7 hnp (by decide) ho9
               have r8 := own_onlyK q8 hnp (by decide) ho9
               have z0 := (C9.nth 1 rfl).cellD 0 (RCc_cmd _ _ _ 0 _ rfl)
               have z1 := (prt_cells (C9.nth 0 rfl)).1
               have u0 := (C9.nth 0 rfl).lt
               have u1 := (C9.nth 1 rfl).lt)
            | (refine wpList_build_w rfl 86 _ rfl (PaC prt0 (.slice none 0 0)) (by simp only [List.map_toArray, List.map_nil]; exact hb1) ?_)
            | (refine wpList_build_w rfl 30 _ rfl (RCc cmd0 nil8 nil8) (by simp only [List.map_toArray, List.map_nil]; exact hb0) ?_)
            | (refine store_Pa rfl rfl _ _ rfl (C9.nth 3 rfl) rfl rfl rfl rfl ?_; intro e7 eb7 eo7
               have E7 := C9.write 3 rfl eo7 eb7)
            | (refine store_RC rfl rfl _ _ rfl (E7.nth 2 rfl) rfl rfl rfl rfl hz0 ?_; intro e8 eb8 eo8
               have E8 := E7.write 2 rfl eo8 eb8)
            | fail)
          exact bodyPost_ret (results_cct rfl _ _ _ _ _ _ _ _ _ _ (E8.nth 3 rfl) rfl Tryz.underlying86 rfl (by rw [PaC_length]; exact size5p) (E8.nth 2 rfl) rfl Tryz.underlying30 rfl (by rw [RCc_length]; exact size22)) rfl ⟨none, 0, none, 0, none, 0, by rw [hR.out, HC.out, HB.out, HP.out]; rfl, nil_own _ _ (by rw [HP.out]; rfl), nil_own _ _ HB.out, E8.lat⟩
      · have hk4y : UC.kd = 4 := by simpa using hk4
        replace hR := hid (hR.out.trans (if_pos hk4y))
        have HC : RC = UC := by rw [hRC.out, if_pos hR.out]
        have HB : RB = UB := by rw [hRB.out, if_pos hR.out]
        have HP : RP = prt0 := by rw [hRP.out, if_neg (fun h => h.2 hk4y)]
        replace HC := hid HC
        replace HB := hid HB
        replace HP := hid HP
        clear hk4y
        go_wp2_with (first
          | (refine store_RC rfl rfl _ _ rfl (Cb.nth 1 rfl) rfl rfl rfl rfl hz0 ?_; intro w5 hb5 ho5
             have Cc := Cb.write 1 rfl ho5 hb5
             have o6 := own_onlyK o5 (Cb.nth 1 rfl) (by decide) ho5)
          | (refine store_B rfl rfl _ _ rfl (Cc.nth 0 rfl) rfl rfl hSl rfl ?_; intro w6 hb6 ho6
             have C6 := (Cc.write 0 rfl ho6 hb6).drop 1
             have o7 := own_onlyK o6 (Cc.nth 0 rfl) (by decide) ho6
             have x0 := (C6.nth 0 rfl).cellD 0 (RCc_cmd _ _ _ 0 _ rfl)
             have x8 := (C6.nth 0 rfl).cellD 21 (RCc_B _ _ _)
             have y0 := (C6.nth 0 rfl).lt)
          | fail)
        have nA := C6.ne 0 1 rfl rfl (by decide)
        have nB := C6.ne 0 2 rfl rfl (by decide)
        have C8 := C6.drew
        refine wp_region_partsS (Spared w6 [w.heap.size, w.heap.size + 1]) [([0, 1], 2), ([], 3)] [4] (by as_aux_lemma => kernel_rfl) (by as_aux_lemma => kernel_rfl) (by intro _ _ d _ _ h; cases d <;> exact h) ⟨Spared.refl _ _, ?_⟩
        simp only [wpPartsS, pick, List.getElem?_cons_succ, List.getElem?_cons_zero, Option.toList_some, List.cons_append, List.nil_append]
        repeat (first | go_big_quiet_skip | (go_big_quiet_want; (first | refine quiet_build _ _ rfl (PaC prt0 (.slice none 0 0)) (by simp only [List.map_toArray, List.map_nil]; exact hb1) ?_ | refine quiet_late _ _ rfl 0 (RCc UC (.slice A3 0 c3) (.slice A4 UB.length c4)) (C6.nth 0 rfl) (by intro b hb; simp only [List.mem_cons, List.not_mem_nil, or_false] at hb; rcases hb with rfl | rfl <;> first | exact nA | exact nB) rfl (all_cells _) _ Tryz.underlying30 rfl (by rw [RCc_length]; exact size22) ?_); simp only [Act.put, List.setIfInBounds_toArray, List.set_cons_succ, List.set_cons_zero]; go_big_quiet_on) | (go_big_quiet_step (fail)) | (go_big_quiet_want; go_big_quiet_op; refine ⟨_, fun _ _ => rfl, ?_⟩; go_big_quiet_on))
        refine wpQuiet_nil ?_
        go_wp2_with (first
          | (refine store_Pa rfl rfl _ _ rfl (C8.nth 2 rfl) rfl rfl rfl rfl ?_; intro w9 hb9 ho9
             have C9 := C8.write 2 rfl ho9 hb9)
          | fail)
        have S9 := (Spared.refl w6 [w.heap.size, w.heap.size + 1]).only ho9 (by simp)
        refine ⟨S9, ?_⟩
        try simp only [wpPartsS, pick, List.getElem?_cons_succ, List.getElem?_cons_zero, Option.toList_some, List.cons_append, List.nil_append]
        repeat (first | (go_big_quiet_step (fail)) | (go_big_quiet_want; go_big_quiet_op; refine ⟨_, fun _ _ => rfl, ?_⟩; go_big_quiet_on))
        refine wpQuiet_nil ?_
        go_wp2_with (first
          | (refine store_RC rfl rfl _ _ rfl (C9.nth 1 rfl) rfl rfl rfl rfl hz0 ?_; intro w10 hb10 ho10
             have C10 := C9.write 1 rfl ho10 hb10)
          | fail)
        refine ⟨S9.only ho10 (by simp), ?_⟩
        try simp only [wpPartsS, pick, List.getElem?_cons_succ, List.getElem?_cons_zero, Option.toList_some, List.cons_append, List.nil_append]
        repeat (first | (go_big_quiet_step (fail)) | (go_big_quiet_want; go_big_quiet_op; refine ⟨_, fun _ _ => rfl, ?_⟩; go_big_quiet_on))
        refine wpQuiet_nil ?_
        go_wp2_with fail
        have o10 := own_onlyK (own_onlyK (own_later o7 (later_drew w6)) (C8.nth 2 rfl) (by decide) ho9) (C9.nth 1 rfl) (by decide) ho10
        exact bodyPost_ret (results_cct rfl _ _ _ _ _ _ _ _ _ _ (C10.nth 2 rfl) rfl Tryz.underlying86 rfl (by rw [PaC_length]; exact size5p) (C10.nth 1 rfl) rfl Tryz.underlying30 rfl (by rw [RCc_length]; exact size22)) rfl ⟨none, 0, A4, c4, A3, c3, by rw [hR.out, HC.out, HB.out, HP.out]; rfl, nil_own _ _ (by rw [HP.out]; rfl), by rw [HB.out]; exact o10, C10.lat⟩
    · have hk1y : UC.kd = 1 := by simpa using hk1
      replace hR := hid (hR.out.trans (if_pos hk1y))
      have hr0 : RE ≠ 0 := by rw [hR.out]; decide
      have HC : RC = cmd0 := by rw [hRC.out, if_neg hr0]
      have HB : RB = [] := by rw [hRB.out, if_neg hr0]
      have HP : RP = prt0 := by rw [hRP.out, if_neg (fun h => hr0 h.1)]
      replace HC := hid HC
      replace HB := hid HB
      replace HP := hid HP
      clear hr0
      clear hk1y hBl hUQ
      go_wp2_with (first
        | (refine store_RC rfl rfl _ _ rfl (Cb.nth 1 rfl) rfl rfl rfl rfl hz0 ?_; intro w5 hb5 ho5
           have Cc := Cb.write 1 rfl ho5 hb5
           have o6 := own_onlyK o5 (Cb.nth 1 rfl) (by decide) ho5)
        | (refine store_B rfl rfl _ _ rfl (Cc.nth 0 rfl) rfl rfl hSl rfl ?_; intro w6 hb6 ho6
           have C6 := (Cc.write 0 rfl ho6 hb6).drop 1
           have o7 := own_onlyK o6 (Cc.nth 0 rfl) (by decide) ho6
           have x0 := (C6.nth 0 rfl).cellD 0 (RCc_cmd _ _ _ 0 _ rfl)
           have x8 := (C6.nth 0 rfl).cellD 21 (RCc_B _ _ _)
           have y0 := (C6.nth 0 rfl).lt)
        | (refine wpList_build_w rfl 86 _ rfl (PaC prt0 (.slice none 0 0)) (by simp only [List.map_toArray, List.map_nil]; exact hb1) ?_)
        | (refine wpList_build_w rfl 30 _ rfl (RCc cmd0 nil8 nil8) (by simp only [List.map_toArray, List.map_nil]; exact hb0) ?_)
        | (refine store_Pa rfl rfl _ _ rfl (C6.nth 2 rfl) rfl rfl rfl rfl ?_; intro e7 eb7 eo7
           have E7 := C6.write 2 rfl eo7 eb7)
        | (refine store_RC rfl rfl _ _ rfl (E7.nth 1 rfl) rfl rfl rfl rfl hz0 ?_; intro e8 eb8 eo8
           have E8 := E7.write 1 rfl eo8 eb8)
        | fail)
      exact bodyPost_ret (results_cct rfl _ _ _ _ _ _ _ _ _ _ (E8.nth 2 rfl) rfl Tryz.underlying86 rfl (by rw [PaC_length]; exact size5p) (E8.nth 1 rfl) rfl Tryz.underlying30 rfl (by rw [RCc_length]; exact size22)) rfl ⟨none, 0, none, 0, none, 0, by rw [hR.out, HC.out, HB.out, HP.out]; rfl, nil_own _ _ (by rw [HP.out]; rfl), nil_own _ _ HB.out, E8.lat⟩
  · have hne : ((UE : Int) != 0) = true := by simp; omega
    replace hR := hid (hR.out.trans (if_pos h0))
    have hr0 : RE ≠ 0 := by rw [hR.out]; exact h0
    have HC : RC = cmd0 := by rw [hRC.out, if_neg hr0]
    have HB : RB = [] := by rw [hRB.out, if_neg hr0]
    have HP : RP = prt0 := by rw [hRP.out, if_neg (fun h => hr0 h.1)]
    replace HC := hid HC
    replace HB := hid HB
    replace HP := hid HP
    clear hr0
    go_wp2_with (first
      | (refine store_RC rfl rfl _ _ rfl (Cb.nth 1 rfl) rfl rfl rfl rfl hz0 ?_; intro w5 hb5 ho5
         have Cc := Cb.write 1 rfl ho5 hb5
         have o6 := own_onlyK o5 (Cb.nth 1 rfl) (by decide) ho5)
      | (refine store_B rfl rfl _ _ rfl (Cc.nth 0 rfl) rfl rfl hSl rfl ?_; intro w6 hb6 ho6
         have C6 := (Cc.write 0 rfl ho6 hb6).drop 1
         have o7 := own_onlyK o6 (Cc.nth 0 rfl) (by decide) ho6)
      | (refine wpList_build_w rfl 86 _ rfl (PaC prt0 (.slice none 0 0)) (by simp only [List.map_toArray, List.map_nil]; exact hb1) ?_)
      | (refine wpList_build_w rfl 30 _ rfl (RCc cmd0 nil8 nil8) (by simp only [List.map_toArray, List.map_nil]; exact hb0) ?_)
      | (refine store_Pa rfl rfl _ _ rfl (C6.nth 2 rfl) rfl rfl rfl rfl ?_; intro e7 eb7 eo7
         have E7 := C6.write 2 rfl eo7 eb7)
      | (refine store_RC rfl rfl _ _ rfl (E7.nth 1 rfl) rfl rfl rfl rfl hz0 ?_; intro e8 eb8 eo8
         have E8 := E7.write 1 rfl eo8 eb8)
      | fail)
    exact bodyPost_ret (results_cct rfl _ _ _ _ _ _ _ _ _ _ (E8.nth 2 rfl) rfl Tryz.underlying86 rfl (by rw [PaC_length]; exact size5p) (E8.nth 1 rfl) rfl Tryz.underlying30 rfl (by rw [RCc_length]; exact size22)) rfl ⟨none, 0, none, 0, none, 0, by rw [hR.out, HC.out, HB.out, HP.out]; rfl, nil_own _ _ (by rw [HP.out]; rfl), nil_own _ _ HB.out, E8.lat⟩
end Go.Proofs.YtdojjnbpidogfaaGreat

