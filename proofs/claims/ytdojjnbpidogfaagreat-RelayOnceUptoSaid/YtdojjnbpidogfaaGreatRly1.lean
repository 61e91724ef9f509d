/-
  RelayUnwraps: its walk.
-/
import Derived.Test.YtdojjnbpidogfaaGreatRcF
namespace Go.Proofs.YtdojjnbpidogfaaGreat
open Go.RowKit
open Go.BigFrame

theorem unw_err {k p : List UInt8} (h : unwE k p ≠ 0) : unwC k p = cmd0 ∧ unwP k p = z768 ∧ unwB k p = [] := by
  by_cases hm : multE k (p.take 32) = 0
  · have hr : relE (peelB k (p.take 32)) p ≠ 0 := by rwa [unwE, if_pos hm] at h
    exact ⟨by rw [unwC, if_pos hm, relC, openC, if_neg (show ¬ openE (p.take 288) (peelB k (p.take 32)) = 0 from hr)], by rw [unwP, if_pos hm, relP, if_neg (fun x => hr x.1)]; rfl, by rw [unwB, if_pos hm, relB, if_neg (fun x => hr x.1)]⟩
  · exact ⟨by rw [unwC, if_neg hm], by rw [unwP, if_neg hm]; rfl, by rw [unwB, if_neg hm]⟩
theorem unwP_length (k p : List UInt8) (hp : p.length = 768) : (unwP k p).length = 768 := by
  unfold unwP
  split
  · exact relP_length _ _ hp (peelB_length _ _)
  · exact List.length_replicate
theorem unw_last {k p : List UInt8} (h : (unwC k p).kd ≠ 1) : unwP k p = z768 := by
  by_cases hm : multE k (p.take 32) = 0
  · rw [unwC, if_pos hm] at h
    rw [unwP, if_pos hm, relP, if_neg (fun x => h x.2)]
    rfl
  · rw [unwP, if_neg hm]
    rfl
theorem unwQ_cases (k p : List UInt8) (hp : p.length = 768) (h0 : unwE k p = 0) : ((unwQ k p).length = 0 ∧ unwP k p = z768) ∨ ((unwQ k p).length = 768 ∧ unwQ k p = unwP k p) := by
  by_cases h : (unwC k p).kd = 1
  · have e : unwQ k p = unwP k p := by rw [unwQ, if_pos ⟨h0, h⟩]
    exact .inr ⟨by rw [e, unwP_length k p hp], e⟩
  · exact .inl ⟨by rw [unwQ, if_neg (fun x => h x.2)]; rfl, unw_last h⟩
theorem unwB_small (k p : List UInt8) (hp : p.length = 768) : (unwB k p).length ≤ 480 := by
  unfold unwB
  split
  · unfold relB
    split
    · rw [relBody_length _ _ hp (peelB_length _ _)]
      omega
    · simp
  · simp
section
variable {ops : Array Oper} {rest : List Oper} {o : Oper} {a : Act}
theorem makes_peel (hw : Region.wanted o (yielded ops a.tmps) = true) (ho : o.op = .alloc 46) :
    Makes Tryz.prog ops o (fun g => .pointer (some ⟨g, 0, none⟩)) (.cells Tryz.zeroCells46 46) a :=
  ⟨hw, fun w => by
    unfold execOp
    rw [ho]
    simp [go_sem]⟩
end
theorem unwQ_small (k p : List UInt8) (hp : p.length = 768) : (unwQ k p).length ≤ 768 := by
  unfold unwQ
  split
  · rw [unwP_length k p hp]
    omega
  · simp
theorem none_of {C : Cmd} {P B : List UInt8} (h : C = cmd0 ∧ P = z768 ∧ B = []) (A : Option Addr) (c : Nat) (w : World) : Calls Tryz.prog 16 #[.agg (PC C P (.slice A B.length c)).toArray] w fun e w' => e = .returned (.bool true) ∧ Later w w' := by
  obtain ⟨rfl, rfl, rfl⟩ := h
  exact none_ok A c w
set_option maxRecDepth 100000 in
set_option maxHeartbeats 4000000 in
theorem relayUnwraps_walk (A B : Option Addr) (n c m d : Nat) (k p : List UInt8) (w : World) (hk : RdB w A n k) (hn : n ≤ 1048576) (hp : RdB w B m p) (hm : m ≤ 1048576) (hd : m ≤ d) :
    Calls Tryz.prog 4 #[.slice A n c, .slice B m d] w fun e w' => e = .returned (.bool true) ∧ Later w w' := by
  by_cases h768 : m = 768
  · subst h768
    have hpl := hp.len
    have HZ := hid zcP
    have HZp := hid zcPe
    have l0 : ((List.replicate 768 (0 : UInt8)).map W8).length = 768 := by rw [List.length_map, List.length_replicate]
    have hPa := hid (fun (w : World) h => parse15_any B d p w h)
    have hCo := hid (fun (w : World) h => copy_any A n c k w h (by omega))
    have hU := hid (fun (w : World) A' c' h => unwrap_any A' n c' k p w h (by omega) hpl)
    have hR := hid (fun (w : World) h1 h2 => unwrapR_any A B n c d k p w h1 (by omega) h2 hd)
    have hPl := unwP_length k p hpl
    have hSl : (unwS k p).length = 32 := by
      unfold unwS
      split
      · exact subB_length (by rw [peelB_length]; omega)
      · exact List.length_replicate
    have hQc := hid (unwQ_cases k p hpl)
    have hEr := hid (fun h => unw_err (k := k) (p := p) h)
    have hBs := unwB_small k p hpl
    have hQs := unwQ_small k p hpl
    have hzl : (PC cmd0 z768 nil8).length = 789 := PC_length _ z768_length _
    have hz0 : re0.length = 22 := rfl
    generalize List.replicate 768 (0 : UInt8) = Z at *
    generalize unwE k p = UE at *
    generalize unwC k p = UC at *
    generalize unwP k p = UP at *
    generalize unwB k p = UB at *
    generalize unwQ k p = UQ at *
    generalize unwS k p = US at *
    go_enter Tryz.func4, Tryz.ntmps4
    go_wp2_with fail
    (with_reducible refine (awake15 _).mono ?_); rintro e w1 ⟨rfl, j1⟩
    go_wp2_with fail
    (refine (hPa.out _ (hp.later j1)).mono ?_); rintro e w2 ⟨rfl, j2⟩
    have C0 := ((Bag.none w).later j1).later j2
    go_wp2_with (first
      | (refine store_Pk rfl rfl _ _ rfl ((Blk.new w2 _ Tryz.zeroCells40.toList).cast HZ.out) rfl rfl hpl l0 ?_; intro w3 hb3 ho3
         have C1 := C0.push (later_alloc _ _) (Nat.le_refl _) ho3 hb3)
      | fail)
    have C2 := C1.drew
    clear C0 C1 hb3 ho3 j1 j2
    refine wp_region_makers [0, 2] [([], 1, 1), ([], 1, 3), ([4, 5, 6], 2, 7)] [] [8, 9] [7] (fun _ => (fun g => .pointer (some ⟨g, 0, none⟩), .cells Tryz.zeroCells46 46)) (by as_aux_lemma => kernel_rfl) (by as_aux_lemma => kernel_rfl) (by intro _ _ d _ _ h; cases d <;> exact h) (by intro _ _ d _ _ h; cases d <;> exact h) ?_
    simp only [pick, List.getElem?_cons_succ, List.getElem?_cons_zero, Option.toList_some, List.cons_append, List.nil_append]
    repeat (first | go_big_quiet_skip | (go_big_quiet_want; (refine quiet_Y 0 768 _ rfl (C2.nth 0 rfl) rfl Tryz.underlying40 rfl size768 (subB_all _ _ hpl) hpl ?_); simp only [Act.put, List.setIfInBounds_toArray, List.set_cons_succ, List.set_cons_zero]; go_big_quiet_on) | (go_big_quiet_step (fail)))
    refine wpQuiet_nil ?_
    refine ⟨?mk, ?_⟩
    case mk =>
      refine ⟨fun o ho => ?_, trivial⟩
      simp only [List.getElem?_cons_succ, List.getElem?_cons_zero, Option.some.injEq] at ho
      subst ho
      exact makes_peel rfl rfl
    simp only [wpPartsM, pick, List.getElem?_cons_succ, List.getElem?_cons_zero, Option.toList_some, List.cons_append, List.nil_append]
    refine wpQuiet_nil ?_
    intro m1 j1
    go_wp2_with fail
    (refine (hCo.out _ (hk.later (C2.lat.trans j1))).mono ?_); rintro e m2 ⟨A2, c2, rfl, o2, j2⟩
    go_wp2_with fail
    try refine ⟨by first | assumption | exact later_drew _ | exact later_alloc _ _ | exact Later.refl _, ?_⟩
    try simp only [wpParts, pick, List.getElem?_cons_succ, List.getElem?_cons_zero, Option.toList_some, List.cons_append, List.nil_append]
    repeat (go_big_quiet_step (fail))
    refine wpQuiet_nil ?_
    intro m3 j3
    go_wp2_with fail
    (refine (hU.out _ _ _ (show OwnB m3 _ A2 n c2 k from own_later o2 j3).rd).mono ?_); rintro e m4 ⟨A4, c4, rfl, o4, j4⟩
    go_wp2_with fail
    try refine ⟨by first | assumption | exact later_drew _ | exact later_alloc _ _ | exact Later.refl _, ?_⟩
    try simp only [wpParts, pick, List.getElem?_cons_succ, List.getElem?_cons_zero, Option.toList_some, List.cons_append, List.nil_append]
    repeat (go_big_quiet_step (fail))
    refine wpQuiet_nil ?_
    intro m5 gq j5 hgq _ hbq
    refine wpQuiet_nil ?_
    intro m6 j6
    simp only [Option.bind_some, Act.put, List.setIfInBounds_toArray, List.set_cons_succ, List.set_cons_zero]
    have jj := (((j1.trans j2).trans (j3.trans j4)).trans j5).trans j6
    have hB6 : Blk m6 gq 46 (PC cmd0 z768 nil8) := (Blk.later (show Blk m5 gq _ Tryz.zeroCells46.toList from hbq) j6).cast HZp.out
    have o5 := own_later (own_later o4 j5) j6
    refine store_PC rfl rfl _ _ rfl hB6 rfl rfl hPl rfl hzl ?_
    intro m7 hb7 ho7
    have C3 := C2.push jj (by have := hgq; simpa using this) ho7 hb7
    have o6 := own_onlyK o5 hB6 (by decide) ho7
    clear o2 o4 o5 hB6 jj j1 j2 j3 j4 j5 j6 hb7 ho7 hbq C2
    go_wp2_with fail
    (refine (hR.out _ (hk.later C3.lat) (hp.later C3.lat)).mono ?_); rintro e w8 ⟨A8, c8, A9, c9, rfl, o8, o9, j8⟩
    have Ca := (C3.later j8).fresh (later_alloc w8 (.cells re0.toArray 30)) (Nat.le_refl _) (Blk.new w8 _ re0)
    have Cb := Ca.add (later_alloc _ (.cells (List.replicate 32 (Value.int .u8 0)).toArray 31)) (k := w8.heap.size + 1) (fun q hq e => by
      have := (Ca.blk q hq).lt
      simp at this
      omega) (by have := (C3.later j8).lat.size; omega) (Blk.new' _ _ (List.replicate 32 (Value.int .u8 0)) (by simp))
    have jn := (later_alloc w8 (.cells re0.toArray 30)).trans (later_alloc _ (.cells (List.replicate 32 (Value.int .u8 0)).toArray 31))
    have p6 := own_later (own_later o6 j8) jn
    have p8 := own_later o8 jn
    have p9 := own_later o9 jn
    clear o6 o8 o9 j8 jn C3 Ca
    go_wp2_with (first
      | (refine store_RC rfl rfl _ _ rfl (Cb.nth 1 rfl) rfl rfl rfl rfl hz0 ?_; intro w9 hb9 ho9
         have Cc := Cb.write 1 rfl ho9 hb9
         have q6 := own_onlyK p6 (Cb.nth 1 rfl) (by decide) ho9
         have q8 := own_onlyK p8 (Cb.nth 1 rfl) (by decide) ho9
         have q9 := own_onlyK p9 (Cb.nth 1 rfl) (by decide) ho9)
      | (refine store_B rfl rfl _ _ rfl (Cc.nth 0 rfl) rfl rfl hSl rfl ?_; intro w10 hb10 ho10
         have Cd := Cc.write 0 rfl ho10 hb10
         have r6 := own_onlyK q6 (Cc.nth 0 rfl) (by decide) ho10
         have r8 := own_onlyK q8 (Cc.nth 0 rfl) (by decide) ho10
         have r9 := own_onlyK q9 (Cc.nth 0 rfl) (by decide) ho10)
      | fail)
    by_cases h0 : UE = 0
    · have e0 : ((UE : Int) != 0) = false := by simp [h0]
      have e1 : ((UE : Int) == 0) = true := by simp [h0]
      have hQ := hid (hQc.out h0)
      clear h0 hQc hEr
      go_wp2_with (first
        | (refine load_PC rfl _ rfl (Cd.nth 2 rfl) hPl rfl ?_)
        | (refine wpList_load_at rfl 30 _ rfl w8.heap.size 0 (RCc UC (.slice A8 UQ.length c8) (.slice A9 UB.length c9)) (fun j v hv => (Cd.nth 1 rfl).cellD _ (all_cells _ j v hv)) rfl _ Tryz.underlying30 rfl (by rw [RCc_length]; exact size22) ?_)
        | fail)
      (refine (is15_ok UC UP UQ UB A4 A9 A8 _ _ _ _ _ _ hPl (own_rd r6) (own_rd r9) (by omega) (own_rd r8) hQ.out).mono ?_); rintro e w11 ⟨rfl, j11⟩
      go_wp2
      go_ret
      exact ⟨rfl, Cd.lat.trans j11⟩
    · have e0 : ((UE : Int) != 0) = true := by simp; omega
      have e1 : ((UE : Int) == 0) = false := by simp; omega
      have hN := hid (none_of (hEr.out h0) A4 c4)
      clear h0 hQc hEr
      rw [e0]
      go_wp2_with (first
        | (refine load_PC rfl _ rfl (Cd.nth 2 rfl) hPl rfl ?_)
        | fail)
      (refine (hN.out _).mono ?_); rintro e w11 ⟨rfl, j11⟩
      go_wp2
      go_ret
      exact ⟨rfl, Cd.lat.trans j11⟩
  · have hne : ((m : Int) != 768) = true := by simp; omega
    go_enter Tryz.func4, Tryz.ntmps4
    go_wp2_with fail
    (with_reducible refine (awake15 _).mono ?_); rintro e w1 ⟨rfl, j1⟩
    go_wp2
    go_ret
    exact ⟨rfl, j1⟩
end Go.Proofs.YtdojjnbpidogfaaGreat

