/-
  RelayFlips: its walk.
-/
import Derived.Test.YtdojjnbpidogfaaGreatRly1
import Derived.Test.YtdojjnbpidogfaaGreatRcF
namespace Go.Proofs.YtdojjnbpidogfaaGreat
open Go.RowKit
open Go.BigFrame

/-- One bit of the bytes turned. -/
def flipB (p : List UInt8) (q r : Nat) : List UInt8 := p.set q (p.getD q 0 ^^^ UInt8.ofInt (2 ^ r))
theorem flipB_length (p : List UInt8) (q r : Nat) : (flipB p q r).length = p.length := List.length_set
theorem subB_take (t : List UInt8) (a n k : Nat) (h : a + n ≤ k) : subB (t.take k) a n = subB t a n := by
  rw [subB, subB, List.drop_take, List.take_take, Nat.min_eq_left (by omega)]
theorem hfit_sub (t s : List UInt8) : hfitB (t.take 288) s = decide (tagB (kMac s) (t.take 32) (subB t 48 240) = subB t 32 16) := by
  rw [hfitB, subB_take _ _ _ _ (by omega), subB_take _ _ _ _ (by omega), subB_take _ _ _ _ (by omega)]
  rfl
theorem openE_cases (h s : List UInt8) (hf : hfitB h s = true) : openE h s ≠ 6 := by
  rw [openE, hf, if_neg (by decide)]
  split
  · omega
  · split
    · rw [nextE, multE]
      split
      · split <;> omega
      · omega
    · omega
/-- What a packet comes to, by the fit of its tag. -/
theorem unwE_fit {k t : List UInt8} : (multE k (t.take 32) ≠ 0 → unwE k t = multE k (t.take 32)) ∧ (multE k (t.take 32) = 0 → hfitB (t.take 288) (peelB k (t.take 32)) = false → unwE k t = 6) ∧ (multE k (t.take 32) = 0 → hfitB (t.take 288) (peelB k (t.take 32)) = true → unwE k t ≠ 6) := by
  refine ⟨fun h => by rw [unwE, if_neg h], fun h hf => by rw [unwE, if_pos h, relE, openE, if_pos hf], fun h hf => ?_⟩
  rw [unwE, if_pos h]
  exact openE_cases _ _ hf
set_option maxRecDepth 100000 in
set_option maxHeartbeats 4000000 in
theorem relayFlips_walk (A B : Option Addr) (n c m d : Nat) (bit : Int) (k p : List UInt8) (w : World) (hk : RdB w A n k) (hn : n ≤ 1048576) (hp : RdB w B m p) (hm : m ≤ 1048576) (hd : m ≤ d) :
    Calls Tryz.prog 3 #[.slice A n c, .slice B m d, .int .i64 bit] w fun e w' => e = .returned (.bool true) ∧ Later w w' := by
  by_cases hok : m = 768 ∧ 0 ≤ bit ∧ bit < 2304
  · obtain ⟨rfl, hb0, hb1⟩ := hok
    obtain ⟨i, rfl⟩ := Int.eq_ofNat_of_zero_le hb0
    obtain ⟨q, hq⟩ : ∃ q, i / 8 = q := ⟨_, rfl⟩
    obtain ⟨r, hr⟩ : ∃ r, i % 8 = r := ⟨_, rfl⟩
    have hq288 : q < 288 := by omega
    have hr8 : r < 8 := by omega
    have h1 : ((i : Int)).tdiv 8 = (q : Int) := by rw [Int.tdiv_eq_ediv_of_nonneg (by omega)]; omega
    have h2 : ((i : Int)).tmod 8 = (r : Int) := by rw [Int.tmod_eq_emod_of_nonneg (by omega)]; omega
    have h3 : ((i : Int)) / 8 = (q : Int) := by omega
    have h4 : ((i : Int)) % 8 = (r : Int) := by omega
    have hd1 : decide ((i : Int) < 0) = false := decide_eq_false (by omega)
    have hd2 : decide ((2304 : Int) ≤ (i : Int)) = false := decide_eq_false (by omega)
    clear hq hr
    have hpl := hp.len
    have hfl := flipB_length p q r
    have hget : p[q]? = some (p.getD q 0) := by rw [List.getD_eq_getElem?_getD, List.getElem?_eq_getElem (by omega)]; rfl
    have hfs : Hid (p.set q (p.getD q 0 ^^^ UInt8.ofInt (2 ^ r)) = flipB p q r) := hid rfl
    have HZ := hid zcP
    have HZp := hid zcPe
    have l0 : ((List.replicate 768 (0 : UInt8)).map W8).length = 768 := by rw [List.length_map, List.length_replicate]
    have hR := hid (fun (w : World) h1 h2 => unwrapR_any A B n c d k p w h1 (by omega) h2 hd)
    have hSl : (unwS k p).length = 32 := by
      unfold unwS
      split
      · exact subB_length (by rw [peelB_length]; omega)
      · exact List.length_replicate
    have hCb := hid (fun (w : World) h => copy_any B 768 d p w h (by omega))
    generalize unwE k p = UE0 at *
    generalize unwC k p = UC0 at *
    generalize unwB k p = UB0 at *
    generalize unwQ k p = UQ0 at *
    generalize unwS k p = US0 at *
    generalize flipB p q r = T at *
    rw [hpl] at hfl
    have hPa := hid (fun (w : World) A' c' h => parse15_any A' c' T w h)
    have hCo := hid (fun (w : World) h => copy_any A n c k w h (by omega))
    have hU := hid (fun (w : World) A' c' h => unwrap_any A' n c' k T w h (by omega) hfl)
    have hal : (T.take 32).length = 32 := by rw [List.length_take]; omega
    have hPe := hid (fun (w : World) A' c' h1 h2 => peel_ref A A' n c 32 c' k (T.take 32) w h1 h2 (by omega) (by omega))
    have hsl := peelB_length k (T.take 32)
    have hPl := unwP_length k T hfl
    have hEr := hid (fun h => unw_err (k := k) (p := T) h)
    have hBs := unwB_small k T hfl
    have hFit := hid (unwE_fit (k := k) (t := T))
    rw [hfit_sub] at hFit
    have hkm : (kMac (peelB k (T.take 32))).length = 32 := subB_length (by omega)
    have hTg := hid (fun (w : World) A' B' c' d' h1 h2 => tagR_any A' B' 32 c' 240 d' (kMac (peelB k (T.take 32))) (T.take 32) (subB T 48 240) w hkm h1 h2 (by omega) (by omega))
    have hEq := hid (fun (w : World) A' B' c' d' h1 h2 => equal_any A' B' 16 16 c' d' (tagB (kMac (peelB k (T.take 32))) (T.take 32) (subB T 48 240)) (subB T 32 16) w h1 h2 (by omega) (by omega))
    have hkm0 : Hid (subB (peelB k (T.take 32)) 0 32 = kMac (peelB k (T.take 32))) := hid rfl
    have hRd := hid (fun w g c' (h : Blk w g 5 (T.map W8 ++ c')) => (⟨RdB.take (blk_rdB_app h hfl) (m := 32) (by omega), rdB_cut (blk_rdB_app h hfl) 32 16 (by omega) (by omega), rdB_cut (blk_rdB_app h hfl) 48 240 (by omega) (by omega)⟩ : RdB w (some ⟨g, 0, none⟩) 32 (T.take 32) ∧ RdB w (some ⟨g, 0 + 32, none⟩) 16 (subB T 32 16) ∧ RdB w (some ⟨g, 0 + 48, none⟩) 240 (subB T 48 240)))
    generalize decide (tagB (kMac (peelB k (T.take 32))) (T.take 32) (subB T 48 240) = subB T 32 16) = F at *
    generalize tagB (kMac (peelB k (T.take 32))) (T.take 32) (subB T 48 240) = TG at *
    generalize kMac (peelB k (T.take 32)) = KM at *
    generalize peelB k (T.take 32) = S at *
    generalize multE k (T.take 32) = ME at *
    generalize T.take 32 = al at *
    generalize subB T 48 240 = be at *
    generalize subB T 32 16 = tg at *
    generalize unwE k T = UE at *
    generalize unwC k T = UC at *
    generalize unwP k T = UP at *
    generalize unwB k T = UB at *
    have hzl : (PC cmd0 z768 nil8).length = 789 := PC_length _ z768_length _
    have hz0 : re0.length = 22 := rfl
    have hzR : Tryz.zeroCells53.toList.length = 192 := by rw [zc192R, List.length_map, List.length_replicate]
    generalize List.replicate 768 (0 : UInt8) = Z at *
    go_enter Tryz.func3, Tryz.ntmps3
    go_wp2_with fail
    (with_reducible refine (awake15 _).mono ?_); rintro e w1 ⟨rfl, j1⟩
    go_wp2_with fail
    (refine (hR.out _ (hk.later j1) (hp.later j1)).mono ?_); rintro e w2 ⟨A8, c8, A9, c9, rfl, _, _, j2⟩
    have Ca := (((Bag.none w).later j1).later j2).fresh (later_alloc w2 (.cells re0.toArray 30)) (Nat.le_refl _) (Blk.new w2 _ re0)
    have Cb := Ca.add (later_alloc _ (.cells (List.replicate 32 (Value.int .u8 0)).toArray 31)) (k := w2.heap.size + 1) (fun q hq e => by
      have := (Ca.blk q hq).lt
      simp at this
      omega) (by have := (((Bag.none w).later j1).later j2).lat.size; omega) (Blk.new' _ _ (List.replicate 32 (Value.int .u8 0)) (by simp))
    clear Ca j1 j2 hR
    by_cases h0 : UE0 = 0
    · have e0 : ((UE0 : Int) != 0) = false := by simp [h0]
      clear h0
      go_wp2_with (first
        | (refine store_RC rfl rfl _ _ rfl (Cb.nth 1 rfl) rfl rfl rfl rfl hz0 ?_; intro w9 hb9 ho9
           have Cc := Cb.write 1 rfl ho9 hb9)
        | (refine store_B rfl rfl _ _ rfl (Cc.nth 0 rfl) rfl rfl hSl rfl ?_; intro w10 hb10 ho10
           have Cd := Cc.write 0 rfl ho10 hb10)
        | fail)
      (refine (hCb.out _ (hp.later Cd.lat)).mono ?_); rintro e w5 ⟨A5, c5, rfl, o5, j5⟩
      obtain ⟨g5, r5, rfl, hg5, hb5, hc5, hcc5⟩ := own_some o5 (by omega)
      have Ce := ((Bag.none w).later Cd.lat).fresh j5 hg5 hb5
      clear Cb Cc Cd hb9 ho9 hb10 ho10 j5 hg5 hb5 o5 hc5 hCb
      have C1 := Ce.drew
      have d0 := (C1.nth 0 rfl).cellD q (u := W8 (p.getD q 0)) (by rw [List.getElem?_append_left (by rw [List.length_map]; omega), List.getElem?_map, hget]; rfl)
      have y1 := (C1.nth 0 rfl).lt
      have hcol : q < (p.map W8 ++ r5).length := by rw [List.length_append, List.length_map]; omega
      have hst : Hid (∀ v, (p.map W8 ++ r5).set q (W8 v) = (p.set q v).map W8 ++ r5) := hid (fun v => by rw [List.set_append_left _ _ (by rw [List.length_map]; omega), map_set8])
      clear hget
      generalize p.getD q 0 = x at *
      go_wp2_with fail
      refine wp_region_parts [] [0, 1, 2, 3, 4, 5, 6, 7, 8, 9] [10] (by as_aux_lemma => kernel_rfl) (by as_aux_lemma => kernel_rfl) (by intro _ _ d _ _ h; cases d <;> exact h) ?_
      simp only [wpParts, pick, List.getElem?_cons_succ, List.getElem?_cons_zero, Option.toList_some, List.cons_append, List.nil_append]
      repeat (go_big_quiet_step (fail))
      refine wpQuiet_nil ?_
      go_wp2_with (first
        | (refine wpList_store_in rfl rfl _ _ _ rfl g5 q _ _ (C1.nth 0 rfl) rfl hcol rfl size8 ?_; intro v6 w6 hv6 hb6 ho6; simp [go_sem] at hv6; subst hv6; rw [hst.out, hfs.out] at hb6
           have C2 := C1.write 0 rfl ho6 hb6)
        | fail)
      have hrt := blk_rdB_app (C2.nth 0 rfl) hfl
      clear hb6 ho6 d0 y1 C1 hst hcol
      (refine (hPa.out _ _ _ hrt).mono ?_); rintro e w7 ⟨rfl, j7⟩
      have C3 := C2.later j7
      go_wp2_with (first
        | (refine store_Pk rfl rfl _ _ rfl ((Blk.new w7 _ Tryz.zeroCells40.toList).cast HZ.out) rfl rfl hfl l0 ?_; intro w8 hb8 ho8
           have C4 := C3.push (later_alloc _ _) (Nat.le_refl _) ho8 hb8)
        | fail)
      have C5 := C4.drew
      clear C2 C3 C4 hb8 ho8 j7 hrt
      refine wp_region_makers [0, 2] [([], 1, 1), ([], 1, 3), ([4, 5, 6], 2, 7)] [] [8, 9] [7] (fun _ => (fun g => .pointer (some ⟨g, 0, none⟩), .cells Tryz.zeroCells46 46)) (by as_aux_lemma => kernel_rfl) (by as_aux_lemma => kernel_rfl) (by intro _ _ d _ _ h; cases d <;> exact h) (by intro _ _ d _ _ h; cases d <;> exact h) ?_
      simp only [pick, List.getElem?_cons_succ, List.getElem?_cons_zero, Option.toList_some, List.cons_append, List.nil_append]
      repeat (first | go_big_quiet_skip | (go_big_quiet_want; (refine quiet_Y 0 768 _ rfl (C5.nth 0 rfl) rfl Tryz.underlying40 rfl size768 (subB_all _ _ hfl) hfl ?_); simp only [Act.put, List.setIfInBounds_toArray, List.set_cons_succ, List.set_cons_zero]; go_big_quiet_on) | (go_big_quiet_step (fail)))
      refine wpQuiet_nil ?_
      refine ⟨?mk, ?_⟩
      case mk =>
        refine ⟨fun o ho => ?_, trivial⟩
        simp only [List.getElem?_cons_succ, List.getElem?_cons_zero, Option.some.injEq] at ho
        subst ho
        exact makes_peel rfl rfl
      simp only [wpPartsM, pick, List.getElem?_cons_succ, List.getElem?_cons_zero, Option.toList_some, List.cons_append, List.nil_append]
      refine wpQuiet_nil ?_
      intro m1 j1
      go_wp2_with fail
      (refine (hCo.out _ (hk.later (C5.lat.trans j1))).mono ?_); rintro e m2 ⟨A2, c2, rfl, o2, j2⟩
      go_wp2_with fail
      try refine ⟨by first | assumption | exact later_drew _ | exact later_alloc _ _ | exact Later.refl _, ?_⟩
      try simp only [wpParts, pick, List.getElem?_cons_succ, List.getElem?_cons_zero, Option.toList_some, List.cons_append, List.nil_append]
      repeat (go_big_quiet_step (fail))
      refine wpQuiet_nil ?_
      intro m3 j3
      go_wp2_with fail
      (refine (hU.out _ _ _ (show OwnB m3 _ A2 n c2 k from own_later o2 j3).rd).mono ?_); rintro e m4 ⟨A4, c4, rfl, o4, j4⟩
      go_wp2_with fail
      try refine ⟨by first | assumption | exact later_drew _ | exact later_alloc _ _ | exact Later.refl _, ?_⟩
      try simp only [wpParts, pick, List.getElem?_cons_succ, List.getElem?_cons_zero, Option.toList_some, List.cons_append, List.nil_append]
      repeat (go_big_quiet_step (fail))
      refine wpQuiet_nil ?_
      intro m5 gq j5 hgq _ hbq
      refine wpQuiet_nil ?_
      intro m6 j6
      simp only [Option.bind_some, Act.put, List.setIfInBounds_toArray, List.set_cons_succ, List.set_cons_zero]
      have jj := (((j1.trans j2).trans (j3.trans j4)).trans j5).trans j6
      have hB6 : Blk m6 gq 46 (PC cmd0 z768 nil8) := (Blk.later (show Blk m5 gq _ Tryz.zeroCells46.toList from hbq) j6).cast HZp.out
      refine store_PC rfl rfl _ _ rfl hB6 rfl rfl hPl rfl hzl ?_
      intro m7 hb7 ho7
      have C6 := C5.push jj (by have := hgq; simpa using this) ho7 hb7
      have hN := hid (fun h => none_of (hEr.out h) A4 c4)
      clear o2 o4 hB6 jj j1 j2 j3 j4 j5 j6 hb7 ho7 hbq C5 hEr
      have hfr := hFit.out
      go_wp2_with fail
      (refine (hPe.out _ _ _ (hk.later C6.lat) (hRd.out _ _ _ (C6.nth 2 rfl)).1).mono ?_); rintro e w10 ⟨rfl, j10⟩
      have C7 := C6.later j10
      clear hPe j10 C6
      by_cases hm : ME = 0
      · have e1 : ((ME : Int) != 0) = false := by simp [hm]
        have hf6 := hid (hfr.2.1 hm)
        have hf7 := hid (hfr.2.2 hm)
        clear hm hfr hFit
        go_wp2_with (first
          | (refine store_SR rfl rfl _ _ rfl (Blk.new w10 _ Tryz.zeroCells53.toList) rfl rfl hsl hzR ?_; intro w11 hb11 ho11
             have C8 := C7.push (later_alloc _ _) (Nat.le_refl _) ho11 hb11)
          | fail)
        have C9 := C8.drew
        clear hb11 ho11 C8 C7
        have y1 := (C9.nth 3 rfl).lt
        have y2 := (C9.nth 0 rfl).lt
        refine wp_region_parts [([0, 1, 2, 3, 4, 5, 6, 8, 9], 7)] [] [10] (by as_aux_lemma => kernel_rfl) (by as_aux_lemma => kernel_rfl) (by intro _ _ d _ _ h; cases d <;> exact h) ?_
        simp only [wpParts, pick, List.getElem?_cons_succ, List.getElem?_cons_zero, Option.toList_some, List.cons_append, List.nil_append]
        repeat (first | go_big_quiet_skip | (go_big_quiet_want; (refine quiet_part _ _ rfl 0 (KM.map W8) (C9.nth 0 rfl) rfl (sub_cells hkm0.out) _ Tryz.underlying31 rfl (by rw [List.length_map, hkm]; exact size32c) ?_); simp only [Act.put, List.setIfInBounds_toArray, List.set_cons_succ, List.set_cons_zero]; go_big_quiet_on) | (go_big_quiet_step (fail)))
        refine wpQuiet_nil ?_
        go_wp2_with fail
        (refine (hTg.out _ _ _ _ _ (hRd.out _ _ _ (C9.nth 3 rfl)).1 (hRd.out _ _ _ (C9.nth 3 rfl)).2.2).mono ?_); rintro e w12 ⟨A12, c12, rfl, o12, j12⟩
        go_wp2_with fail
        try refine ⟨by first | assumption | exact later_drew _ | exact later_alloc _ _ | exact Later.refl _, ?_⟩
        try simp only [wpParts, pick, List.getElem?_cons_succ, List.getElem?_cons_zero, Option.toList_some, List.cons_append, List.nil_append]
        repeat (go_big_quiet_step (fail))
        refine wpQuiet_nil ?_
        have C10 := C9.later j12
        go_wp2_with fail
        (refine (hEq.out _ _ _ _ _ o12.rd (hRd.out _ _ _ (C10.nth 3 rfl)).2.1).mono ?_); rintro e w13 ⟨rfl, j13⟩
        have C11 := C10.later j13
        cases F
        · have hu6 := hf6.out rfl
          have e2 : ((UE : Int) == 6) = true := by simp [hu6]
          have hN' := hid (hN.out (by omega))
          clear hu6
          go_wp2_with (first
            | (refine load_PC rfl _ rfl (C11.nth 1 rfl) hPl rfl ?_)
            | fail)
          (refine (hN'.out _).mono ?_); rintro e w14 ⟨rfl, j14⟩
          go_wp2
          go_ret
          exact ⟨rfl, C11.lat.trans j14⟩
        · have hu6 := hf7.out rfl
          have e2 : ((UE : Int) != 6) = true := by simp; omega
          go_wp2
          go_ret
          exact ⟨rfl, C11.lat⟩
      · have e1 : ((ME : Int) != 0) = true := by simp; omega
        have hue := hfr.1 hm
        have hN' := hid (hN.out (by omega))
        subst hue
        clear hm hfr hFit
        go_wp2_with (first
          | (refine store_SR rfl rfl _ _ rfl (Blk.new w10 _ Tryz.zeroCells53.toList) rfl rfl hsl hzR ?_; intro w11 hb11 ho11
             have C8 := C7.push (later_alloc _ _) (Nat.le_refl _) ho11 hb11)
          | (refine load_PC rfl _ rfl (C8.nth 1 rfl) hPl rfl ?_)
          | fail)
        (refine (hN'.out _).mono ?_); rintro e w14 ⟨rfl, j14⟩
        go_wp2
        go_ret
        exact ⟨rfl, C8.lat.trans j14⟩
    · have e0 : ((UE0 : Int) != 0) = true := by simp; omega
      go_wp2_with (first
        | (refine store_RC rfl rfl _ _ rfl (Cb.nth 1 rfl) rfl rfl rfl rfl hz0 ?_; intro w9 hb9 ho9
           have Cc := Cb.write 1 rfl ho9 hb9)
        | (refine store_B rfl rfl _ _ rfl (Cc.nth 0 rfl) rfl rfl hSl rfl ?_; intro w10 hb10 ho10
           have Cd := Cc.write 0 rfl ho10 hb10)
        | fail)
      go_ret
      exact ⟨rfl, Cd.lat⟩
  · have hdec : ((m : Int) != 768 || decide (bit < 0) || decide (2304 ≤ bit)) = true := by
      simp only [Bool.or_eq_true, decide_eq_true_eq, bne_iff_ne, ne_eq]
      omega
    go_enter Tryz.func3, Tryz.ntmps3
    go_wp2_with fail
    (with_reducible refine (awake15 _).mono ?_); rintro e w1 ⟨rfl, j1⟩
    by_cases g1 : (m : Int) = 768
    · by_cases g2 : bit < 0
      · go_wp2
        go_ret
        exact ⟨rfl, j1⟩
      · have g3 : 2304 ≤ bit := by omega
        go_wp2
        go_ret
        exact ⟨rfl, j1⟩
    · have g2 : ((m : Int) != 768) = true := by simpa using g1
      go_wp2
      go_ret
      exact ⟨rfl, j1⟩
end Go.Proofs.YtdojjnbpidogfaaGreat

