/-
  curve.Mult.
-/
import Derived.Test.YtmdjhbiiifnfiaaCurve6
import Derived.Test.YtmdjhbiiifnfiaaHelp
namespace Go.Proofs.Ytmdjhbiiifnfiaa
open Go.RowKit
open Go.BigFrame

theorem readN_T (us : List UInt8) : readN us < T256 := by
  unfold readN
  split
  · exact Nat.lt_trans (Nat.mod_lt _ P25_pos) (show P25 < T256 by decide)
  · exact show 0 < T256 by decide
theorem num_zeros : num (List.replicate 32 0) = 0 := by decide +kernel
theorem nb_zeros : nb 0 = List.replicate 32 0 := by decide +kernel
theorem nb_is_zero (q : Nat) (h : q < T256) : (nb q == List.replicate 32 0) = decide (q = 0) := by
  rw [Bool.eq_iff_iff, beq_iff_eq, decide_eq_true_eq]
  constructor
  · intro e
    rw [← num_nb q h, e, num_zeros]
  · rintro rfl
    exact nb_zeros
theorem built_ratio_aux (a0 a1 a2 a3 b0 b1 b2 b3 : Value) :
    Program.built Try.prog 48 [(0, .agg #[a0, a1, a2, a3]), (1, .agg #[b0, b1, b2, b3])] = some #[a0, a1, a2, a3, b0, b1, b2, b3] := by kernel_rfl
theorem built_ratio (a b : Nat) : Program.built Try.prog 48 [(0, E a), (1, E b)] = some (EL a ++ EL b).toArray := by
  rw [E, E, EL_four a, EL_four b]
  exact built_ratio_aux ..
theorem LL_length (x1 : Nat) (s : Lad) : (LL x1 s).length = 20 := L5_length ..
theorem LL_one (x1 : Nat) (s : Lad) : ∀ v ∈ LL x1 s, v.oneCell' = true := by
  intro v hv
  simp only [LL, L5, List.mem_append] at hv
  rcases hv with h | h | h | h | h <;> exact EL_one _ v h
set_option maxRecDepth 100000 in
set_option maxHeartbeats 4000000 in
theorem mult_any (A B : Option Addr) (n c m d : Nat) (ks us : List UInt8) (w : World) (hk : RdB w A n ks) (hu : RdB w B m us) (hn : n ≤ 140737488355328) (hm : m ≤ 140737488355328) :
    Calls Try.prog 47 #[.slice A n c, .slice B m d] w fun e w' => e = .returned (.tuple #[.agg ((multB ks us).map W8).toArray, .int .i64 (multE ks us : Nat)]) ∧ Later w w' := by
  have hkl := hk.len
  have hul := hu.len
  have hb0 := Blk.new w 42 (List.replicate 32 (Value.int .u8 0))
  have L0 := later_alloc w (.cells (List.replicate 32 (Value.int .u8 0)).toArray 42)
  have hcl := clampB_length ks
  have cK := hid (fun w h => clamp_any A n c ks w h hn)
  have cU := hid (fun w h => read_any B m d us w h hm)
  by_cases hn32 : n = 32
  · subst hn32
    have eK : readE ks = 0 := by rw [readE, if_pos (by omega)]
    rw [eK] at cK
    have hK := hid (show clampB ks = clampB ks from rfl)
    by_cases hm32 : m = 32
    · subst hm32
      have eU : readE us = 0 := by rw [readE, if_pos (by omega)]
      rw [eU] at cU
      have hx := readN_T us
      have hQ := hid (show multQ ks us = fmul (Lad.at (readN us) (clampB ks) 255).x2 (pinv (Lad.at (readN us) (clampB ks) 255).z2) from rfl)
      generalize clampB ks = K at *
      generalize readN us = x1 at *
      go_enter Try.func47, Try.ntmps47
      go_wp2_with fail
      generalize hW : w.alloc _ = w0
      replace L0 : Later w w0 := by rw [← hW]; exact later_alloc _ _
      replace hb0 : Blk w0 w.heap.size 42 (List.replicate 32 (Value.int .u8 0)) := by rw [← hW]; exact Blk.new w 42 (List.replicate 32 (Value.int .u8 0))
      have hs0 : w.heap.size < w0.heap.size := hb0.lt
      clear hW
      (with_reducible refine (cK.out _ (hk.later L0)).mono ?_); rintro e w1 ⟨rfl, hl1⟩
      replace hb0 := hb0.later hl1
      replace L0 := L0.trans hl1
      go_wp2_with (first
        | (refine store_B rfl rfl _ _ rfl (Blk.new w1 _ (List.replicate 32 (.int .u8 0))) rfl rfl hcl rfl ?_; intro w2 hb2 ho2)
        | fail)
      replace hb0 := (hb0.later (later_alloc w1 (.cells (List.replicate 32 (.int .u8 0)).toArray 42))).only ho2 (by have := hb0.lt; omega)
      replace L0 := (L0.trans (later_alloc w1 (.cells (List.replicate 32 (.int .u8 0)).toArray 42))).only ho2 (by have := L0.size; omega)
      have hg6 : w.heap.size ≠ w1.heap.size := by have := hl1.size; omega
      clear ho2 hl1
      (with_reducible refine (cU.out _ (hu.later L0)).mono ?_); rintro e w3 ⟨rfl, hl3⟩
      replace hb0 := hb0.later hl3
      replace hb2 := hb2.later hl3
      replace L0 := L0.trans hl3
      go_wp2_with (first
        | (refine store_E rfl rfl _ _ rfl (Blk.new w3 _ (List.replicate 4 (.int .u64 0))) rfl rfl rfl ?_; intro w4 hb4 ho4)
        | fail)
      replace hb0 := (hb0.later (later_alloc w3 (.cells (List.replicate 4 (.int .u64 0)).toArray 28))).only ho4 (by have := hb0.lt; omega)
      replace hb2 := (hb2.later (later_alloc w3 (.cells (List.replicate 4 (.int .u64 0)).toArray 28))).only ho4 (by have := hb2.lt; omega)
      replace L0 := (L0.trans (later_alloc w3 (.cells (List.replicate 4 (.int .u64 0)).toArray 28))).only ho4 (by have := L0.size; omega)
      clear ho4 hl3
      refine wp_region_makers [0, 2] [([], 1, 1), ([], 1, 3), ([4], 2, 5)] [] [6] [5] (fun _ => (fun g => .pointer (some ⟨g, 0, none⟩), .cells (List.replicate 20 (Value.int .u64 0)).toArray 108)) (by as_aux_lemma => kernel_rfl) (by as_aux_lemma => kernel_rfl) (by intro _ _ d _ _ h; cases d <;> exact h) (by intro _ _ d _ _ h; cases d <;> exact h) ?_
      simp only [pick, List.getElem?_cons_succ, List.getElem?_cons_zero, Option.toList_some, List.cons_append, List.nil_append]
      repeat (first | go_big_quiet_skip | (go_big_quiet_want; (refine quiet_E _ rfl hb4.drew rfl ?_); simp only [Act.put, List.setIfInBounds_toArray, List.set_cons_succ, List.set_cons_zero]; go_big_quiet_on) | (go_big_quiet_step (fail)))
      refine wpQuiet_nil ?_
      refine ⟨?mk, ?_⟩
      case mk =>
        refine ⟨fun o ho => ?_, trivial⟩
        simp only [List.getElem?_cons_succ, List.getElem?_cons_zero, Option.some.injEq] at ho
        subst ho
        refine ⟨rfl, fun W => ?_⟩
        unfold execOp
        simp [go_sem]
      simp only [wpPartsM, pick, List.getElem?_cons_succ, List.getElem?_cons_zero, Option.toList_some, List.cons_append, List.nil_append]
      refine wpQuiet_nil ?_
      intro v1 j1
      go_wp2_with fail
      (with_reducible refine (of_1 _).mono ?_); rintro e v2 ⟨rfl, j2⟩
      go_wp2_with fail
      try refine ⟨by first | assumption | exact later_drew _ | exact later_alloc _ _ | exact Later.refl _, ?_⟩
      try simp only [wpParts, pick, List.getElem?_cons_succ, List.getElem?_cons_zero, Option.toList_some, List.cons_append, List.nil_append]
      repeat (go_big_quiet_step (fail))
      refine wpQuiet_nil ?_
      intro v3 j3
      go_wp2_with fail
      (with_reducible refine (of_1 _).mono ?_); rintro e v4 ⟨rfl, j4⟩
      go_wp2_with fail
      try refine ⟨by first | assumption | exact later_drew _ | exact later_alloc _ _ | exact Later.refl _, ?_⟩
      try simp only [wpPartsM, pick, List.getElem?_cons_succ, List.getElem?_cons_zero, Option.toList_some, List.cons_append, List.nil_append]
      go_big_quiet_want
      refine quiet_build _ _ rfl (LL x1 ⟨1, 0, x1, 1⟩) (by simp only [List.map_toArray, List.map_cons, List.map_nil]; exact built_ladder x1) ?_
      simp only [Act.put, List.setIfInBounds_toArray, List.set_cons_succ, List.set_cons_zero]
      go_big_quiet_on
      refine wpQuiet_nil ?_
      intro v5 gl j5 hgl _ hb5
      simp only [List.getElem?_cons_succ, List.getElem?_cons_zero, Option.bind_some, Act.put, List.setIfInBounds_toArray, List.set_cons_succ, List.set_cons_zero]
      refine wpQuiet_nil ?_
      intro v6 j6
      replace hb5 : Blk v5 gl 108 (List.replicate 20 (Value.int .u64 0)) := hb5
      refine wpList_store_agg rfl rfl _ _ _ rfl gl 0 _ _ (LL x1 ⟨1, 0, x1, 1⟩) (hb5.later j6) rfl rfl (by rw [LL_length]; kernel_rfl) (by simp [LL_length]) (LL_one _ _) ?_
      intro v7 hb7 ho7
      rw [spliced_all _ _ (by simp [LL_length])] at hb7
      have j := (((((later_drew w4).trans j1).trans j2).trans j3).trans j4).trans (j5.trans j6)
      have hlt0 := hb0.lt
      have hlt2 := hb2.lt
      have hw := L0.size
      replace hb0 := (hb0.later j).only ho7 (by omega)
      replace hb2 := (hb2.later j).only ho7 (by omega)
      replace L0 := (L0.trans j).only ho7 (by omega)
      have hgl0 : w.heap.size ≠ gl := by omega
      have hgl2 : w1.heap.size ≠ gl := by omega
      have hgl3 : w.heap.size ≤ gl := by omega
      generalize w1.heap.size = g6 at *
      clear ho7 j j1 j2 j3 j4 j5 j6 hb5 hgl hb4 hlt0 hlt2 hw cK cU hs0
      go_wp2_with fail
      go_loopw [10] (fun i wr => ∃ k : Nat, k ≤ 255 ∧ i = .int .i64 (dn k) ∧ Blk wr w.heap.size 42 (List.replicate 32 (Value.int .u8 0)) ∧ Blk wr g6 42 (K.map W8) ∧ Blk wr gl 108 (LL x1 (Lad.at x1 K (255 - k))) ∧ Later w wr) (fun i _ => (intOf i + 1).toNat)
      case atStart => exact ⟨255, by omega, rfl, hb0, hb2, hb7, L0⟩
      case round =>
        clear hb0 hb2 hb7 L0
        obtain ⟨k, hk, rfl, hb0, hb2, hb7, L0⟩ := hrel
        cases k with
        | zero =>
          simp only [dn_zero]
          have hok := Lad.at_ok x1 K hx 255
          rw [show 255 - 0 = 255 from rfl] at hb7
          have hMB := hid (show multB ks us = nb (multQ ks us) by rw [multB, if_pos ⟨hkl, hul⟩])
          have hME := hid (show multE ks us = if multQ ks us = 0 then 5 else 0 by rw [multE, if_pos ⟨hkl, hul⟩])
          rw [hQ.out] at hMB hME
          generalize Lad.at x1 K 255 = S at *
          have hQP : fmul S.x2 (pinv S.z2) < P25 := Nat.mod_lt _ P25_pos
          have hv := hid (value_any S.x2 S.z2 hok.1 hok.2.1)
          generalize fmul S.x2 (pinv S.z2) = Q at *
          have hQT : Q < T256 := Nat.lt_trans hQP (by decide)
          obtain ⟨y, hy⟩ := sub32 (nb_length Q)
          obtain ⟨z, hz⟩ := sub32 (show (List.replicate 32 (0 : UInt8)).length = 32 by simp)
          have hBy : Hid (∀ w, Calls Try.prog 28 #[E Q] w fun e w' => e = .returned (.agg (y.val.map W8).toArray) ∧ Later w w') := hid (by
            intro w
            have := bytes_any Q hQT w
            rwa [Nat.mod_eq_of_lt hQP, BB, ← hy] at this)
          have hcmp : (y.val == z.val) = decide (Q = 0) := by rw [hy, hz]; exact nb_is_zero Q hQT
          have hyl := y.2
          have hzl := z.2
          rw [← hy] at hMB
          have hQ0 := hid (show Q = 0 → y.val = z.val by rintro rfl; rw [hy, hz]; exact nb_zeros)
          have hZ := hid hz
          clear hy hz hQ
          by_cases hq : Q = 0
          · have hd : (y.val == z.val) = true := by rw [hcmp, hq]; rfl
            have hyz := hid (hQ0.out hq)
            rw [hq] at hME
            clear hcmp hq hQ0
            go_wp2_with (first
              | (refine load_at rfl _ rfl hb7 (fun j v hv => L5_1 _ _ _ _ _ j v hv) rfl ?_)
              | (refine load_at rfl _ rfl hb7 (fun j v hv => L5_2 _ _ _ _ _ j v hv) rfl ?_)
              | (refine wpList_build_is rfl 48 _ rfl (EL S.x2 ++ EL S.z2) ?hb ?_; (case hb => simp only [List.map_toArray, List.map_cons, List.map_nil]; exact built_ratio S.x2 S.z2))
              | (go_at_call 31; (with_reducible refine (hv.out _).mono ?_); rintro e w5 ⟨rfl, hl5⟩)
              | (go_at_call 28; (with_reducible refine (hBy.out _).mono ?_); rintro e w6 ⟨rfl, hl6⟩)
              | (refine store_B rfl rfl _ _ rfl (Blk.new w6 _ (List.replicate 32 (.int .u8 0))) rfl rfl hyl rfl ?_; intro w7 hb8 ho8)
              | (refine load_B rfl _ rfl hb8 hyl rfl ?_)
              | (refine wpList_build_is rfl 42 _ rfl (z.val.map W8) ?hb ?_; (case hb => rw [hZ.out]; kernel_rfl))
              | (refine store_B rfl rfl _ _ rfl (((hb0.later (hl5.trans hl6)).later (later_alloc w6 (.cells (List.replicate 32 (.int .u8 0)).toArray 42))).only ho8 (by have := (hb0.later (hl5.trans hl6)).lt; omega)) rfl rfl hzl rfl ?_; intro w9 hb9 ho9)
              | fail)
            exact bodyPost_ret (results_blk_tmp rfl _ _ _ _ _ _ hb9 rfl Try.underlying42 rfl (by rw [List.length_map, hzl]; exact size32b)) rfl ⟨by rw [hMB.out, hME.out, hyz.out]; rfl, (((L0.trans (hl5.trans hl6)).alloc (.cells (List.replicate 32 (.int .u8 0)).toArray 42)).only ho8 (by have := (L0.trans (hl5.trans hl6)).size; omega)).only ho9 (by omega)⟩
          · have hd : (y.val == z.val) = false := by rw [hcmp]; simp [hq]
            rw [if_neg hq] at hME
            clear hcmp
            go_wp2_with (first
              | (refine load_at rfl _ rfl hb7 (fun j v hv => L5_1 _ _ _ _ _ j v hv) rfl ?_)
              | (refine load_at rfl _ rfl hb7 (fun j v hv => L5_2 _ _ _ _ _ j v hv) rfl ?_)
              | (refine wpList_build_is rfl 48 _ rfl (EL S.x2 ++ EL S.z2) ?hb ?_; (case hb => simp only [List.map_toArray, List.map_cons, List.map_nil]; exact built_ratio S.x2 S.z2))
              | (go_at_call 31; (with_reducible refine (hv.out _).mono ?_); rintro e w5 ⟨rfl, hl5⟩)
              | (go_at_call 28; (with_reducible refine (hBy.out _).mono ?_); rintro e w6 ⟨rfl, hl6⟩)
              | (refine store_B rfl rfl _ _ rfl (Blk.new w6 _ (List.replicate 32 (.int .u8 0))) rfl rfl hyl rfl ?_; intro w7 hb8 ho8)
              | (refine load_B rfl _ rfl hb8 hyl rfl ?_)
              | (refine wpList_build_is rfl 42 _ rfl (z.val.map W8) ?hb ?_; (case hb => rw [hZ.out]; kernel_rfl))
              | (refine store_B rfl rfl _ _ rfl (((hb0.later (hl5.trans hl6)).later (later_alloc w6 (.cells (List.replicate 32 (.int .u8 0)).toArray 42))).only ho8 (by have := (hb0.later (hl5.trans hl6)).lt; omega)) rfl rfl hyl rfl ?_; intro w9 hb9 ho9)
              | fail)
            exact bodyPost_ret (results_blk_tmp rfl _ _ _ _ _ _ hb9 rfl Try.underlying42 rfl (by rw [List.length_map, hyl]; exact size32b)) rfl ⟨by rw [hMB.out, hME.out]; rfl, (((L0.trans (hl5.trans hl6)).alloc (.cells (List.replicate 32 (.int .u8 0)).toArray 42)).only ho8 (by have := (L0.trans (hl5.trans hl6)).size; omega)).only ho9 (by omega)⟩
        | succ k =>
          have d0 := hb2.cellD (k / 8) (u := W8 (K.getD (k / 8) 0)) (by rw [List.getElem?_map, List.getD_eq_getElem?_getD, List.getElem?_eq_getElem (by omega)]; rfl)
          have hcnt : cnt (UInt64.ofInt ((k : Int) % 8)) = k % 8 := by
            rw [show ((k : Int) % 8) = ((k % 8 : Nat) : Int) by omega, ofIntNat_w64, cnt, tn64 (by unfold B64; omega)]
          have hbe := bit_eq (K.getD (k / 8) 0) (k % 8)
          have hst : Lad.at x1 K (255 - k) = (Lad.at x1 K (254 - k)).round x1 (kbit K k) := by
            rw [show 255 - k = (254 - k) + 1 by omega, Lad.at, show 254 - (254 - k) = k by omega]
          have hkb : kbit K k = (shr8 (K.getD (k / 8) 0) (k % 8) &&& 1 == 1) := by rw [hbe]; rfl
          generalize K.getD (k / 8) 0 = kb at *
          have hok := Lad.at_ok x1 K hx (254 - k)
          rw [show 255 - (k + 1) = 254 - k by omega] at hb7
          generalize Lad.at x1 K (254 - k) = S at *
          have HST := hid hst
          clear hst hbe
          simp only [dn_succ]
          cases hb : kbit K k with
          | false =>
            rw [hb] at hkb HST
            have hd := hkb.symm
            clear hkb
            go_wp2_with fail
            (with_reducible refine (step_L gl _ x1 S hx hok _ hb7).mono ?_); rintro e w5 ⟨rfl, hb8, ho8⟩
            go_wp2_with fail
            go_roundw
            case rel => exact ⟨k, by omega, by rw [dn_pred], hb0.only ho8 hgl0, hb2.only ho8 hgl2, by rw [HST.out]; exact hb8, L0.only ho8 hgl3⟩
            case measure => simp [intOf]
          | true =>
            rw [hb] at hkb HST
            have hd := hkb.symm
            clear hkb
            go_wp2_with fail
            (with_reducible refine (exchange_L gl _ x1 S _ hb7).mono ?_); rintro e w5 ⟨rfl, hb8, ho8⟩
            go_wp2_with fail
            (with_reducible refine (step_L gl _ x1 S.swap hx (Lad.swap_ok hok) _ hb8).mono ?_); rintro e w6 ⟨rfl, hb9, ho9⟩
            go_wp2_with fail
            (with_reducible refine (exchange_L gl _ x1 (S.swap.step x1) _ hb9).mono ?_); rintro e w7 ⟨rfl, hb10, ho10⟩
            go_wp2_with fail
            go_roundw
            case rel => exact ⟨k, by omega, by rw [dn_pred], ((hb0.only ho8 hgl0).only ho9 hgl0).only ho10 hgl0, ((hb2.only ho8 hgl2).only ho9 hgl2).only ho10 hgl2, by rw [HST.out]; exact hb10, ((L0.only ho8 hgl3).only ho9 hgl3).only ho10 hgl3⟩
            case measure => simp [intOf]
    · have eU : readE us = 2 := by rw [readE, if_neg (by omega)]
      rw [eU] at cU
      have hMB := hid (show multB ks us = List.replicate 32 0 by rw [multB, if_neg (by omega)])
      have hME := hid (show multE ks us = 2 by rw [multE, if_neg (by omega)])
      generalize clampB ks = K at *
      generalize readN us = x1 at *
      go_enter Try.func47, Try.ntmps47
      go_wp2_with fail
      generalize hW : w.alloc _ = w0
      replace L0 : Later w w0 := by rw [← hW]; exact later_alloc _ _
      replace hb0 : Blk w0 w.heap.size 42 (List.replicate 32 (Value.int .u8 0)) := by rw [← hW]; exact Blk.new w 42 (List.replicate 32 (Value.int .u8 0))
      clear hW
      (with_reducible refine (cK.out _ (hk.later L0)).mono ?_); rintro e w1 ⟨rfl, hl1⟩
      replace hb0 := hb0.later hl1
      replace L0 := L0.trans hl1
      go_wp2_with (first
        | (refine store_B rfl rfl _ _ rfl (Blk.new w1 _ (List.replicate 32 (.int .u8 0))) rfl rfl hcl rfl ?_; intro w2 hb2 ho2)
        | fail)
      replace hb0 := (hb0.later (later_alloc w1 (.cells (List.replicate 32 (.int .u8 0)).toArray 42))).only ho2 (by have := hb0.lt; omega)
      replace L0 := (L0.trans (later_alloc w1 (.cells (List.replicate 32 (.int .u8 0)).toArray 42))).only ho2 (by have := L0.size; omega)
      clear ho2 hl1
      (with_reducible refine (cU.out _ (hu.later L0)).mono ?_); rintro e w3 ⟨rfl, hl3⟩
      replace hb0 := hb0.later hl3
      replace L0 := L0.trans hl3
      go_wp2_with (first
        | (refine store_E rfl rfl _ _ rfl (Blk.new w3 _ (List.replicate 4 (.int .u64 0))) rfl rfl rfl ?_; intro w4 hb4 ho4
           have hb04 := (hb0.later (later_alloc w3 (.cells (List.replicate 4 (.int .u64 0)).toArray 28))).only ho4 (by have := hb0.lt; omega)
           have L04 := (L0.trans (later_alloc w3 (.cells (List.replicate 4 (.int .u64 0)).toArray 28))).only ho4 (by have := L0.size; omega))
        | (refine wpList_build_is rfl 42 _ rfl (List.replicate 32 (W8 0)) ?hb ?_; (case hb => kernel_rfl))
        | (refine store_B (bs := List.replicate 32 0) rfl rfl _ _ rfl hb04 rfl (by kernel_rfl) rfl rfl ?_; intro w9 hb9 ho9)
        | fail)
      exact bodyPost_ret (results_blk_tmp rfl _ _ _ _ _ _ hb9 rfl Try.underlying42 rfl (by rw [List.length_map, List.length_replicate]; exact size32b)) rfl ⟨by rw [hMB.out, hME.out]; rfl, L04.only ho9 (by omega)⟩
  · have eK : readE ks = 2 := by rw [readE, if_neg (by omega)]
    rw [eK] at cK
    have hMB := hid (show multB ks us = List.replicate 32 0 by rw [multB, if_neg (by omega)])
    have hME := hid (show multE ks us = 2 by rw [multE, if_neg (by omega)])
    generalize clampB ks = K at *
    go_enter Try.func47, Try.ntmps47
    go_wp2_with fail
    generalize hW : w.alloc _ = w0
    replace L0 : Later w w0 := by rw [← hW]; exact later_alloc _ _
    replace hb0 : Blk w0 w.heap.size 42 (List.replicate 32 (Value.int .u8 0)) := by rw [← hW]; exact Blk.new w 42 (List.replicate 32 (Value.int .u8 0))
    clear hW
    (with_reducible refine (cK.out _ (hk.later L0)).mono ?_); rintro e w1 ⟨rfl, hl1⟩
    replace hb0 := hb0.later hl1
    replace L0 := L0.trans hl1
    go_wp2_with (first
      | (refine store_B rfl rfl _ _ rfl (Blk.new w1 _ (List.replicate 32 (.int .u8 0))) rfl rfl hcl rfl ?_; intro w2 hb2 ho2
         have hb02 := (hb0.later (later_alloc w1 (.cells (List.replicate 32 (.int .u8 0)).toArray 42))).only ho2 (by have := hb0.lt; omega)
         have L02 := (L0.trans (later_alloc w1 (.cells (List.replicate 32 (.int .u8 0)).toArray 42))).only ho2 (by have := L0.size; omega))
      | (refine wpList_build_is rfl 42 _ rfl (List.replicate 32 (W8 0)) ?hb ?_; (case hb => kernel_rfl))
      | (refine store_B (bs := List.replicate 32 0) rfl rfl _ _ rfl hb02 rfl (by kernel_rfl) rfl rfl ?_; intro w9 hb9 ho9)
      | fail)
    exact bodyPost_ret (results_blk_tmp rfl _ _ _ _ _ _ hb9 rfl Try.underlying42 rfl (by rw [List.length_map, List.length_replicate]; exact size32b)) rfl ⟨by rw [hMB.out, hME.out]; rfl, L02.only ho9 (by omega)⟩
end Go.Proofs.Ytmdjhbiiifnfiaa
