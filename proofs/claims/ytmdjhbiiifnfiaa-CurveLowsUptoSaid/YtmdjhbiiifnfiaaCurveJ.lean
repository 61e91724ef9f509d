/-
  shallotlaw06: CurveLows.
-/
import Derived.Test.YtmdjhbiiifnfiaaCurveI
import Derived.Test.YtmdjhbiiifnfiaaCurveC
import Derived.Test.YtmdjhbiiifnfiaaEd3
namespace Go.Proofs.Ytmdjhbiiifnfiaa
open Go.RowKit
open Go.BigFrame

theorem multQ_ed (ks us : List UInt8) : multQ ks us = Ed.multN (readN us) (clampB ks) := rfl
theorem low_facts (K us : List UInt8) (hK : K.length = 32) (hu : us.length = 32) : multE K us = (if lowB us then 5 else 0) ∧ (multB K us == List.replicate 32 0) = lowB us := by
  have hz : (List.replicate 32 (0 : UInt8)).length = 32 := by simp
  have hiff : multQ K us = 0 ↔ multQ (List.replicate 32 0) us = 0 := by
    rw [multQ_ed, multQ_ed]
    exact ⟨Ed.lows _ K _ hK hz, Ed.lows _ _ K hz hK⟩
  have hQT : multQ K us < T256 := Nat.lt_trans (show multQ K us < P25 from Nat.mod_lt _ P25_pos) (by decide)
  have e1 : multE K us = if multQ K us = 0 then 5 else 0 := by unfold multE; rw [if_pos ⟨hK, hu⟩]
  have e2 : multB K us = nb (multQ K us) := by unfold multB; rw [if_pos ⟨hK, hu⟩]
  have e3 : lowB us = decide (multQ K us = 0) := by
    unfold lowB multE
    rw [if_pos hu, if_pos ⟨hz, hu⟩]
    by_cases h : multQ K us = 0
    · rw [if_pos (hiff.1 h), decide_eq_true h]; rfl
    · rw [if_neg (fun h2 => h (hiff.2 h2)), decide_eq_false h]; rfl
  rw [e1, e2, nb_is_zero _ hQT, e3]
  constructor
  · by_cases h : multQ K us = 0 <;> simp [h]
  · rfl
theorem low_zeros : lowB (List.replicate 32 0) = true := by
  have hz : (List.replicate 32 (0 : UInt8)).length = 32 := by simp
  have h0 : readN (List.replicate 32 0) = 0 := by rw [readN, if_pos hz, num_zeros]; rfl
  have hq : multQ (List.replicate 32 0) (List.replicate 32 0) = 0 := by
    rw [multQ_ed, h0]
    exact Ed.multN_nought Ed.toF_zero _
  unfold lowB multE
  rw [if_pos hz, if_pos ⟨hz, hz⟩, if_pos hq]
  rfl
set_option maxRecDepth 100000 in
set_option maxHeartbeats 4000000 in
theorem curveLows_walk (A B : Option Addr) (n m c d : Nat) (us ks : List UInt8) (w : World) (hu : RdB w A n us) (hk : RdB w B m ks) (hn : n ≤ 140737488355328) (hm : m ≤ 140737488355328) :
    Calls Try.prog 12 #[.slice A n c, .slice B m d] w fun e w' => e = .returned (.bool true) ∧ Later w w' := by
  have hul := hu.len
  have hkl := hk.len
  have hzl : (List.replicate 32 (0 : UInt8)).length = 32 := by simp
  have hL0 := hid (fun (w : World) A c h => low_any A 32 c (List.replicate 32 0) w h (by omega))
  rw [low_zeros, show readE (List.replicate 32 0) = 0 by rw [readE, if_pos hzl]] at hL0
  have hL := hid (fun (w : World) A c h => low_any A n c us w h hn)
  obtain ⟨z, hz⟩ := sub32 hzl
  have hzz := z.2
  have hbz : Program.built Try.prog 42 [] = some (z.val.map W8).toArray := by rw [hz]; kernel_rfl
  by_cases hn32 : n = 32
  · subst hn32
    rw [show readE us = 0 by rw [readE, if_pos hul]] at hL
    have key : ∀ K : List UInt8, K.length = 32 → ∃ y : Y32, (∀ (w : World) A' B' c d, RdB w A' 32 K → RdB w B' 32 us → Calls Try.prog 47 #[.slice A' 32 c, .slice B' 32 d] w fun e w' => e = .returned (.tuple #[.agg (y.val.map W8).toArray, .int .i64 ((if lowB us then 5 else 0 : Nat) : Int)]) ∧ Later w w') ∧ (y.val == z.val) = lowB us := by
      intro K hK
      obtain ⟨y, hy⟩ := sub32 (multB_length K us)
      have hf := low_facts K us hK hul
      refine ⟨y, fun w A' B' c d h1 h2 => ?_, by rw [hy, hz]; exact hf.2⟩
      have := mult_any A' B' 32 c 32 d K us w h1 h2 (by omega) (by omega)
      rwa [← hy, hf.1] at this
    by_cases hm32 : m = 32
    · subst hm32
      obtain ⟨y, hM, hcmp⟩ := key ks hkl
      replace hM := hid hM
      have hyl := y.2
      clear key hz
      generalize lowB us = b at *
      cases b
      all_goals
        go_enter Try.func12, Try.ntmps12
        go_wp2_with (first
          | (refine wpList_make_n rfl _ _ 25 rfl 5 (.int .u8 0) 1 Try.underlying25 info8 rfl _ _ _ _ 32 rfl rfl rfl rfl (by omega) (by omega) ?_; intro w1 hb1 j1)
          | fail)
        have hr1 : RdB w1 (some ⟨w.heap.size, 0, none⟩) 32 (List.replicate 32 0) := blk_rdB (bs := List.replicate 32 0) (by rw [List.map_replicate]; exact hb1) hzl
        (with_reducible refine (hL0.out _ _ 32 hr1).mono ?_); rintro e w2 ⟨rfl, j2⟩
        replace j2 := j1.trans j2
        clear hb1 hr1 j1
        go_wp2_with (first
          | (go_at_call 44; (with_reducible refine (awake06 _).mono ?_); rintro e w3 ⟨rfl, j3⟩)
          | fail)
        replace j3 := j2.trans j3
        (with_reducible refine (copy_any A 32 c us _ (hu.later j3) (by omega)).mono ?_); rintro e w4 ⟨A4, c4, rfl, o4, j4⟩
        go_wp2_with fail
        (with_reducible refine (hL.out _ A4 c4 o4.rd).mono ?_); rintro e w5 ⟨rfl, j5⟩
        replace j4 := (j3.trans j4).trans j5
        clear j2 j3 j5 o4
        go_wp2_with fail
        (with_reducible refine (copy_any B 32 d ks _ (hk.later j4) (by omega)).mono ?_); rintro e w7 ⟨A7, c7, rfl, o7, j7⟩
        go_wp2_with fail
        (with_reducible refine (copy_any A 32 c us _ (hu.later (j4.trans j7)) (by omega)).mono ?_); rintro e w8 ⟨A8, c8, rfl, o8, j8⟩
        go_wp2_with fail
        (with_reducible refine (hM.out _ A7 A8 c7 c8 (o7.rd.later j8) o8.rd).mono ?_); rintro e w9 ⟨rfl, j9⟩
        replace j9 := j4.trans ((j7.trans j8).trans j9)
        go_wp2_with (first
          | (refine store_B rfl rfl _ _ rfl (Blk.new w9 _ (List.replicate 32 (.int .u8 0))) rfl rfl hyl rfl ?_; intro w10 hb10 ho10
             have L10 := (j9.trans (later_alloc w9 _)).only ho10 (by have := j9.size; omega))
          | (refine load_B rfl _ rfl hb10 hyl rfl ?_)
          | (refine build_want rfl 42 _ rfl (z.val.map W8) ?hb ?_; (case hb => simp only [List.map_toArray, List.map_nil]; exact hbz))
          | fail)
        go_ret
        exact ⟨rfl, L10⟩
    · obtain ⟨y, hM, hcmp⟩ := key (List.replicate 32 0) hzl
      replace hM := hid hM
      have hyl := y.2
      have hne : ((m : Int) != 32) = true := by simp; omega
      clear key hz
      generalize lowB us = b at *
      cases b
      all_goals
        go_enter Try.func12, Try.ntmps12
        go_wp2_with (first
          | (refine wpList_make_n rfl _ _ 25 rfl 5 (.int .u8 0) 1 Try.underlying25 info8 rfl _ _ _ _ 32 rfl rfl rfl rfl (by omega) (by omega) ?_; intro w1 hb1 j1)
          | fail)
        have hr1 : RdB w1 (some ⟨w.heap.size, 0, none⟩) 32 (List.replicate 32 0) := blk_rdB (bs := List.replicate 32 0) (by rw [List.map_replicate]; exact hb1) hzl
        (with_reducible refine (hL0.out _ _ 32 hr1).mono ?_); rintro e w2 ⟨rfl, j2⟩
        replace j2 := j1.trans j2
        clear hb1 hr1 j1
        go_wp2_with (first
          | (go_at_call 44; (with_reducible refine (awake06 _).mono ?_); rintro e w3 ⟨rfl, j3⟩)
          | fail)
        replace j3 := j2.trans j3
        (with_reducible refine (copy_any A 32 c us _ (hu.later j3) (by omega)).mono ?_); rintro e w4 ⟨A4, c4, rfl, o4, j4⟩
        go_wp2_with fail
        (with_reducible refine (hL.out _ A4 c4 o4.rd).mono ?_); rintro e w5 ⟨rfl, j5⟩
        replace j4 := (j3.trans j4).trans j5
        clear j2 j3 j5 o4
        go_wp2_with (first
          | (refine wpList_make_n rfl _ _ 25 rfl 5 (.int .u8 0) 1 Try.underlying25 info8 rfl _ _ _ _ 32 rfl rfl rfl rfl (by omega) (by omega) ?_; intro w6 hb6 j6)
          | fail)
        have hr6 : RdB w6 (some ⟨w5.heap.size, 0, none⟩) 32 (List.replicate 32 0) := blk_rdB (bs := List.replicate 32 0) (by rw [List.map_replicate]; exact hb6) hzl
        replace j6 := j4.trans j6
        (with_reducible refine (copy_any _ 32 32 (List.replicate 32 0) _ hr6 (by omega)).mono ?_); rintro e w7 ⟨A7, c7, rfl, o7, j7⟩
        go_wp2_with fail
        (with_reducible refine (copy_any A 32 c us _ (hu.later (j6.trans j7)) (by omega)).mono ?_); rintro e w8 ⟨A8, c8, rfl, o8, j8⟩
        go_wp2_with fail
        (with_reducible refine (hM.out _ A7 A8 c7 c8 (o7.rd.later j8) o8.rd).mono ?_); rintro e w9 ⟨rfl, j9⟩
        replace j9 := j6.trans ((j7.trans j8).trans j9)
        go_wp2_with (first
          | (refine store_B rfl rfl _ _ rfl (Blk.new w9 _ (List.replicate 32 (.int .u8 0))) rfl rfl hyl rfl ?_; intro w10 hb10 ho10
             have L10 := (j9.trans (later_alloc w9 _)).only ho10 (by have := j9.size; omega))
          | (refine load_B rfl _ rfl hb10 hyl rfl ?_)
          | (refine build_want rfl 42 _ rfl (z.val.map W8) ?hb ?_; (case hb => simp only [List.map_toArray, List.map_nil]; exact hbz))
          | fail)
        go_ret
        exact ⟨rfl, L10⟩
  · rw [show readE us = 2 by rw [readE, if_neg (by omega)], show lowB us = false by rw [lowB, if_neg (by omega)]] at hL
    have hne : ((n : Int) != 32) = true := by simp; omega
    go_enter Try.func12, Try.ntmps12
    go_wp2_with (first
      | (refine wpList_make_n rfl _ _ 25 rfl 5 (.int .u8 0) 1 Try.underlying25 info8 rfl _ _ _ _ 32 rfl rfl rfl rfl (by omega) (by omega) ?_; intro w1 hb1 j1)
      | fail)
    have hr1 : RdB w1 (some ⟨w.heap.size, 0, none⟩) 32 (List.replicate 32 0) := blk_rdB (bs := List.replicate 32 0) (by rw [List.map_replicate]; exact hb1) hzl
    (with_reducible refine (hL0.out _ _ 32 hr1).mono ?_); rintro e w2 ⟨rfl, j2⟩
    replace j2 := j1.trans j2
    clear hb1 hr1 j1
    go_wp2_with (first
      | (go_at_call 44; (with_reducible refine (awake06 _).mono ?_); rintro e w3 ⟨rfl, j3⟩)
      | fail)
    replace j3 := j2.trans j3
    (with_reducible refine (copy_any A n c us _ (hu.later j3) (by omega)).mono ?_); rintro e w4 ⟨A4, c4, rfl, o4, j4⟩
    go_wp2_with fail
    (with_reducible refine (hL.out _ A4 c4 o4.rd).mono ?_); rintro e w5 ⟨rfl, j5⟩
    replace j4 := (j3.trans j4).trans j5
    clear j2 j3 j5 o4
    go_wp2_with fail
    go_ret
    exact ⟨rfl, j4⟩
end Go.Proofs.Ytmdjhbiiifnfiaa
