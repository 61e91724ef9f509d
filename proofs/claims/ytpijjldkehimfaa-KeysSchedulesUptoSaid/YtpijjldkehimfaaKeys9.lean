/-
  shallotlaw12: KeysSchedules.
-/
import Derived.Test.YtpijjldkehimfaaKeys8
namespace Go.Proofs.Ytpijjldkehimfaa
open Go.RowKit
open Go.BigFrame

theorem stepsA_getD (x : List UInt8) (ps : List (List UInt8)) (m k : Nat) (h : k < m) : (stepsA x ps m).getD k [] = stepA x ps k := by
  rw [stepsA, List.getD_eq_getElem?_getD, List.getElem?_map, List.getElem?_range h]
  rfl
theorem copies_small {ps : List (List UInt8)} {n : Nat} (h : ps.flatten.length + n ≤ 1048576) : ∀ p ∈ ps, p.length ≤ 140737488355328 := fun p hp => by
  have : p.length ≤ ps.flatten.length := by
    clear h
    induction ps with
    | nil => cases hp
    | cons q r ih =>
      rw [List.flatten_cons, List.length_append]
      rcases List.mem_cons.1 hp with rfl | hp
      · omega
      · have := ih hp; omega
  omega
set_option maxRecDepth 100000 in
set_option maxHeartbeats 8000000 in
theorem keysSchedules_walk (A B : Option Addr) (n c m d : Nat) (x : List UInt8) (ps : List (List UInt8)) (w : World) (hx : RdB w A n x) (hp : Parts w (fun _ => False) B m ps) (hn : n ≤ 1048576) (hm : m ≤ 1048576) (hps : ∀ p ∈ ps, p.length ≤ 140737488355328) :
    Calls Try.prog 8 #[.slice A n c, .slice B m d] w fun e w' => e = .returned (.bool true) ∧ Later w w' := by
  have h1 := hid (fun (w : World) A c B d h1 h2 hc => kschedule_any A B n c m d x ps w h1 hc (by omega) h2 (by omega))
  have h2 := hid (fun (w : World) h1 h2 => kschedule_ref A B n c m d x ps w h1 (by omega) h2 (by omega))
  have hT := hid (stepA_length x ps)
  have hAl := hid (stepA_alpha x ps)
  have hfst := hid (stA_fst_length x ps)
  have hst := hid (fun k => show (stA x ps (k + 1)).1 = multB (derB (secA x ps k) sBlind) (stA x ps k).1 from rfl)
  have hbl := hid (stepA_blind x ps)
  have hxl := hx.len
  have hnx := hid (fun (h : x.length = 32) k => stA_next x h ps k (derB (secA x ps k) sBlind) (derB_length _ _))
  have hfit : Hid (schedE x ps = 0 → x.length = 32) := hid (fun h => by
    by_cases hf : fitS x ps
    · exact hf.1
    · rw [schedE_bad hf] at h
      cases h)
  have hzS := zc192
  go_enter Try.func8, Try.ntmps8
  go_wp2_with fail
  (with_reducible refine (awake12 _).mono ?_); rintro e w1 ⟨rfl, j1⟩
  go_wp2_with fail
  (with_reducible refine (copy_any A n c x _ (hx.later j1) (by omega)).mono ?_); rintro e w2 ⟨A2, c2, rfl, o2, j2⟩
  go_wp2_with fail
  (with_reducible refine (copies_any B m d ps _ (hp.later (j1.trans j2)) (by omega) hps).mono ?_); rintro e w3 ⟨A3, c3, rfl, o3, j3⟩
  go_wp2_with fail
  (with_reducible refine (h1.out _ A2 c2 A3 c3 (o2.rd.later j3) o3.parts o2.cap).mono ?_); rintro e w4 ⟨j4, hpost⟩
  have L4 := ((j1.trans j2).trans j3).trans j4
  clear j1 j2 j3 j4 o2 o3
  rcases hpost with ⟨hE, rfl⟩ | ⟨hE, A5, c5, rfl, hc5, hr5⟩
  · go_wp2_with fail
    (with_reducible refine (h2.out _ (hx.later L4) (hp.later L4)).mono ?_); rintro e w5 ⟨j5, hpost⟩
    rcases hpost with ⟨_, rfl⟩ | ⟨hE', _⟩
    · clear h1 h2 hT hAl hfst hst hbl hnx hfit
      generalize schedE x ps = e1 at *
      go_wp2_with fail
      (with_reducible refine (pays_any none 0 0 [] _ (rdK_none 192 _) (by simp) (by omega)).mono ?_); rintro e w6 ⟨gs, rfl, hgs, B6⟩
      go_wp2_with fail
      go_loopw [49] (fun i wr => i = .int .i64 0 ∧ wr = w6) (fun _ _ => 0)
      case atStart => exact ⟨rfl, rfl⟩
      case round =>
        obtain ⟨rfl, rfl⟩ := hrel
        go_wp2
        go_ret
        exact ⟨rfl, (L4.trans j5).trans B6.lat⟩
    · exact absurd hE' hE
  · go_wp2_with fail
    (with_reducible refine (h2.out _ (hx.later L4) (hp.later L4)).mono ?_); rintro e w5 ⟨j5, hpost⟩
    rcases hpost with ⟨hE', _⟩ | ⟨_, A6, c6, rfl, hc6, hr6⟩
    · exact absurd hE hE'
    · have hx32 := hfit.out hE
      have hNX := hid (hnx.out hx32)
      clear h1 h2 hnx hfit hE hx32
      go_wp2_with fail
      (with_reducible refine (pays_any A5 m c5 (stepsA x ps m) _ (hr5.later j5) (stepsA_all x ps m) (by omega)).mono ?_); rintro e w7 ⟨gs, rfl, hgs, B7⟩
      have L7 := (L4.trans j5).trans B7.lat
      have hr5' := hr5.later (j5.trans B7.lat)
      have hr6' := hr6.later B7.lat
      have hpp := pays_parts B7 hgs (by rw [paysOf_length, stepsA_length]) (by
        intro p hp
        obtain ⟨s, hs, rfl⟩ := List.mem_map.1 hp
        exact subB_length (by rw [stepsA_all x ps m s hs]; omega))
      have hLb := B7.nth 0 rfl
      clear hr5 hr6 j5 L4 B7
      generalize w5.heap.size = gp at *
      go_wp2_with fail
      go_loopw [49] (fun i wr => ∃ k : Nat, k ≤ m ∧ i = .int .i64 k ∧ Later w7 wr) (fun i _ => m - (intOf i).toNat)
      case atStart => exact ⟨0, by omega, rfl, Later.refl _⟩
      case round =>
        obtain ⟨k, hk, rfl, L⟩ := hrel
        by_cases hlt : k < m
        · obtain ⟨b, o, e, hb, C1⟩ := hr5'.sub hlt
          obtain ⟨b2, o2, e2, hb2, C2⟩ := hr6'.sub hlt
          obtain ⟨b3, o3, Ak, nk, ck, e3, hb3, hck, hcap, hrd, _⟩ := (hpp.later L).at_ hlt
          subst e
          subst e2
          cases e3
          have hnk := hrd.len
          rw [stepsA_getD x ps m k hlt] at C1 C2
          have hTl := hT.out k
          have hpy : (paysOf (stepsA x ps m)).getD k [] = subB (stepA x ps k) 64 32 := by rw [paysOf_getD _ _ (by rw [stepsA_length]; exact hlt), stepsA_getD x ps m k hlt]
          rw [hpy] at hrd hnk
          have hpl : (subB (stepA x ps k) 64 32).length = 32 := subB_length (by omega)
          have F4 := hbl.out k
          have F5 := hAl.out k
          have hnext : Hid (k + 1 < m → ∀ w', Later w7 w' → ∀ j v, ((stA x ps (k + 1)).1.map W8)[j]? = some v → w'.cell? ⟨b, o + (k + 1) * 192 + 128 + j, none⟩ = some v) := hid (fun h w' hl j v hv => by
            obtain ⟨b', o', e', _, C⟩ := hr5'.sub h
            cases e'
            exact C w' hl 128 32 _ (by rw [stepsA_getD x ps m (k + 1) h]; exact hAl.out (k + 1)) j v hv)
          have hNx := hid (fun w => next_any (stepA x ps k) _ _ hTl F4 F5 w)
          rw [hNX.out k, ← hst.out k] at hNx
          obtain ⟨y2, hy2⟩ := sub32 (hfst.out (k + 1))
          rw [← hy2] at hNx hnext
          clear F4 F5 hpy hy2
          obtain ⟨T, hTe⟩ : ∃ T, T = stepA x ps k := ⟨_, rfl⟩
          rw [← hTe] at C1 C2 hTl hrd hnk hpl hNx
          clear hTe
          have hIs := hid (fun w => is12_same T hTl w)
          obtain ⟨p0, hp0⟩ := sub32 (subB_length (bs := T) (off := 0) (n := 32) (by omega))
          obtain ⟨p1, hp1⟩ := sub32 (subB_length (bs := T) (off := 32) (n := 32) (by omega))
          obtain ⟨p3, hp3⟩ := sub32 (subB_length (bs := T) (off := 96) (n := 32) (by omega))
          have Hp0 := hid hp0.symm
          have Hp1 := hid hp1.symm
          have Hp3 := hid hp3.symm
          have hp0l := p0.2
          have hp1l := p1.2
          have hp3l := p3.2
          have hy2l := y2.2
          have h192 : subB T 0 192 = T := by rw [subB, List.drop_zero, List.take_of_length_le (by omega)]
          generalize hPe : subB T 64 32 = P at *
          have HP := hid hPe
          obtain rfl : nk = 32 := by omega
          have hC1 := hid C1
          have hC2 := hid C2
          clear hp0 hp1 hp3 C1 C2 hPe hr5' hr6' hpp
          have C1 := hC1
          have C2 := hC2
          go_wp2_with (first
            | (refine wpList_load_agg rfl 63 _ rfl b (o + k * 192) (T.map W8) ?hc ?hx _ Try.underlying63 rfl ?hi ?_; (case hx => rfl); (case hi => rw [List.length_map, hTl]; exact size192); (case hc => exact C1.out _ L 0 192 T h192))
            | (refine store_St rfl rfl _ _ rfl (Blk.new wr _ Try.zeroCells63.toList) rfl rfl hTl hzS ?_; intro w8 hb8 ho8)
            | fail)
          have J8 : Later wr w8 := (later_alloc wr _).only ho8 (Nat.le_refl _)
          have h8 := hb8.drew
          have LL := L.trans (J8.trans (later_drew _))
          have d0 := (later_drew w8).below.cell (p := ⟨gp, 0 + k, none⟩) (Nat.lt_of_lt_of_le hb3 J8.size) |>.trans ((J8.below.cell (p := ⟨gp, 0 + k, none⟩) hb3).trans hck)
          have hrd8 := hrd.later (J8.trans (later_drew _))
          have hz8 : gp < w8.drew.heap.size := Nat.lt_of_lt_of_le hb3 (J8.trans (later_drew _)).size
          clear hb8 ho8 J8 hck hrd L
          rw [Nat.zero_add] at d0
          generalize wr.heap.size = g11 at *
          refine wp_region_parts [([0, 1, 2, 3, 4], 5), ([6, 7, 8, 9, 10, 11, 12, 13, 14, 15, 16, 17, 18, 19, 20, 21, 22, 23, 24, 25, 26, 27, 28, 29, 30, 31, 32, 33, 34, 35, 36, 37, 38, 39, 40, 41, 42, 43, 44, 45, 46, 47, 48, 49, 50], 51)] [52, 53] [] (by as_aux_lemma => kernel_rfl) (by as_aux_lemma => kernel_rfl) (by intro _ _ d _ _ h; cases d <;> exact h) ?_
          simp only [wpParts, pick, List.getElem?_cons_succ, List.getElem?_cons_zero, Option.toList_some, List.cons_append, List.nil_append]
          repeat (first | go_big_quiet_skip | (go_big_quiet_want; (first | refine quiet_Y 0 192 _ rfl h8 rfl Try.underlying63 rfl size192 h192 hTl ?_ | (refine quiet_load_agg 66 _ rfl b2 (o2 + k * 192) (T.map W8) ?hc ?hx _ Try.underlying66 rfl ?hi ?_; (case hx => rfl); (case hi => rw [List.length_map, hTl]; exact size192r); (case hc => rintro w' ⟨z, rfl⟩; exact C2.out _ (LL.trans ⟨z, rfl⟩) 0 192 T h192))); simp only [Act.put, List.setIfInBounds_toArray, List.set_cons_succ, List.set_cons_zero]; go_big_quiet_on) | (go_big_quiet_step (fail)))
          refine wpQuiet_nil ?_
          go_wp2_with fail
          (with_reducible refine (hIs.out _).mono ?_); rintro e u1 ⟨rfl, k1⟩
          replace h8 := h8.later k1
          replace LL := LL.trans k1
          replace hrd8 := hrd8.later k1
          replace d0 := (k1.below.cell (p := ⟨gp, k, none⟩) hz8).trans d0
          go_wp2_with fail
          try refine ⟨by first | assumption | exact later_drew _ | exact later_alloc _ _ | exact Later.refl _, ?_⟩
          try simp only [wpParts, pick, List.getElem?_cons_succ, List.getElem?_cons_zero, Option.toList_some, List.cons_append, List.nil_append]
          repeat (first | go_big_quiet_skip | (go_big_quiet_want; (first | refine quiet_Y 0 32 _ rfl h8 rfl Try.underlying47 rfl size32c Hp0.out hp0l ?_ | refine quiet_Y 32 32 _ rfl h8 rfl Try.underlying47 rfl size32c Hp1.out hp1l ?_ | refine quiet_Y 96 32 _ rfl h8 rfl Try.underlying47 rfl size32c Hp3.out hp3l ?_ | (refine quiet_load_agg 47 _ rfl b2 (o2 + k * 192) (p0.val.map W8) ?hc ?hx _ Try.underlying47 rfl ?hi ?_; (case hx => rfl); (case hi => rw [List.length_map, hp0l]; exact size32c); (case hc => rintro w' ⟨z, rfl⟩; exact C2.out _ (LL.trans ⟨z, rfl⟩) 0 32 p0.val Hp0.out)) | (refine quiet_load_agg 47 _ rfl b2 (o2 + k * 192 + 32) (p1.val.map W8) ?hc ?hx _ Try.underlying47 rfl ?hi ?_; (case hx => rfl); (case hi => rw [List.length_map, hp1l]; exact size32c); (case hc => rintro w' ⟨z, rfl⟩; exact C2.out _ (LL.trans ⟨z, rfl⟩) 32 32 p1.val Hp1.out)) | (refine quiet_load_agg 47 _ rfl b2 (o2 + k * 192 + 96) (p3.val.map W8) ?hc ?hx _ Try.underlying47 rfl ?hi ?_; (case hx => rfl); (case hi => rw [List.length_map, hp3l]; exact size32c); (case hc => rintro w' ⟨z, rfl⟩; exact C2.out _ (LL.trans ⟨z, rfl⟩) 96 32 p3.val Hp3.out))); simp only [Act.put, List.setIfInBounds_toArray, List.set_cons_succ, List.set_cons_zero]; go_big_quiet_on) | (go_big_quiet_step (fail)))
          refine wpQuiet_nil ?_
          clear k1
          go_wp2_with fail
          (with_reducible refine (equal_any _ _ 32 32 ck 32 P P _ hrd8 (rdB_sub h8 HP.out hpl) (by omega) (by omega)).mono ?_); rintro e u2 ⟨rfl, k2⟩
          rw [decide_eq_true rfl]
          replace h8 := h8.later k2
          replace LL := LL.trans k2
          have hcase : (decide ((k : Int) + 1 < (m : Int)) = true ∧ k + 1 < m) ∨ (decide ((k : Int) + 1 < (m : Int)) = false ∧ k + 1 = m) := by
            simp only [decide_eq_true_eq, decide_eq_false_iff_not]
            omega
          rcases hcase with ⟨kl, hl⟩ | ⟨kl, hl⟩
          · have CN := hid (hnext.out hl)
            go_wp2_with fail
            try refine ⟨by first | assumption | exact later_drew _ | exact later_alloc _ _ | exact Later.refl _, ?_⟩
            try simp only [wpParts, pick, List.getElem?_cons_succ, List.getElem?_cons_zero, Option.toList_some, List.cons_append, List.nil_append]
            repeat (go_big_quiet_step (fail))
            refine wpQuiet_nil ?_
            clear k2 hnext C1 C2
            go_wp2_with (first
              | (refine load_St rfl _ rfl h8 hTl rfl ?_)
              | fail)
            (with_reducible refine (hNx.out _).mono ?_); rintro e u3 ⟨rfl, k3⟩
            go_wp2_with (first
              | (refine store_B rfl rfl _ _ rfl (Blk.new u3 _ (List.replicate 32 (.int .u8 0))) rfl rfl hy2l rfl ?_; intro u4 hb4 ho4)
              | fail)
            have hd4 := hb4.drew
            have L4 := LL.trans (((k3.trans (later_alloc u3 _)).only ho4 k3.size).trans (later_drew _))
            clear hb4 ho4 k3
            refine wp_region_parts [] [0, 1, 2, 3, 4, 5, 6, 7, 8, 9, 10, 11] [] (by as_aux_lemma => kernel_rfl) (by as_aux_lemma => kernel_rfl) (by intro _ _ d _ _ h; cases d <;> exact h) ?_
            simp only [wpParts, pick, List.getElem?_cons_succ, List.getElem?_cons_zero, Option.toList_some, List.cons_append, List.nil_append]
            repeat (first | go_big_quiet_skip | (go_big_quiet_want; (first | refine quiet_B _ rfl hd4 hy2l rfl ?_ | (refine quiet_load_agg 47 _ rfl b (o + (k + 1) * 192 + 128) (y2.val.map W8) ?hc ?hx _ Try.underlying47 rfl ?hi ?_; (case hx => rfl); (case hi => rw [List.length_map, hy2l]; exact size32c); (case hc => rintro w' ⟨z, rfl⟩; exact CN.out _ (L4.trans ⟨z, rfl⟩)))); simp only [Act.put, List.setIfInBounds_toArray, List.set_cons_succ, List.set_cons_zero]; go_big_quiet_on) | (go_big_quiet_step (fail)))
            refine wpQuiet_nil ?_
            go_wp2_with fail
            go_roundw
            case rel => exact ⟨k + 1, by omega, by go_num, L4⟩
            case measure => simp [intOf]; omega
          · go_wp2_with fail
            try refine ⟨by first | assumption | exact later_drew _ | exact later_alloc _ _ | exact Later.refl _, ?_⟩
            try simp only [wpParts, pick, List.getElem?_cons_succ, List.getElem?_cons_zero, Option.toList_some, List.cons_append, List.nil_append]
            repeat (go_big_quiet_step (fail))
            refine wpQuiet_nil ?_
            go_wp2_with fail
            go_roundw
            case rel => exact ⟨k + 1, by omega, by go_num, LL⟩
            case measure => simp [intOf]; omega
        · have hkm : k = m := by omega
          go_wp2_with fail
          go_ret
          exact ⟨rfl, L7.trans L⟩
end Go.Proofs.Ytpijjldkehimfaa
