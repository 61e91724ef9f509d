/-
  shallotlaw12: awake, KeysOf, KeysPeels.
-/
import Derived.Test.YtjohieongjnemaaKeys6
import Derived.Test.YtjohieongjnemaaCurveK
namespace Go.Proofs.Ytjohieongjnemaa
open Go.RowKit
open Go.BigFrame

def x9 : List UInt8 := 9 :: List.replicate 31 0
theorem mac_pay : (derB x9 sMac == derB x9 sPay) = false := by kernel_rfl
theorem x9_nb : x9 = nb 9 := by decide
theorem x9_len : x9.length = 32 := by decide
theorem err_one (x : List UInt8) (hx : x.length = 32) (h : x = nb 9) : errA x [x] 0 = 0 := by
  show (chainR x [x]).2 = 0
  rw [chain_one]
  have := pub_ok x hx
  rw [← h] at this
  exact this
theorem sched_one (x : List UInt8) (hx : x.length = 32) (h : errA x [x] 0 = 0) : schedE x [x] = 0 := by
  rw [schedE_fit ⟨hx, by simp, by simp, by intro p hp; rw [List.mem_singleton.1 hp]; exact hx⟩]
  show goE x [x] 1 0 = 0
  rw [goE, if_pos h, goE]
theorem steps_one (x : List UInt8) (ps : List (List UInt8)) : stepsA x ps 1 = [stepA x ps 0] := rfl
theorem alpha_one (x : List UInt8) (ps : List (List UInt8)) : subB (stepA x ps 0) 128 32 = multB x (nb 9) := stepA_alpha x ps 0
set_option maxRecDepth 100000 in
set_option maxHeartbeats 4000000 in
theorem awake12_of (X : List UInt8) (hxl : X.length = 32) (hx9 : (List.replicate 32 (Value.int .u8 0)).set 0 (.int .u8 9) = X.map W8) (hmp : (derB X sMac == derB X sPay) = false) (hs0 : schedE X [X] = 0) (w : World) : Calls Try.prog 32 #[] w fun e w' => e = .returned (.bool true) ∧ Later w w' := by
  have hP := hid (fun (w : World) g h => public_ref (some ⟨g, 0, none⟩) 32 32 X w h (by omega))
  rw [pub_ok X hxl] at hP
  have hO := hid (fun (w : World) g h => of_keys (some ⟨g, 0, none⟩) 32 32 X w h (by omega) (by omega))
  rw [show ofB X = k4 X by rw [ofB, if_pos hxl], show ofE X = 0 by rw [ofE, if_pos hxl]] at hO
  have hS := hid (fun (w : World) g B d h1 h2 => kschedule_any (some ⟨g, 0, none⟩) B 32 32 1 d X [X] w h1 (by omega) (by omega) h2 (by omega))
  rw [hs0] at hS
  have ha := alpha_one X [X]
  have hTl := stepA_length X [X] 0
  rw [steps_one] at hS
  have hkl := k4_length X
  obtain ⟨k0, hk0⟩ := sub32 (derB_length X sMac)
  obtain ⟨k2, hk2⟩ := sub32 (derB_length X sPay)
  have hne : (k0.val != k2.val) = true := by rw [hk0, hk2, bne, hmp]; rfl
  have s0 : subB (k4 X) 0 32 = k0.val := by rw [hk0, k4, subB_first _ _ _ (derB_length _ _)]
  have s2 : subB (k4 X) 64 32 = k2.val := by
    rw [hk2, k4, ← List.append_assoc, subB_here _ _ _ _ _ (by simp [derB_length]) (derB_length _ _)]
  obtain ⟨y, hy⟩ := sub32 (multB_length X (nb 9))
  rw [← hy] at hP ha
  have hyl := y.2
  have h0l := k0.2
  have h2l := k2.2
  generalize stepA X [X] 0 = T at *
  generalize k4 X = K at *
  clear hk0 hk2 hy hmp hs0
  have HX := hid hx9
  have HA := hid ha
  have HS0 := hid s0
  have HS2 := hid s2
  clear hx9 ha s0 s2
  go_enter Try.func32, Try.ntmps32
  go_wp2_with (first
    | (refine wpList_make_n rfl _ _ 22 rfl 5 (.int .u8 0) 1 Try.underlying22 info8 rfl _ _ _ _ 32 rfl rfl rfl rfl (by omega) (by omega) ?_; intro w2 hb2 hl2)
    | (refine wpList_store_in rfl rfl _ _ _ rfl _ _ _ _ hb2 rfl ?hl rfl (by kernel_rfl) ?_; (case hl => simp); intro v w3 hv hb3 ho3; simp [go_sem] at hv; subst hv; rw [HX.out] at hb3)
    | fail)
  have L3 : Later w w3 := hl2.only ho3 (Nat.le_refl _)
  have hg := hb3.lt
  generalize w.heap.size = g1 at *
  have hrd3 : RdB w3 (some ⟨g1, 0, none⟩) 32 X := blk_rdB hb3 hxl
  (with_reducible refine (hP.out _ _ hrd3).mono ?_); rintro e w4 ⟨rfl, j4⟩
  go_wp2_with (first
    | (refine store_B rfl rfl _ _ rfl (Blk.new w4 _ (List.replicate 32 (.int .u8 0))) rfl rfl hyl rfl ?_; intro w5 hb5 ho5)
    | fail)
  have J5 : Later w3 w5 := (j4.trans (later_alloc w4 _)).only ho5 j4.size
  have J6 := J5.trans (later_alloc w5 (.cells #[.slice (some ⟨g1, 0, none⟩) 32 32] 22))
  have hb6 := hb5.later (later_alloc w5 (.cells #[.slice (some ⟨g1, 0, none⟩) 32 32] 22))
  have hpp := parts_one (Blk.new w5 22 [.slice (some ⟨g1, 0, none⟩) 32 32]) (part_rd (hrd3.later J6) (Nat.le_refl _))
  (with_reducible refine (hS.out _ _ _ 1 (hrd3.later J6) hpp).mono ?_); rintro e w7 ⟨j7, ⟨h0, _⟩ | ⟨_, A7, c7, rfl, hc7, hr7⟩⟩
  · exact absurd rfl h0
  have J7 := J6.trans j7
  have hb7 := hb6.later j7
  clear hb5 ho5 hb6 hpp J5 J6 j4 j7 hb3 ho3 hl2 hb2
  go_wp2_with fail
  (with_reducible refine (hO.out _ _ (hrd3.later J7)).mono ?_); rintro e w8 ⟨rfl, j8⟩
  have hzK := zcKl
  go_wp2_with (first
    | (refine store_K rfl rfl _ _ rfl (Blk.new w8 _ Try.zeroCells49.toList) rfl rfl hkl hzK ?_; intro w9 hb9 ho9)
    | fail)
  have J9 : Later w7 w9 := (j8.trans (later_alloc w8 _)).only ho9 j8.size
  obtain ⟨b, o, rfl, hb, hcell⟩ := hr7.sub (k := 0) (by omega)
  have hcA : ∀ w', Later w9.drew w' → ∀ j v, (y.val.map W8)[j]? = some v → w'.cell? ⟨b, o + 128 + j, none⟩ = some v := by
    intro w' hl' j v hv
    have := hcell w' ((J9.trans (later_drew _)).trans hl') 128 32 y.val HA.out j v hv
    rwa [Nat.zero_mul, Nat.add_zero] at this
  have HCA := hid hcA
  have hy9 := (hb7.later J9).drew
  have hk9 := hb9.drew
  clear hcell hcA
  refine wp_region_parts [] [0, 1, 2, 3, 4, 5, 6, 7, 8, 9, 10, 11, 12, 13, 14, 15, 16, 17, 18, 19, 20, 21, 22, 23, 24, 25, 26] [] (by as_aux_lemma => kernel_rfl) (by as_aux_lemma => kernel_rfl) (by intro _ _ d _ _ h; cases d <;> exact h) ?_
  simp only [wpParts, pick, List.getElem?_cons_succ, List.getElem?_cons_zero, Option.toList_some, List.cons_append, List.nil_append]
  repeat (first | go_big_quiet_skip | (go_big_quiet_want; (first | refine quiet_B _ rfl hy9 hyl rfl ?_ | refine quiet_Y 0 32 _ rfl hk9 rfl Try.underlying47 rfl size32c HS0.out h0l ?_ | refine quiet_Y 64 32 _ rfl hk9 rfl Try.underlying47 rfl size32c HS2.out h2l ?_ | (refine quiet_load_agg 47 _ rfl b (o + 128) (y.val.map W8) ?hc ?hx _ Try.underlying47 rfl ?hi ?_; (case hx => rfl); (case hi => rw [List.length_map, hyl]; exact size32c); (case hc => rintro w' ⟨z, rfl⟩; exact HCA.out _ ⟨z, rfl⟩))); simp only [Act.put, List.setIfInBounds_toArray, List.set_cons_succ, List.set_cons_zero]; go_big_quiet_on) | (go_big_quiet_step (fail)))
  refine wpQuiet_nil ?_
  go_wp2
  go_ret
  exact ⟨rfl, (L3.trans J7).trans (J9.trans (later_drew _))⟩
theorem awake12 (w : World) : Calls Try.prog 32 #[] w fun e w' => e = .returned (.bool true) ∧ Later w w' :=
  awake12_of x9 x9_len rfl mac_pay (sched_one x9 x9_len (err_one x9 x9_len x9_nb)) w
set_option maxRecDepth 100000 in
set_option maxHeartbeats 4000000 in
theorem keysOf_walk (A : Option Addr) (n c : Nat) (s : List UInt8) (w : World) (hx : RdB w A n s) (hn : n ≤ 35184372088832) :
    Calls Try.prog 7 #[.slice A n c] w fun e w' => e = .returned (.bool true) ∧ Later w w' := by
  have h1 := hid (fun (w : World) A c h hc => of_keys A n c s w h hc hn)
  have h2 := hid (fun (w : World) A c h => of_ref12 A n c s w h hn)
  obtain ⟨y, hy⟩ : ∃ y : Y128, y.val = ofB s := ⟨⟨_, ofB_length s⟩, rfl⟩
  rw [← hy] at h1 h2
  clear hy
  generalize ofE s = e1 at *
  have hyl := y.2
  have hzK := zcKl
  go_enter Try.func7, Try.ntmps7
  go_wp2_with fail
  (with_reducible refine (awake12 _).mono ?_); rintro e w1 ⟨rfl, j1⟩
  go_wp2_with fail
  (with_reducible refine (copy_any A n c s _ (hx.later j1) (by omega)).mono ?_); rintro e w2 ⟨A2, c2, rfl, o2, j2⟩
  go_wp2_with fail
  (with_reducible refine (h1.out _ A2 c2 o2.rd o2.cap).mono ?_); rintro e w3 ⟨rfl, j3⟩
  go_wp2_with (first
    | (refine store_K rfl rfl _ _ rfl (Blk.new w3 _ Try.zeroCells49.toList) rfl rfl hyl hzK ?_; intro w4 hb4 ho4)
    | fail)
  have B1 := (Bag.none w).push (((j1.trans j2).trans j3).trans (later_alloc w3 _)) ((j1.trans j2).trans j3).size ho4 hb4
  clear j1 j2 j3 o2 hb4 ho4
  (with_reducible refine (h2.out _ A c (hx.later B1.lat)).mono ?_); rintro e w5 ⟨rfl, j5⟩
  go_wp2_with (first
    | (refine store_K rfl rfl _ _ rfl (Blk.new w5 _ Try.zeroCells49.toList) rfl rfl hyl hzK ?_; intro w6 hb6 ho6
       have B2 := B1.push (j5.trans (later_alloc w5 _)) j5.size ho6 hb6)
    | (refine load_K rfl _ rfl (B2.nth 0 rfl) hyl rfl ?_)
    | (refine load_K rfl _ rfl (B2.nth 1 rfl) hyl rfl ?_)
    | fail)
  go_ret
  exact ⟨rfl, B2.lat⟩
set_option maxRecDepth 100000 in
set_option maxHeartbeats 4000000 in
theorem keysPeels_walk (A B : Option Addr) (n m c d : Nat) (ks us : List UInt8) (w : World) (hk : RdB w A n ks) (hu : RdB w B m us) (hn : n ≤ 140737488355328) (hm : m ≤ 140737488355328) :
    Calls Try.prog 9 #[.slice A n c, .slice B m d] w fun e w' => e = .returned (.bool true) ∧ Later w w' := by
  have h1 := hid (fun (w : World) A B c d h1 h2 => peel_any A B n c m d ks us w h1 h2 hn hm)
  have h2 := hid (fun (w : World) A B c d h1 h2 => peel_ref A B n c m d ks us w h1 h2 hn hm)
  have hPl := peelB_length ks us
  have hIs := hid (fun w => is12_same (peelB ks us) hPl w)
  have hN1 := hid (fun w => next_any (peelB ks us) _ _ hPl rfl rfl w)
  have hN2 := hid (fun w => next_ref (peelB ks us) _ _ hPl rfl rfl w)
  generalize peelB ks us = T at *
  generalize multE ks us = e1 at *
  obtain ⟨y, hy⟩ := sub32 (multB_length (subB T 96 32) (subB T 128 32))
  rw [← hy] at hN1 hN2
  clear hy
  generalize multE (subB T 96 32) (subB T 128 32) = e2 at *
  have hyl := y.2
  have hzS := zc192
  have hzR := zcRl
  go_enter Try.func9, Try.ntmps9
  go_wp2_with fail
  (with_reducible refine (awake12 _).mono ?_); rintro e w1 ⟨rfl, j1⟩
  go_wp2_with fail
  (with_reducible refine (copy_any A n c ks _ (hk.later j1) (by omega)).mono ?_); rintro e w2 ⟨A2, c2, rfl, o2, j2⟩
  go_wp2_with fail
  (with_reducible refine (copy_any B m d us _ (hu.later (j1.trans j2)) (by omega)).mono ?_); rintro e w3 ⟨A3, c3, rfl, o3, j3⟩
  go_wp2_with fail
  (with_reducible refine (h1.out _ A2 A3 c2 c3 (o2.rd.later j3) o3.rd).mono ?_); rintro e w4 ⟨rfl, j4⟩
  go_wp2_with (first
    | (refine store_St rfl rfl _ _ rfl (Blk.new w4 _ Try.zeroCells63.toList) rfl rfl hPl hzS ?_; intro w5 hb5 ho5)
    | fail)
  have B1 := (Bag.none w).push ((((j1.trans j2).trans j3).trans j4).trans (later_alloc w4 _)) (((j1.trans j2).trans j3).trans j4).size ho5 hb5
  clear j1 j2 j3 j4 o2 o3 hb5 ho5
  (with_reducible refine (h2.out _ A B c d (hk.later B1.lat) (hu.later B1.lat)).mono ?_); rintro e w6 ⟨rfl, j6⟩
  go_wp2_with (first
    | (refine store_SR rfl rfl _ _ rfl (Blk.new w6 _ Try.zeroCells66.toList) rfl rfl hPl hzR ?_; intro w7 hb7 ho7
       have B2 := B1.push (j6.trans (later_alloc w6 _)) j6.size ho7 hb7)
    | (refine load_SR rfl _ rfl (B2.nth 0 rfl) hPl rfl ?_)
    | (refine load_St rfl _ rfl (B2.nth 1 rfl) hPl rfl ?_)
    | fail)
  clear j6 hb7 ho7 B1
  (with_reducible refine (hIs.out _).mono ?_); rintro e w8 ⟨rfl, j8⟩
  have B3 := B2.later j8
  by_cases he : e1 = 0
  · subst he
    go_wp2_with (first
      | (refine load_St rfl _ rfl (B3.nth 1 rfl) hPl rfl ?_)
      | fail)
    (with_reducible refine (hN1.out _).mono ?_); rintro e w9 ⟨rfl, j9⟩
    go_wp2_with (first
      | (refine store_B rfl rfl _ _ rfl (Blk.new w9 _ (List.replicate 32 (.int .u8 0))) rfl rfl hyl rfl ?_; intro w10 hb10 ho10
         have B4 := B3.push (j9.trans (later_alloc w9 _)) j9.size ho10 hb10)
      | (refine load_SR rfl _ rfl (B4.nth 1 rfl) hPl rfl ?_)
      | fail)
    (with_reducible refine (hN2.out _).mono ?_); rintro e w11 ⟨rfl, j11⟩
    go_wp2_with (first
      | (refine store_B rfl rfl _ _ rfl (Blk.new w11 _ (List.replicate 32 (.int .u8 0))) rfl rfl hyl rfl ?_; intro w12 hb12 ho12
         have B5 := B4.push (j11.trans (later_alloc w11 _)) j11.size ho12 hb12)
      | (refine load_B rfl _ rfl (B5.nth 0 rfl) hyl rfl ?_)
      | (refine load_B rfl _ rfl (B5.nth 1 rfl) hyl rfl ?_)
      | fail)
    go_ret
    exact ⟨rfl, B5.lat⟩
  · have hne : ((e1 : Int) != 0) = true := by simp; omega
    go_wp2_with fail
    go_ret
    exact ⟨rfl, B3.lat⟩
end Go.Proofs.Ytjohieongjnemaa
