/-
  The law WideSeals, walked.
-/
import Derived.Test.YtjohieongjnemaaWideF
namespace Go.Proofs.Ytjohieongjnemaa
open Go.RowKit
open Go.BigFrame

set_option maxRecDepth 100000 in
set_option maxHeartbeats 4000000 in
theorem wideSeals_walk (A B : Option Addr) (n c m d : Nat) (key bs : List UInt8) (w : World) (hk : RdB w A n key) (hc : n ≤ c) (hb : RdB w B m bs) (hd : m ≤ d) (hn : n ≤ 1048576) (hm : m ≤ 1048576) :
    Calls Try.prog 4 #[.slice A n c, .slice B m d] w fun e w' => e = .returned (.bool true) ∧ Later w w' := by
  have hbl := hb.len
  have sP := hid (fun A B c d w h1 hc h2 hd => seal_wide A B n c m d key bs w h1 hc h2 hd (by omega) (by omega))
  have oP := hid (fun A B c d w h1 hc h2 hd => open_wide A B n c m d key bs w h1 hc h2 hd (by omega) (by omega))
  have sR := hid (fun w h1 h2 => seal_ref A B n c m d key bs w h1 h2 hd (by omega) (by omega))
  have oR := hid (fun w h1 h2 => open_ref A B n c m d key bs w h1 h2 hd (by omega) (by omega))
  have hEO : wideE key bs rsO = wideE key bs rsS := wideE_SO key bs
  have hbS := hid (fun h => @wide_back key bs rsS h)
  have hbO := hid (fun h => @wide_back key bs rsO h)
  rw [hEO] at oP oR hbO
  rw [show rsS.reverse = rsO from rfl] at hbS
  rw [show rsO.reverse = rsS from rfl] at hbO
  have o2 := hid (fun B d (xs : List UInt8) (m : Nat) (w : World) h1 h2 hd hm => open_wide A B n c m d key xs w h1 hc h2 hd (by omega) hm)
  have s2 := hid (fun B d (xs : List UInt8) (m : Nat) (w : World) h1 h2 hd hm => seal_wide A B n c m d key xs w h1 hc h2 hd (by omega) hm)
  have hX : (wideB key bs rsS).length ≤ 1048576 := by
    by_cases h : okR rsS ∧ fitW key bs
    · rw [wideB_fit h.1 h.2, foldW_length key rsS bs h.2.2.1]; omega
    · rw [show wideB key bs rsS = [] by unfold wideB; split; (split; exact absurd ⟨by assumption, by assumption⟩ h; rfl); rfl]; exact Nat.zero_le _
  have hY : (wideB key bs rsO).length ≤ 1048576 := by
    by_cases h : okR rsO ∧ fitW key bs
    · rw [wideB_fit h.1 h.2, foldW_length key rsO bs h.2.2.1]; omega
    · rw [show wideB key bs rsO = [] by unfold wideB; split; (split; exact absurd ⟨by assumption, by assumption⟩ h; rfl); rfl]; exact Nat.zero_le _
  generalize wideB key bs rsS = X at *
  generalize wideB key bs rsO = Y at *
  generalize wideE key bs rsS = E at *
  clear hEO
  go_enter Try.func4, Try.ntmps4
  go_wp2_with fail
  (with_reducible refine (awake07 _).mono ?_); rintro e w1 ⟨rfl, j1⟩
  go_wp2_with fail
  (with_reducible refine (copy_any A n c key _ (hk.later j1) (by omega)).mono ?_); rintro e w2 ⟨A2, c2, rfl, ho2, j2⟩
  go_wp2_with fail
  (with_reducible refine (copy_any B m d bs _ ((hb.later j1).later j2) (by omega)).mono ?_); rintro e w3 ⟨A3, c3, rfl, ho3, j3⟩
  go_wp2_with fail
  have L3 := (j1.trans j2).trans j3
  have hk2 := (ho2.later j3).rd
  have hcap2 := ho2.cap
  (with_reducible refine (sP.out A2 A3 c2 c3 _ hk2 hcap2 ho3.rd ho3.cap).mono ?_); rintro e w4 ⟨j4, A4, c4, rfl, ho4⟩
  go_wp2_with fail
  have L4 := L3.trans j4
  (with_reducible refine (sR.out _ (hk.later L4) (hb.later L4)).mono ?_); rintro e w5 ⟨j5, A5, c5, rfl, ho5⟩
  go_wp2_with fail
  have L5 := L4.trans j5
  (with_reducible refine (copy_any A n c key _ (hk.later L5) (by omega)).mono ?_); rintro e w6 ⟨A6, c6, rfl, ho6, j6⟩
  go_wp2_with fail
  (with_reducible refine (copy_any B m d bs _ ((hb.later L5).later j6) (by omega)).mono ?_); rintro e w7 ⟨A7, c7, rfl, ho7, j7⟩
  go_wp2_with fail
  have L7 := (L5.trans j6).trans j7
  have hk6 := (ho6.later j7).rd
  have hcap6 := ho6.cap
  (with_reducible refine (oP.out A6 A7 c6 c7 _ hk6 hcap6 ho7.rd ho7.cap).mono ?_); rintro e w8 ⟨j8, A8, c8, rfl, ho8⟩
  go_wp2_with fail
  have L8 := L7.trans j8
  (with_reducible refine (oR.out _ (hk.later L8) (hb.later L8)).mono ?_); rintro e w9 ⟨j9, A9, c9, rfl, ho9⟩
  go_wp2_with fail
  have L9 := L8.trans j9
  have J59 := ((j6.trans j7).trans j8).trans j9
  have hX4 := (ho4.later (j5.trans J59)).rd
  have hX5 := (ho5.later J59).rd
  have hcap4 := ho4.cap
  have hcap8 := ho8.cap
  have hY8 := (ho8.later j9).rd
  have hY9 := ho9.rd
  clear ho2 ho3 ho4 ho5 ho6 ho7 ho8 ho9 J59 j1 j2 j3 j4 j5 j6 j7 j8 j9 L3 L4 L5 L7 L8 hk2 hk6 hcap2 hcap6 sP oP sR oR
  (with_reducible refine (told_same A4 A5 _ _ _ _ X _ hX4 hX5 (by omega)).mono ?_); rintro e w10 ⟨rfl, j10⟩
  go_wp2_with fail
  (with_reducible refine (told_same A8 A9 _ _ _ _ Y _ (hY8.later j10) (hY9.later j10) (by omega)).mono ?_); rintro e w11 ⟨rfl, j11⟩
  have L11 := L9.trans (j10.trans j11)
  by_cases hE : E = 0
  · obtain ⟨x1, x2, x3⟩ := hbS.out hE
    obtain ⟨y1, y2, y3⟩ := hbO.out hE
    subst hE
    rw [x1, hbl] at hX4 hcap4
    rw [y1, hbl] at hY8 hcap8
    have hoX := hid (fun w h1 h2 => o2.out A4 c4 X m w h1 h2 hcap4 (by omega))
    rw [x2, x3, hbl] at hoX
    have hsY := hid (fun w h1 h2 => s2.out A8 c8 Y m w h1 h2 hcap8 (by omega))
    rw [y2, y3, hbl] at hsY
    have hq := hid (fun A C c d w h1 h2 => equal_any A C m m c d bs bs w h1 h2 (by omega) (by omega))
    rw [decide_eq_true rfl] at hq
    go_wp2_with fail
    (with_reducible refine (hoX.out _ (hk.later L11) (hX4.later (j10.trans j11))).mono ?_); rintro e w12 ⟨j12, A12, c12, rfl, ho12⟩
    go_wp2_with fail
    (with_reducible refine (hsY.out _ ((hk.later L11).later j12) (hY8.later ((j10.trans j11).trans j12))).mono ?_); rintro e w13 ⟨j13, A13, c13, rfl, ho13⟩
    go_wp2_with fail
    (with_reducible refine (hq.out A12 B _ _ _ (ho12.later j13).rd ((hb.later L11).later (j12.trans j13))).mono ?_); rintro e w14 ⟨rfl, j14⟩
    go_wp2_with fail
    (with_reducible refine (hq.out A13 B _ _ _ (ho13.later j14).rd ((hb.later L11).later ((j12.trans j13).trans j14))).mono ?_); rintro e w15 ⟨rfl, j15⟩
    go_wp2_with fail
    go_ret
    exact ⟨by simp, L11.trans (((j12.trans j13).trans j14).trans j15)⟩
  · have hne : ((E : Int) != 0) = true := by simp; omega
    go_wp2_with fail
    go_ret
    exact ⟨rfl, L11⟩
end Go.Proofs.Ytjohieongjnemaa
