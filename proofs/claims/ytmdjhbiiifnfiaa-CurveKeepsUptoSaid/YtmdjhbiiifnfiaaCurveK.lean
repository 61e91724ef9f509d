/-
  shallotlaw06: CurveKeeps (under way).
-/
import Derived.Test.YtmdjhbiiifnfiaaCurveF
import Derived.Test.YtmdjhbiiifnfiaaCurveI
import Derived.Test.YtmdjhbiiifnfiaaKeeps
namespace Go.Proofs.Ytmdjhbiiifnfiaa
open Go.RowKit
open Go.BigFrame

theorem chain_one (us ks : List UInt8) : chainR us [ks] = (multB ks us, multE ks us) := by
  by_cases h : ks.length = 32 ∧ us.length = 32
  · have e : multQ ks (nb (readN us)) = multQ ks us := by rw [multQ, multQ, readN_nb _ (readN_P us)]
    have e1 : multE ks (nb (readN us)) = multE ks us := by
      unfold multE
      rw [e, if_pos ⟨h.1, nb_length _⟩, if_pos h]
    have e2 : multB ks (nb (readN us)) = multB ks us := by
      unfold multB
      rw [e, if_pos ⟨h.1, nb_length _⟩, if_pos h]
    rw [chainR, if_pos ⟨h.2, by simp [h.1]⟩, chainAt, e1, e2, chainAt]
    by_cases h0 : multE ks us = 0
    · rw [if_pos h0, h0]
    · rw [if_neg h0]
      have hq : multQ ks us = 0 := by
        unfold multE at h0
        rw [if_pos h] at h0
        by_cases hq : multQ ks us = 0
        · exact hq
        · rw [if_neg hq] at h0
          exact absurd rfl h0
      have : multB ks us = List.replicate 32 0 := by rw [multB, if_pos h, hq, nb_zeros]
      rw [this]
  · have h1 : multB ks us = List.replicate 32 0 := by rw [multB, if_neg h]
    have h2 : multE ks us = 2 := by rw [multE, if_neg h]
    rw [h1, h2, chainR, if_neg]
    rintro ⟨a, b⟩
    exact h ⟨b ks (by simp), a⟩
theorem parts_one {w : World} {g : Nat} {t : TypeId} {v1 : Value} {p1 : List UInt8} (hb : Blk w g t [v1]) (h1 : Part w (fun _ => False) v1 p1) : Parts w (fun _ => False) (some ⟨g, 0, none⟩) 1 [p1] := by
  refine ⟨[v1], ⟨rfl, fun _ => ⟨g, 0, rfl, hb.lt, fun j u hu => by rw [Nat.zero_add]; exact hb.cellD j hu⟩⟩, fun _ _ _ h => h, rfl, ?_⟩
  intro j v p hv hp
  match j with
  | 0 => cases hv; cases hp; exact h1
  | j + 1 => simp at hv
theorem spare_app (bs : List UInt8) : ∃ r, (spareB bs).map W8 = bs.map W8 ++ r := ⟨_, by rw [spareB, List.map_append]⟩
set_option maxRecDepth 100000 in
set_option maxHeartbeats 8000000 in
theorem curveKeeps_walk (A B : Option Addr) (n m c d : Nat) (ks us : List UInt8) (w : World) (hk : RdB w A n ks) (hu : RdB w B m us) (hn : n ≤ 70368744177664) (hm : m ≤ 70368744177664) :
    Calls Try.prog 16 #[.slice A n c, .slice B m d] w fun e w' => e = .returned (.bool true) ∧ Later w w' := by
  have hkl := hk.len
  have hul := hu.len
  have hM := hid (fun (w : World) A B c d h1 h2 => mult_any A B n c m d ks us w h1 h2 (by omega) (by omega))
  have hC := hid (fun (w : World) A c h => clamp_any A n c ks w h (by omega))
  have hCh := hid (fun (w : World) A B c d h1 h2 => chain_any A B m c 1 d us [ks] w h1 h2 (by omega) (by omega))
  rw [chain_one us ks] at hCh
  have hN := hid (fun (w : World) A c h => newpair_any A n c ks w h (by omega))
  have hLo := hid (fun (w : World) B d h => low_any B m d us w h (by omega))
  obtain ⟨y, hy⟩ := sub32 (multB_length ks us)
  rw [← hy] at hM hCh
  clear hy
  have hyl := y.2
  have hPl := pairL_length ks
  have hPK : Hid (n = 32 → ∃ q, pairL ks = ks ++ q ∧ q.length = 32) := hid (fun h => ⟨multB ks (nb 9), by rw [pairL, if_pos (pub_ok ks (by omega))], multB_length _ _⟩)
  generalize pairL ks = PK at *
  generalize multE ks us = e1 at *
  generalize multE ks (nb 9) = e2 at *
  generalize clampB ks = CK at *
  generalize readE ks = e3 at *
  generalize readE us = e4 at *
  generalize lowB us = lb at *
  have hsl := spareB_length ks
  have hsu := spareB_length us
  obtain ⟨rk, hrk⟩ := spare_app ks
  obtain ⟨ru, hru⟩ := spare_app us
  go_enter Try.func16, Try.ntmps16
  go_wp2_with fail
  (with_reducible refine (awake06 _).mono ?_); rintro e w1 ⟨rfl, j1⟩
  go_wp2_with fail
  (with_reducible refine (spare_any A n c ks _ (hk.later j1) hn).mono ?_); rintro e w2 ⟨rfl, hb2, j2⟩
  have B1 : Bag w w2 [(w1.heap.size, 5, ks.map W8 ++ rk)] := (Bag.none w).add (j1.trans j2) (by simp) j1.size (by rw [← hrk]; exact hb2)
  clear hb2 j1 j2
  go_wp2_with fail
  (with_reducible refine (spare_any B m d us _ (hu.later B1.lat) hm).mono ?_); rintro e w3 ⟨rfl, hb3, j3⟩
  have B2 : Bag w w3 [(w2.heap.size, 5, us.map W8 ++ ru), (w1.heap.size, 5, ks.map W8 ++ rk)] := B1.add j3 (by have := (B1.nth 0 rfl).lt; simp; omega) B1.lat.size (by rw [← hru]; exact hb3)
  clear hb3 j3 B1
  generalize w1.heap.size = g1 at *
  generalize w2.heap.size = g2 at *
  go_wp2_with fail
  (with_reducible refine (hM.out _ _ _ _ _ (blk_rdB_app (B2.nth 1 rfl) hkl) (blk_rdB_app (B2.nth 0 rfl) hul)).mono ?_); rintro e w4 ⟨rfl, j4⟩
  go_wp2_with (first
    | (refine store_B rfl rfl _ _ rfl (Blk.new w4 _ (List.replicate 32 (.int .u8 0))) rfl rfl hyl rfl ?_; intro w5 hb5 ho5)
    | fail)
  have B3 := B2.push (j4.trans (later_alloc w4 _)) j4.size ho5 hb5
  clear j4 hb5 ho5 B2
  (with_reducible refine (hC.out _ _ _ (blk_rdB_app (B3.nth 2 rfl) hkl)).mono ?_); rintro e w6 ⟨rfl, j6⟩
  go_wp2_with fail
  have a6 := later_alloc w6 (.cells #[.slice (some ⟨g1, 0, none⟩) n (n + 40)] 25)
  have B4 := B3.later (j6.trans a6)
  have hP := parts_one (Blk.new w6 25 [.slice (some ⟨g1, 0, none⟩) n (n + 40)]) (part_rd (blk_rdB_app (B4.nth 2 rfl) hkl) (by omega))
  (with_reducible refine (hCh.out _ _ _ _ 1 (blk_rdB_app (B4.nth 1 rfl) hul) hP).mono ?_); rintro e w7 ⟨rfl, j7⟩
  have B5 := B4.later j7
  clear hP a6 j6 j7 B3 B4
  go_wp2_with (first
    | (refine store_B rfl rfl _ _ rfl (Blk.new w7 _ (List.replicate 32 (.int .u8 0))) rfl rfl hyl rfl ?_; intro w8 hb8 ho8)
    | fail)
  have B6 := B5.push (later_alloc w7 _) (Nat.le_refl _) ho8 hb8
  clear hb8 ho8 B5
  (with_reducible refine (hN.out _ _ _ (blk_rdB_app (B6.nth 3 rfl) hkl)).mono ?_); rintro e w9 ⟨rfl, j9⟩
  go_wp2_with (first
    | (refine store_P rfl rfl _ _ rfl (Blk.new w9 _ (List.replicate 64 (.int .u8 0))) rfl rfl hPl (by simp) ?_; intro w10 hb10 ho10)
    | fail)
  have B7 := B6.push (j9.trans (later_alloc w9 _)) j9.size ho10 hb10
  clear j9 hb10 ho10 B6
  (with_reducible refine (hLo.out _ _ _ (blk_rdB_app (B7.nth 3 rfl) hul)).mono ?_); rintro e w11 ⟨rfl, j11⟩
  have B8 := B7.later j11
  clear j11 B7
  go_wp2_with fail
  have hf1 : RdB w11 (some ⟨g1, 0, none⟩) (n + 40) (spareB ks) := blk_rdB (by rw [hrk]; exact B8.nth 4 rfl) (by omega)
  (with_reducible refine (kept_true _ _ n _ _ ks _ hf1 (hk.later B8.lat) hn).mono ?_); rintro e w12 ⟨rfl, j12⟩
  have B9 := B8.later j12
  clear hf1 j12 B8
  go_wp2_with fail
  have hf2 : RdB w12 (some ⟨g2, 0, none⟩) (m + 40) (spareB us) := blk_rdB (by rw [hru]; exact B9.nth 3 rfl) (by omega)
  (with_reducible refine (kept_true _ _ m _ _ us _ hf2 (hu.later B9.lat) hm).mono ?_); rintro e w13 ⟨rfl, j13⟩
  have B10 := B9.later j13
  clear hf2 j13 B9
  go_wp2_with (first
    | (refine load_B rfl _ rfl (B10.nth 2 rfl) hyl rfl ?_)
    | (refine load_B rfl _ rfl (B10.nth 1 rfl) hyl rfl ?_)
    | fail)
  (with_reducible refine (over_blk g1 _ _ ks rk _ (B10.nth 4 rfl) (by omega) n hkl).mono ?_); rintro e w14 ⟨rfl, hb14, ho14⟩
  have B11 := B10.write 4 rfl ho14 hb14
  clear hb14 ho14 B10
  go_wp2_with fail
  (with_reducible refine (over_blk g2 _ _ us ru _ (B11.nth 3 rfl) (by omega) m hul).mono ?_); rintro e w15 ⟨rfl, hb15, ho15⟩
  have B12 := B11.write 3 rfl ho15 hb15
  clear hb15 ho15 B11
  go_wp2_with fail
  (with_reducible refine (copy_any A n c ks _ (hk.later B12.lat) (by omega)).mono ?_); rintro e w16 ⟨A16, c16, rfl, o16, j16⟩
  go_wp2_with fail
  (with_reducible refine (copy_any B m d us _ (hu.later (B12.lat.trans j16)) (by omega)).mono ?_); rintro e w17 ⟨A17, c17, rfl, o17, j17⟩
  go_wp2_with fail
  (with_reducible refine (hM.out _ _ _ _ _ (o16.rd.later j17) o17.rd).mono ?_); rintro e w18 ⟨rfl, j18⟩
  have J := j16.trans (j17.trans j18)
  have B13 := B12.later J
  clear j16 j17 j18 J o16 o17 B12
  by_cases h32 : n = 32
  · obtain ⟨q, hq, hql⟩ := hPK.out h32
    subst h32
    go_wp2_with (first
      | (refine store_B rfl rfl _ _ rfl (Blk.new w18 _ (List.replicate 32 (.int .u8 0))) rfl rfl hyl rfl ?_; intro w19 hb19 ho19
         have B14 := B13.push (later_alloc w18 _) (Nat.le_refl _) ho19 hb19)
      | (refine load_B rfl _ rfl (B14.nth 0 rfl) hyl rfl ?_)
      | (refine load_B rfl _ rfl (B14.nth 3 rfl) hyl rfl ?_)
      | fail)
    have hP32 : RdB w19 (some ⟨w9.heap.size, 0, none⟩) 32 ks := blk_rdB_app (rest := q.map W8) (by rw [← List.map_append, ← hq]; exact B14.nth 1 rfl) hkl
    (with_reducible refine (equal_any _ A 32 32 32 c ks ks _ hP32 (hk.later B14.lat) (by omega) (by omega)).mono ?_); rintro e w20 ⟨rfl, j20⟩
    rw [decide_eq_true rfl]
    go_wp2_with fail
    go_ret
    exact ⟨rfl, B14.lat.trans j20⟩
  · have hne : ((n : Int) != 32) = true := by simp; omega
    go_wp2_with (first
      | (refine store_B rfl rfl _ _ rfl (Blk.new w18 _ (List.replicate 32 (.int .u8 0))) rfl rfl hyl rfl ?_; intro w19 hb19 ho19
         have B14 := B13.push (later_alloc w18 _) (Nat.le_refl _) ho19 hb19)
      | (refine load_B rfl _ rfl (B14.nth 0 rfl) hyl rfl ?_)
      | (refine load_B rfl _ rfl (B14.nth 3 rfl) hyl rfl ?_)
      | fail)
    go_ret
    exact ⟨rfl, B14.lat⟩
end Go.Proofs.Ytmdjhbiiifnfiaa
