/-
  shallotlaw06: CurveBits.
-/
import Derived.Test.YtmdjhbiiifnfiaaCurveAB
namespace Go.Proofs.Ytmdjhbiiifnfiaa
open Go.RowKit
open Go.BigFrame

theorem bits_f0 : ∀ (x : Fin 256) (s : Fin 8), (x.1 ^^^ s.1) &&& 248 = x.1 &&& 248 := by decide +kernel
theorem bits_f1 : ∀ (y : Fin 256) (s : Fin 4), ((y.1 ^^^ (64 * s.1)) &&& 127) ||| 64 = (y.1 &&& 127) ||| 64 := by decide +kernel
theorem bits_f2 : ∀ (z : Fin 256) (s : Fin 2), (z.1 ^^^ (128 * s.1)) % 128 = z.1 % 128 := by decide +kernel
theorem bits_t0 : ∀ t : Fin 256, t.1 &&& 7 < 8 := by decide +kernel
theorem bits_t1 : ∀ t : Fin 256, t.1 &&& 192 = 64 * (t.1 / 64) := by decide +kernel
theorem bits_k0 (x t : UInt8) : (x ^^^ (t &&& 7)) &&& 248 = x &&& 248 := by
  apply UInt8.toNat_inj.1
  have h1 := bits_t0 ⟨t.toNat, t.toNat_lt⟩
  have h2 := bits_f0 ⟨x.toNat, x.toNat_lt⟩ ⟨t.toNat &&& 7, h1⟩
  rw [UInt8.toNat_and, UInt8.toNat_xor, UInt8.toNat_and, UInt8.toNat_and]
  exact h2
theorem bits_k1 (y t : UInt8) : ((y ^^^ (t &&& 192)) &&& 127) ||| 64 = (y &&& 127) ||| 64 := by
  apply UInt8.toNat_inj.1
  have hl := t.toNat_lt
  have h1 := bits_t1 ⟨t.toNat, hl⟩
  have h2 := bits_f1 ⟨y.toNat, y.toNat_lt⟩ ⟨t.toNat / 64, by omega⟩
  simp only at h1 h2
  rw [← h1] at h2
  rw [UInt8.toNat_or, UInt8.toNat_and, UInt8.toNat_xor, UInt8.toNat_and, UInt8.toNat_or, UInt8.toNat_and]
  exact h2
theorem bits_u (z t : UInt8) : (z ^^^ shl8 t 7).toNat % 128 = z.toNat % 128 := by
  have hl := t.toNat_lt
  have e : (shl8 t 7).toNat = 128 * (t.toNat % 2) := by
    show (t.toBitVec <<< 7).toNat = _
    rw [BitVec.toNat_shiftLeft, Nat.shiftLeft_eq]
    show t.toNat * 128 % 256 = _
    omega
  have h2 := bits_f2 ⟨z.toNat, z.toNat_lt⟩ ⟨t.toNat % 2, by omega⟩
  simp only at h2
  rw [UInt8.toNat_xor, e]
  exact h2
/-- The scalar with its fixed bits turned. -/
def turnK (ks : List UInt8) (t : UInt8) : List UInt8 := (ks.set 0 (ks.getD 0 0 ^^^ (t &&& 7))).set 31 (ks.getD 31 0 ^^^ (t &&& 192))
def turnU (us : List UInt8) (t : UInt8) : List UInt8 := us.set 31 (us.getD 31 0 ^^^ shl8 t 7)
theorem turnK_clamp (ks : List UInt8) (t : UInt8) (h : ks.length = 32) : clampB (turnK ks t) = clampB ks := by
  have h1 : (turnK ks t).length = 32 := by simp [turnK, h]
  have h2 : (turnK ks t).getD 0 0 = ks.getD 0 0 ^^^ (t &&& 7) := by
    rw [turnK, List.getD_eq_getElem?_getD, List.getElem?_set_ne (by omega), List.getElem?_set_self (by omega)]
    rfl
  have h3 : (turnK ks t).getD 31 0 = ks.getD 31 0 ^^^ (t &&& 192) := by
    rw [turnK, List.getD_eq_getElem?_getD, List.getElem?_set_self (by simp; omega)]
    rfl
  rw [clampB, if_pos h1, clampB, if_pos h, h2, h3, bits_k0, bits_k1, turnK]
  generalize ks.getD 0 0 = x
  generalize ks.getD 31 0 = y
  apply List.ext_getElem?
  intro i
  simp only [List.getElem?_set, List.length_set, h]
  repeat' split
  all_goals first | rfl | omega
theorem turnU_read (us : List UInt8) (t : UInt8) (h : us.length = 32) : readN (turnU us t) = readN us := by
  have h1 : (turnU us t).length = 32 := by simp [turnU, h]
  rw [readN, if_pos h1, readN, if_pos h]
  have e1 := num_take (turnU us t) 31 (by omega)
  have e2 := num_take us 31 (by omega)
  rw [List.take_of_length_le (by omega)] at e1 e2
  have e3 : (turnU us t).take 31 = us.take 31 := by rw [turnU, List.take_set_of_le (by omega)]
  have e4 : (turnU us t).getD 31 0 = us.getD 31 0 ^^^ shl8 t 7 := by
    rw [turnU, List.getD_eq_getElem?_getD, List.getElem?_set_self (by omega)]
    rfl
  rw [e3, e4] at e1
  have e5 := bits_u (us.getD 31 0) t
  rw [e1, e2]
  have e6 : T255 = 256 ^ 31 * 128 := by decide
  rw [e6]
  congr 1
  generalize (us.getD 31 0 ^^^ shl8 t 7).toNat = a at *
  generalize (us.getD 31 0).toNat = b at *
  have hlt := num_lt (us.take 31)
  rw [List.length_take, Nat.min_eq_left (by omega)] at hlt
  generalize num (us.take 31) = X at *
  have m1 : ∀ y, (X + 256 ^ 31 * y) % (256 ^ 31 * 128) = X + 256 ^ 31 * (y % 128) := by
    intro y
    rw [Nat.mod_mul, Nat.add_mul_mod_self_left, Nat.mod_eq_of_lt hlt, Nat.add_mul_div_left _ _ (by decide), Nat.div_eq_of_lt hlt, Nat.zero_add]
  rw [m1, m1, e5]
theorem clamp_clamp (ks : List UInt8) (h : ks.length = 32) : clampB (clampB ks) = clampB ks := by
  have h1 := clampB_length ks
  have h2 : (clampB ks).getD 0 0 = ks.getD 0 0 &&& 248 := by
    rw [clampB, if_pos h, List.getD_eq_getElem?_getD, List.getElem?_set_ne (by omega), List.getElem?_set_self (by omega)]
    rfl
  have h3 : (clampB ks).getD 31 0 = (ks.getD 31 0 &&& 127) ||| 64 := by
    rw [clampB, if_pos h, List.getD_eq_getElem?_getD, List.getElem?_set_self (by simp; omega)]
    rfl
  have f0 : ∀ x : UInt8, x &&& 248 &&& 248 = x &&& 248 := by intro x; rw [UInt8.and_assoc]; rfl
  have f1 : ∀ y : UInt8, (((y &&& 127) ||| 64) &&& 127) ||| 64 = (y &&& 127) ||| 64 := by
    have : ∀ y : Fin 256, (((y.1 &&& 127) ||| 64) &&& 127) ||| 64 = (y.1 &&& 127) ||| 64 := by decide +kernel
    intro y
    apply UInt8.toNat_inj.1
    have := this ⟨y.toNat, y.toNat_lt⟩
    rw [UInt8.toNat_or, UInt8.toNat_and, UInt8.toNat_or, UInt8.toNat_and]
    exact this
  have e : clampB (clampB ks) = ((clampB ks).set 0 ((clampB ks).getD 0 0 &&& 248)).set 31 (((clampB ks).getD 31 0 &&& 127) ||| 64) := by rw [clampB, if_pos h1]
  rw [e, h2, h3, f0, f1, ← h2, ← h3]
  generalize clampB ks = K at *
  apply List.ext_getElem?
  intro i
  simp only [List.getElem?_set, List.length_set, h1]
  repeat' split
  all_goals first | rfl | omega | (subst_vars; rw [List.getD_eq_getElem?_getD, List.getElem?_eq_getElem (by omega)]; rfl)
theorem mult_turn (ks us : List UInt8) (t : UInt8) (h : ks.length = 32) (h' : us.length = 32) : multB (turnK ks t) (turnU us t) = multB ks us ∧ multE (turnK ks t) (turnU us t) = multE ks us := by
  have h1 : (turnK ks t).length = 32 := by simp [turnK, h]
  have h2 : (turnU us t).length = 32 := by simp [turnU, h']
  have e : multQ (turnK ks t) (turnU us t) = multQ ks us := by rw [multQ, multQ, turnK_clamp ks t h, turnU_read us t h']
  exact ⟨by unfold multB; rw [e]; simp only [h1, h2, h, h', and_self, if_true], by unfold multE; rw [e]; simp only [h1, h2, h, h', and_self, if_true]⟩
theorem mult_clamp (ks us : List UInt8) (h : ks.length = 32) (h' : us.length = 32) : multB (clampB ks) us = multB ks us ∧ multE (clampB ks) us = multE ks us := by
  have h1 := clampB_length ks
  have e : multQ (clampB ks) us = multQ ks us := by rw [multQ, multQ, clamp_clamp ks h]
  exact ⟨by unfold multB; rw [e]; simp only [h1, h, h', and_self, if_true], by unfold multE; rw [e]; simp only [h1, h, h', and_self, if_true]⟩
theorem blk_rd_app {w : World} {g : Nat} {t : TypeId} {l rest : List Value} {n : Nat} (h : Blk w g t (l ++ rest)) (hn : l.length = n) : Rd w (some ⟨g, 0, none⟩) n l := by
  refine ⟨hn, fun _ => ⟨g, 0, rfl, h.lt, fun j u hu => ?_⟩⟩
  rw [Nat.zero_add]
  refine h.cellD j ?_
  rw [List.getElem?_append_left (by have := (List.getElem?_eq_some_iff.1 hu).1; omega)]
  exact hu
theorem blk_rdB_app {w : World} {g : Nat} {t : TypeId} {bs : List UInt8} {rest : List Value} {n : Nat} (h : Blk w g t (bs.map W8 ++ rest)) (hn : bs.length = n) : RdB w (some ⟨g, 0, none⟩) n bs := blk_rd_app h (by rw [List.length_map, hn])
theorem bag_own {w wk v : World} {ls : List (Nat × TypeId × List Value)} {A : Option Addr} {n c : Nat} {bs : List UInt8} (h : Bag w wk ls) (j : Later wk v) (o : OwnB v wk.heap.size A n c bs) (hn : 0 < n) :
    ∃ g rest, A = some ⟨g, 0, none⟩ ∧ Bag w v ((g, 5, bs.map W8 ++ rest) :: ls) := by
  rcases own_blk o with ⟨_, h0⟩ | ⟨g, rest, hA, hg, hb, _⟩
  · omega
  · refine ⟨g, rest, hA, h.add j ?_ ?_ hb⟩
    · intro p hp e
      have := (h.blk p hp).lt
      omega
    · have := h.lat.size
      omega
theorem turnK_cells (ks : List UInt8) (t : UInt8) (r : List Value) (h : ks.length = 32) :
    ((ks.map W8 ++ r).set 0 (W8 (ks.getD 0 0 ^^^ (t &&& 7)))).set 31 (W8 (ks.getD 31 0 ^^^ (t &&& 192))) = (turnK ks t).map W8 ++ r := by
  rw [List.set_append_left _ _ (by rw [List.length_map]; omega), List.set_append_left _ _ (by rw [List.length_set, List.length_map]; omega), turnK, List.map_set, List.map_set]
theorem turnU_cells (us : List UInt8) (t : UInt8) (r : List Value) (h : us.length = 32) : (us.map W8 ++ r).set 31 (W8 (us.getD 31 0 ^^^ shl8 t 7)) = (turnU us t).map W8 ++ r := by
  rw [List.set_append_left _ _ (by rw [List.length_map]; omega), turnU, List.map_set]
theorem cell_app {bs : List UInt8} {r : List Value} {i : Nat} (h : i < bs.length) : (bs.map W8 ++ r)[i]? = some (W8 (bs.getD i 0)) := by
  rw [List.getElem?_append_left (by rw [List.length_map]; exact h), List.getElem?_map, List.getD_eq_getElem?_getD, List.getElem?_eq_getElem h]
  rfl
set_option maxRecDepth 100000 in
set_option maxHeartbeats 4000000 in
theorem curveBits_walk (A B : Option Addr) (n m c d : Nat) (ks us : List UInt8) (t : UInt8) (w : World) (hk : RdB w A n ks) (hu : RdB w B m us) (hn : n ≤ 140737488355328) (hm : m ≤ 140737488355328) :
    Calls Try.prog 11 #[.slice A n c, .slice B m d, W8 t] w fun e w' => e = .returned (.bool true) ∧ Later w w' := by
  have hkl := hk.len
  have hul := hu.len
  by_cases h32 : n = 32 ∧ m = 32
  · obtain ⟨rfl, rfl⟩ := h32
    have hM := hid (fun (w : World) A B c d h1 h2 => mult_any A B 32 c 32 d ks us w h1 h2 hn hm)
    have hM2 := hid (fun (w : World) A B c d h1 h2 => mult_any A B 32 c 32 d (turnK ks t) (turnU us t) w h1 h2 hn hm)
    have hM3 := hid (fun (w : World) A B c d h1 h2 => mult_any A B 32 c 32 d (clampB ks) us w h1 h2 hn hm)
    have hC := hid (fun (w : World) A c h => clamp_any A 32 c (turnK ks t) w h hn)
    have hTl : (turnK ks t).length = 32 := by simp [turnK, hkl]
    rw [(mult_turn ks us t hkl hul).1, (mult_turn ks us t hkl hul).2] at hM2
    rw [(mult_clamp ks us hkl hul).1, (mult_clamp ks us hkl hul).2] at hM3
    rw [turnK_clamp ks t hkl, readE, if_pos hTl] at hC
    obtain ⟨y, hy⟩ := sub32 (multB_length ks us)
    obtain ⟨x, hx⟩ := sub32 (clampB_length ks)
    rw [← hy] at hM hM2 hM3
    rw [← hx] at hC hM3
    clear hx hy
    generalize multE ks us = e1 at *
    have hxl := x.2
    have hyl := y.2
    have hKc := hid (fun r => turnK_cells ks t r hkl)
    have hUc := hid (fun r => turnU_cells us t r hul)
    have hTu : (turnU us t).length = 32 := by simp [turnU, hul]
    have c0 := hid (fun r => cell_app (r := r) (show 0 < ks.length by omega))
    have c31 := hid (fun r => cell_app (r := r) (show 31 < ks.length by omega))
    have z31 := hid (fun r => cell_app (r := r) (show 31 < us.length by omega))
    generalize turnK ks t = KT at *
    generalize turnU us t = UT at *
    generalize ks.getD 0 0 = x0 at *
    generalize ks.getD 31 0 = x31 at *
    generalize us.getD 31 0 = u31 at *
    go_enter Try.func11, Try.ntmps11
    go_wp2_with fail
    (with_reducible refine (awake06 _).mono ?_); rintro e w1 ⟨rfl, j1⟩
    go_wp2_with fail
    (with_reducible refine (copy_any A 32 c ks _ (hk.later j1) (by omega)).mono ?_); rintro e w2 ⟨A2, c2, rfl, o2, j2⟩
    go_wp2_with fail
    (with_reducible refine (copy_any B 32 d us _ (hu.later (j1.trans j2)) (by omega)).mono ?_); rintro e w3 ⟨A3, c3, rfl, o3, j3⟩
    go_wp2_with fail
    (with_reducible refine (hM.out _ A2 A3 c2 c3 (o2.rd.later j3) o3.rd).mono ?_); rintro e w4 ⟨rfl, j4⟩
    go_wp2_with (first
      | (refine store_B rfl rfl _ _ rfl (Blk.new w4 _ (List.replicate 32 (.int .u8 0))) rfl rfl hyl rfl ?_; intro w5 hb5 ho5)
      | fail)
    have B1 := (Bag.none w).push ((((j1.trans j2).trans j3).trans j4).trans (later_alloc w4 _)) (((j1.trans j2).trans j3).trans j4).size ho5 hb5
    clear j1 j2 j3 j4 o2 o3 hb5 ho5 hM
    (with_reducible refine (copy_any A 32 c ks _ (hk.later B1.lat) (by omega)).mono ?_); rintro e w6 ⟨A6, c6, rfl, o6, j6⟩
    obtain ⟨g6, r6, rfl, B2⟩ := bag_own B1 j6 o6 (by omega)
    have l6 := o6.cap
    clear o6 j6 B1
    go_wp2_with fail
    (with_reducible refine (copy_any B 32 d us _ (hu.later B2.lat) (by omega)).mono ?_); rintro e w7 ⟨A7, c7, rfl, o7, j7⟩
    obtain ⟨g7, r7, rfl, B3⟩ := bag_own B2 j7 o7 (by omega)
    have l7 := o7.cap
    clear o7 j7 B2
    have d0 := (B3.nth 1 rfl).cellD 0 (c0.out r6)
    go_wp2_with (first
      | (refine wpList_store_in rfl rfl _ _ _ rfl _ _ _ _ (B3.nth 1 rfl) rfl ?hl rfl (by kernel_rfl) ?_; (case hl => simp; omega); intro v8 w8 hv hb8 ho8; simp [go_sem] at hv; subst hv
         have B4 := B3.write 1 rfl ho8 hb8
         have d1 := (B4.nth 1 rfl).cellD 31 (u := W8 x31) (by rw [List.getElem?_set_ne (by omega)]; exact c31.out r6)
         clear hb8 ho8 d0)
      | (refine wpList_store_in rfl rfl _ _ _ rfl _ _ _ _ (B4.nth 1 rfl) rfl ?hl rfl (by kernel_rfl) ?_; (case hl => simp; omega); intro v9 w9 hv hb9 ho9; simp [go_sem] at hv; subst hv
         rw [hKc.out] at hb9
         have B5 := B4.write 1 rfl ho9 hb9
         have d2 := (B5.nth 0 rfl).cellD 31 (z31.out r7)
         clear hb9 ho9 d1 B4)
      | (refine wpList_store_in rfl rfl _ _ _ rfl _ _ _ _ (B5.nth 0 rfl) rfl ?hl rfl (by kernel_rfl) ?_; (case hl => simp; omega); intro v10 w10 hv hb10 ho10; simp [go_sem] at hv; subst hv
         rw [hUc.out] at hb10
         have B6 := B5.write 0 rfl ho10 hb10
         clear hb10 ho10 d2 B5)
      | fail)
    clear hKc hUc c0 c31 z31 B3
    (with_reducible refine (hM2.out _ _ _ c6 c7 (blk_rdB_app (B6.nth 1 rfl) hTl) (blk_rdB_app (B6.nth 0 rfl) hTu)).mono ?_); rintro e w11 ⟨rfl, j11⟩
    go_wp2_with (first
      | (refine store_B rfl rfl _ _ rfl (Blk.new w11 _ (List.replicate 32 (.int .u8 0))) rfl rfl hyl rfl ?_; intro w12 hb12 ho12)
      | fail)
    have B7 := B6.push (j11.trans (later_alloc w11 _)) j11.size ho12 hb12
    clear j11 hb12 ho12 B6 hM2
    (with_reducible refine (hC.out _ _ c6 (blk_rdB_app (B7.nth 2 rfl) hTl)).mono ?_); rintro e w13 ⟨rfl, j13⟩
    go_wp2_with (first
      | (refine store_B rfl rfl _ _ rfl (Blk.new w13 _ (List.replicate 32 (.int .u8 0))) rfl rfl hxl rfl ?_; intro w14 hb14 ho14)
      | fail)
    have B8 := B7.push (j13.trans (later_alloc w13 _)) j13.size ho14 hb14
    clear j13 hb14 ho14 B7 hC
    (with_reducible refine (hM3.out _ _ B 32 d (blk_rdB (B8.nth 0 rfl) hxl) (hu.later B8.lat)).mono ?_); rintro e w15 ⟨rfl, j15⟩
    go_wp2_with (first
      | (refine store_B rfl rfl _ _ rfl (Blk.new w15 _ (List.replicate 32 (.int .u8 0))) rfl rfl hyl rfl ?_; intro w16 hb16 ho16
         have B9 := B8.push (j15.trans (later_alloc w15 _)) j15.size ho16 hb16)
      | (refine load_B rfl _ rfl (B9.nth 5 rfl) hyl rfl ?_)
      | (refine load_B rfl _ rfl (B9.nth 2 rfl) hyl rfl ?_)
      | (refine load_B rfl _ rfl (B9.nth 0 rfl) hyl rfl ?_)
      | fail)
    go_ret
    exact ⟨rfl, B9.lat⟩
  · go_enter Try.func11, Try.ntmps11
    go_wp2_with fail
    (with_reducible refine (awake06 _).mono ?_); rintro e w1 ⟨rfl, j1⟩
    by_cases hn32 : n = 32
    · have hne : ((m : Int) != 32) = true := by simp; omega
      have hne' : ((n : Int) != 32) = false := by simp; omega
      go_wp2_with fail
      go_ret
      exact ⟨rfl, j1⟩
    · have hne : ((n : Int) != 32) = true := by simp; omega
      go_wp2_with fail
      go_ret
      exact ⟨rfl, j1⟩
theorem wf_u8 {n : Int} (h : (Lit.int .u8 n).wf = true) : 0 ≤ n ∧ n < 256 := by
  have : 0 ≤ n ∧ n ≤ 255 := by simpa [Lit.wf, IntKind.min, IntKind.max, IntKind.signed, IntKind.bits] using h
  omega
theorem curveBits_all (A B : Option Addr) (n m c d : Nat) (ks us : List UInt8) (a : Int) (ha : (Lit.int .u8 a).wf = true) (w : World) (hk : RdB w A n ks) (hu : RdB w B m us) (hn : n ≤ 140737488355328) (hm : m ≤ 140737488355328) :
    Calls Try.prog 11 #[.slice A n c, .slice B m d, .int .u8 a] w fun e w' => e = .returned (.bool true) ∧ Later w w' := by
  rw [lit_w8 a (wf_u8 ha).1 (wf_u8 ha).2]
  exact curveBits_walk A B n m c d ks us _ w hk hu hn hm
end Go.Proofs.Ytmdjhbiiifnfiaa
