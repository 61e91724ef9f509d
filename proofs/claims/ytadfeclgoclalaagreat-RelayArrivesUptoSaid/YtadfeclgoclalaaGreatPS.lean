/-
  Lemmas for the last text of this claim (part 19 of 20).
-/
import Derived.BigQuiet
import Derived.BigRegion
import Derived.ChangeOld
import Derived.Deep.RegionWith
import Derived.JoinedCond
import Derived.LaidMore
import Derived.Laws.CopyOwn
import Derived.Laws.Externs
import Derived.Laws.IdiomStrings
import Derived.Laws.Tables
import Derived.Lib.AppendStr
import Derived.Lib.AppendZerosOnto
import Derived.Lib.Mul64
import Derived.Lib.SlBytesConst
import Derived.LoopN
import Derived.OpenShut
import Derived.OrdersHeld
import Derived.ProofKit
import Derived.Shelf.Spec.BitsCarry
import Derived.ShutString
import Derived.Test.YtadfeclgoclalaaGreatProg
import Derived.Test.YtadfeclgoclalaaGreatRows
import Derived.WalkKit
import Derived.WalkLawsBesides
import Derived.WalkSpells
import Derived.Test.YtadfeclgoclalaaGreatPM
import Derived.Test.YtadfeclgoclalaaGreatPP
import Derived.Test.YtadfeclgoclalaaGreatPR
open BitVec renaming toNat_ushiftRight → QDL
open List renaming replicate → QCK, getElem?_cons_succ → QCL, getElem?_cons_zero → QCM, cons_append → QCO, length_map → QCP, nil_append → QCQ, getElem?_eq_getElem → QCR, getD_eq_getElem?_getD → QCS, setIfInBounds_toArray → QCT, length_append → QCU, set_cons_zero → QCV, set_cons_succ → QCW, length_replicate → QCY, take_of_length_le → QCZ, map_toArray → QC0, not_mem_nil → QC1, mem_cons → QC2, append_assoc → QC3, getElem?_append_right → QC4, getElem?_map → QC6, getElem?_append_left → QC8, map_nil → QC9, getElem?_eq_some_iff → QDa, length_drop → QDc, length_take → QDe, map_cons → QDh, take_succ_eq_append_getElem → QDl, map_append → QDm, set_append_right → QDp, append_nil → QDr, map_replicate → QDs, range → QDw, length_set → QDA, drop_eq_getElem_cons → QDE, replicate_append_replicate → QDU, getElem?_drop → QDW, mem_singleton → QDX, drop_of_length_le → QDZ, drop_append_of_le_length → QD2, drop_drop → QD3, getElem_mem → QD6, getElem?_range → QEm, drop_eq_nil_of_le → QEr, range_succ → QEA, take_zero → QEO, flatMap_cons → QES
open Nat renaming le_refl → QCX, lt_of_lt_of_le → QDb, div_div_eq_div_mul → QDu, le_trans → QDy, shiftRight_eq_div_pow → QDD, pow_succ → QDJ, mul_comm → QDQ, add_zero → QEc, mod_mod → QEf, pow_mul → QEk, add_comm → QEE, zero_mul → QEP, add_assoc → QEW, pow_zero → QEX
open Option renaming toList_some → QCN
open UInt32 renaming ofNat → QDn, ofInt → QDH
open UInt64 renaming toNat_toUInt8 → QEN
open UInt8 renaming ofInt → QDj, ofNat → QDo, toNat_inj → QDx, toNat_ofNat' → QDV
namespace Go.Proofs.YtadfeclgoclalaaGreat
open Go.RowKit
open Go.BigFrame
def fr3 (p : Prt) : List UInt8 := QCK 16 0 ++ ([p.kd, QDj p.ix, QDj p.ct, 0] ++ QCK 460 0)
def frK (p : Prt) (k : Nat) : List UInt8 := putB (fr3 p) 20 ((bigB 8 p.id.toNat).take k)
theorem QjC (n : Nat) : QDj (n : Int) = QDo n := by
 apply QDx.1
 rw [QDV]
 show ((n : Int) % (2 : Int) ^ 8).toNat % 2 ^ 8 = n % 2 ^ 8
 omega
theorem Qog (p : Prt) : (((QCK 480 (0 : UInt8)).set 16 p.kd).set 17 (QDj p.ix)).set 18 (QDj p.ct) = fr3 p := by
 rw [show QCK 480 (0 : UInt8) = QCK 16 0 ++ ([0, 0, 0, 0] ++ QCK 460 0) by rw [show ([0, 0, 0, 0] : List UInt8) = QCK 4 0 from rfl, QDU, QDU]]
 rw [QDp _ _ (by simp), QDp _ _ (by simp), QDp _ _ (by simp), QCY]
 rfl
theorem Qht (p : Prt) : (fr3 p).length = 480 := by
 rw [fr3, QCU, QCU, QCY, QCY]
 show 16 + (4 + 460) = 480
 omega
theorem Qh5 : ∀ (w n k : Nat), k < w → (bigB w n)[k]? = some (QDo (n / 256 ^ (w - 1 - k)))
 | 0, _, _, h => by omega
 | w + 1, n, k, h => by
   rw [bigB]
   by_cases hk : k < w
   · rw [QC8 (by rw [QaJ]; exact hk), Qh5 w _ k hk, QDu, show w + 1 - 1 - k = (w - 1 - k) + 1 by omega, QDJ, QDQ]
   · obtain rfl : k = w := by omega
     rw [QC4 (by rw [QaJ]; omega), QaJ, Nat.sub_self, show k + 1 - 1 - k = 0 by omega, QEX, Nat.div_one]
     rfl
theorem Qo9 (x : UInt64) (k : Nat) (h : k < 8) : (Qfl x (56 - 8 * k)).toUInt8 = QDo (x.toNat / 256 ^ (8 - 1 - k)) := by
 apply QDx.1
 have e : (Qfl x (56 - 8 * k)).toNat = x.toNat / 2 ^ (56 - 8 * k) := by
  show (x.toBitVec >>> (56 - 8 * k)).toNat = _
  rw [QDL, QDD]
  rfl
 rw [QEN, e, QDV, show (2 : Nat) ^ (56 - 8 * k) = 256 ^ (8 - 1 - k) by rw [show (256 : Nat) = 2 ^ 8 from rfl, ← QEk]; congr 1; omega]
theorem Qub (p : Prt) : frK p 0 = fr3 p := by simp [frK, putB]
theorem Qkc (p : Prt) (k : Nat) : (frK p k).length = 480 := by
 rw [frK, QcK (by rw [Qht, QDe, QaJ]; omega), Qht]
theorem QtW (p : Prt) (k : Nat) (h : k < 8) : (frK p k).set (20 + k) (Qfl p.id (56 - 8 * k)).toUInt8 = frK p (k + 1) := by
 have hb : (bigB 8 p.id.toNat).take (k + 1) = (bigB 8 p.id.toNat).take k ++ [(Qfl p.id (56 - 8 * k)).toUInt8] := by
  rw [List.take_add_one, Qh5 8 _ k h, Qo9 _ _ h]
  rfl
 have hl : ((bigB 8 p.id.toNat).take k).length = k := by rw [QDe, QaJ]; omega
 have h3 := Qht p
 rw [frK, frK, hb]
 generalize (Qfl p.id (56 - 8 * k)).toUInt8 = x
 generalize (bigB 8 p.id.toNat).take k = q at *
 generalize fr3 p = L at *
 rw [putB, putB, QDp _ _ (by simp; omega), QCU, QDe, h3, hl, show 20 + k - (min 20 480 + k) = 0 by omega, QCU, hl, List.length_singleton, QDE (i := 20 + k) (by omega), QCV]
 simp [QEW]
theorem Qxp (p : Prt) (h : p.da.length ≤ 450) : putB (((frK p 8).set 28 (QDj ((p.da.length : Int) / 256))).set 29 (QDj ((p.da.length : Int) % 256))) 30 p.da = Qa4 p := by
 have h8 : (bigB 8 p.id.toNat).take 8 = bigB 8 p.id.toNat := QCZ (by rw [QaJ]; omega)
 have e1 : QDj ((p.da.length : Int) / 256) = QDo (p.da.length / 256) := by
  rw [show ((p.da.length : Int) / 256) = ((p.da.length / 256 : Nat) : Int) by omega, QjC]
 have e2 : QDj ((p.da.length : Int) % 256) = QDo p.da.length := by
  rw [show ((p.da.length : Int) % 256) = ((p.da.length % 256 : Nat) : Int) by omega, QjC]
  apply QDx.1
  rw [QDV, QDV, QEf]
 have hb2 : bigB 2 p.da.length = [QDo (p.da.length / 256), QDo p.da.length] := rfl
 rw [e1, e2, frK, h8, Qa4, hb2, fr3]
 generalize QDo (p.da.length / 256) = x
 generalize QDo p.da.length = y
 have hI := QaJ 8 p.id.toNat
 generalize bigB 8 p.id.toNat = I at *
 have hH : (QCK 16 0 ++ [p.kd, QDj p.ix, QDj p.ct, 0] : List UInt8).length = 20 := by simp
 rw [← QC3, ← QC3]
 generalize (QCK 16 0 ++ [p.kd, QDj p.ix, QDj p.ct, 0] : List UInt8) = H at *
 rw [show QCK 460 (0 : UInt8) = QCK 8 0 ++ ([0, 0] ++ (QCK p.da.length 0 ++ QCK (450 - p.da.length) 0)) by
  rw [show ([0, 0] : List UInt8) = QCK 2 0 from rfl, QDU, QDU, QDU]
  congr 1
  omega, QcC _ _ _ _ 20 hH (by rw [hI, QCY])]
 rw [← QC3, QDp _ _ (by simp; omega), QDp _ _ (by simp; omega), QCU, hH, hI]
 show putB ((H ++ I) ++ ([x, y] ++ (QCK p.da.length 0 ++ QCK (450 - p.da.length) 0))) 30 p.da = _
 rw [← QC3, QcC _ _ _ _ 30 (by simp; omega) (by rw [QCY])]
 simp only [QC3]
def frmR (p : Prt) : List UInt8 := if prtE p = 0 then Qa4 p else []
theorem Qt7 (p : Prt) : (((QCK 480 (Value.int .u8 0)).set 16 (W8 p.kd)).set 17 (W8 (QDj p.ix))).set 18 (W8 (QDj p.ct)) = (frK p 0).map W8 := by
 rw [Qub, ← Qog, ← QbB, ← QbB, ← QbB, QDs]
 rfl
set_option maxRecDepth 100000 in
set_option maxHeartbeats 4000000 in
theorem QqK (p : Prt) (A : Option Addr) (n c : Nat) (w : World) (hr : RdB w A n p.da) (hn : n ≤ 1048576) :
 Calls Tryz.prog 19 #[.agg (PaC p (.slice A n c)).toArray] w fun e w' => ∃ A' c', e = .returned (.tuple #[.slice A' (frmR p).length c', .int .i64 (prtE p : Nat)]) ∧ OwnB w' w.heap.size A' (frmR p).length c' (frmR p) ∧ Later w w' := by
 have hl := hr.len
 have hCk := hid (fun w => Qpr p A n c hl w)
 have hz := hid (fun h => Qfj (p := p) h)
 have hR : Hid (frmR p = if prtE p = 0 then Qa4 p else []) := hid rfl
 have C1 := Qbg w 25 (PaC p (.slice A n c))
 generalize frmR p = R at *
 generalize prtE p = E at *
 go_enter Tryz.func19, Tryz.ntmps19
 go_wp2_with (first
  | (refine Qgm rfl _ rfl (C1.nth 0 rfl) rfl ?_)
  | fail)
 (refine (hCk.out _).mono ?_); rintro e w2 ⟨rfl, j2⟩
 have C2 := C1.later j2
 clear C1 j2
 by_cases h0 : E = 0
 · subst h0
   have hz' := hid (hz.out (by trivial))
   have hR' := hid (hR.out.trans (if_pos (by trivial)))
   have hn450 : n ≤ 450 := by have := hz'.out.2.1; omega
   have hend := Qxp p (by omega)
   rw [hl] at hend
   replace hend := hid hend
   have hlb := Qei p (by omega)
   have l0 : (QCK 480 (Value.int .u8 0)).length = 480 := by rw [QCY]
   have e3 := hid (Qog p)
   obtain ⟨c0, c1, c2, c3, c4⟩ := QaO (C2.nth 0 rfl)
   go_wp2_with (first
    | (refine Qax rfl _ _ _ rfl 5 _ 1 Tryz.underlying22 Qbl rfl _ _ _ _ 480 rfl rfl rfl rfl (by omega) (by omega) ?_; intro w3 hb3 hl3
       have C3 := C2.fresh hl3 (QCX _) hb3
       obtain ⟨c0, c1, c2, c3, c4⟩ := QaO (C3.nth 1 rfl))
    | (refine Qac rfl rfl _ _ _ rfl w2.heap.size 16 _ _ (C3.nth 0 rfl) rfl (by rw [l0]; omega) rfl (by kernel_rfl) ?_; intro v4 w4 hv4 hb4 ho4; simp [go_sem] at hv4; subst hv4
       have C4 := C3.write 0 rfl ho4 hb4
       obtain ⟨c0, c1, c2, c3, c4⟩ := QaO (C4.nth 1 rfl))
    | (refine Qac rfl rfl _ _ _ rfl w2.heap.size 17 _ _ (C4.nth 0 rfl) rfl (by rw [QDA, l0]; omega) rfl (by kernel_rfl) ?_; intro v5 w5 hv5 hb5 ho5; simp [go_sem] at hv5; subst hv5
       have C5 := C4.write 0 rfl ho5 hb5
       obtain ⟨c0, c1, c2, c3, c4⟩ := QaO (C5.nth 1 rfl))
    | (refine Qac rfl rfl _ _ _ rfl w2.heap.size 18 _ _ (C5.nth 0 rfl) rfl (by rw [QDA, QDA, l0]; omega) rfl (by kernel_rfl) ?_; intro v6 w6 hv6 hb6 ho6; simp [go_sem] at hv6; subst hv6
       have C6 := C5.write 0 rfl ho6 hb6)
    | fail)
   have fv := hid (Qt7 p)
   have hC6 : Bag w w6 [(w2.heap.size, 5, (frK p 0).map W8), (w.heap.size, 25, PaC p (.slice A n c))] := by
    rw [← fv.out]
    exact C6
   clear C6 C5 C4 C3 C2 hb3 hb4 hb5 hb6 ho4 ho5 ho6 hl3 c0 c1 c2 c3 c4 fv e3
   generalize w2.heap.size = g at *
   go_loopw [6] (fun i wr => ∃ k : Nat, k ≤ 8 ∧ i = .int .i64 k ∧ Bag w wr [(g, 5, (frK p k).map W8), (w.heap.size, 25, PaC p (.slice A n c))]) (fun i _ => 8 - (intOf i).toNat)
   case atStart => exact ⟨0, by omega, rfl, hC6⟩
   case round =>
    clear hC6
    obtain ⟨k, hk, rfl, B1⟩ := hrel
    by_cases hlt : k < 8
    · have hlen := Qkc p k
      have c1 := (QaO (B1.nth 1 rfl)).2.1
      have hlg := (B1.nth 1 rfl).lt
      have hst := hid (QtW p k hlt)
      have e20 : ((20 : Int) + (k : Int)).toNat = 20 + k := by omega
      have e56 : ((56 : Int) - 8 * (k : Int)).toNat = 56 - 8 * k := by omega
      go_wp2_with (first
       | (refine Qac rfl rfl _ _ _ rfl g (20 + k) _ _ (B1.nth 0 rfl) rfl (by rw [QCP, hlen]; omega) rfl (by kernel_rfl) ?_; intro v6 w6 hv6 hb6 ho6; simp [go_sem] at hv6; subst hv6; rw [QbB, hst.out] at hb6
          have B2 := B1.write 0 rfl ho6 hb6)
       | fail)
      go_roundw
      case rel => exact ⟨k + 1, by omega, by go_num, B2⟩
      case measure => simp [intOf]; omega
    · obtain rfl : k = 8 := by omega
      have hlen := Qkc p 8
      obtain ⟨c0, c1, c2, c3, c4⟩ := QaO (B1.nth 1 rfl)
      have hlg := (B1.nth 1 rfl).lt
      go_wp2_with (first
       | (refine Qac rfl rfl _ _ _ rfl g 28 _ _ (B1.nth 0 rfl) rfl (by rw [QCP, hlen]; omega) rfl (by kernel_rfl) ?_; intro v6 w6 hv6 hb6 ho6; simp [go_sem] at hv6; subst hv6
          have B2 := B1.write 0 rfl ho6 hb6
          obtain ⟨c0, c1, c2, c3, c4⟩ := QaO (B2.nth 1 rfl)
          have hlg := (B2.nth 1 rfl).lt)
       | (refine Qac rfl rfl _ _ _ rfl g 29 _ _ (B2.nth 0 rfl) rfl (by rw [QDA, QCP, hlen]; omega) rfl (by kernel_rfl) ?_; intro v7 w7 hv7 hb7 ho7; simp [go_sem] at hv7; subst hv7
          have B3 := (B2.write 0 rfl ho7 hb7).drew
          obtain ⟨c0, c1, c2, c3, c4⟩ := QaO (B3.nth 1 rfl)
          have hlg := (B3.nth 1 rfl).lt)
       | fail)
      refine Qad [] [0, 1, 2, 3] [4] (by as_aux_lemma => kernel_rfl) (by as_aux_lemma => kernel_rfl) (by intro _ _ d _ _ h; cases d <;> exact h) ?_
      simp only [Qag, pick, QCL, QCM, QCN, QCO, QCQ]
      repeat (go_big_quiet_step (fail))
      refine wpQuiet_nil ?_
      go_wp2_with (first
       | (refine Qat rfl _ _ _ _ rfl 5 Tryz.underlying22 QbZ g 30 450 450 _ _ (B3.nth 0 rfl) A n c (p.da.map W8) (Rd.later hr B3.lat) (QaA _) rfl rfl (by rw [QDA, QDA, QCP, hlen]; omega) ?_; intro w8 hb8 ho8
          have B4 := B3.write 0 rfl ho8 hb8)
       | fail)
      rw [QbB, QbB, QCZ (by rw [QCP]; omega), QcU, hend.out] at hb8
      go_ret2
      have ho := Qch hb8 (B3.at_low 0 rfl) (by rw [QCP, hlb]; omega)
      rw [QCP, hlb] at ho
      exact ⟨some ⟨g, 0, none⟩, 480, by rw [hR'.out, hlb]; rfl, by rw [hR'.out, hlb]; exact ho, B4.lat⟩
 · have hne : ((E : Int) != 0) = true := by simp; omega
   have hR' := hid (hR.out.trans (if_neg h0))
   go_wp2
   go_ret2
   exact ⟨none, 0, by rw [hR'.out]; rfl, by rw [hR'.out]; exact Qbb _ _ _, C2.lat⟩
set_option maxRecDepth 100000 in
set_option maxHeartbeats 4000000 in
theorem QnO (p : Prt) (A B : Option Addr) (n c d : Nat) (w : World) (hx : RdB w A n p.da) (hy : RdB w B n p.da) (hn : n ≤ 1048576) :
 Calls Tryz.prog 14 #[.agg (PaC p (.slice A n c)).toArray, .agg (PaC p (.slice B n d)).toArray] w fun e w' => e = .returned (.bool true) ∧ Later w w' := by
 have C1 := Qbg w 25 (PaC p (.slice A n c))
 have C2 := C1.add (Qaa _ (.cells (PaC p (.slice B n d)).toArray 25)) (k := w.heap.size + 1) (by simp) (by omega) (Blk.new' _ _ (PaC p (.slice B n d)) (by simp))
 obtain ⟨a0, a1, a2, a3, a4⟩ := QaO (C2.nth 1 rfl)
 obtain ⟨b0, b1, b2, b3, b4⟩ := QaO (C2.nth 0 rfl)
 have u0 := (C2.nth 0 rfl).lt
 have u1 := (C2.nth 1 rfl).lt
 obtain ⟨kd, id, ix, ct, da⟩ := p
 simp only at *
 go_enter Tryz.func14, Tryz.ntmps14
 go_wp2_with fail
 (refine (QiA A B n n c d da da _ (hx.later C2.lat) (hy.later C2.lat) (by omega) (by omega)).mono ?_); rintro e w3 ⟨rfl, j3⟩
 go_wp2_with fail
 go_ret
 exact ⟨by simp, C2.lat.trans j3⟩
end Go.Proofs.YtadfeclgoclalaaGreat
namespace Go.Proofs.YtadfeclgoclalaaGreat
open Go.RowKit
open Go.BigFrame
theorem QxP (x : UInt32) (j : Nat) (h : j < 4) : (bigB 4 x.toNat).take (j + 1) = (bigB 4 x.toNat).take j ++ [(QbT x (8 * (3 - j))).toUInt8] := by
 rw [List.take_add_one, Qh5 4 _ j h]
 have e : (QbT x (8 * (3 - j))).toNat = x.toNat / 2 ^ (8 * (3 - j)) := by
  show (x.toBitVec >>> (8 * (3 - j))).toNat = _
  rw [QDL, QDD]
  rfl
 have e2 : (QbT x (8 * (3 - j))).toUInt8 = QDo (x.toNat / 256 ^ (4 - 1 - j)) := by
  apply QDx.1
  rw [UInt32.toNat_toUInt8, e, QDV, show (2 : Nat) ^ (8 * (3 - j)) = 256 ^ (4 - 1 - j) by rw [show (256 : Nat) = 2 ^ 8 from rfl, ← QEk]]
 rw [e2]
 rfl
theorem QxV (x : UInt64) (j : Nat) (h : j < 8) : (bigB 8 x.toNat).take (j + 1) = (bigB 8 x.toNat).take j ++ [(Qfl x (8 * (7 - j))).toUInt8] := by
 rw [List.take_add_one, Qh5 8 _ j h, show 8 * (7 - j) = 56 - 8 * j by omega, Qo9 x j h]
 rfl
def encR (c : Cmd) : List UInt8 := if cmdE c = 0 then encB c else []
set_option maxRecDepth 100000 in
set_option maxHeartbeats 4000000 in
theorem Qql (c : Cmd) (w : World) : Calls Tryz.prog 56 #[.agg (CC c).toArray] w fun e w' => ∃ A' c', e = .returned (.tuple #[.slice A' (encR c).length c', .int .i64 (cmdE c : Nat)]) ∧ OwnB w' w.heap.size A' (encR c).length c' (encR c) ∧ Later w w' := by
 have C1 := Qbg w 54 (CC c)
 have hCk := hid (QpL c)
 have hR : Hid (encR c = if cmdE c = 0 then encB c else []) := hid rfl
 have hB : Hid (encB c = [c.kd, c.fl] ++ (bigB 4 c.dl.toNat ++ (bigB 8 c.nx.toNat ++ (c.ma.val ++ [0, 0])))) := hid rfl
 have h4 := QaJ 4 c.dl.toNat
 have h8 := QaJ 8 c.nx.toNat
 have hel := Qdj c
 have d4 := hid (QxP c.dl)
 have d8 := hid (QxV c.nx)
 generalize encR c = R at *
 generalize cmdE c = E at *
 generalize encB c = EB at *
 go_enter Tryz.func56, Tryz.ntmps56
 go_wp2_with (first
  | (refine Qc5 rfl _ rfl (C1.nth 0 rfl) rfl ?_)
  | fail)
 (with_reducible refine (hCk.out _).mono ?_); rintro e w2 ⟨rfl, j2⟩
 have C2 := C1.later j2
 clear C1 j2 hCk
 by_cases h0 : E = 0
 · subst h0
   replace hR := hid (hR.out.trans (if_pos (by trivial)))
   obtain ⟨k0, k1, k2, k3, k4⟩ := QcP (C2.nth 0 rfl)
   go_wp2_with fail
   generalize bigB 4 c.dl.toNat = D at *
   generalize bigB 8 c.nx.toNat = X at *
   go_loopw [5, 6] (fun v i wr => ∃ (j : Nat) (A' : Option Addr) (c' : Nat), j ≤ 4 ∧ i = .int .i64 (3 - (j : Int)) ∧ v = .slice A' (2 + j) c' ∧ OwnB wr w2.heap.size A' (2 + j) c' ([c.kd, c.fl] ++ D.take j) ∧ Later w2 wr) (fun _ i _ => (intOf i + 1).toNat)
   case atStart => exact ⟨0, _, _, by omega, rfl, rfl, QeZ w2 5 [W8 c.kd, W8 c.fl] (by simp), Qaa _ _⟩
   case round =>
    clear k0 k1 k2 k3 k4
    obtain ⟨j, A1, c1, hj, rfl, rfl, hown, L⟩ := hrel
    have hb := (C2.later L).nth 0 rfl
    obtain ⟨k0, k1, k2, k3, k4⟩ := QcP hb
    have hlg := hb.lt
    by_cases hlt : j < 4
    · have hge : (0 : Int) ≤ 3 - (j : Int) := by omega
      have e8 : ((8 : Int) * (3 - (j : Int))).toNat = 8 * (3 - j) := by omega
      have hst := hid (d4.out j hlt)
      have J := Qaa wr (.cells #[W8 (QbT c.dl (8 * (3 - j))).toUInt8] 5)
      go_wp2_with (first
       | (refine Qaj rfl _ _ _ rfl 5 _ 1 Tryz.underlying22 Qbl rfl w2 _ (2 + j) _ (Qao hown J) (L.trans J) _ 1 1 _ ((Blk.new wr 5 [W8 (QbT c.dl (8 * (3 - j))).toUInt8]).rd rfl) (by intro u hu; rw [QDX.1 hu]; rfl) rfl rfl (by omega) (by omega) ?_; intro A3 c3 w3 hown3 hl3 hg3 _)
       | fail)
      go_roundw
      case rel =>
       refine ⟨j + 1, A3, c3, by omega, by rw [show (3 : Int) - ((j + 1 : Nat) : Int) = 3 - (j : Int) - 1 by omega], rfl, QdE hown3 rfl ?_, hl3⟩
       rw [hst.out, QDm, QDm, QDm, QC3]
       rfl
      case measure => simp [intOf]; omega
    · obtain rfl : j = 4 := by omega
      rw [QCZ (by omega)] at hown
      go_wp2_with fail
      go_loopw [5, 7] (fun v i wr => ∃ (j : Nat) (A' : Option Addr) (c' : Nat), j ≤ 8 ∧ i = .int .i64 (7 - (j : Int)) ∧ v = .slice A' (6 + j) c' ∧ OwnB wr w2.heap.size A' (6 + j) c' (([c.kd, c.fl] ++ D) ++ X.take j) ∧ Later w2 wr) (fun _ i _ => (intOf i + 1).toNat)
      case atStart => exact ⟨0, _, _, by omega, rfl, rfl, QdE hown rfl (by rw [QEO, QDr]), L⟩
      case round =>
       clear k0 k1 k2 k3 k4 hb hown L hlg
       obtain ⟨j, A1, c1, hj, rfl, rfl, hown, L⟩ := hrel
       have hb := (C2.later L).nth 0 rfl
       obtain ⟨k0, k1, k2, k3, k4⟩ := QcP hb
       have hlg := hb.lt
       by_cases hlt : j < 8
       · have hge : (0 : Int) ≤ 7 - (j : Int) := by omega
         have e8 : ((8 : Int) * (7 - (j : Int))).toNat = 8 * (7 - j) := by omega
         have hst := hid (d8.out j hlt)
         have J := Qaa wr (.cells #[W8 (Qfl c.nx (8 * (7 - j))).toUInt8] 5)
         go_wp2_with (first
          | (refine Qaj rfl _ _ _ rfl 5 _ 1 Tryz.underlying22 Qbl rfl w2 _ (6 + j) _ (Qao hown J) (L.trans J) _ 1 1 _ ((Blk.new wr 5 [W8 (Qfl c.nx (8 * (7 - j))).toUInt8]).rd rfl) (by intro u hu; rw [QDX.1 hu]; rfl) rfl rfl (by omega) (by omega) ?_; intro A3 c3 w3 hown3 hl3 hg3 _)
          | fail)
         have hnx : OwnB w3 w2.heap.size A3 (6 + (j + 1)) c3 (([c.kd, c.fl] ++ D) ++ X.take (j + 1)) := QdE hown3 rfl (by
          rw [hst.out, ← QC3, QDm (l₂ := [_])]
          rfl)
         go_roundw
         case rel =>
          repeat apply Exists.intro
          exact ⟨⟨j + 1, A3, c3, by omega, by rw [show (7 : Int) - ((j + 1 : Nat) : Int) = 7 - (j : Int) - 1 by omega], rfl, hnx, hl3⟩, rfl⟩
         case measure => simp [intOf]; omega
       · obtain rfl : j = 8 := by omega
         rw [QCZ (by omega)] at hown
         have hma := c.ma.2
         have hr16 : RdB wr (some ⟨w.heap.size, 4, none⟩) 16 c.ma.val := Qdn hlg (fun j v hv => k4 j v hv) hma
         go_wp2_with (first
          | (refine Qaj rfl _ _ _ rfl 5 _ 1 Tryz.underlying22 Qbl rfl w2 _ 14 _ hown L (some ⟨w.heap.size, 4, none⟩) 16 16 _ hr16 (QaA _) rfl rfl (by omega) (by omega) ?_; intro A3 c3 w3 hown3 hl3 hg3 _
             have J := Qaa w3 (.cells #[W8 0, W8 0] 5))
          | (refine Qaj rfl _ _ _ rfl 5 _ 1 Tryz.underlying22 Qbl rfl w2 _ 30 _ (Qao hown3 J) (hl3.trans J) _ 2 2 _ ((Blk.new w3 5 [W8 0, W8 0]).rd rfl) (by intro u hu; simp only [QC2, QC1, or_false] at hu; rcases hu with rfl | rfl <;> rfl) rfl rfl (by omega) (by omega) ?_; intro A4 c4 w4 hown4 hl4 hg4 _)
          | fail)
         go_ret2
         refine ⟨A4, c4, by rw [hR.out, hel]; rfl, ?_, C2.lat.trans hl4⟩
         rw [hR.out, hel, hB.out]
         refine Qa5 (QdE hown4 rfl ?_) C2.lat.size
         simp only [QDm, QC3, QDh, QC9, QCO, QCQ]
 · have hne : ((E : Int) != 0) = true := by simp; omega
   replace hR := hid (hR.out.trans (if_neg h0))
   go_wp2
   go_ret2
   exact ⟨none, 0, by rw [hR.out]; rfl, by rw [hR.out]; exact Qbb _ _ _, C2.lat⟩
end Go.Proofs.YtadfeclgoclalaaGreat
namespace Go.Proofs.YtadfeclgoclalaaGreat
open Go.RowKit
open Go.BigFrame
theorem Qpn {hs : List Hp} {p : Hp → Bool} {k : Nat} (hk : k < hs.length) (h : p (hs.getD k hp0) = true) : hs.any p = true := by
 rw [List.any_eq_true]
 refine ⟨_, QD6 hk, ?_⟩
 rw [QCS, QCR hk] at h
 exact h
theorem Qr8 {hs : List Hp} {p : Hp → Bool} (h : ∀ k, k < hs.length → p (hs.getD k hp0) = false) : hs.any p = false := by
 rw [List.any_eq_false]
 intro x hx
 obtain ⟨k, hk, rfl⟩ := List.getElem_of_mem hx
 have := h k hk
 rw [QCS, QCR hk] at this
 simpa using this
theorem Qju (hs : List Hp) (k : Nat) : (hs.drop 1).getD k hp0 = hs.getD (k + 1) hp0 := by
 rw [QCS, QDW, QEE 1 k, QCS]
theorem QqW {hs : List Hp} {p : Hp → Bool} {k : Nat} (hk : k + 1 < hs.length) (h : p (hs.getD (k + 1) hp0) = true) : (hs.drop 1).any p = true :=
 Qpn (k := k) (by rw [QDc]; omega) (by rw [Qju]; exact h)
theorem Qvl {hs : List Hp} {p : Hp → Bool} (h : ∀ k, k + 1 < hs.length → p (hs.getD (k + 1) hp0) = false) : (hs.drop 1).any p = false :=
 Qr8 (fun k hk => by rw [QDc] at hk; rw [Qju]; exact h k (by omega))
def lcK (kd : UInt8) : Cmd := ⟨kd, 0, 0, 0, QaS⟩
theorem Que (kd : UInt8) (hk : kd = 2 ∨ kd = 3) (hs : List Hp) : Qf4 (lcK kd) hs = if hs.any badH = true then 1 else if hs.length < 1 ∨ 5 < hs.length then 2 else if (hs.drop 1).any (fun h => h.nod.id == 0) = true then 3 else 0 := by
 have h1 : ¬ Qvn (lcK kd) = true := by rcases hk with rfl | rfl <;> decide
 have h2 : ¬ Qc7 (lcK kd) = false := by rcases hk with rfl | rfl <;> decide
 rw [Qf4, if_neg h1, if_neg h2]
def QeM (kd : UInt8) (hs : List Hp) (k : Nat) : List Cmd := (QDw k).map (Qb9 (lcK kd) hs)
theorem QqA (kd : UInt8) (hs : List Hp) (k : Nat) : (QeM kd hs (k + 1)).flatMap CC = (QeM kd hs k).flatMap CC ++ [Qb9 (lcK kd) hs k].flatMap CC := by
 rw [QeM, QEA, QDm, List.flatMap_append]
 rfl
theorem QhP (kd : UInt8) (hs : List Hp) (k : Nat) : (QeM kd hs k).length = k := by simp [QeM]
def QkD (kd : UInt8) (hs : List Hp) : List Cmd := if Qf4 (lcK kd) hs = 0 then QeM kd hs hs.length else []
theorem Qv9 : (Tryz.prog.info? 54).map (fun i => (i.zero, i.size, i.bytes)) = some (some (.agg (CC cmd0).toArray), 20, 32) := by kernel_rfl
theorem Qr6 : (Tryz.prog.info? 54).map (fun i => (i.zero, i.size)) = some (some (.agg (CC cmd0).toArray), 20) := by kernel_rfl
theorem QkU : (Tryz.prog.info? 39).map (·.size) = some 16 := by kernel_rfl
theorem QjZ (k f : UInt8) (d : UInt32) : Tryz.prog.built 54 [(0, W8 k), (1, W8 f), (2, W32 d)] = some (CC ⟨k, f, d, 0, QaS⟩).toArray := by
 rw [Qa8 (pl := [(0, 1), (1, 1), (2, 1), (3, 1), (4, 16)]) Tryz.underlying54 Qvq (by kernel_rfl), Qbr (vs := [W8 k]) (off := 0) rfl rfl (by rw [Qap]; simp), Qbr (vs := [W8 f]) (off := 1) rfl rfl (by rw [QcB _ _ _ (by rw [Qap]; simp), Qap]; simp), Qbr (vs := [W32 d]) (off := 2) rfl rfl (by rw [QcB _ _ _ (by rw [QcB _ _ _ (by rw [Qap]; simp), Qap]; simp), QcB _ _ _ (by rw [Qap]; simp), Qap]; simp), Qcv]
 rfl
theorem QuP (c : Cmd) : QaB (CC c) 4 (QaS.val.map W8) = CC { c with ma := QaS } := by
 have h := c.ma.2
 rw [CC, QaB, QCP, QaS.2, QDZ (by simp [h])]
 simp [CC]
theorem Qpb (w : World) (t : TypeId) (x : Cmd) : Blk (w.alloc (.cells (CC x).toArray t)) w.heap.size t ([x].flatMap CC) := by
 rw [QES, List.flatMap_nil, QDr]
 exact Blk.new w t _
theorem QqS (kd : UInt8) (hs : List Hp) (k : Nat) (h : k + 1 = hs.length) : Qb9 (lcK kd) hs k = ⟨kd, QDj (hs.getD k hp0).flags, QDH (hs.getD k hp0).delay, 0, QaS⟩ := by
 rw [Qb9, if_neg (by omega)]
 rfl
theorem QrR (kd : UInt8) (hs : List Hp) (k : Nat) (h : k + 1 < hs.length) : Qb9 (lcK kd) hs k = ⟨1, QDj (hs.getD k hp0).flags, QDH (hs.getD k hp0).delay, (hs.getD (k + 1) hp0).nod.id, QaS⟩ := by
 rw [Qb9, if_pos h]
theorem Qri {w : World} {base base' sz : Nat} {e : TypeId} {v : Value} {n : Nat} {vs : List Value} (h : w.ownsRow base e sz v n vs) (hb : base' ≤ base) : w.ownsRow base' e sz v n vs := by
 refine ⟨h.1, h.2.imp id ?_⟩
 rintro ⟨g, cap, cur, h1, h2, h3⟩
 exact ⟨g, cap, cur, h1, QDy hb h2, h3⟩
theorem QzV (x : Hp) : (HC x)[1]? = some (W64 x.nod.id) := QmA x rfl
set_option maxRecDepth 100000 in
set_option maxHeartbeats 8000000 in
theorem Qvb (kd : UInt8) (hkd : kd = 2 ∨ kd = 3) (A : Option Addr) (n cc : Nat) (hs : List Hp) (w : World) (hh : RdH w A n hs) (hn : n ≤ 1048576) :
 Calls Tryz.prog 31 #[.agg (CC (lcK kd)).toArray, .slice A n cc] w fun e w' => ∃ A' c', e = .returned (.tuple #[.slice A' (QkD kd hs).length c', .int .i64 (Qf4 (lcK kd) hs : Nat)]) ∧
  w'.ownsRow w.heap.size 54 20 (.slice A' (QkD kd hs).length c') (QkD kd hs).length ((QkD kd hs).flatMap CC) ∧ Later w w' := by
 have hl := hh.1
 have hE := hid (Que kd hkd hs)
 have hR : Hid (QkD kd hs = if Qf4 (lcK kd) hs = 0 then QeM kd hs hs.length else []) := hid rfl
 have k2 : ¬ kd < 2 := by rcases hkd with rfl | rfl <;> decide
 have k4 : ¬ 4 < kd := by rcases hkd with rfl | rfl <;> decide
 have n4 : (kd != 4) = true := by rcases hkd with rfl | rfl <;> decide
 clear hkd
 have B0 := Qbg w 54 (CC (lcK kd))
 have hz0 : cz0.length = 20 := rfl
 have hMk := hid (Qjy (lcK kd))
 rw [hl] at hE hR
 have hcm := hid (QqA kd hs)
 have hcl := hid (QhP kd hs)
 generalize Qf4 (lcK kd) hs = E at *
 generalize QkD kd hs = R at *
 obtain ⟨c0, c1, c2, c3, c4⟩ := QcP (B0.nth 0 rfl)
 change _ = some (W8 kd) at c0; change _ = some (W64 0) at c3
 go_enter Tryz.func31, Tryz.ntmps31
 go_wp2_with fail
 generalize hW : w.alloc _ = w1
 replace B0 : Bag w w1 [(w.heap.size, 54, CC (lcK kd))] := by rw [← hW]; exact B0
 clear hW c0 c1 c2 c3 c4
 go_loopw [6] (fun i wr => ∃ k : Nat, k ≤ n ∧ i = .int .i64 k ∧ Hid (∀ j, j < k → badH (hs.getD j hp0) = false) ∧ Later w1 wr) (fun i _ => n - (intOf i).toNat)
 case atStart => exact ⟨0, by omega, rfl, hid (fun j hj => absurd hj (by omega)), Later.refl _⟩
 case round =>
  obtain ⟨k, hk, rfl, hz, L⟩ := hrel
  by_cases hlt : k < n
  · obtain ⟨b, o, rfl, hbb, hc⟩ := (hh.later (B0.lat.trans L)).at_ hlt
    have c66 : wr.cell? ⟨b, o + k * 68 + 66, none⟩ = some (.int .i64 (hs.getD k hp0).delay) := hc 66 _ (Qh9 _)
    have c67 : wr.cell? ⟨b, o + k * 68 + 67, none⟩ = some (.int .i64 (hs.getD k hp0).flags) := hc 67 _ (Qh8 _)
    have hno := hid (fun h => Qpn (hs := hs) (p := badH) (k := k) (by omega) h)
    have hgo := hid (fun h : badH (hs.getD k hp0) = false => Qhh (p := fun j => badH (hs.getD j hp0) = false) hz.out h)
    have hbd : Hid (badH (hs.getD k hp0) = (decide ((hs.getD k hp0).delay < 0) || decide (1000000 < (hs.getD k hp0).delay) || decide ((hs.getD k hp0).flags < 0) || decide (255 < (hs.getD k hp0).flags))) := hid rfl
    clear hc
    generalize badH (hs.getD k hp0) = bb at *
    generalize (hs.getD k hp0).delay = dl at *
    generalize (hs.getD k hp0).flags = fl at *
    have hbad := hid (fun h : bb = true => show E = 1 ∧ R = [] from by
     have e := hE.out.trans (if_pos (hno.out h))
     exact ⟨e, by rw [hR.out, if_neg (by omega)]⟩)
    clear hno
    by_cases a1 : dl < 0
    · have hX := hid (hbad.out (by rw [hbd.out]; simp [a1]))
      go_wp2_with fail
      go_ret2
      exact ⟨none, 0, by rw [hX.out.1, hX.out.2]; rfl, by rw [hX.out.2]; exact World.ownsRow_nil _ _ _ 20, B0.lat.trans L⟩
    by_cases a2 : 1000000 < dl
    · have hX := hid (hbad.out (by rw [hbd.out]; simp [a2]))
      go_wp2_with fail
      go_ret2
      exact ⟨none, 0, by rw [hX.out.1, hX.out.2]; rfl, by rw [hX.out.2]; exact World.ownsRow_nil _ _ _ 20, B0.lat.trans L⟩
    by_cases a3 : fl < 0
    · have hX := hid (hbad.out (by rw [hbd.out]; simp [a3]))
      go_wp2_with fail
      go_ret2
      exact ⟨none, 0, by rw [hX.out.1, hX.out.2]; rfl, by rw [hX.out.2]; exact World.ownsRow_nil _ _ _ 20, B0.lat.trans L⟩
    by_cases a4 : 255 < fl
    · have hX := hid (hbad.out (by rw [hbd.out]; simp [a4]))
      go_wp2_with fail
      go_ret2
      exact ⟨none, 0, by rw [hX.out.1, hX.out.2]; rfl, by rw [hX.out.2]; exact World.ownsRow_nil _ _ _ 20, B0.lat.trans L⟩
    have hG := hid (hgo.out (by rw [hbd.out]; simp [a1, a2, a3, a4]))
    clear hgo hbd hbad
    go_wp2_with fail
    exact ⟨⟨k + 1, by omega, by go_num, hG, L⟩, by simp [intOf]; omega⟩
  · obtain rfl : k = n := by omega
    replace hE := hid (hE.out.trans (if_neg (by rw [Qr8 (by rw [hl]; exact hz.out)]; decide)))
    by_cases h5 : k < 1 ∨ 5 < k
    · have e := hE.out.trans (if_pos h5)
      have hX := hid (show E = 2 ∧ R = [] from ⟨e, by rw [hR.out, if_neg (by omega)]⟩)
      clear e
      by_cases h1 : k = 0
      · have f1 : ((k : Int) == 0) = true := by simp [h1]
        clear h1 h5
        go_wp2_with fail
        go_ret2
        exact ⟨none, 0, by rw [hX.out.1, hX.out.2]; rfl, by rw [hX.out.2]; exact World.ownsRow_nil _ _ _ 20, B0.lat.trans L⟩
      · have f1 : ((k : Int) == 0) = false := by simp [h1]
        have f2 : decide ((5 : Int) < (k : Int)) = true := decide_eq_true (by omega)
        clear h5
        go_wp2_with fail
        go_ret2
        exact ⟨none, 0, by rw [hX.out.1, hX.out.2]; rfl, by rw [hX.out.2]; exact World.ownsRow_nil _ _ _ 20, B0.lat.trans L⟩
    · have f1 : ((k : Int) == 0) = false := by simp; omega
      have f2 : decide ((5 : Int) < (k : Int)) = false := decide_eq_false (by omega)
      replace hE := hid (hE.out.trans (if_neg h5))
      have B1 := B0.later L
      obtain ⟨c0, c1, c2, c3, c4⟩ := QcP (B1.nth 0 rfl)
      change _ = some (W8 kd) at c0; change _ = some (W64 0) at c3
      have hlg := (B1.nth 0 rfl).lt
      go_wp2_with (first
       | (refine Qc5 rfl _ rfl (B1.nth 0 rfl) rfl ?_)
       | fail)
      (with_reducible refine (hMk.out _).mono ?_); rintro e w4 ⟨rfl, j4⟩
      have B4 := B1.later j4
      rw [show (!((lcK kd).ma.val == QaS.val)) = false by rw [show (lcK kd).ma = QaS from rfl]; decide]
      clear c0 c1 c2 c3 c4 hlg
      go_wp2_with fail
      go_loopw [7, 8] (fun v i wr => ∃ (j : Nat) (A' : Option Addr) (c' : Nat), j ≤ k ∧ i = .int .i64 j ∧ v = .slice A' j c' ∧ wr.ownsRow w4.heap.size 54 20 (.slice A' j c') j ((QeM kd hs j).flatMap CC) ∧ Hid (∀ i, i + 1 < j + 1 → i + 1 < k → ((hs.getD (i + 1) hp0).nod.id == 0) = false) ∧ Later w4 wr) (fun _ i _ => k - (intOf i).toNat)
      case atStart => exact ⟨0, none, 0, by omega, rfl, rfl, World.ownsRow_nil _ _ _ 20, hid (fun i h => by omega), Later.refl _⟩
      case round =>
       obtain ⟨j, A', c', hj, rfl, rfl, hown, hg, L4⟩ := hrel
       by_cases hjk : j < k
       · have hne : ∀ b, (Value.slice A' j c').ownBlock = some b → b ≠ wr.heap.size := fun b hb => by have := (World.ownsRow.lt hown b hb).2; omega
         have hhd := hh.later ((B4.lat.trans L4).trans (Qab _))
         obtain ⟨b, o, rfl, hbb, hc⟩ := hhd.at_ hjk
         have c66 : wr.drew.cell? ⟨b, o + j * 68 + 66, none⟩ = some (.int .i64 (hs.getD j hp0).delay) := hc 66 _ (Qh9 _)
         have c67 : wr.drew.cell? ⟨b, o + j * 68 + 67, none⟩ = some (.int .i64 (hs.getD j hp0).flags) := hc 67 _ (Qh8 _)
         clear hc
         by_cases hlast : j + 1 = k
         · have hp := QqS kd hs j (by omega)
           have e1 : ((j : Int) == (k : Int) - 1) = true := by simp; omega
           replace hlast := hid hlast
           generalize (hs.getD j hp0).delay = dl at *
           generalize (hs.getD j hp0).flags = fl at *
           replace hp := hid hp
           have hbc := QjZ 1 (QDj fl) (QDH dl)
           go_wp2_with fail
           refine Qad [([0, 1, 2, 3, 4, 5, 6, 7, 8, 9, 10, 11, 12], 13)] [] [14] (by as_aux_lemma => kernel_rfl) (by as_aux_lemma => kernel_rfl) (by intro _ _ d _ _ h; cases d <;> exact h) ?_
           simp only [Qag, pick, QCL, QCM, QCN, QCO, QCQ]
           repeat (first | go_big_quiet_skip | (go_big_quiet_want; (refine Qbu _ _ rfl (CC ⟨1, QDj fl, QDH dl, 0, QaS⟩) (by simp only [QC0, QDh, QC9]; exact hbc) ?_); simp only [Act.put, QCT, QCW, QCV]; go_big_quiet_on) | (go_big_quiet_step (fail)))
           refine wpQuiet_nil ?_
           go_wp2_with fail
           try refine ⟨by first | assumption | exact Qab _ | exact Qaa _ _ | exact Later.refl _, ?_⟩
           try simp only [Qag, pick, QCL, QCM, QCN, QCO, QCQ]
           repeat (go_big_quiet_step (fail))
           refine wpQuiet_nil ?_
           go_wp2_with (first
            | (refine QbO rfl rfl _ _ rfl (Blk.new wr.drew _ cz0) rfl rfl hz0 ?_; intro w5 hb5 ho5
               have C5 : Bag w4 w5 [(wr.heap.size, 54, CC ⟨1, QDj fl, QDH dl, 0, QaS⟩)] := ((Bag.none w4).later (L4.trans (Qab _))).push (Qaa _ _) (QCX _) ho5 hb5
               have own5 : w5.ownsRow w4.heap.size 54 20 (.slice A' j c') j ((QeM kd hs j).flatMap CC) := Qce (Qcf hown ((Qab wr).trans (Qaa _ _))) ho5 hne
               obtain ⟨c0, c1, c2, c3, c4⟩ := QcP ((B4.later C5.lat).nth 0 rfl)
               change _ = some (W8 kd) at c0; change ∀ j v, (QaS.val.map W8)[j]? = some v → _ at c4
               have hlg := ((B4.later C5.lat).nth 0 rfl).lt
               have hl5 := (C5.nth 0 rfl).lt)
            | (refine Qac rfl rfl _ _ _ rfl wr.heap.size 0 _ _ (C5.nth 0 rfl) rfl (by rw [Qap]; omega) rfl (by kernel_rfl) ?_; intro v6 w6 hv6 hb6 ho6; simp [go_sem] at hv6; subst hv6
               have C6 : Bag w4 w6 [(wr.heap.size, 54, CC ⟨kd, QDj fl, QDH dl, 0, QaS⟩)] := C5.write 0 rfl ho6 hb6
               have own6 := Qce own5 ho6 hne
               obtain ⟨c0, c1, c2, c3, c4⟩ := QcP ((B4.later C6.lat).nth 0 rfl)
               change _ = some (W8 kd) at c0; change ∀ j v, (QaS.val.map W8)[j]? = some v → _ at c4)
            | (refine QaN rfl 39 _ rfl w.heap.size 4 (QaS.val.map W8) c4 rfl _ Tryz.underlying39 rfl QkU ?_)
            | (refine Qah rfl rfl _ _ _ rfl wr.heap.size 4 _ _ (QaS.val.map W8) (C6.nth 0 rfl) rfl rfl QkU (by rw [Qap, QCP, QaS.2]; omega) (QaA _) ?_; intro w7 hb7 ho7
               have C7 : Bag w4 w7 [(wr.heap.size, 54, CC ⟨kd, QDj fl, QDH dl, 0, QaS⟩)] := by
                rw [QuP] at hb7
                exact C6.write 0 rfl ho7 hb7
               have own7 := Qce own6 ho7 hne)
            | (refine Qc5 rfl _ rfl (C7.nth 0 rfl) rfl ?_)
            | (refine Qhq rfl 96 _ rfl 54 20 _ (CC ⟨kd, QDj fl, QDH dl, 0, QaS⟩) Tryz.underlying96 Qr6 (by omega) (by omega) (Qap _) rfl ?_)
            | (refine Qd3 Qap Qpl (by omega) rfl _ _ _ rfl 54 _ 32 Tryz.underlying96 Qv9 rfl w4 _ j _ (Qcf own7 (Qaa _ _)) (C7.lat.alloc _) _ 1 1 [⟨kd, QDj fl, QDH dl, 0, QaS⟩] (QnD (d := cmd0) Qap (Qpb w7 _ _) rfl) rfl rfl (by omega) (by omega) ?_; intro A3 c3 w8 hown8 hl8 hg8)
            | fail)
           rw [← hp.out, ← hcm.out] at hown8
           exact ⟨⟨j + 1, A3, c3, by omega, by go_num, rfl, hown8, hid (fun i h1 h2 => hg.out i (by have := hlast.out; omega) h2), hl8⟩, by simp [intOf]; omega⟩
         · have hlt2 : j + 1 < k := by omega
           have hp := QrR kd hs j (by omega)
           have e1 : ((j : Int) == (k : Int) - 1) = false := by simp; omega
           have e2 : ((j : Int) + 1).toNat = j + 1 := by omega
           obtain ⟨b2, o2, hbo, hbb2, hc2⟩ := hhd.at_ hlt2
           obtain ⟨rfl, rfl⟩ : b = b2 ∧ o = o2 := by simpa using hbo
           have d1 : wr.drew.cell? ⟨b, o + (j + 1) * 68 + 1, none⟩ = some (W64 (hs.getD (j + 1) hp0).nod.id) := hc2 1 _ (QzV _)
           have hno := hid (fun h => QqW (hs := hs) (p := fun h => h.nod.id == 0) (k := j) (by omega) h)
           have hgo : Hid (((hs.getD (j + 1) hp0).nod.id == 0) = false → ∀ i, i + 1 < j + 1 + 1 → i + 1 < k → ((hs.getD (i + 1) hp0).nod.id == 0) = false) := hid (fun h i h1 h2 => by
            by_cases e : i = j
            · rw [e]; exact h
            · exact hg.out i (by omega) h2)
           clear hc2 hbo hbb2
           generalize (hs.getD (j + 1) hp0).nod.id = idv at *
           generalize (hs.getD j hp0).delay = dl at *
           generalize (hs.getD j hp0).flags = fl at *
           replace hp := hid hp
           have hbc := QjZ 1 (QDj fl) (QDH dl)
           go_wp2_with fail
           refine Qad [([0, 1, 2, 3, 4, 5, 6, 7, 8, 9, 10, 11, 12], 13)] [] [14] (by as_aux_lemma => kernel_rfl) (by as_aux_lemma => kernel_rfl) (by intro _ _ d _ _ h; cases d <;> exact h) ?_
           simp only [Qag, pick, QCL, QCM, QCN, QCO, QCQ]
           repeat (first | go_big_quiet_skip | (go_big_quiet_want; (refine Qbu _ _ rfl (CC ⟨1, QDj fl, QDH dl, 0, QaS⟩) (by simp only [QC0, QDh, QC9]; exact hbc) ?_); simp only [Act.put, QCT, QCW, QCV]; go_big_quiet_on) | (go_big_quiet_step (fail)))
           refine wpQuiet_nil ?_
           go_wp2_with fail
           try refine ⟨by first | assumption | exact Qab _ | exact Qaa _ _ | exact Later.refl _, ?_⟩
           try simp only [Qag, pick, QCL, QCM, QCN, QCO, QCQ]
           repeat (go_big_quiet_step (fail))
           refine wpQuiet_nil ?_
           cases hi0 : (idv == 0)
           · replace hgo := hid (hgo.out hi0)
             go_wp2_with (first
              | (refine QbO rfl rfl _ _ rfl (Blk.new wr.drew _ cz0) rfl rfl hz0 ?_; intro w5 hb5 ho5
                 have C5 : Bag w4 w5 [(wr.heap.size, 54, CC ⟨1, QDj fl, QDH dl, 0, QaS⟩)] := ((Bag.none w4).later (L4.trans (Qab _))).push (Qaa _ _) (QCX _) ho5 hb5
                 have own5 : w5.ownsRow w4.heap.size 54 20 (.slice A' j c') j ((QeM kd hs j).flatMap CC) := Qce (Qcf hown ((Qab wr).trans (Qaa _ _))) ho5 hne
                 obtain ⟨c0, c1, c2, c3, c4⟩ := QcP ((B4.later C5.lat).nth 0 rfl)
                 change _ = some (W8 kd) at c0; change ∀ j v, (QaS.val.map W8)[j]? = some v → _ at c4
                 have hlg := ((B4.later C5.lat).nth 0 rfl).lt
                 have l5 : Later wr.drew w5 := (Qaa _ _).only ho5 (QCX _)
                 have d5 := (l5.below.cell (p := ⟨b, o + (j + 1) * 68 + 1, none⟩) hbb).trans d1
                 have hb5' : b < w5.heap.size := QDb hbb l5.size
                 have hl5 := (C5.nth 0 rfl).lt)
              | (refine Qac rfl rfl _ _ _ rfl wr.heap.size 3 _ _ (C5.nth 0 rfl) rfl (by rw [Qap]; omega) rfl (by kernel_rfl) ?_; intro v6 w6 hv6 hb6 ho6; simp [go_sem] at hv6; subst hv6
                 have C6 : Bag w4 w6 [(wr.heap.size, 54, CC ⟨1, QDj fl, QDH dl, idv, QaS⟩)] := C5.write 0 rfl ho6 hb6
                 have own6 := Qce own5 ho6 hne
                 obtain ⟨c0, c1, c2, c3, c4⟩ := QcP (C6.nth 0 rfl)
                 have hl6 := (C6.nth 0 rfl).lt)
              | (refine Qc5 rfl _ rfl (C6.nth 0 rfl) rfl ?_)
              | (refine Qhq rfl 96 _ rfl 54 20 _ (CC ⟨1, QDj fl, QDH dl, idv, QaS⟩) Tryz.underlying96 Qr6 (by omega) (by omega) (Qap _) rfl ?_)
              | (refine Qd3 Qap Qpl (by omega) rfl _ _ _ rfl 54 _ 32 Tryz.underlying96 Qv9 rfl w4 _ j _ (Qcf own6 (Qaa _ _)) (C6.lat.alloc _) _ 1 1 [⟨1, QDj fl, QDH dl, idv, QaS⟩] (QnD (d := cmd0) Qap (Qpb w6 _ _) rfl) rfl rfl (by omega) (by omega) ?_; intro A3 c3 w8 hown8 hl8 hg8)
              | fail)
             rw [← hp.out, ← hcm.out] at hown8
             exact ⟨⟨j + 1, A3, c3, by omega, by go_num, rfl, hown8, hgo, hl8⟩, by simp [intOf]; omega⟩
           · have e := hE.out.trans (if_pos (hno.out hi0))
             have hX := hid (show E = 3 ∧ R = [] from ⟨e, by rw [hR.out, if_neg (by omega)]⟩)
             clear e
             go_wp2_with (first
              | (refine QbO rfl rfl _ _ rfl (Blk.new wr.drew _ cz0) rfl rfl hz0 ?_; intro w5 hb5 ho5
                 have C5 : Bag w4 w5 [(wr.heap.size, 54, CC ⟨1, QDj fl, QDH dl, 0, QaS⟩)] := ((Bag.none w4).later (L4.trans (Qab _))).push (Qaa _ _) (QCX _) ho5 hb5
                 have own5 : w5.ownsRow w4.heap.size 54 20 (.slice A' j c') j ((QeM kd hs j).flatMap CC) := Qce (Qcf hown ((Qab wr).trans (Qaa _ _))) ho5 hne
                 obtain ⟨c0, c1, c2, c3, c4⟩ := QcP ((B4.later C5.lat).nth 0 rfl)
                 change _ = some (W8 kd) at c0; change ∀ j v, (QaS.val.map W8)[j]? = some v → _ at c4
                 have hlg := ((B4.later C5.lat).nth 0 rfl).lt
                 have l5 : Later wr.drew w5 := (Qaa _ _).only ho5 (QCX _)
                 have d5 := (l5.below.cell (p := ⟨b, o + (j + 1) * 68 + 1, none⟩) hbb).trans d1
                 have hb5' : b < w5.heap.size := QDb hbb l5.size
                 have hl5 := (C5.nth 0 rfl).lt)
              | (refine Qac rfl rfl _ _ _ rfl wr.heap.size 3 _ _ (C5.nth 0 rfl) rfl (by rw [Qap]; omega) rfl (by kernel_rfl) ?_; intro v6 w6 hv6 hb6 ho6; simp [go_sem] at hv6; subst hv6
                 have C6 : Bag w4 w6 [(wr.heap.size, 54, CC ⟨1, QDj fl, QDH dl, idv, QaS⟩)] := C5.write 0 rfl ho6 hb6
                 have own6 := Qce own5 ho6 hne
                 obtain ⟨c0, c1, c2, c3, c4⟩ := QcP (C6.nth 0 rfl)
                 have hl6 := (C6.nth 0 rfl).lt)
              | fail)
             go_ret2
             exact ⟨none, 0, by rw [hX.out.1, hX.out.2]; rfl, by rw [hX.out.2]; exact World.ownsRow_nil _ _ _ 20, B4.lat.trans C6.lat⟩
       · obtain rfl : j = k := by omega
         have e := hE.out.trans (if_neg (by rw [Qvl (p := fun h => h.nod.id == 0) (by rw [hl]; exact fun i h => hg.out i (by omega) h)]; decide))
         have hX := hid (show E = 0 ∧ R = QeM kd hs j from ⟨e, by rw [hR.out, if_pos e]⟩)
         clear e
         go_wp2_with fail
         go_ret2
         exact ⟨A', c', by rw [hX.out.1, hX.out.2, hcl.out]; rfl, by rw [hX.out.2, hcl.out]; exact Qri hown B4.lat.size, B4.lat.trans L4⟩
end Go.Proofs.YtadfeclgoclalaaGreat
namespace Go.Proofs.YtadfeclgoclalaaGreat
open Go.RowKit
open Go.BigFrame
set_option maxRecDepth 100000 in
set_option maxHeartbeats 4000000 in
theorem QsC (A : Option Addr) (c k0 r n : Nat) (key : List UInt8) (w : World) (hk : RdB w A 32 key) (hr : r < 64) (hk0 : k0 ≤ 1024) (hn : n ≤ 1024) :
 Calls Tryz.prog 82 #[.slice A 32 c, .int .i64 ((64 * k0 + r : Nat) : Int), .int .i64 n] w fun e w' => ∃ A' c', e = .returned (.slice A' n c') ∧ OwnB w' w.heap.size A' n c' ((chaS key (64 * k0 + r + n)).drop (64 * k0 + r)) ∧ Later w w' := by
 have hB := hid (fun B d ctr (w' : World) (hl : Later w w') hn => Qj7 A B c d key (QCK 12 0) ctr w' (hk.later hl) hn)
 have hs1 : Hid (∀ j, (chaF key (k0 + (j + 1))).drop (64 * k0) = (chaF key (k0 + j)).drop (64 * k0) ++ chaB key (QCK 12 0) (QDn (k0 + j))) := hid (fun j => by
  rw [← QEW, Qfn, QD2 (by rw [QcJ]; omega)])
 have h0 : Hid ((chaF key (k0 + 0)).drop (64 * k0) = []) := hid (by rw [QEr (by rw [QcJ]; omega)])
 have hS : Hid (∀ j, n + r ≤ 64 * j → (((chaF key (k0 + j)).drop (64 * k0)).drop r).take n = (chaS key (64 * k0 + r + n)).drop (64 * k0 + r)) := hid (fun j h => by
  rw [Qfx key _ (k0 + j) (by omega), QD3, List.drop_take, show 64 * k0 + r + n - (64 * k0 + r) = n by omega])
 have hSl : ((chaS key (64 * k0 + r + n)).drop (64 * k0 + r)).length = n := by rw [QDc, Qau]; omega
 have q1 : ((64 * k0 + r : Nat) : Int) / 64 = (k0 : Int) := by omega
 have q2 : ((64 * k0 + r : Nat) : Int) % 64 = (r : Int) := by omega
 generalize (chaS key (64 * k0 + r + n)).drop (64 * k0 + r) = SS at *
 generalize ((64 * k0 + r : Nat) : Int) = aI at *
 go_enter Tryz.func82, Tryz.ntmps82
 go_wp2_with fail
 simp only [q1]
 go_loopw [7, 8] (fun v i wr => ∃ (j : Nat) (A' : Option Addr) (c' : Nat), j ≤ 17 ∧ i = .int .i64 ((k0 : Int) + (j : Int)) ∧ v = .slice A' (64 * j) c' ∧ 64 * j < n + r + 64 ∧ OwnB wr w.heap.size A' (64 * j) c' ((chaF key (k0 + j)).drop (64 * k0)) ∧ Later w wr) (fun v _ _ => n + r - lenOf v)
 case atStart => exact ⟨0, none, 0, by omega, by simp, rfl, by omega, by rw [h0.out]; exact Qbb _ _ _, Later.refl w⟩
 case round =>
  obtain ⟨k, A6, c6, hk6, rfl, rfl, hmk, hown, L⟩ := hrel
  by_cases hlt : 64 * k < n + r
  · have hcmp : 64 * (k : Int) < (n : Int) + (r : Int) := by omega
    have hb := hs1.out k
    obtain ⟨K, hK⟩ : ∃ K, K = k0 + k := ⟨_, rfl⟩
    have hcv := Qgv K
    have hcast : (k0 : Int) + (k : Int) = (K : Int) := by omega
    rw [← hK] at hb hown
    replace hb := hid hb
    have hKb : K ≤ 1041 := by omega
    replace hK := hid hK
    generalize (chaF key K).drop (64 * k0) = Fk at *
    rw [hcast]
    clear hcast
    go_wp2_with (first
     | (refine Qax rfl _ _ _ rfl 5 _ 1 Tryz.underlying22 Qbl rfl _ _ _ _ 12 rfl rfl rfl rfl (by omega) (by omega) ?_; intro w1 hb1 hl1')
     | fail)
    have hno : RdB w1 (some ⟨wr.heap.size, 0, none⟩) 12 (QCK 12 0) := hb1.rd rfl
    (refine (hB.out _ _ (QDn K) _ (L.trans hl1') hno).mono ?_); rintro e w4 ⟨A9, c9, rfl, hown9, j9⟩
    have hrd9 := hown9.rd
    generalize chaB key (QCK 12 0) (QDn K) = Bk at *
    go_wp2_with (first
     | (refine Qaj rfl _ _ _ rfl 5 _ 1 Tryz.underlying22 Qbl rfl w _ (64 * k) _ (hown.later (hl1'.trans j9)) ((L.trans hl1').trans j9) A9 64 c9 _ hrd9 (QaA _) rfl rfl (by omega) (by omega) ?_; intro A7 c7 w7 hown7 hl7 hg7 _)
     | fail)
    have hown8 : OwnB w7 w.heap.size A7 (64 * k + 64) c7 (Fk ++ Bk) := Qd8 hown7
    rw [← hb.out] at hown8
    go_roundw
    case rel => exact ⟨k + 1, A7, c7, by omega, by rw [show (k0 : Int) + ((k + 1 : Nat) : Int) = (K : Int) + 1 by have := hK.out; omega], rfl, by omega, hown8, hl7⟩
    case measure => simp only [lenOf]; omega
  · have hcmp : ¬ 64 * (k : Int) < (n : Int) + (r : Int) := by omega
    have hE := hid (hS.out k (by omega))
    have hcut : ∀ W, (Instr.sliceAt 22 (.slice A6 (64 * k) c6) (some (.int .i64 (r : Int))) (some (.int .i64 ((r : Int) + (n : Int)))) none).run Tryz.prog W = .ok (.slice (cutA A6 r c6) n (c6 - r)) W := fun W => by
     have hcap := hown.cap
     have h := cut8 A6 (64 * k) c6 .i64 .i64 r (r + n) (by omega) (by omega) W
     rw [show r + n - r = n by omega] at h
     simpa using h
    have hrd := (RdB.cut hown.rd (k := r) (c := c6) (by omega) hown.cap).take (m := n) (by omega)
    rw [hE.out] at hrd
    go_wp2_with fail
    (refine (Qbv (cutA A6 r c6) n (c6 - r) _ _ hrd (by omega)).mono ?_); rintro e w8 ⟨A8, c8, rfl, hown8, j8⟩
    go_wp2_with fail
    go_ret
    exact ⟨_, _, rfl, hown8.mono L.size, L.trans j8⟩
theorem Qqz (k : Nat) (hk : k < 5) (at0 : Int) (hat : at0 = 288 - (48 * (k : Int) + 48)) (B : Option Addr) (c : Nat) (key b : List UInt8) (w : World) (hkl : key.length = 32) (hb : RdB w B (48 * k + 48) b) :
 Calls Tryz.prog 58 #[.agg (key.map W8).toArray, .int .i64 at0, .slice B (48 * k + 48) c] w fun e w' => ∃ A' c', e = .returned (.slice A' (48 * k + 48) c') ∧ OwnB w' w.heap.size A' (48 * k + 48) c' (xorB b ((chaS key 288).drop (288 - 48 * (k + 1)))) ∧ Later w w' := by
 refine Qjv at0 B (48 * k + 48) c key b _ w hkl hb (by omega) (by omega) (by rw [QDc, Qau]; omega) (fun g w h => ?_)
 have := QsC (some ⟨g, 0, none⟩) 32 ((288 - 48 * (k + 1)) / 64) ((288 - 48 * (k + 1)) % 64) (48 * k + 48) key w h (by omega) (by omega) (by omega)
 rw [show 64 * ((288 - 48 * (k + 1)) / 64) + (288 - 48 * (k + 1)) % 64 = 288 - 48 * (k + 1) by omega, show 288 - 48 * (k + 1) + (48 * k + 48) = 288 by omega, show ((288 - 48 * (k + 1) : Nat) : Int) = at0 by omega] at this
 exact this
set_option maxRecDepth 100000 in
set_option maxHeartbeats 4000000 in
theorem Qpy (A : Option Addr) (m d : Nat) (xs : List (List UInt8)) (st : Nat → List UInt8) (hstx : ∀ i, i < m → xs.getD i [] = st i) (w : World) (hr : RdK 192 w A m xs) (hxl : ∀ x ∈ xs, x.length = 192) (h1 : 1 ≤ m) (h5 : m ≤ 5) :
 Calls Tryz.prog 57 #[.slice A m d] w fun e w' => ∃ A' c', e = .returned (.tuple #[.slice A' (48 * (m - 1)) c', .int .i64 0]) ∧ OwnB w' w.heap.size A' (48 * (m - 1)) c' (Qf5 st (m - 1)) ∧ Later w w' := by
 have hxn := hr.1
 have hst := hid (fun k (h : k < m) => hxl _ (QeQ xs k (by omega)))
 have hfs : Hid (∀ k, k < m → Qf5 st (k + 1) = xorB (Qf5 st k ++ QCK 48 0) ((chaS (subB (xs.getD k []) 32 32) 288).drop (288 - 48 * (k + 1)))) := hid (fun k hk => by rw [hstx k hk]; rfl)
 have hfl := hid (fun k h => Qdo st k h)
 have hf0 : Hid (Qf5 st 0 = []) := hid rfl
 generalize Qf5 st = FA at *
 clear hstx
 obtain ⟨b, o, rfl, hb, hc⟩ : ∃ b o, A = some ⟨b, o, none⟩ ∧ b < w.heap.size ∧ ∀ k, k < m → ∀ (w' : World), Later w w' → ∀ (off q : Nat) (r : List UInt8), subB (xs.getD k []) off q = r → ∀ j v, (r.map W8)[j]? = some v → w'.cell? ⟨b, o + k * 192 + off + j, none⟩ = some v := by
  obtain ⟨b, o, hA, hb, _⟩ := hr.sub (k := 0) (by omega)
  refine ⟨b, o, hA, hb, fun k hk => ?_⟩
  obtain ⟨b', o', hA', _, h⟩ := hr.sub (k := k) hk
  rw [hA] at hA'
  cases hA'
  exact h
 have k1 : ((m : Int) == 0) = false := by simp; omega
 have k2 : decide ((5 : Int) < (m : Int)) = false := decide_eq_false (by omega)
 replace hc := hid hc
 clear hr
 go_enter Tryz.func57, Tryz.ntmps57
 go_wp2_with fail
 go_loopw [4, 5] (fun v i wr => ∃ (k : Nat) (A' : Option Addr) (c' : Nat), k ≤ m - 1 ∧ i = .int .i64 k ∧ v = .slice A' (48 * k) c' ∧ OwnB wr w.heap.size A' (48 * k) c' (FA k) ∧ Later w wr) (fun _ i _ => m - 1 - (intOf i).toNat)
 case atStart => exact ⟨0, none, 0, by omega, rfl, rfl, by rw [hf0.out]; exact Qbb _ _ _, Later.refl w⟩
 case round =>
  obtain ⟨k, A1, c1, hk, rfl, rfl, hown, L⟩ := hrel
  by_cases hlt : k < m - 1
  · have hcmp : (k : Int) < (m : Int) - 1 := by omega
    have hkl : (subB (xs.getD k []) 32 32).length = 32 := Qaq (by have := hst.out k (by omega); omega)
    have hck := hid (fun w' h => hc.out k (by omega) w' h 32 32 _ rfl)
    have hs := hid (hfs.out k (by omega))
    generalize subB (xs.getD k []) 32 32 = S at *
    generalize FA k = F at *
    go_wp2_with fail
    (refine (Qbv A1 (48 * k) c1 F _ (OwnB.rd hown) (by omega)).mono ?_); rintro e w2 ⟨A2, c2, rfl, o2, j2⟩
    go_wp2_with (first
     | (refine Qd0 rfl _ _ _ _ rfl 5 .i64 Tryz.underlying22 Tryz.underlying3 Qbl _ _ (48 * k) _ o2 j2.size 48 (by omega) rfl rfl (by omega) ?_; intro A3 c3 w3 hown3 hg3
        have L3 : Later wr w3 := j2.grownBy hg3 (fun q hq => (World.ownsRow.lt o2 q hq).1)
        have o4 : OwnB w3 wr.heap.size A3 (48 * k + 48) c3 (F ++ QCK 48 0) := QdE hown3 rfl (by rw [QDm, QDs]; rfl)
        have hlb : b < w3.heap.size := QDb hb (L.trans L3).size)
     | (refine Qgt rfl _ rfl (hck.out w3 (L.trans L3)) hkl rfl ?_)
     | fail)
    (refine (Qqz k (by omega) (288 - (48 * (k : Int) + 48)) rfl A3 c3 S _ _ hkl (OwnB.rd o4)).mono ?_); rintro e w5 ⟨A5, c5, rfl, o5, j5⟩
    rw [← hs.out] at o5
    go_wp2_with fail
    go_roundw
    case rel => exact ⟨k + 1, A5, c5, by omega, by go_num, rfl, Qa5 o5 (L.trans L3).size, L.trans (L3.trans j5)⟩
    case measure => simp [intOf]; omega
  · obtain rfl : k = m - 1 := by omega
    go_wp2_with fail
    go_ret2
    exact ⟨A1, c1, rfl, hown, L⟩
end Go.Proofs.YtadfeclgoclalaaGreat
namespace Go.Proofs.YtadfeclgoclalaaGreat
open Go.RowKit
open Go.BigFrame
def leS (a e : Nat) : Nat := if e ≠ 0 ∧ (a = 0 ∨ e < a) then e else a
theorem Qnl (es : List Nat) (k : Nat) (h : k < es.length) : QdG (es.take (k + 1)) = leS (QdG (es.take k)) (es.getD k 0) := by
 rw [QdG, QdG, QDl h, List.foldl_append, QCS, QCR h]
 rfl
def eV (e : Nat) : Value := .int .i64 (e : Int)
set_option maxRecDepth 100000 in
theorem QeO (A : Option Addr) (n c : Nat) (es : List Nat) (w : World) (hr : Rd w A n (es.map eV)) (hn : n ≤ 1048576) :
 Calls Tryz.prog 21 #[.slice A n c] w fun e w' => e = .returned (.int .i64 (QdG es : Nat)) ∧ Later w w' := by
 have hl : es.length = n := by have := hr.1; rwa [QCP] at this
 have hst := hid (Qnl es)
 have h0 : Hid (QdG (es.take 0) = 0) := hid rfl
 have hn' : Hid (QdG (es.take n) = QdG es) := hid (by rw [QCZ (by omega)])
 go_enter Tryz.func21, Tryz.ntmps21
 go_wp2_with fail
 go_loopw [3, 4] (fun s i wr => ∃ k : Nat, k ≤ n ∧ i = .int .i64 k ∧ s = .int .i64 (QdG (es.take k) : Nat) ∧ Later w wr) (fun _ i _ => n - (intOf i).toNat)
 case atStart => exact ⟨0, by omega, rfl, by rw [h0.out]; rfl, Later.refl w⟩
 case round =>
  obtain ⟨k, hk, rfl, rfl, L⟩ := hrel
  by_cases hlt : k < n
  · obtain ⟨b, o, rfl, hb, hc⟩ := (hr.later L).2 (by omega)
    have c1 : wr.cell? ⟨b, o + k, none⟩ = some (eV (es.getD k 0)) := hc k _ (by rw [QC6, QCS, QCR (by omega)]; rfl)
    have hS := hst.out k (by omega)
    rw [eV] at c1
    clear hc
    generalize es.getD k 0 = x at *
    generalize QdG (es.take k) = y at *
    replace hS := hid hS
    by_cases e0 : x = 0
    · have f1 : ((x : Int) != 0) = false := by simp [e0]
      have hz := hid (hS.out.trans (by rw [leS, if_neg (by simp [e0])]))
      clear e0
      go_wp2_with fail
      exact ⟨⟨k + 1, by omega, by go_num, by rw [hz.out], L⟩, by simp [intOf]; omega⟩
    have f1 : ((x : Int) != 0) = true := by simp [e0]
    by_cases e1 : y = 0
    · have f2 : ((y : Int) == 0) = true := by simp [e1]
      have hz := hid (hS.out.trans (by rw [leS, if_pos ⟨e0, .inl e1⟩]))
      clear e0 e1
      go_wp2_with fail
      exact ⟨⟨k + 1, by omega, by go_num, by rw [hz.out], L⟩, by simp [intOf]; omega⟩
    have f2 : ((y : Int) == 0) = false := by simp [e1]
    by_cases e2 : x < y
    · have f3 : decide ((x : Int) < (y : Int)) = true := decide_eq_true (by omega)
      have hz := hid (hS.out.trans (by rw [leS, if_pos ⟨e0, .inr e2⟩]))
      clear e0 e1
      go_wp2_with fail
      exact ⟨⟨k + 1, by omega, by go_num, by rw [hz.out], L⟩, by simp [intOf]; omega⟩
    · have f3 : decide ((x : Int) < (y : Int)) = false := decide_eq_false (by omega)
      have hz := hid (hS.out.trans (by rw [leS, if_neg (fun h => h.2.elim e1 e2)]))
      clear e0 e1
      go_wp2_with fail
      exact ⟨⟨k + 1, by omega, by go_num, by rw [hz.out], L⟩, by simp [intOf]; omega⟩
  · obtain rfl : k = n := by omega
    rw [hn'.out]
    go_wp2_with fail
    go_ret
    exact ⟨rfl, L⟩
set_option maxRecDepth 100000 in
set_option maxHeartbeats 2000000 in
theorem QtL (A : Option Addr) (n c : Nat) (hs : List Hp) (w : World) (hh : RdH w A n hs) (hn : n ≤ 1048576) :
 Calls Tryz.prog 33 #[.slice A n c] w fun e w' => ∃ A' c', e = .returned (.slice A' n c') ∧ OwnParts w' w.heap.size A' n c' (pubH hs) ∧ Later w w' := by
 have hl := hh.1
 have hst : Hid (∀ k, k < n → (pubH hs).take (k + 1) = (pubH hs).take k ++ [(hs.getD k hp0).nod.pub.val]) := hid (fun k hk => by
  rw [pubH, QDl (by rw [QCP]; omega), List.getElem_map, QCS, QCR (by omega)]
  rfl)
 have hn' : Hid ((pubH hs).take n = pubH hs) := hid (by rw [QCZ (by rw [pubH, QCP]; omega)])
 go_enter Tryz.func33, Tryz.ntmps33
 go_wp2_with fail
 go_loopw [3, 4] (fun out i wr => ∃ (k : Nat) (A' : Option Addr) (c' : Nat), k ≤ n ∧ i = .int .i64 k ∧ out = .slice A' k c' ∧ OwnParts wr w.heap.size A' k c' ((pubH hs).take k) ∧ Later w wr) (fun _ i _ => n - (intOf i).toNat)
 case atStart => exact ⟨0, none, 0, by omega, rfl, rfl, ⟨[], World.ownsRow_nil _ _ _ 1, rfl, by simp⟩, Later.refl w⟩
 case round =>
  obtain ⟨k, A', c', hk, rfl, rfl, ⟨us, hu1, hu2, hu3⟩, hl2⟩ := hrel
  by_cases hlt : k < n
  · obtain ⟨b, o, rfl, hbb, hc⟩ := (hh.later hl2).at_ hlt
    have hrd : RdB wr (some ⟨b, o + k * 68 + 34, none⟩) 32 (hs.getD k hp0).nod.pub.val := Qdn hbb (fun j v hv => by rw [QEW _ 34 j]; exact hc _ _ (QmA _ (QwK _ hv))) (hs.getD k hp0).nod.pub.2
    have HS := hid (hst.out k hlt)
    clear hc
    generalize (hs.getD k hp0).nod.pub.val = q at *
    have HU := hid hu3
    clear hu3
    go_wp2_with (first
     | (go_at_call 7; refine (Qbv _ 32 32 q _ hrd (by omega)).mono ?_; rintro e w1 ⟨A1, c1, rfl, hown1, hl1⟩)
     | (refine Qaj rfl _ _ _ rfl 22 _ 24 Tryz.underlying30 Qvz rfl w _ k us (Qao hu1 (hl1.alloc _)) ((hl2.trans hl1).alloc _) _ 1 1 [.slice A1 32 c1] (Qcc (QeZ w1 _ [.slice A1 32 c1] (by simp))) ?h1 rfl rfl (by omega) (by omega) ?_; (case h1 => simp [Qi5]); intro A2 c2 w2 hown2 hl3 hg2 _))
    go_roundw
    case rel =>
     refine ⟨k + 1, A2, c2, by omega, by go_num, rfl, ?_, hl3⟩
     rw [HS.out]
     exact OwnParts.snoc (Qao hu1 (hl1.alloc _)) hu2 (fun j v p hv hp => by obtain ⟨B, m, d, e1, e2⟩ := HU.out j v p hv hp; exact ⟨B, m, d, e1, e2.later (hl1.alloc _)⟩) ((hown1.mono hl2.size).later (Qaa _ _)) hg2 hown2
    case measure => simp [intOf]; omega
  · obtain rfl : k = n := by omega
    rw [hn'.out] at hu2 hu3
    go_wp2_with fail
    go_ret
    exact ⟨_, _, rfl, ⟨us, hu1, hu2, hu3⟩, hl2⟩
end Go.Proofs.YtadfeclgoclalaaGreat
namespace Go.Proofs.YtadfeclgoclalaaGreat
open Go.RowKit
open Go.BigFrame
theorem QsN (c : Cmd) (h : cmdE c = 0) (w : World) : Calls Tryz.prog 56 #[.agg (CC c).toArray] w fun e w' => ∃ A' c', e = .returned (.tuple #[.slice A' 32 c', .int .i64 0]) ∧ OwnB w' w.heap.size A' 32 c' (encB c) ∧ Later w w' := by
 have := Qql c w
 rw [encR, if_pos h, h, Qdj] at this
 exact this
def Ql4 (cs : List Cmd) (n : Nat) : List (List UInt8) := (QDw n).map fun i => encB (cs.getD i cmd0)
theorem QqD (cs : List Cmd) (n : Nat) : Ql4 cs (n + 1) = Ql4 cs n ++ [encB (cs.getD n cmd0)] := by
 rw [Ql4, QEA, QDm]
 rfl
theorem QsD (cs : List Cmd) (n i : Nat) (h : i < n) : (Ql4 cs n).getD i [] = encB (cs.getD i cmd0) := by
 rw [Ql4, QCS, QC6, QEm h]
 rfl
theorem QlC {J : Act → Prop} {a : Act} {o : Oper} (x : Operand) (ho : o.op = .load 22 x) {w0 : World} {bad : List Nat} {g off : Nat} {v : Value} (hg : g < w0.heap.size) (hn : ∀ b ∈ bad, g ≠ b) (hc : w0.cell? ⟨g, off, none⟩ = some v) (hx : a.eval x = .pointer (some ⟨g, off, none⟩)) (h : J (a.put o.dst v)) :
 o.quiet Tryz.prog a (Spared w0 bad) J :=
 ⟨v, fun w hw => by
   have hcw : w.cell? ⟨g, off, none⟩ = some v := by
    rw [← hc]
    simp only [World.cell?]
    rw [hw.2 g hg hn]
   unfold Oper.quietAt execOp
   simp only [ho, hx, Instr.loadAt, Instr.sureAddr, Sem.run_bind, Sem.run_pure, Result.andThen_ok]
   simp [go_sem, hcw], h⟩
set_option maxRecDepth 100000 in
set_option maxHeartbeats 8000000 in
theorem Qqh (A B : Option Addr) (n c d : Nat) (cs : List Cmd) (xs : List (List UInt8)) (w : World) (hcr : RdF CC 20 cmd0 w A n cs) (hr : RdK 192 w B n xs) (hxl : ∀ x ∈ xs, x.length = 192) (h1 : 1 ≤ n) (h5 : n ≤ 5)
 (hok : ∀ i, i < n → cmdE (cs.getD i cmd0) = 0 ∧ ((cs.getD i cmd0).kd = 1 ↔ i + 1 < n))
 (sl st : Nat → List UInt8) (hsl : ∀ i, i < n → encB (cs.getD i cmd0) = sl i) (hst : ∀ i, i < n → xs.getD i [] = st i) :
 Calls Tryz.prog 34 #[.slice A n c, .slice B n d] w fun e w' => ∃ A' c', e = .returned (.tuple #[.slice A' 288 c', .int .i64 0]) ∧ OwnB w' w.heap.size A' 288 c' (hdrA n sl st (n - 1)) ∧ Later w w' := by
 have hxn := hr.1
 have hok' := hid hok
 obtain ⟨F, hF⟩ : ∃ F, F = 48 * (n - 1) := ⟨_, rfl⟩
 obtain ⟨Z, hZ⟩ : ∃ Z, Z = 208 - F := ⟨_, rfl⟩
 have hFi := hid (fun w h => Qpy B n d xs st hst w h hxl h1 h5)
 rw [← hF] at hFi
 have hb0 : Hid (betA n sl st 0 = xorB (sl (n - 1) ++ QCK Z 0) (chaS (subB (st (n - 1)) 32 32) (32 + Z)) ++ Qf5 st (n - 1)) := hid (by
  rw [betA, ← hF, ← hZ, show 240 - F = 32 + Z by omega]
  rfl)
 have hsll : Hid (∀ i, i < n → (sl i).length = 32) := hid (fun i hi => by rw [← hsl i hi]; exact Qdj _)
 have hstl : Hid (∀ i, i < n → (st i).length = 192) := hid (fun i hi => by rw [← hst i hi]; exact hxl _ (QeQ xs i (by omega)))
 obtain ⟨bS, oS, rfl, hbS, hcS⟩ : ∃ b o, B = some ⟨b, o, none⟩ ∧ b < w.heap.size ∧ ∀ k, k < n → ∀ (w' : World), Later w w' → ∀ (off q : Nat) (r : List UInt8), subB (st k) off q = r → ∀ j v, (r.map W8)[j]? = some v → w'.cell? ⟨b, o + k * 192 + off + j, none⟩ = some v := by
  obtain ⟨b, o, hA, hb, _⟩ := hr.sub (k := 0) (by omega)
  refine ⟨b, o, hA, hb, fun k hk => ?_⟩
  obtain ⟨b', o', hA', _, h⟩ := hr.sub (k := k) hk
  rw [hA] at hA'
  cases hA'
  rw [← hst k hk]
  exact h
 replace hcS := hid hcS
 have hcM : Hid (∀ k, k < n → ∀ (w' : World), Later w w' → ∀ j v, ((subB (st k) 0 32).map W8)[j]? = some v → w'.cell? ⟨bS, oS + k * 192 + j, none⟩ = some v) := hid (fun k hk w' h j v hv => by
  have := hcS.out k hk w' h 0 32 _ rfl j v hv
  rwa [QEc] at this)
 have hkl : Hid (∀ k off, k < n → off + 32 ≤ 192 → (subB (st k) off 32).length = 32) := hid (fun k off hk ho => Qaq (by rw [hstl.out k hk]; omega))
 have hslG : Hid (∀ i, i < n → (Ql4 cs n).getD i [] = sl i) := hid (fun i hi => by rw [QsD cs n i hi, hsl i hi])
 have hslS := hid (QqD cs)
 have hsl0 : Hid (Ql4 cs 0 = []) := hid rfl
 have hZ1 : (240 : Int) - (F : Int) - 32 = (Z : Int) := by omega
 have hZF : 32 + Z + F = 240 := by omega
 have hZ0 : 0 < Z := by omega
 clear hst hsl hF hZ
 clear hok hxl
 have k1 : ((n : Int) == 0) = false := by simp; omega
 have k2 : decide ((5 : Int) < (n : Int)) = false := decide_eq_false (by omega)
 go_enter Tryz.func34, Tryz.ntmps34
 go_wp2_with fail
 go_loopw [6, 7, 8] (fun ws v i wr => ∃ (k : Nat) (A' : Option Addr) (c' : Nat), k ≤ n ∧ ws = .int .i64 0 ∧ i = .int .i64 k ∧ v = .slice A' k c' ∧ OwnParts wr w.heap.size A' k c' (Ql4 cs k) ∧ Later w wr) (fun _ _ i _ => n - (intOf i).toNat)
 case atStart => exact ⟨0, none, 0, by omega, rfl, rfl, rfl, by rw [hsl0.out]; exact ⟨[], World.ownsRow_nil _ _ _ 1, rfl, by simp⟩, Later.refl w⟩
 case round =>
  obtain ⟨k, A', c', hk, rfl, rfl, rfl, hpar, L⟩ := hrel
  by_cases hlt : k < n
  · obtain ⟨b, o, rfl, hbb, hc⟩ := (hcr.later L).at_ hlt
    obtain ⟨hE0, hkd⟩ := hok'.out k hlt
    have hEn := hid (fun w => QsN (cs.getD k cmd0) hE0 w)
    have hS := hid (hslS.out k)
    have hfull := hid hc
    have hkc : wr.cell? ⟨b, o + k * 20 + 0, none⟩ = some (W8 (cs.getD k cmd0).kd) := hc 0 _ rfl
    clear hc hE0
    generalize cs.getD k cmd0 = C at *
    obtain ⟨lb, e1, e2⟩ : ∃ lb : Bool, ((k : Int) == (n : Int) - 1) = lb ∧ (C.kd == 1) = !lb := by
     by_cases hl : k + 1 = n
     · exact ⟨true, by simp; omega, by simp only [Bool.not_true, beq_eq_false_iff_ne]; intro e; have := hkd.1 e; omega⟩
     · exact ⟨false, by simp; omega, by simp only [Bool.not_false, beq_iff_eq]; exact hkd.2 (by omega)⟩
    clear hkd
    obtain ⟨us, hu1, hu2, hu3⟩ := hpar
    have HU := hid hu3
    clear hu3
    go_wp2_with (first
     | (refine QaN rfl 54 _ rfl b (o + k * 20) (CC C) hfull.out rfl _ Tryz.underlying54 rfl (by rw [Qap]; exact Qgf) ?_)
     | fail)
    (with_reducible refine (hEn.out _).mono ?_); rintro e w1 ⟨A1, c1, rfl, hown1, hl1⟩
    have hkc1 : w1.cell? ⟨b, o + k * 20, none⟩ = some (W8 C.kd) := (hl1.below.cell (p := ⟨b, o + k * 20, none⟩) hbb).trans hkc
    have hbb1 : b < w1.heap.size := QDb hbb hl1.size
    clear hkc
    cases lb
    all_goals
     go_wp2_with (first
      | (refine Qaj rfl _ _ _ rfl 22 _ 24 Tryz.underlying30 Qvz rfl w _ k us (Qao hu1 (hl1.alloc _)) ((L.trans hl1).alloc _) _ 1 1 [.slice A1 32 c1] (Qcc (QeZ w1 _ [.slice A1 32 c1] (by simp))) ?h1 rfl rfl (by omega) (by omega) ?_; (case h1 => simp [Qi5]); intro A2 c2 w2 hown2 hl2 hg2 _)
      | fail)
     go_roundw
     case rel =>
      refine ⟨k + 1, A2, c2, by omega, rfl, by go_num, rfl, ?_, hl2⟩
      rw [hS.out]
      exact OwnParts.snoc (Qao hu1 (hl1.alloc _)) hu2 (fun j v p hv hp => by obtain ⟨B, m, d, e1, e2⟩ := HU.out j v p hv hp; exact ⟨B, m, d, e1, e2.later (hl1.alloc _)⟩) ((hown1.mono L.size).later (Qaa _ _)) hg2 hown2
     case measure => simp [intOf]; omega
  · obtain rfl : k = n := by omega
    have hPs := OwnParts.parts hpar
    have e1n : ((k : Int) - 1).toNat = k - 1 := by omega
    have r1 := hr.later L
    clear hpar hslS hok' hcr
    go_wp2_with fail
    (refine (hFi.out _ r1).mono ?_); rintro e w2 ⟨A2, c2, rfl, o2, j2⟩
    have hP2 := hPs.later j2
    obtain ⟨b, o, As, ns, cz, rfl, hbb, hcell, hcap, hrd, _⟩ := hP2.at_ (k := k - 1) (by omega)
    rw [hslG.out (k - 1) (by omega)] at hrd
    obtain rfl : ns = 32 := by rw [← hrd.len]; exact hsll.out _ (by omega)
    have hcn := hid (fun w' h => hcS.out (k - 1) (by omega) w' h 32 32 _ rfl)
    have hkn := hkl.out (k - 1) 32 (by omega) (by omega)
    have hbS2 : bS < w2.heap.size := QDb hbS (L.trans j2).size
    clear hPs hFi r1
    generalize subB (st (k - 1)) 32 32 = S at *
    generalize sl (k - 1) = SLn at *
    generalize Qf5 st (k - 1) = FI at *
    go_wp2_with fail
    (refine (Qbv As 32 cz SLn _ hrd (by omega)).mono ?_); rintro e w3 ⟨A3, c3, rfl, o3, j3⟩
    go_wp2_with (first
     | (refine Qd0 rfl _ _ _ _ rfl 5 .i64 Tryz.underlying22 Tryz.underlying3 Qbl _ _ 32 _ o3 j3.size Z hZ0 rfl rfl (by omega) ?_; intro A4 c4 w4 hown4 hg4
        have L4 : Later w2 w4 := j3.grownBy hg4 (fun q hq => (World.ownsRow.lt o3 q hq).1)
        have o4 : OwnB w4 w2.heap.size A4 (32 + Z) c4 (SLn ++ QCK Z 0) := QdE hown4 rfl (by rw [QDm, QDs]; rfl)
        have hbS4 : bS < w4.heap.size := QDb hbS2 L4.size)
     | (refine Qgt rfl _ rfl (hcn.out w4 ((L.trans j2).trans L4)) hkn rfl ?_)
     | fail)
    (refine (QlU A4 (32 + Z) c4 S _ _ hkn (OwnB.rd o4) (by omega) (by omega)).mono ?_); rintro e w5 ⟨A5, c5, rfl, o5, j5⟩
    have o2' := Qao (Qao o2 L4) j5
    go_wp2_with (first
     | (refine Qaj rfl _ _ _ rfl 5 _ 1 Tryz.underlying22 Qbl rfl w4 _ (32 + Z) _ o5 j5 A2 F c2 _ (Qcc o2') (QaA _) rfl rfl (by omega) (by omega) ?_; intro A6 c6 w6 hown6 hl6 hg6 _; rw [hZF] at hown6 ⊢
        have o6 : OwnB w6 w4.heap.size A6 240 c6 (betA k sl st 0) := QdE hown6 rfl (by rw [hb0.out, QDm])
        have L6 : Later w2 w6 := L4.trans hl6)
     | fail)
    have hLw := L.trans j2
    have hmM := hid (fun w' h => hcM.out (k - 1) (by omega) w' h)
    have hmA := hid (fun w' h => hcS.out (k - 1) (by omega) w' h 128 32 _ rfl)
    have hml := hkl.out (k - 1) 0 (by omega) (by omega)
    have hal := hkl.out (k - 1) 128 (by omega) (by omega)
    have hT0 : Hid (tagA k sl st 0 = tagB (subB (st (k - 1)) 0 32) (subB (st (k - 1)) 128 32) (betA k sl st 0)) := hid rfl
    have hbS6 : bS < w6.drew.heap.size := QDb hbS2 L6.size
    have L4s : w2.heap.size ≤ w4.heap.size := L4.size
    have hBT : Hid (betA k sl st 0 = betA k sl st 0 ∧ tagA k sl st 0 = tagA k sl st 0) := hid ⟨rfl, rfl⟩
    clear hZ1 hZF hZ0 hb0 hcn hkn hrd hcell o2 o2' o3 o4 o5 j3 j5 hown4 hg4 hown6 hl6 hg6 L4 hbS4 hcap
    generalize subB (st (k - 1)) 0 32 = M at *
    generalize subB (st (k - 1)) 128 32 = AL at *
    obtain ⟨B0, hB0⟩ : ∃ B0, betA k sl st 0 = B0 := ⟨_, rfl⟩
    obtain ⟨T0, hTT⟩ : ∃ T0, tagA k sl st 0 = T0 := ⟨_, rfl⟩
    rw [hTT, hB0] at hT0
    rw [hB0] at o6
    replace hBT := hid (And.intro hB0 hTT)
    clear hB0 hTT
    refine Qad [([0, 1, 2, 3, 4, 5, 6, 7, 8, 9, 10, 11, 12, 13], 14)] [15] [] (by as_aux_lemma => kernel_rfl) (by as_aux_lemma => kernel_rfl) (by intro _ _ d _ _ h; cases d <;> exact h) ?_
    simp only [Qag, pick, QCL, QCM, QCN, QCO, QCQ]
    repeat (first | go_big_quiet_skip | (go_big_quiet_want; (refine QoX _ rfl (hmM.out w6.drew (hLw.trans (L6.trans (Qab _)))) hbS6 hml rfl ?_); simp only [Act.put, QCT, QCW, QCV]; go_big_quiet_on) | (go_big_quiet_step (fail)))
    refine wpQuiet_nil ?_
    go_wp2_with fail
    (refine (Qok (some ⟨bS, oS + (k - 1) * 192 + 128, none⟩) A6 32 32 240 c6 M AL _ _ hml (Qdn hbS6 (hmA.out w6.drew (hLw.trans (L6.trans (Qab _)))) hal) (Qcc (Qao o6 (Qab _))) (by omega) (by omega)).mono ?_); rintro e w7 ⟨A7, c7, rfl, o7, j7⟩
    rw [← hT0.out] at o7
    go_wp2_with fail
    try refine ⟨by first | assumption | exact Qab _ | exact Qaa _ _ | exact Later.refl _, ?_⟩
    try simp only [Qag, pick, QCL, QCM, QCN, QCO, QCQ]
    repeat (go_big_quiet_step (fail))
    refine wpQuiet_nil ?_
    have L7 := L6.trans ((Qab w6).trans j7)
    have oB := Qa5 (Qao o6 ((Qab w6).trans j7)) L4s
    have oT := Qa5 o7 (show w2.heap.size ≤ w6.drew.heap.size from L6.size)
    clear hmM hmA hml hal hT0 o6 o7 j7 L6 hbS6
    go_wp2_with fail
    go_loopw [16, 17, 18] (fun vb vt i wr => ∃ (j : Nat) (A' : Option Addr) (c' : Nat) (A'' : Option Addr) (c'' : Nat), j ≤ k - 1 ∧ i = .int .i64 ((k : Int) - 2 - (j : Int)) ∧ vb = .slice A' 240 c' ∧ vt = .slice A'' 16 c'' ∧ OwnB wr w2.heap.size A' 240 c' (betA k sl st j) ∧ OwnB wr w2.heap.size A'' 16 c'' (tagA k sl st j) ∧ Later w2 wr) (fun _ _ i _ => (intOf i + 1).toNat)
    case atStart => exact ⟨0, A6, c6, A7, c7, by omega, by simp, rfl, rfl, by rw [hBT.out.1]; exact oB, by rw [hBT.out.2]; exact oT, L7⟩
    case round =>
     clear oB oT L7 hBT
     obtain ⟨j, A8, c8, A9, c9, hj, rfl, rfl, rfl, ob, ot, LB⟩ := hrel
     by_cases hjl : j < k - 1
     · obtain ⟨i, hi⟩ : ∃ i, i = k - 2 - j := ⟨_, rfl⟩
       have hcast : (k : Int) - 2 - (j : Int) = (i : Int) := by omega
       rw [hcast]
       have hik : i < k := by omega
       have hbs : Hid (betA k sl st (j + 1) = xorB (sl i ++ (tagA k sl st j ++ (betA k sl st j).take 192)) (chaS (subB (st i) 32 32) 240)) := hid (by rw [hi]; rfl)
       have hts : Hid (tagA k sl st (j + 1) = tagB (subB (st i) 0 32) (subB (st i) 128 32) (betA k sl st (j + 1))) := hid (by rw [tagA, show k - 1 - (j + 1) = i by omega]; rfl)
       replace hcast := hid hcast
       replace hi := hid hi
       have hmM := hid (fun w' h => hcM.out i hik w' h)
       have hmA := hid (fun w' h => hcS.out i hik w' h 128 32 _ rfl)
       have hmS := hid (fun w' h => hcS.out i hik w' h 32 32 _ rfl)
       have hml := hkl.out i 0 hik (by omega)
       have hal := hkl.out i 128 hik (by omega)
       have hsl3 := hkl.out i 32 hik (by omega)
       obtain ⟨b', o', Ai, ni, ci, hbo, hbb', hcell, hcap, hrd, _⟩ := (hP2.later (LB.trans (Qab _))).at_ (k := i) hik
       obtain ⟨rfl, rfl⟩ : b = b' ∧ o = o' := by simpa using hbo
       rw [hslG.out i hik] at hrd
       obtain rfl : ni = 32 := by rw [← hrd.len]; exact hsll.out _ (by omega)
       have hcap8 := OwnB.cap ob
       generalize subB (st i) 0 32 = M at *
       generalize subB (st i) 128 32 = AL at *
       generalize subB (st i) 32 32 = S at *
       generalize sl i = SLi at *
       generalize betA k sl st j = BJ at *
       generalize tagA k sl st j = TJ at *
       have hBl := ob.len
       go_wp2_with fail
       refine QbP (Spared wr []) [([0, 1, 2, 3, 5, 7, 8], 4), ([], 6), ([], 9)] [10] (by as_aux_lemma => kernel_rfl) (by as_aux_lemma => kernel_rfl) (by intro _ _ d _ _ h; cases d <;> exact h) ⟨Spared.refl _ _, ?_⟩
       simp only [Qba, pick, QCL, QCM, QCN, QCO, QCQ]
       repeat (first | go_big_quiet_skip | (go_big_quiet_want; (refine QlC _ rfl (w0 := wr) (bad := []) hbb' (fun b hb => absurd hb (QC1)) hcell rfl ?_); simp only [Act.put, QCT, QCW, QCV]; go_big_quiet_on) | (go_big_quiet_step (fail)) | (go_big_quiet_want; go_big_quiet_op; refine ⟨_, fun _ _ => rfl, ?_⟩; go_big_quiet_on))
       refine wpQuiet_nil ?_
       go_wp2_with fail
       (refine (Qbv Ai 32 ci SLi _ hrd (by omega)).mono ?_); rintro e wa ⟨Aa, ca, rfl, oa, la⟩
       have S2 := (Spared.refl wr []).later la
       go_wp2_with fail
       refine ⟨S2, ?_⟩
       try simp only [Qba, pick, QCL, QCM, QCN, QCO, QCQ]
       repeat (first | (go_big_quiet_step (fail)) | (go_big_quiet_want; go_big_quiet_op; refine ⟨_, fun _ _ => rfl, ?_⟩; go_big_quiet_on))
       refine wpQuiet_nil ?_
       go_wp2_with (first
        | (refine Qaj rfl _ _ _ rfl 5 _ 1 Tryz.underlying22 Qbl rfl wr.drew _ 32 _ oa la A9 16 c9 _ (Qcc (Qao ot ((Qab wr).trans la))) (QaA _) rfl rfl (by omega) (by omega) ?_; intro Ab cb wb ownb lb gb _)
        | fail)
       simp only [Act.put, QCT, QCW, QCV]
       have S3 := S2.grown gb (fun q hq => (World.ownsRow.lt oa q hq).1)
       refine ⟨S3, ?_⟩
       try simp only [Qba, pick, QCL, QCM, QCN, QCO, QCQ]
       repeat (first | (go_big_quiet_step (fail)) | (go_big_quiet_want; go_big_quiet_op; refine ⟨_, fun _ _ => rfl, ?_⟩; go_big_quiet_on))
       refine wpQuiet_nil ?_
       have hbB : OwnB wb wr.drew.heap.size Ab 48 cb (SLi ++ TJ) := QdE ownb rfl (by rw [QDm])
       have rB := RdB.take (OwnB.rd (Qao ob ((Qab wr).trans lb))) (m := 192) (by omega)
       go_wp2_with (first
        | (refine Qaj rfl _ _ _ rfl 5 _ 1 Tryz.underlying22 Qbl rfl wr.drew _ 48 _ hbB lb A8 192 c8 _ rB (QaA _) rfl rfl (by omega) (by omega) ?_; intro Ac cc wc ownc lc gc _)
        | fail)
       simp only [Act.put, QCT, QCW, QCV]
       have S4 := S3.grown gc (fun q hq => (World.ownsRow.lt hbB q hq).1)
       refine ⟨S4, ?_⟩
       try simp only [Qba, pick, QCL, QCM, QCN, QCO, QCQ]
       repeat (first | (go_big_quiet_step (fail)) | (go_big_quiet_want; go_big_quiet_op; refine ⟨_, fun _ _ => rfl, ?_⟩; go_big_quiet_on))
       refine wpQuiet_nil ?_
       have oC : OwnB wc wr.drew.heap.size Ac 240 cc (SLi ++ (TJ ++ BJ.take 192)) := QdE ownc rfl (by simp only [QDm, QC3])
       have LC := LB.trans ((Qab wr).trans lc)
       have hbSc : bS < wc.heap.size := QDb hbS2 LC.size
       clear S2 S3 S4 gb gc oa la lb lc hbB rB ownb ownc hcell hbb' hcap hrd
       go_wp2_with (first
        | (refine Qgt rfl _ rfl (hmS.out wc (hLw.trans LC)) hsl3 rfl ?_)
        | fail)
       (refine (QlU Ac 240 cc S _ _ hsl3 (OwnB.rd oC) (by omega) (by omega)).mono ?_); rintro e we ⟨Ae, ce, rfl, oe, je⟩
       rw [← hbs.out] at oe
       have LE := LC.trans je
       have hbSe : bS < we.drew.heap.size := QDb hbS2 (LE.trans (Qab _)).size
       go_wp2_with fail
       refine Qad [([0, 1, 2, 3, 4, 5, 6, 7, 8, 9, 10, 11], 12)] [13] [] (by as_aux_lemma => kernel_rfl) (by as_aux_lemma => kernel_rfl) (by intro _ _ d _ _ h; cases d <;> exact h) ?_
       simp only [Qag, pick, QCL, QCM, QCN, QCO, QCQ]
       repeat (first | go_big_quiet_skip | (go_big_quiet_want; (refine QoX _ rfl (hmM.out we.drew (hLw.trans (LE.trans (Qab _)))) hbSe hml rfl ?_); simp only [Act.put, QCT, QCW, QCV]; go_big_quiet_on) | (go_big_quiet_step (fail)))
       refine wpQuiet_nil ?_
       go_wp2_with fail
       (refine (Qok (some ⟨bS, oS + i * 192 + 128, none⟩) Ae 32 32 240 ce M AL _ _ hml (Qdn hbSe (hmA.out we.drew (hLw.trans (LE.trans (Qab _)))) hal) (Qcc (Qao oe (Qab _))) (by omega) (by omega)).mono ?_); rintro e wf ⟨Af, cf, rfl, of_, jf⟩
       rw [← hts.out] at of_
       go_wp2_with fail
       try refine ⟨by first | assumption | exact Qab _ | exact Qaa _ _ | exact Later.refl _, ?_⟩
       try simp only [Qag, pick, QCL, QCM, QCN, QCO, QCQ]
       repeat (go_big_quiet_step (fail))
       refine wpQuiet_nil ?_
       have LF := LE.trans ((Qab we).trans jf)
       have oB := Qa5 (Qao oe ((Qab we).trans jf)) LC.size
       have oT := Qa5 of_ (show w2.heap.size ≤ we.drew.heap.size from LE.size)
       go_wp2_with fail
       exact ⟨⟨j + 1, Ae, ce, Af, cf, by omega, by rw [show (k : Int) - 2 - ((j + 1 : Nat) : Int) = (i : Int) - 1 by have := hcast.out; omega], rfl, rfl, oB, oT, LF⟩, by simp only [intOf]; omega⟩
     · obtain rfl : j = k - 1 := by omega
       have hge : ¬ (0 : Int) ≤ (k : Int) - 2 - ((k - 1 : Nat) : Int) := by omega
       have hmA := hid (fun w' h => hcS.out 0 (by omega) w' h 128 32 _ rfl)
       have hal := hkl.out 0 128 (by omega) (by omega)
       have hH : Hid (hdrA k sl st (k - 1) = subB (st 0) 128 32 ++ (tagA k sl st (k - 1) ++ betA k sl st (k - 1))) := hid (by
        rw [hdrA, show k - 1 - (k - 1) = 0 by omega]
        rfl)
       have hbSr : bS < wr.heap.size := QDb hbS2 LB.size
       generalize subB (st 0) 128 32 = AL at *
       generalize betA k sl st (k - 1) = BJ at *
       generalize tagA k sl st (k - 1) = TJ at *
       go_wp2_with fail
       (refine (Qbv (some ⟨bS, oS + 128, none⟩) 32 32 AL _ (Qdn hbSr (fun q v hv => by have := hmA.out wr (hLw.trans LB) q v hv; rwa [QEP, QEc] at this) hal) (by omega)).mono ?_); rintro e wa ⟨Aa, ca, rfl, oa, la⟩
       go_wp2_with (first
        | (refine Qaj rfl _ _ _ rfl 5 _ 1 Tryz.underlying22 Qbl rfl wr _ 32 _ oa la A9 16 c9 _ (Qcc (Qao ot la)) (QaA _) rfl rfl (by omega) (by omega) ?_; intro Ab cb wb ownb lb gb _
           have hbB : OwnB wb wr.heap.size Ab 48 cb (AL ++ TJ) := QdE ownb rfl (by rw [QDm]))
        | (refine Qaj rfl _ _ _ rfl 5 _ 1 Tryz.underlying22 Qbl rfl wr _ 48 _ hbB lb A8 240 c8 _ (Qcc (Qao ob lb)) (QaA _) rfl rfl (by omega) (by omega) ?_; intro Ac cc wc ownc lc gc _)
        | fail)
       go_ret2
       refine ⟨Ac, cc, rfl, ?_, hLw.trans (LB.trans lc)⟩
       rw [hH.out]
       exact Qa5 (QdE ownc rfl (by simp only [QDm, QC3])) (hLw.trans LB).size
end Go.Proofs.YtadfeclgoclalaaGreat
namespace Go.Proofs.YtadfeclgoclalaaGreat
open Go.RowKit
open Go.BigFrame
theorem Qzr : (Tryz.prog.info? 106).map (fun i => (i.zero, i.size, i.bytes)) = some (some (.agg (QCK 192 (W8 0)).toArray), 192, 192) := by kernel_rfl
theorem QxJ : (Tryz.prog.info? 106).map (fun i => (i.zero, i.size)) = some (some (.agg (QCK 192 (W8 0)).toArray), 192) := by kernel_rfl
theorem Qxh : (31 : TypeId) ≠ 106 := by decide
theorem ne8R : (5 : TypeId) ≠ 106 := by decide
theorem neLR : (22 : TypeId) ≠ 106 := by decide
theorem neKR : (89 : TypeId) ≠ 106 := by decide
theorem neRL : (106 : TypeId) ≠ 22 := by decide
theorem zcRl : Tryz.zeroCells106.toList.length = 192 := by rw [QzI, QCP, QCY]
theorem zcKl : Tryz.zeroCells89.toList.length = 128 := by kernel_rfl
theorem Qva (s : List UInt8) : subB (k4 s) 96 32 = derB s QbR := by
 rw [k4, show derB s sMac ++ (derB s Qc1 ++ (derB s sPay ++ derB s QbR)) = (derB s sMac ++ (derB s Qc1 ++ derB s sPay)) ++ derB s QbR by simp only [QC3],
  QiH _ _ _ _ (by simp [Qay]) (Qay _ _)]
set_option maxRecDepth 100000 in
set_option maxHeartbeats 8000000 in
theorem Qkw (A B : Option Addr) (n c m d : Nat) (x : List UInt8) (ps : List (List UInt8)) (w : World) (hx : RdB w A n x) (hn : n ≤ 35184372088832) (hp : Parts w (fun _ => False) B m ps) (hm : m ≤ 140737488355328) :
 Calls Tryz.prog 32 #[.slice A n c, .slice B m d] w fun e w' => Later w w' ∧ ((QeN x ps ≠ 0 ∧ e = .returned (.tuple #[.slice none 0 0, .int .i64 (QeN x ps : Nat)])) ∨
  (QeN x ps = 0 ∧ ∃ A' c', e = .returned (.tuple #[.slice A' m c', .int .i64 0]) ∧ m ≤ c' ∧ RdK 192 w' A' m (Qef x ps m))) := by
 have hxl := hx.len
 have hpsl := hp.len
 by_cases hok : n = 32 ∧ 1 ≤ m ∧ m ≤ 5
 · obtain ⟨rfl, hm1, hm5⟩ := hok
   have k1 : ((m : Int) == 0) = false := by simp; omega
   have k2 : decide ((5 : Int) < (m : Int)) = false := decide_eq_false (by omega)
   have hF := hid (fun (h : ∀ p ∈ ps, p.length = 32) => Qqm (x := x) (ps := ps) ⟨hxl, by omega, by omega, h⟩)
   have hB := hid (fun (h : ¬ ∀ p ∈ ps, p.length = 32) => QjD (x := x) (ps := ps) (fun f => h f.2.2.2))
   have hbadk := hid (fun k (h : k < ps.length) (hk : (ps.getD k []).length ≠ 32) (ha : ∀ p ∈ ps, p.length = 32) => hk (ha _ (QeQ ps k h)))
   have hPub := hid (fun (w : World) h => QjV A 32 c x w h (by omega))
   have h0l := Qa2 x (nb 9)
   have hst0 : Hid ((stA x ps 0).1 = QbF x (nb 9) ∧ (stA x ps 0).2 = [x]) := hid ⟨rfl, rfl⟩
   generalize QeN x ps = E0 at *
   generalize QbF x (nb 9) = al0 at *
   generalize Qbe x (nb 9) = e0 at *
   go_enter Tryz.func32, Tryz.ntmps32
   go_wp2_with fail
   go_loopw [6] (fun i wr => ∃ k : Nat, k ≤ m ∧ i = .int .i64 k ∧ Hid (∀ j, j < k → (ps.getD j []).length = 32) ∧ Later w wr) (fun i _ => m - (intOf i).toNat)
   case atStart => exact ⟨0, by omega, rfl, hid (fun j h => by omega), Later.refl w⟩
   case round =>
    obtain ⟨k, hk, rfl, hall, L⟩ := hrel
    by_cases hlt : k < m
    · obtain ⟨b, o, Ak, nk, ck, rfl, hb, hck, hcap, hrd, _⟩ := (hp.later L).at_ hlt
      have hlen := hrd.len
      have hb2 := hid (fun h => hB.out (hbadk.out k (by omega) h))
      rw [hlen] at hb2
      have hstep : Hid (nk = 32 → ∀ j, j < k + 1 → (ps.getD j []).length = 32) := hid (fun h j hj => by
       by_cases e : j = k
       · rw [e, hlen, h]
       · exact hall.out j (by omega))
      clear hrd hlen
      by_cases h32 : nk = 32
      · have hne : ((nk : Int) != 32) = false := by simp; omega
        go_wp2_with fail
        refine ⟨⟨k + 1, by omega, by go_num, hid (hstep.out h32), L⟩, by simp only [intOf]; omega⟩
      · have hne : ((nk : Int) != 32) = true := by simp; omega
        go_wp2_with fail
        go_ret2
        exact ⟨L, .inl (by rw [hb2.out h32]; exact ⟨by decide, rfl⟩)⟩
    · have hall' := Qpf ps (fun j hj => hall.out j (by omega))
      have hE := hF.out hall'
      have HE := hid hE
      have HA := hid hall'
      clear hF hB hbadk hall hall' hE
      go_wp2_with fail
      (with_reducible refine (hPub.out _ (hx.later L)).mono ?_); rintro e w1 ⟨rfl, j1⟩
      go_wp2_with (first
       | (refine QaR rfl rfl _ _ rfl (Blk.new w1 _ (QCK 32 (.int .u8 0))) rfl rfl h0l rfl ?_; intro w2 hb2 ho2)
       | fail)
      have L1 := L.trans j1
      have hg8 : w.heap.size ≤ w1.heap.size := L1.size
      have L2 := (L1.trans (Qaa w1 (.cells (QCK 32 (Value.int .u8 0)).toArray 31))).only ho2 hg8
      (with_reducible refine (Qbv A 32 c x _ (hx.later L2) (by omega)).mono ?_); rintro e w3 ⟨A3, c3, rfl, o3, j3⟩
      go_wp2_with fail
      have a3 := Qaa w3 (.cells #[.slice A3 32 c3] 22)
      have hal := (hb2.later j3).later a3
      have L3 := L2.trans j3
      have L4 := L3.trans a3
      have hsc : ScRow w w1.heap.size (w3.alloc (.cells #[.slice A3 32 c3] 22)) (.slice (some ⟨w3.heap.size, 0, none⟩) 1 1) [x] [.slice A3 32 c3] :=
       ⟨Qa5 (QeZ w3 22 [.slice A3 32 c3] (by simp)) L3.size, rfl, fun j u p hu hp => by
         have hj : j = 0 := by have := (QDa.1 hu).1; simpa using this
         subst hj
         cases hu
         cases hp
         exact .inr (.inr ⟨A3, c3, _, rfl, Qao o3 a3⟩)⟩
      clear hb2 ho2 o3 j3 a3 j1 L1 L2 L3 L hPub
      generalize w3.alloc _ = w4 at *
      generalize w1.heap.size = g8 at *
      go_loopw [9, 10, 11] (fun u v i wr => ∃ (k : Nat) (vs : List Value), k ≤ m ∧ i = .int .i64 k ∧ wr.ownsRow w.heap.size 106 192 v k ((Qef x ps k).flatten.map W8) ∧ ScRow w g8 wr u (stA x ps k).2 vs ∧ Blk wr g8 31 ((stA x ps k).1.map W8) ∧ Later w wr ∧ Hid (E0 = goE x ps (m - k) k)) (fun _ _ i _ => m - (intOf i).toNat)
      case atStart => exact ⟨0, _, by omega, rfl, World.ownsRow_nil w4 _ _ 192, hsc, by rw [hst0.out.1]; exact hal, L4, hid (by rw [HE.out, hpsl]; rfl)⟩
      case round =>
       clear hsc hal L4
       obtain ⟨k, vs, hk, rfl, hrow, hsc, hal, L, HG⟩ := hrel
       by_cases hlt : k < m
       · obtain ⟨b, o, Ak, nk, ck, rfl, hb, hck, hcap, hrd, _⟩ := (hp.later L).at_ hlt
         have hlen := hrd.len
         obtain rfl : nk = 32 := by rw [← hlen]; exact HA.out _ (QeQ ps k (by omega))
         have hscl : (stA x ps k).2.length = k + 1 := Qf9 x ps k
         have hall := Qez x ps k
         have cC : Hid (∀ (w : World) B d, RdB w Ak 32 (ps.getD k []) → Parts w (fun _ => False) B (k + 1) (stA x ps k).2 →
          Calls Tryz.prog 53 #[.slice Ak 32 ck, .slice B (k + 1) d] w fun e w' => e = .returned (.tuple #[.agg ((secA x ps k).map W8).toArray, .int .i64 (errA x ps k : Nat)]) ∧ Later w w') :=
          hid (fun w B d h1 h2 => Qsb Ak B 32 ck (k + 1) d (ps.getD k []) (stA x ps k).2 w h1 h2 (by omega) (by omega))
         have hsl := QiE x ps k
         have hTl := Qdq x ps k
         have F1 := hid (show QcR x ps k = k4 (secA x ps k) ++ ((stA x ps k).1 ++ secA x ps k) from rfl)
         have F2 := hid (show (stA x ps (k + 1)).1 = QbF (derB (secA x ps k) QbR) (stA x ps k).1 from rfl)
         have F3 := hid (show (stA x ps (k + 1)).2 = (stA x ps k).2 ++ [derB (secA x ps k) QbR] from rfl)
         have F4 := Qig x ps k
         have F5 := Qe9 x ps k
         have F6 := Qva (secA x ps k)
         have F7 := hid (Qn5 x ps k)
         have F8 := hid (show errA x ps k = 0 → E0 = goE x ps (m - (k + 1)) (k + 1) by
          intro h
          have := HG.out
          rw [show m - k = (m - (k + 1)) + 1 by omega, goE, if_pos h] at this
          exact this)
         have F9 := hid (show errA x ps k ≠ 0 → E0 = errA x ps k by
          intro h
          have := HG.out
          rw [show m - k = (m - (k + 1)) + 1 by omega, goE, if_neg h] at this
          exact this)
         have hbl := Qay (secA x ps k) QbR
         obtain ⟨B1, d1, hu, hd1⟩ := Qj1 hsc.own
         rw [hscl] at hu hd1
         subst hu
         clear HG hlen
         generalize QcR x ps k = T at *
         generalize derB (secA x ps k) QbR = bl at *
         generalize hS : secA x ps k = S at *
         generalize errA x ps k = e1 at *
         generalize (stA x ps k).1 = al at *
         generalize (stA x ps k).2 = sc at *
         generalize ps.getD k [] = p at *
         by_cases he : e1 = 0
         · subst he
           have G1 := F8.out rfl
           have hOf := hid (fun (w : World) g h => Quy (some ⟨g, 0, none⟩) 32 32 S w h (by omega))
           rw [show ofB S = k4 S by rw [ofB, if_pos hsl], show ofE S = 0 by rw [ofE, if_pos hsl]] at hOf
           have hKl := QgW S
           have hbs := QnA (k4 S) al S hKl hall hsl
           rw [← F1.out] at hbs
           have hNx := hid (fun w => Quk T bl al hTl F4 F5 w)
           have hNl := Qa2 bl al
           rw [← F2.out] at hNx hNl
           clear F1 F2 F8 F9 hS
           generalize k4 S = K at *
           generalize Qbe bl al = e2 at *
           generalize ha2 : (stA x ps (k + 1)).1 = al2 at *
           have HA2 := hid ha2
           clear ha2
           have hzR := zcRl
           have hzK := zcKl
           have H6 := hid F6
           have HG1 := hid G1
           clear F4 F5 F6 G1
           have hgr : ∀ b, u10.ownBlock = some b → b < wr.heap.size := Qne hrow
           go_wp2_with fail
           (with_reducible refine (cC.out _ B1 d1 hrd (hsc.parts hscl L)).mono ?_); rintro e w5 ⟨rfl, j5⟩
           go_wp2_with (first
            | (refine QaR rfl rfl _ _ rfl (Blk.new w5 _ (QCK 32 (.int .u8 0))) rfl rfl hsl rfl ?_; intro w6 hb6 ho6
               have J6 := (j5.trans (Qaa w5 (.cells (QCK 32 (Value.int .u8 0)).toArray 31))).only ho6 j5.size)
            | fail)
           (with_reducible refine (hOf.out _ _ (Qe7 hb6 hsl)).mono ?_); rintro e w7 ⟨rfl, j7⟩
           go_wp2_with (first
            | (refine Qgh rfl rfl _ _ rfl (Blk.new w7 _ Tryz.zeroCells89.toList) rfl rfl hKl hzK ?_; intro w8 hb8 ho8
               have J8 := (J6.trans j7).trans ((Qaa w7 (.cells Tryz.zeroCells89 89)).only ho8 (QCX _))
               have hal8 := hal.later J8
               have hs8 := (hb6.later j7).later ((Qaa w7 (.cells Tryz.zeroCells89 89)).only ho8 (QCX _)))
            | (refine QtE rfl _ rfl hb8 hKl rfl ?_)
            | (refine Qfc rfl _ rfl hal8 hall rfl ?_)
            | (refine Qfc rfl _ rfl hs8 hsl rfl ?_)
            | (refine Qan rfl 106 _ rfl (T.map W8) ?hb ?_; (case hb => simp only [QC0, QDh, QC9]; exact hbs))
            | (refine QuA rfl rfl _ _ rfl (Blk.new w8 _ Tryz.zeroCells106.toList) rfl rfl hTl hzR ?_; intro w9 hb9 ho9
               have J89 : Later w8 w9 := (Qaa w8 (.cells Tryz.zeroCells106 106)).only ho9 (QCX _)
               have J9 := (J8.trans J89).trans (Qaa w9 (.cells (T.map W8).toArray 106)))
            | (refine QrU rfl _ rfl hb9 hTl rfl ?_)
            | (refine Qsn rfl 99 _ rfl 106 192 _ T Tryz.underlying99 QxJ (by omega) (by omega) hTl rfl ?_)
            | (refine QfL rfl _ _ _ rfl 106 _ 192 192 Tryz.underlying99 Qzr rfl (by omega) w _ k _ (Qb2 hrow J9) (L.trans J9) w9.heap.size 1 1 106 (T.map W8) (Blk.new _ _ _) (by rw [QCP, hTl]) (QaA T) rfl rfl (by omega) (by omega) ?_; intro v10 w10 hown10 hl10 hg10
               have hrow9 := Qb2 hrow J9
               have hsc10 := (hsc.later J9).grown hrow9 neLR Qxh ne8R hg10
               have hal10 := QdR (hal.later J9) hrow9 Qxh hg10
               have hK10 := QdR ((hb8.later J89).later (Qaa w9 (.cells (T.map W8).toArray 106))) hrow9 neKR hg10
               have hT10 : Blk w10 w8.heap.size 106 (T.map W8) := by
                have h9 := hb9.later (Qaa w9 (.cells (T.map W8).toArray 106))
                refine (hg10.block _ h9.lt ?_).trans h9
                intro e
                exact absurd (hgr _ e.symm) (Nat.not_lt.2 J8.size))
            | fail)
           rw [← F7.out] at hown10
           clear hrow hsc hal hb6 ho6 hb8 ho8 hb9 ho9 J6 J8 J89 J9 hal8 hs8 hg10 hrow9 hgr j5 j7 L cC hOf
           (with_reducible refine (Qbv _ 32 32 bl _ (Qci hK10 H6.out hbl) (by omega)).mono ?_); rintro e w11 ⟨A11, c11, rfl, o11, j11⟩
           have a11 := Qaa w11 (.cells #[.slice A11 32 c11] 22)
           have J11 := j11.trans a11
           have hsc11 := hsc10.later J11
           have hrow11 := Qb2 hown10 J11
           have hal11 := hal10.later J11
           have hT11 := hT10.later J11
           have o12 := Qao o11 a11
           have L11 := hl10.trans J11
           have hsco := hsc11.own
           rw [hscl] at hsco
           clear hsc10 hown10 hal10 hT10 hK10 o11 j11 hl10
           go_wp2_with (first
            | (refine QfL rfl _ _ _ rfl 22 _ 1 24 Tryz.underlying30 Qvz rfl (by omega) w _ (k + 1) vs hsco L11 w11.heap.size 1 1 22 [.slice A11 32 c11] (Blk.new _ _ _) rfl (by intro u hu; rw [QDX.1 hu]; rfl) rfl rfl (by omega) (by omega) ?_; intro v13 w13 hown13 hl13 hg13
               have hT13 := QdR hT11 hsco neRL hg13)
            | (refine QrU rfl _ rfl hT13 hTl rfl ?_)
            | fail)
           have hsc13 := hsc11.snoc (p := bl) (.inr (.inr ⟨A11, c11, _, rfl, o12⟩)) hg13 (by rw [hscl]; exact hown13)
           rw [← F3.out] at hsc13
           have hrow13 := QeC hrow11 hsco neRL hg13
           have hal13 := QdR hal11 hsco Qul hg13
           clear hsc11 hrow11 hal11 hT11 o12 L11 hsco hown13 hg13 J11 a11
           (with_reducible refine (hNx.out _).mono ?_); rintro e w14 ⟨rfl, j14⟩
           go_wp2_with (first
            | (refine QaR rfl rfl _ _ rfl (hal13.later j14) rfl rfl hNl (by rw [QCP, hall]) ?_; intro w15 hb15 ho15)
            | fail)
           refine ⟨⟨k + 1, _, by omega, by go_num, QaC (Qb2 hrow13 j14) (hal13.later j14) Qxh ho15, (hsc13.later j14).only (hal13.later j14) ho15, by rw [HA2.out]; exact hb15, (hl13.trans j14).only ho15 hg8, HG1⟩, by simp only [intOf]; omega⟩
         · have hE0 := F9.out he
           have hne : ((e1 : Int) != 0) = true := by simp; omega
           go_wp2_with fail
           (with_reducible refine (cC.out _ B1 d1 hrd (hsc.parts hscl L)).mono ?_); rintro e w5 ⟨rfl, j5⟩
           go_wp2_with (first
            | (refine QaR rfl rfl _ _ rfl (Blk.new w5 _ (QCK 32 (.int .u8 0))) rfl rfl hsl rfl ?_; intro w6 hb6 ho6)
            | fail)
           go_ret2
           exact ⟨(L.trans (j5.trans (Qaa w5 _))).only ho6 (L.trans j5).size, .inl ⟨by rw [hE0]; exact he, by rw [hE0]; rfl⟩⟩
       · have hkm : k = m := by omega
         subst hkm
         have hE0 : E0 = 0 := by rw [HG.out, Nat.sub_self]; rfl
         obtain ⟨A9, c9, rfl, hc9⟩ := Qj1 hrow
         have hrd9 := Qyh hrow (Qle x ps k) (QjL x ps k)
         go_wp2_with fail
         go_ret2
         exact ⟨L, .inr ⟨hE0, A9, c9, rfl, hc9, hrd9⟩⟩
 · have hE := QjD (x := x) (ps := ps) (fun f => hok ⟨by have := f.1; omega, by have := f.2.1; omega, by have := f.2.2.1; omega⟩)
   rw [hE]
   clear hE
   have key : ((n : Int) != 32) = true ∨ (((n : Int) != 32) = false ∧ ((m : Int) == 0) = true) ∨ (((n : Int) != 32) = false ∧ ((m : Int) == 0) = false ∧ decide ((5 : Int) < (m : Int)) = true) := by
    simp only [bne_iff_ne, bne_eq_false_iff_eq, ne_eq, decide_eq_true_eq, beq_iff_eq, beq_eq_false_iff_ne]
    omega
   rcases key with h1 | ⟨h1, h2⟩ | ⟨h1, h2, h3⟩
   all_goals
    go_enter Tryz.func32, Tryz.ntmps32
    go_wp2_with fail
    go_ret2
    exact ⟨Later.refl w, .inl ⟨by decide, rfl⟩⟩
end Go.Proofs.YtadfeclgoclalaaGreat
namespace Go.Proofs.YtadfeclgoclalaaGreat
open Go.RowKit
open Go.BigFrame
noncomputable def bldR (x : List UInt8) (c : Cmd) (body : List UInt8) (hs : List Hp) : List UInt8 := if Qc6 x c body hs = 0 then QiO x c body hs else []
theorem Qrr (kd : UInt8) (hs : List Hp) (n i : Nat) (h : i < n) : (QeM kd hs n).getD i cmd0 = Qb9 (lcK kd) hs i := by
 rw [QeM, QCS, QC6, QEm h]
 rfl
theorem Qpv (x : List UInt8) (ps : List (List UInt8)) (n i : Nat) (h : i < n) : (Qef x ps n).getD i [] = QcR x ps i := by
 rw [Qef, QCS, QC6, QEm h]
 rfl
set_option maxHeartbeats 1000000 in
theorem QAq (A B : Option Addr) (n c m d : Nat) (key bs : List UInt8) (w : World) (hk : RdB w A n key) (hb : RdB w B m bs) (hd : m ≤ d) (hn : n ≤ 2097152) (hm : m ≤ 2097152) :
 Calls Tryz.prog 35 #[.slice A n c, .slice B m d] w fun e w' => Later w w' ∧ ∃ A' c', e = .returned (.tuple #[.slice A' (QcL key bs rsS).length c', .int .i64 (QeT key bs rsS : Nat)]) ∧ OwnB w' w.heap.size A' (QcL key bs rsS).length c' (QcL key bs rsS) := by
 have h := hid (fun C e0 w hk hb hr => Qqc A B C n c m d 4 e0 key bs rsS w hk hb hd hr hn hm (by omega))
 generalize QcL key bs rsS = X at *
 generalize QeT key bs rsS = E at *
 go_enter Tryz.func35, Tryz.ntmps35
 go_wp2_with fail
 have J := Qaa w (.cells #[.int .i64 1, .int .i64 2, .int .i64 3, .int .i64 4] 3)
 (refine (h.out _ _ _ (hk.later J) (hb.later J) ((Blk.new w 3 [.int .i64 1, .int .i64 2, .int .i64 3, .int .i64 4]).rd rfl)).mono ?_); rintro e w1 ⟨j1, A1, c1, rfl, ho1⟩
 go_wp2_with fail
 go_ret2
 exact ⟨J.trans j1, A1, c1, rfl, ho1.mono J.size⟩
set_option maxRecDepth 100000 in
set_option maxHeartbeats 8000000 in
theorem Qxv (kd : UInt8) (hkd : kd = 2 ∨ kd = 3) (A B H : Option Addr) (nx cx nb cb n ch : Nat) (x body : List UInt8) (hs : List Hp) (w : World) (hx : RdB w A nx x) (hnx : nx ≤ 1048576) (hb : RdB w B nb body) (hnb : nb ≤ 1048576) (hh : RdH w H n hs) (hn : n ≤ 1048576) :
 Calls Tryz.prog 20 #[.slice A nx cx, .agg (CC (lcK kd)).toArray, .slice B nb cb, .slice H n ch] w fun e w' => ∃ A' c', e = .returned (.tuple #[.slice A' (bldR x (lcK kd) body hs).length c', .int .i64 (Qc6 x (lcK kd) body hs : Nat)]) ∧ OwnB w' w.heap.size A' (bldR x (lcK kd) body hs).length c' (bldR x (lcK kd) body hs) ∧ Later w w' := by
 have hl := hh.1
 have hbl := hb.len
 have B0 := Qbg w 54 (CC (lcK kd))
 have hPa := hid (fun w h => Qvb kd hkd H n ch hs w h hn)
 have hPu := hid (fun w h => QtL H n ch hs w h hn)
 have hSc := hid (fun A2 c2 w h1 h2 => Qkw A A2 nx cx n c2 x (pubH hs) w h1 (by omega) h2 (by omega))
 have hEq : Hid (Qc6 x (lcK kd) body hs = QdG [Qf4 (lcK kd) hs, QeN x (pubH hs), if nb = 480 then 0 else 2]) := hid (by rw [Qc6, hbl])
 have hR : Hid (Qc6 x (lcK kd) body hs ≠ 0 → bldR x (lcK kd) body hs = []) := hid (fun h => by rw [bldR, if_neg h])
 have hR0 : Hid (Qc6 x (lcK kd) body hs = 0 → bldR x (lcK kd) body hs = pktA n (fun i => encB (Qb9 (lcK kd) hs i)) (QcR x (pubH hs)) body 0) := hid (fun h => by rw [bldR, if_pos h, QiO, hl])
 have hpok := hid (fun h i (hi : i < n) => Qkm (c := lcK kd) (hs := hs) h (i := i) (by omega))
 have hp15 := hid (fun h => QeB (c := lcK kd) (hs := hs) h)
 have hcg := hid (Qrr kd hs n)
 have hsg := hid (Qpv x (pubH hs) n)
 have hpl : Hid (QkD kd hs = if Qf4 (lcK kd) hs = 0 then QeM kd hs n else []) := hid (by rw [QkD, hl])
 have hcl := hid (QhP kd hs n)
 have hstl := hid (Qdq x (pubH hs))
 have hsal := hid (QjL x (pubH hs) n)
 generalize Qc6 x (lcK kd) body hs = E at *
 generalize bldR x (lcK kd) body hs = R at *
 generalize Qf4 (lcK kd) hs = PE at *
 generalize QeN x (pubH hs) = SE at *
 generalize QkD kd hs = PL at *
 go_enter Tryz.func20, Tryz.ntmps20
 go_wp2_with (first
  | (refine Qc5 rfl _ rfl (B0.nth 0 rfl) rfl ?_)
  | fail)
 (refine (hPa.out _ (hh.later B0.lat)).mono ?_); rintro e w1 ⟨A1, c1, rfl, o1, j1⟩
 have L1 := B0.lat.trans j1
 go_wp2_with fail
 (refine (hPu.out _ (hh.later L1)).mono ?_); rintro e w2 ⟨A2, c2, rfl, o2, j2⟩
 have L2 := L1.trans j2
 go_wp2_with fail
 (refine (hSc.out A2 c2 _ (hx.later L2) (OwnParts.parts o2)).mono ?_); rintro e w3 ⟨j3, hor⟩
 have L3 := L2.trans j3
 have o1' := Qcf o1 (j2.trans j3)
 clear hPa hPu hSc o1 o2 j1 j2 j3 B0 hx
 obtain ⟨vS, hre, hok⟩ : ∃ vS, e = .returned (.tuple #[vS, .int .i64 (SE : Nat)]) ∧ (SE = 0 → ∃ A' c', vS = .slice A' n c' ∧ n ≤ c' ∧ RdK 192 w3 A' n (Qef x (pubH hs) n)) := by
  rcases hor with ⟨h, rfl⟩ | ⟨h, A', c', rfl, h2, h3⟩
  · exact ⟨_, rfl, fun e => absurd e h⟩
  · exact ⟨_, by rw [h]; rfl, fun _ => ⟨A', c', rfl, h2, h3⟩⟩
 subst hre
 clear hor
 replace hok := hid hok
 obtain ⟨BE, hBE⟩ : ∃ BE, BE = if nb = 480 then 0 else 2 := ⟨_, rfl⟩
 rw [← hBE] at hEq
 have hBd : Hid (BE = 0 → nb = 480) := hid (fun h => by
  by_cases e : nb = 480
  · exact e
  · rw [hBE, if_neg e] at h
    cases h)
 have J := Qaa w3 (.cells #[.int .i64 (PE : Int), .int .i64 (SE : Int), .int .i64 (BE : Int)] 3)
 have hls := hid (QeO (some ⟨w3.heap.size, 0, none⟩) 3 3 [PE, SE, BE] _ ((Blk.new w3 3 [.int .i64 (PE : Int), .int .i64 (SE : Int), .int .i64 (BE : Int)]).rd rfl) (by omega))
 rw [← hEq.out] at hls
 have hlz : Hid (E = 0 → PE = 0 ∧ SE = 0 ∧ BE = 0) := hid (fun h => by
  rw [hEq.out, Qda] at h
  exact ⟨h _ (by simp), h _ (by simp), h _ (by simp)⟩)
 clear hEq
 by_cases hE : E = 0
 · obtain ⟨hp0, hs0, hb0⟩ := hlz.out hE
   obtain rfl := hBd.out hb0
   subst hE hp0 hs0 hb0
   have hR := hR0.out rfl
   obtain ⟨A4, c4, rfl, hc4, hrk⟩ := hok.out rfl
   rw [if_pos rfl] at hpl
   obtain ⟨_, _, hn1, hn5, _, _⟩ := hp15.out rfl
   rw [hl] at hn1 hn5
   have hPL : PL = QeM kd hs n := hpl.out
   subst hPL
   rw [hcl.out] at o1' ⊢
   have hcok := hid (fun i (hi : i < n) => show cmdE ((QeM kd hs n).getD i cmd0) = 0 ∧ (((QeM kd hs n).getD i cmd0).kd = 1 ↔ i + 1 < n) from by
    rw [hcg.out i hi]
    have := hpok.out rfl i hi
    rwa [hl] at this)
   have hcg' := hid (fun i (hi : i < n) => show encB ((QeM kd hs n).getD i cmd0) = (fun i => encB (Qb9 (lcK kd) hs i)) i from by rw [hcg.out i hi])
   have hcl' := hcl.out
   generalize QeM kd hs n = CS at *
   obtain ⟨sl, hsl⟩ : ∃ sl : Nat → List UInt8, sl = fun i => encB (Qb9 (lcK kd) hs i) := ⟨_, rfl⟩
   rw [← hsl] at hcg' hR
   obtain ⟨b, o, rfl, hbb, hcP⟩ : ∃ b o, A4 = some ⟨b, o, none⟩ ∧ b < w3.heap.size ∧ ∀ k, k < n → ∀ (w' : World), Later w3 w' → ∀ (off q : Nat) (r : List UInt8), subB (QcR x (pubH hs) k) off q = r → ∀ j v, (r.map W8)[j]? = some v → w'.cell? ⟨b, o + k * 192 + off + j, none⟩ = some v := by
    obtain ⟨b, o, hA, hb, _⟩ := hrk.sub (k := 0) (by omega)
    refine ⟨b, o, hA, hb, fun k hk => ?_⟩
    obtain ⟨b', o', hA', _, h⟩ := hrk.sub (k := k) hk
    rw [hA] at hA'
    cases hA'
    rw [hsg.out k hk] at h
    exact h
   generalize Qef x (pubH hs) n = XS at *
   generalize QcR x (pubH hs) = st at *
   have hpk : R = hdrA n sl st (n - 1) ++ seaA n st body n := hR
   replace hcP := hid hcP
   replace hpk := hid hpk
   replace hcl' := hid hcl'
   clear hR hR0 hpok hp15 hcg hpl hcl hok hlz hBd hsl hBE
   go_wp2_with fail
   refine hls.out.mono ?_; rintro e w4 ⟨rfl, j4⟩
   have L4 := L3.trans (J.trans j4)
   have o4 := Qcf o1' (J.trans j4)
   have hrk4 := hrk.later (J.trans j4)
   have J4 := J.trans j4
   clear hls j4 J
   go_wp2_with fail
   (refine (Qqh A1 (some ⟨b, o, none⟩) n c1 c4 CS XS _ (QsQ Qap o4 hcl'.out) hrk4 hsal.out hn1 hn5 hcok.out sl st hcg'.out hsg.out).mono ?_); rintro e w5 ⟨A5, c5, rfl, o5, j5⟩
   have L5 := L4.trans j5
   have J5 := J4.trans j5
   clear hrk hrk4 o4 o1' hcok hcg' hsg hsal
   go_wp2_with fail
   (refine (Qbv B 480 cb body _ (hb.later L5) (by omega)).mono ?_); rintro e w6 ⟨A6, c6, rfl, o6, j6⟩
   go_wp2_with fail
   have hs0 : Hid (seaA n st body 0 = body) := hid rfl
   go_loopw [17, 18] (fun v i wr => ∃ (j : Nat) (A' : Option Addr) (c' : Nat), j ≤ n ∧ i = .int .i64 ((n : Int) - 1 - (j : Int)) ∧ v = .slice A' 480 c' ∧ OwnB wr w5.heap.size A' 480 c' (seaA n st body j) ∧ Later w5 wr) (fun _ i _ => (intOf i + 1).toNat)
   case atStart => exact ⟨0, A6, c6, by omega, by simp, rfl, by rw [hs0.out]; exact o6, j6⟩
   case round =>
    clear o6 j6
    obtain ⟨j, A7, c7, hj, rfl, rfl, ob, LB⟩ := hrel
    by_cases hjn : j < n
    · obtain ⟨i, hi⟩ : ∃ i, i = n - 1 - j := ⟨_, rfl⟩
      have hcast : (n : Int) - 1 - (j : Int) = (i : Int) := by omega
      rw [hcast]
      have hik : i < n := by omega
      have hs1 : Hid (seaA n st body (j + 1) = QcL (subB (st i) 64 32) (seaA n st body j) rsS) := hid (by rw [hi]; rfl)
      have hsl1 := hid (Qe6 (n := n) hstl.out hbl (j + 1))
      replace hcast := hid hcast
      replace hi := hid hi
      have hmP := hid (fun w' h => hcP.out i hik w' h 64 32 _ rfl)
      have hkl : (subB (st i) 64 32).length = 32 := Qaq (by rw [hstl.out i]; omega)
      have hcap := OwnB.cap ob
      have hbbr : b < wr.heap.size := QDb hbb (J5.trans LB).size
      generalize subB (st i) 64 32 = K at *
      generalize seaA n st body j = SJ at *
      go_wp2_with fail
      (refine (QAq (some ⟨b, o + i * 192 + 64, none⟩) A7 32 32 480 c7 K SJ _ (Qdn hbbr (hmP.out wr (J5.trans LB)) hkl) (OwnB.rd ob) hcap (by omega) (by omega)).mono ?_); rintro e w7 ⟨j7, A8, c8, rfl, o7⟩
      rw [← hs1.out, hsl1.out] at o7
      rw [← hs1.out, hsl1.out]
      go_wp2_with fail
      exact ⟨⟨j + 1, A8, c8, by omega, by rw [show (n : Int) - 1 - ((j + 1 : Nat) : Int) = (i : Int) - 1 by have := hcast.out; omega], rfl, Qa5 o7 LB.size, LB.trans j7⟩, by simp only [intOf]; omega⟩
    · obtain rfl : j = n := by omega
      have hHl := OwnB.len o5
      have hSl := OwnB.len ob
      have o5' := Qao o5 LB
      have hge : ¬ (0 : Int) ≤ (j : Int) - 1 - (j : Int) := by omega
      have hRl : R.length = 768 := by rw [hpk.out, QCU, hHl, hSl]
      generalize hdrA j sl st (j - 1) = HD at *
      generalize seaA j st body j = SN at *
      replace hRl := hid hRl
      go_wp2_with (first
       | (refine Qaj rfl _ _ _ rfl 5 _ 1 Tryz.underlying22 Qbl rfl w4 _ 288 _ o5' (j5.trans LB) A7 480 c7 _ (Qcc ob) (QaA _) rfl rfl (by omega) (by omega) ?_; intro A9 c9 w9 hown9 hl9 hg9 _)
       | fail)
      go_ret2
      refine ⟨A9, c9, by rw [hRl.out]; rfl, ?_, L4.trans hl9⟩
      rw [hRl.out, hpk.out]
      exact Qa5 (QdE hown9 rfl (by rw [QDm])) L4.size
 · have hne : ((E : Int) != 0) = true := by simp; omega
   have hX := hid (hR.out hE)
   by_cases h480 : nb = 480
   · have hne4 : ((nb : Int) != 480) = false := by simp; omega
     obtain rfl : BE = 0 := by rw [hBE, if_pos h480]
     clear h480 hBE
     go_wp2_with fail
     refine hls.out.mono ?_; rintro e w4 ⟨rfl, j4⟩
     go_wp2_with fail
     go_ret2
     exact ⟨none, 0, by rw [hX.out]; rfl, by rw [hX.out]; exact Qbb _ _ _, L3.trans (J.trans j4)⟩
   · have hne4 : ((nb : Int) != 480) = true := by simp; omega
     obtain rfl : BE = 2 := by rw [hBE, if_neg h480]
     clear h480 hBE
     go_wp2_with fail
     refine hls.out.mono ?_; rintro e w4 ⟨rfl, j4⟩
     go_wp2_with fail
     go_ret2
     exact ⟨none, 0, by rw [hX.out]; rfl, by rw [hX.out]; exact Qbb _ _ _, L3.trans (J.trans j4)⟩
end Go.Proofs.YtadfeclgoclalaaGreat
