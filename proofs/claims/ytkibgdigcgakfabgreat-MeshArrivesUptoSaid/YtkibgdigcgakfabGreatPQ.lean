/-
  Lemmas for the last text of this claim (part 17 of 20).
-/
import Derived.BigQuiet
import Derived.BigRegion
import Derived.ChangeOld
import Derived.Deep.RegionWith
import Derived.DeepKeys4
import Derived.JoinedCond
import Derived.LaidMore
import Derived.Laws.CopyOwn
import Derived.Laws.Externs
import Derived.Laws.IdiomStrings
import Derived.Laws.Tables
import Derived.Lib.AppendStr
import Derived.Lib.AppendZerosOnto
import Derived.Lib.Mul64
import Derived.Lib.SlBytesConst
import Derived.LoopN
import Derived.Maps.OwnSet
import Derived.OpenShut
import Derived.OrdersHeld
import Derived.ProofKit
import Derived.Shelf.Spec.BitsCarry
import Derived.ShutString
import Derived.Test.YtkibgdigcgakfabGreatProg
import Derived.Test.YtkibgdigcgakfabGreatRows
import Derived.WalkKit
import Derived.WalkLawsBesides
import Derived.WalkSpells
import Derived.Test.YtkibgdigcgakfabGreatPP
open BitVec renaming toNat_ushiftRight → Qng
open List renaming map_toArray → Qmy, getElem?_cons_succ → Qmz, getD_eq_getElem?_getD → QmA, replicate → QmC, length_map → QmD, getElem?_cons_zero → QmE, map_nil → QmG, cons_append → QmK, nil_append → QmN, length_append → QmP, map_cons → QmQ, getElem?_append_left → QmS, take_of_length_le → QmT, length_take → QmW, getElem?_append_right → QmX, length_set → Qm1, append_assoc → Qm3, getElem?_take → Qm4, length_drop → Qnb, length_replicate → Qni, set_append_right → Qnj
open Nat renaming le_refl → Qmx, lt_of_lt_of_le → QmL, shiftRight_eq_div_pow → Qne, min_eq_left → Qnw
open Option renaming toList_some → QmI
open UInt64 renaming ofNat → QmB
open UInt8 renaming ofNat → QmJ, ofInt → QmZ, toNat_inj → Qm7, toNat_ofNat' → Qnc
namespace Go.Proofs.YtkibgdigcgakfabGreat
open Go.RowKit
open Go.BigFrame
def fr3 (p : Prt) : List UInt8 := QmC 16 0 ++ ([p.kd, QmZ p.ix, QmZ p.ct, 0] ++ QmC 460 0)
def frK (p : Prt) (k : Nat) : List UInt8 := putB (fr3 p) 20 ((bigB 8 p.id.toNat).take k)
theorem Qdb (n : Nat) : QmZ (n : Int) = QmJ n := by
 apply Qm7.1
 rw [Qnc]
 show ((n : Int) % (2 : Int) ^ 8).toNat % 2 ^ 8 = n % 2 ^ 8
 omega
theorem QeS (p : Prt) : (((QmC 480 (0 : UInt8)).set 16 p.kd).set 17 (QmZ p.ix)).set 18 (QmZ p.ct) = fr3 p := by
 rw [show QmC 480 (0 : UInt8) = QmC 16 0 ++ ([0, 0, 0, 0] ++ QmC 460 0) by rw [show ([0, 0, 0, 0] : List UInt8) = QmC 4 0 from rfl, List.replicate_append_replicate, List.replicate_append_replicate]]
 rw [Qnj _ _ (by simp), Qnj _ _ (by simp), Qnj _ _ (by simp), Qni]
 rfl
theorem Qb0 (p : Prt) : (fr3 p).length = 480 := by
 rw [fr3, QmP, QmP, Qni, Qni]
 show 16 + (4 + 460) = 480
 omega
theorem Qe3 : ∀ (w n k : Nat), k < w → (bigB w n)[k]? = some (QmJ (n / 256 ^ (w - 1 - k)))
 | 0, _, _, h => by omega
 | w + 1, n, k, h => by
   rw [bigB]
   by_cases hk : k < w
   · rw [QmS (by rw [QaI]; exact hk), Qe3 w _ k hk, Nat.div_div_eq_div_mul, show w + 1 - 1 - k = (w - 1 - k) + 1 by omega, Nat.pow_succ, Nat.mul_comm]
   · obtain rfl : k = w := by omega
     rw [QmX (by rw [QaI]; omega), QaI, Nat.sub_self, show k + 1 - 1 - k = 0 by omega, Nat.pow_zero, Nat.div_one]
     rfl
theorem Qhi (x : UInt64) (k : Nat) (h : k < 8) : (QcC x (56 - 8 * k)).toUInt8 = QmJ (x.toNat / 256 ^ (8 - 1 - k)) := by
 apply Qm7.1
 have e : (QcC x (56 - 8 * k)).toNat = x.toNat / 2 ^ (56 - 8 * k) := by
  show (x.toBitVec >>> (56 - 8 * k)).toNat = _
  rw [Qng, Qne]
  rfl
 rw [UInt64.toNat_toUInt8, e, Qnc, show (2 : Nat) ^ (56 - 8 * k) = 256 ^ (8 - 1 - k) by rw [show (256 : Nat) = 2 ^ 8 from rfl, ← Nat.pow_mul]; congr 1; omega]
theorem Qha (p : Prt) : frK p 0 = fr3 p := by simp [frK, putB]
theorem Qc3 (p : Prt) (k : Nat) : (frK p k).length = 480 := by
 rw [frK, Qd6 (by rw [Qb0, QmW, QaI]; omega), Qb0]
theorem QgW (p : Prt) (k : Nat) (h : k < 8) : (frK p k).set (20 + k) (QcC p.id (56 - 8 * k)).toUInt8 = frK p (k + 1) := by
 have hb : (bigB 8 p.id.toNat).take (k + 1) = (bigB 8 p.id.toNat).take k ++ [(QcC p.id (56 - 8 * k)).toUInt8] := by
  rw [List.take_add_one, Qe3 8 _ k h, Qhi _ _ h]
  rfl
 have hl : ((bigB 8 p.id.toNat).take k).length = k := by rw [QmW, QaI]; omega
 have h3 := Qb0 p
 rw [frK, frK, hb]
 generalize (QcC p.id (56 - 8 * k)).toUInt8 = x
 generalize (bigB 8 p.id.toNat).take k = q at *
 generalize fr3 p = L at *
 rw [putB, putB, Qnj _ _ (by simp; omega), QmP, QmW, h3, hl, show 20 + k - (min 20 480 + k) = 0 by omega, QmP, hl, List.length_singleton, List.drop_eq_getElem_cons (i := 20 + k) (by omega), List.set_cons_zero]
 simp [Nat.add_assoc]
theorem Qi7 (p : Prt) (h : p.da.length ≤ 450) : putB (((frK p 8).set 28 (QmZ ((p.da.length : Int) / 256))).set 29 (QmZ ((p.da.length : Int) % 256))) 30 p.da = Qcd p := by
 have h8 : (bigB 8 p.id.toNat).take 8 = bigB 8 p.id.toNat := QmT (by rw [QaI]; omega)
 have e1 : QmZ ((p.da.length : Int) / 256) = QmJ (p.da.length / 256) := by
  rw [show ((p.da.length : Int) / 256) = ((p.da.length / 256 : Nat) : Int) by omega, Qdb]
 have e2 : QmZ ((p.da.length : Int) % 256) = QmJ p.da.length := by
  rw [show ((p.da.length : Int) % 256) = ((p.da.length % 256 : Nat) : Int) by omega, Qdb]
  apply Qm7.1
  rw [Qnc, Qnc, Nat.mod_mod]
 have hb2 : bigB 2 p.da.length = [QmJ (p.da.length / 256), QmJ p.da.length] := rfl
 rw [e1, e2, frK, h8, Qcd, hb2, fr3]
 generalize QmJ (p.da.length / 256) = x
 generalize QmJ p.da.length = y
 have hI := QaI 8 p.id.toNat
 generalize bigB 8 p.id.toNat = I at *
 have hH : (QmC 16 0 ++ [p.kd, QmZ p.ix, QmZ p.ct, 0] : List UInt8).length = 20 := by simp
 rw [← Qm3, ← Qm3]
 generalize (QmC 16 0 ++ [p.kd, QmZ p.ix, QmZ p.ct, 0] : List UInt8) = H at *
 rw [show QmC 460 (0 : UInt8) = QmC 8 0 ++ ([0, 0] ++ (QmC p.da.length 0 ++ QmC (450 - p.da.length) 0)) by
  rw [show ([0, 0] : List UInt8) = QmC 2 0 from rfl, List.replicate_append_replicate, List.replicate_append_replicate, List.replicate_append_replicate]
  congr 1
  omega, QdA _ _ _ _ 20 hH (by rw [hI, Qni])]
 rw [← Qm3, Qnj _ _ (by simp; omega), Qnj _ _ (by simp; omega), QmP, hH, hI]
 show putB ((H ++ I) ++ ([x, y] ++ (QmC p.da.length 0 ++ QmC (450 - p.da.length) 0))) 30 p.da = _
 rw [← Qm3, QdA _ _ _ _ 30 (by simp; omega) (by rw [Qni])]
 simp only [Qm3]
def frmR (p : Prt) : List UInt8 := if prtE p = 0 then Qcd p else []
theorem Qfl (p : Prt) : (frmR p).length ≤ 480 := by
 unfold frmR
 split
 · rename_i h
   rw [Qca p (QdB h).2.1]
   omega
 · simp
theorem Qhq (p : Prt) : (((QmC 480 (Value.int .u8 0)).set 16 (W8 p.kd)).set 17 (W8 (QmZ p.ix))).set 18 (W8 (QmZ p.ct)) = (frK p 0).map W8 := by
 rw [Qha, ← QeS, ← Qby, ← Qby, ← Qby, List.map_replicate]
 rfl
set_option maxRecDepth 100000 in
set_option maxHeartbeats 4000000 in
theorem Qfx (p : Prt) (A : Option Addr) (n c : Nat) (w : World) (hr : RdB w A n p.da) (hn : n ≤ 1048576) :
 Calls Tryz.prog 36 #[.agg (PaC p (.slice A n c)).toArray] w fun e w' => ∃ A' c', e = .returned (.tuple #[.slice A' (frmR p).length c', .int .i64 (prtE p : Nat)]) ∧ OwnB w' w.heap.size A' (frmR p).length c' (frmR p) ∧ Later w w' := by
 have hl := hr.len
 have hCk := hid (fun w => Qfz p A n c hl w)
 have hz := hid (fun h => QdB (p := p) h)
 have hR : Hid (frmR p = if prtE p = 0 then Qcd p else []) := hid rfl
 have C1 := QaU w 32 (PaC p (.slice A n c))
 generalize frmR p = R at *
 generalize prtE p = E at *
 go_enter Tryz.func36, Tryz.ntmps36
 go_wp2_with (first
  | (refine QaV rfl _ rfl (C1.nth 0 rfl) rfl ?_)
  | fail)
 (refine (hCk.out _).mono ?_); rintro e w2 ⟨rfl, j2⟩
 have C2 := C1.later j2
 clear C1 j2
 by_cases h0 : E = 0
 · subst h0
   have hz' := hid (hz.out (by trivial))
   have hR' := hid (hR.out.trans (if_pos (by trivial)))
   have hn450 : n ≤ 450 := by have := hz'.out.2.1; omega
   have hend := Qi7 p (by omega)
   rw [hl] at hend
   replace hend := hid hend
   have hlb := Qca p (by omega)
   have l0 : (QmC 480 (Value.int .u8 0)).length = 480 := by rw [Qni]
   have e3 := hid (QeS p)
   obtain ⟨c0, c1, c2, c3, c4⟩ := Qaq (C2.nth 0 rfl)
   go_wp2_with (first
    | (refine QbQ rfl _ _ _ rfl 5 _ 1 Tryz.underlying23 Qga rfl _ _ _ _ 480 rfl rfl rfl rfl (by omega) (by omega) ?_; intro w3 hb3 hl3
       have C3 := C2.fresh hl3 (Qmx _) hb3
       obtain ⟨c0, c1, c2, c3, c4⟩ := Qaq (C3.nth 1 rfl))
    | (refine Qai rfl rfl _ _ _ rfl w2.heap.size 16 _ _ (C3.nth 0 rfl) rfl (by rw [l0]; omega) rfl (by kernel_rfl) ?_; intro v4 w4 hv4 hb4 ho4; simp [go_sem] at hv4; subst hv4
       have C4 := C3.write 0 rfl ho4 hb4
       obtain ⟨c0, c1, c2, c3, c4⟩ := Qaq (C4.nth 1 rfl))
    | (refine Qai rfl rfl _ _ _ rfl w2.heap.size 17 _ _ (C4.nth 0 rfl) rfl (by rw [Qm1, l0]; omega) rfl (by kernel_rfl) ?_; intro v5 w5 hv5 hb5 ho5; simp [go_sem] at hv5; subst hv5
       have C5 := C4.write 0 rfl ho5 hb5
       obtain ⟨c0, c1, c2, c3, c4⟩ := Qaq (C5.nth 1 rfl))
    | (refine Qai rfl rfl _ _ _ rfl w2.heap.size 18 _ _ (C5.nth 0 rfl) rfl (by rw [Qm1, Qm1, l0]; omega) rfl (by kernel_rfl) ?_; intro v6 w6 hv6 hb6 ho6; simp [go_sem] at hv6; subst hv6
       have C6 := C5.write 0 rfl ho6 hb6)
    | fail)
   have fv := hid (Qhq p)
   have hC6 : Bag w w6 [(w2.heap.size, 5, (frK p 0).map W8), (w.heap.size, 32, PaC p (.slice A n c))] := by
    rw [← fv.out]
    exact C6
   clear C6 C5 C4 C3 C2 hb3 hb4 hb5 hb6 ho4 ho5 ho6 hl3 c0 c1 c2 c3 c4 fv e3
   generalize w2.heap.size = g at *
   go_loopw [6] (fun i wr => ∃ k : Nat, k ≤ 8 ∧ i = .int .i64 k ∧ Bag w wr [(g, 5, (frK p k).map W8), (w.heap.size, 32, PaC p (.slice A n c))]) (fun i _ => 8 - (intOf i).toNat)
   case atStart => exact ⟨0, by omega, rfl, hC6⟩
   case round =>
    clear hC6
    obtain ⟨k, hk, rfl, B1⟩ := hrel
    by_cases hlt : k < 8
    · have hlen := Qc3 p k
      have c1 := (Qaq (B1.nth 1 rfl)).2.1
      have hlg := (B1.nth 1 rfl).lt
      have hst := hid (QgW p k hlt)
      have e20 : ((20 : Int) + (k : Int)).toNat = 20 + k := by omega
      have e56 : ((56 : Int) - 8 * (k : Int)).toNat = 56 - 8 * k := by omega
      go_wp2_with (first
       | (refine Qai rfl rfl _ _ _ rfl g (20 + k) _ _ (B1.nth 0 rfl) rfl (by rw [QmD, hlen]; omega) rfl (by kernel_rfl) ?_; intro v6 w6 hv6 hb6 ho6; simp [go_sem] at hv6; subst hv6; rw [Qby, hst.out] at hb6
          have B2 := B1.write 0 rfl ho6 hb6)
       | fail)
      go_roundw
      case rel => exact ⟨k + 1, by omega, by go_num, B2⟩
      case measure => simp [intOf]; omega
    · obtain rfl : k = 8 := by omega
      have hlen := Qc3 p 8
      obtain ⟨c0, c1, c2, c3, c4⟩ := Qaq (B1.nth 1 rfl)
      have hlg := (B1.nth 1 rfl).lt
      go_wp2_with (first
       | (refine Qai rfl rfl _ _ _ rfl g 28 _ _ (B1.nth 0 rfl) rfl (by rw [QmD, hlen]; omega) rfl (by kernel_rfl) ?_; intro v6 w6 hv6 hb6 ho6; simp [go_sem] at hv6; subst hv6
          have B2 := B1.write 0 rfl ho6 hb6
          obtain ⟨c0, c1, c2, c3, c4⟩ := Qaq (B2.nth 1 rfl)
          have hlg := (B2.nth 1 rfl).lt)
       | (refine Qai rfl rfl _ _ _ rfl g 29 _ _ (B2.nth 0 rfl) rfl (by rw [Qm1, QmD, hlen]; omega) rfl (by kernel_rfl) ?_; intro v7 w7 hv7 hb7 ho7; simp [go_sem] at hv7; subst hv7
          have B3 := (B2.write 0 rfl ho7 hb7).drew
          obtain ⟨c0, c1, c2, c3, c4⟩ := Qaq (B3.nth 1 rfl)
          have hlg := (B3.nth 1 rfl).lt)
       | fail)
      refine Qaj [] [0, 1, 2, 3] [4] (by as_aux_lemma => kernel_rfl) (by as_aux_lemma => kernel_rfl) (by intro _ _ d _ _ h; cases d <;> exact h) ?_
      simp only [QaF, pick, Qmz, QmE, QmI, QmK, QmN]
      repeat (go_big_quiet_step (fail))
      refine wpQuiet_nil ?_
      go_wp2_with (first
       | (refine QbE rfl _ _ _ _ rfl 5 Tryz.underlying23 Qbp g 30 450 450 _ _ (B3.nth 0 rfl) A n c (p.da.map W8) (Rd.later hr B3.lat) (Qc8 _) rfl rfl (by rw [Qm1, Qm1, QmD, hlen]; omega) ?_; intro w8 hb8 ho8
          have B4 := B3.write 0 rfl ho8 hb8)
       | fail)
      rw [Qby, Qby, QmT (by rw [QmD]; omega), Qg9, hend.out] at hb8
      go_ret2
      have ho := QcQ hb8 (B3.at_low 0 rfl) (by rw [QmD, hlb]; omega)
      rw [QmD, hlb] at ho
      exact ⟨some ⟨g, 0, none⟩, 480, by rw [hR'.out, hlb]; rfl, by rw [hR'.out, hlb]; exact ho, B4.lat⟩
 · have hne : ((E : Int) != 0) = true := by simp; omega
   have hR' := hid (hR.out.trans (if_neg h0))
   go_wp2
   go_ret2
   exact ⟨none, 0, by rw [hR'.out]; rfl, by rw [hR'.out]; exact Qav _ _ _, C2.lat⟩
theorem Qi2 (b : List UInt8) (hb : b.length = 480) (k : Nat) (h2 : 20 ≤ k) (h6 : k < 28) : QmB (beN (subB b 20 (k + 1 - 20)) 0) = QmB (beN (subB b 20 (k - 20)) 0) * 256 + (b.getD k 0).toUInt64 := by
 rw [show k + 1 - 20 = (k - 20) + 1 by omega, Qbe _ _ _ (by omega), Qj0, show 20 + (k - 20) = k by omega]
theorem Qin (b : List UInt8) : QmB (beN (subB b 20 0) 0) = 0 := rfl
theorem QgI (b : List UInt8) (hb : b.length = 480) : QaG b = (b.getD 28 0).toNat * 256 + (b.getD 29 0).toNat := by
 rw [QaG, Qbe b 28 1 (by omega), Qbe b 28 0 (by omega)]
 show (0 * 256 + (b.getD 28 0).toNat) * 256 + (b.getD 29 0).toNat = _
 omega
theorem QfO (p : Prt) (v : Value) (x : UInt64) : (PaC p v).set 1 (W64 x) = PaC { p with id := x } v := rfl
theorem Qhr (b : List UInt8) (hb : b.length = 480) : parE b = if allZ (b.take 16) = false then 7 else if b.getD 16 0 < 1 ∨ 3 < b.getD 16 0 then 1 else if 450 < QaG b then 3 else if prtE (Qa3 b) ≠ 0 then 3 else if decide (frmR (Qa3 b) = b) = false then 3 else 0 := by
 rw [Qdx b hb]
 by_cases h1 : allZ (b.take 16) = false
 · rw [if_pos h1, if_pos h1]
 rw [if_neg h1, if_neg h1]
 by_cases h2 : b.getD 16 0 < 1 ∨ 3 < b.getD 16 0
 · rw [if_pos h2, if_pos h2]
 rw [if_neg h2, if_neg h2]
 by_cases h3 : 450 < QaG b
 · rw [if_pos (.inr h3), if_pos h3]
 rw [if_neg h3]
 have h16 : b.take 16 = QmC 16 0 := by
  have := (QbO (b.take 16)).1 (by simpa using h1)
  rwa [QmW, Qnw (by omega)] at this
 have ha := Qef b hb h16 (by omega)
 have hd : (allZ (b.drop (30 + QaG b)) = false) ↔ ¬ b.drop (30 + QaG b) = QmC (450 - QaG b) 0 := by
  have := QbO (b.drop (30 + QaG b))
  rw [Qnb, show b.length - (30 + QaG b) = 450 - QaG b by omega] at this
  rw [← this, Bool.not_eq_true]
 by_cases h4 : prtE (Qa3 b) ≠ 0
 · rw [if_pos h4]
   split
   · rfl
   · rw [if_pos (.inl h4)]
 have h40 : prtE (Qa3 b) = 0 := by omega
 rw [if_neg h4, frmR, if_pos h40]
 by_cases h5 : Qcd (Qa3 b) = b
 · obtain ⟨k1, k2⟩ := ha.1 h5
   rw [if_neg (by rw [k1]; simp; omega), if_neg (by rw [hd]; simp [k2, h40]), if_neg (by simp [h5])]
 · rw [if_pos (show decide (Qcd (Qa3 b) = b) = false from decide_eq_false h5)]
   by_cases h6 : b.getD 19 0 = 0
   · rw [if_neg (by rw [h6]; simp; omega), if_pos (.inr (hd.2 (fun h => h5 (ha.2 ⟨h6, h⟩))))]
   · rw [if_pos (.inl h6)]
set_option maxRecDepth 100000 in
set_option maxHeartbeats 8000000 in
theorem Qft (A : Option Addr) (c : Nat) (b : List UInt8) (w : World) (hb : RdB w A 480 b) (hc : 480 ≤ c) :
 Calls Tryz.prog 21 #[.slice A 480 c] w fun e w' => ∃ A' c', e = .returned (.tuple #[.agg (PaC (parP b) (.slice A' (parP b).da.length c')).toArray, .int .i64 (parE b : Nat)]) ∧ OwnB w' w.heap.size A' (parP b).da.length c' (parP b).da ∧ Later w w' := by
 have hbl := hb.len
 obtain ⟨b0, o, rfl, hb00, _⟩ := hb.2 (by omega)
 have C1 := QaU w 32 pz0
 have hE := hid (Qhr b hbl)
 have hP : Hid (parP b = if parE b = 0 then Qa3 b else prt0) := hid rfl
 have hOf : Hid (Qa3 b = ⟨b.getD 16 0, QmB (beN (subB b 20 (28 - 20)) 0), ((b.getD 17 0).toNat : Int), ((b.getD 18 0).toNat : Int), subB b 30 (QaG b)⟩) := hid rfl
 have hs6 := Qfd b hbl
 have hs2 := QgI b hbl
 have hi0 := hid (Qin b)
 have hin := hid (fun k h1 h2 => Qi2 b hbl k h1 h2)
 have hsl := hid (fun hs => Qcz b hbl hs)
 have hF := hid (fun (w : World) A' n c' (h : RdB w A' n (Qa3 b).da) hn => Qfx (Qa3 b) A' n c' w h hn)
 have hFs := Qfl (Qa3 b)
 have hbz := QdY
 generalize parE b = E at *
 generalize parP b = PP at *
 generalize QaG b = S at *
 generalize Qa3 b = P at *
 generalize prtE P = PE at *
 generalize frmR P = PR at *
 generalize hF1 : allZ (b.take 16) = F1 at *
 replace hF1 := hid hF1
 go_enter Tryz.func21, Tryz.ntmps21
 go_wp2_with fail
 go_loopw [4] (fun i wr => ∃ k : Nat, k ≤ 16 ∧ i = .int .i64 k ∧ Hid (∀ j, j < k → b.getD j 0 = 0) ∧ Bag w wr [(w.heap.size, 32, pz0)]) (fun i _ => 16 - (intOf i).toNat)
 case atStart => exact ⟨0, by omega, rfl, hid (fun j hj => absurd hj (by omega)), C1⟩
 case round =>
  clear C1
  obtain ⟨k, hk, rfl, hz, C1⟩ := hrel
  by_cases hlt : k < 16
  · have hcz := QaL (hb.later C1.lat) k (by omega)
    have hlb : b0 < wr.heap.size := QmL hb00 C1.lat.size
    have hno := hid (fun (h : b.getD k 0 ≠ 0) => QgF (bs := b.take 16) (k := k) (by rw [QmW]; omega) (by rw [QmA, Qm4, if_pos hlt, ← QmA]; exact h))
    have hgo := hid (fun h : b.getD k 0 = 0 => Qda (p := fun j => b.getD j 0 = 0) hz.out h)
    generalize b.getD k 0 = x at *
    cases hx : (x == 0)
    · have n1 : (x != 0) = true := by rw [bne, hx]; rfl
      have hFF : F1 = false := hF1.out.symm.trans (hno.out (by simpa using hx))
      have HE : E = 7 := hE.out.trans (if_pos hFF)
      have HP : PP = prt0 := by rw [hP.out, if_neg (by rw [HE]; decide)]
      replace HE := hid HE
      replace HP := hid HP
      clear hE hP hFF hno hgo hF hin hOf hsl
      go_wp2_with (first
       | (refine Qad rfl 32 _ rfl (PaC prt0 (.slice none 0 0)) (by simp only [Qmy, QmG]; exact hbz) ?_)
       | (refine Qam rfl rfl _ _ rfl (C1.nth 0 rfl) rfl rfl rfl rfl ?_; intro e7 eb7 eo7
          have E7 := C1.write 0 rfl eo7 eb7)
       | fail)
      exact bodyPost_ret (Qae rfl _ _ _ _ _ _ (E7.nth 0 rfl) rfl Tryz.underlying32 rfl (by rw [Qah]; exact QaM)) rfl ⟨none, 0, by rw [HE.out, HP.out]; rfl, by rw [HP.out]; exact Qav _ _ _, E7.lat⟩
    · have n1 : (x != 0) = false := by rw [bne, hx]; rfl
      have hG := hid (hgo.out (by simpa using hx))
      clear hno hgo
      go_wp2_with fail
      exact ⟨⟨k + 1, by omega, by go_num, hG, C1⟩, by simp [intOf]; omega⟩
  · obtain rfl : k = 16 := by omega
    have hFF : F1 = true := hF1.out.symm.trans (Qfc (bs := b.take 16) (by
     intro j hj
     rw [QmW] at hj
     rw [QmA, Qm4, if_pos (by omega), ← QmA]
     exact hz.out j (by omega)))
    replace hE := hid (hE.out.trans (if_neg (by rw [hFF]; decide)))
    clear hFF hF1 hz
    have C2 := C1.drew
    have r1 := hb.later C2.lat
    have c16 := QaL r1 16 (by omega)
    have c17 := QaL r1 17 (by omega)
    have c18 := QaL r1 18 (by omega)
    have hlb : b0 < wr.drew.heap.size := QmL hb00 C2.lat.size
    have hcl := hid (fun (w : World) (h : RdB w (some ⟨b0, o, none⟩) 480 b) => (⟨QaL h 28 (by omega), QaL h 29 (by omega)⟩ : w.cell? ⟨b0, o + 28, none⟩ = some (W8 (b.getD 28 0)) ∧ w.cell? ⟨b0, o + 29, none⟩ = some (W8 (b.getD 29 0))))
    generalize b.getD 16 0 = x16 at *
    generalize b.getD 17 0 = x17 at *
    generalize b.getD 18 0 = x18 at *
    generalize b.getD 28 0 = x28 at *
    generalize b.getD 29 0 = x29 at *
    have w17 : IntKind.i64.wrap (x17.toNat : Int) = (x17.toNat : Int) := by have := x17.toNat_lt; rw [IntKind.wrap_i64]; omega
    have w18 : IntKind.i64.wrap (x18.toNat : Int) = (x18.toNat : Int) := by have := x18.toNat_lt; rw [IntKind.wrap_i64]; omega
    have hbc := Qf2 x16 (x17.toNat : Int) (x18.toNat : Int)
    go_wp2_with fail
    refine Qaj [([0, 1, 2, 3, 4, 5, 6, 7, 8, 9, 10, 11], 12)] [] [13] (by as_aux_lemma => kernel_rfl) (by as_aux_lemma => kernel_rfl) (by intro _ _ d _ _ h; cases d <;> exact h) ?_
    simp only [QaF, pick, Qmz, QmE, QmI, QmK, QmN]
    repeat (first | go_big_quiet_skip | (go_big_quiet_want; (refine Qcw _ _ rfl (PaC ⟨x16, 0, (x17.toNat : Int), (x18.toNat : Int), []⟩ (.slice none 0 0)) (by simp only [Qmy, QmQ, QmG]; exact hbc) ?_); simp only [Act.put, List.setIfInBounds_toArray, List.set_cons_succ, List.set_cons_zero]; go_big_quiet_on) | (go_big_quiet_step (fail)))
    refine wpQuiet_nil ?_
    go_wp2_with fail
    try refine ⟨by first | assumption | exact Qak _ | exact Qaa _ _ | exact Later.refl _, ?_⟩
    try simp only [QaF, pick, Qmz, QmE, QmI, QmK, QmN]
    repeat (go_big_quiet_step (fail))
    refine wpQuiet_nil ?_
    clear r1 c16 c17 c18 hbc
    by_cases h1 : x16 < 1 ∨ 3 < x16
    · by_cases h11 : x16 < 1
      all_goals
       have h33 : x16 < 1 ∨ 3 < x16 := h1
       simp only [h11, true_or, false_or] at h33
       have HE : E = 1 := hE.out.trans (if_pos h1)
       have HP : PP = prt0 := by rw [hP.out, if_neg (by rw [HE]; decide)]
       replace HE := hid HE
       replace HP := hid HP
       clear hE hP h1 hF hin hOf hsl
       go_wp2_with (first
        | (refine Qam rfl rfl _ _ rfl (Blk.new wr.drew _ pz0) rfl rfl rfl rfl ?_; intro w3 hb3 ho3
           have C3 : Bag w w3 [(wr.heap.size, 32, PaC ⟨x16, 0, (x17.toNat : Int), (x18.toNat : Int), []⟩ (.slice none 0 0)), (w.heap.size, 32, pz0)] := C2.push (Qaa _ _) (Qmx _) ho3 hb3
           obtain ⟨k0, k1, k2, k3, k4⟩ := Qaq (C3.nth 0 rfl)
           have hlg := (C3.nth 0 rfl).lt)
        | (refine Qad rfl 32 _ rfl (PaC prt0 (.slice none 0 0)) (by simp only [Qmy, QmG]; exact hbz) ?_)
        | (refine Qam rfl rfl _ _ rfl (C3.nth 1 rfl) rfl rfl rfl rfl ?_; intro e7 eb7 eo7
           have E7 := C3.write 1 rfl eo7 eb7)
        | fail)
       exact bodyPost_ret (Qae rfl _ _ _ _ _ _ (E7.nth 1 rfl) rfl Tryz.underlying32 rfl (by rw [Qah]; exact QaM)) rfl ⟨none, 0, by rw [HE.out, HP.out]; rfl, by rw [HP.out]; exact Qav _ _ _, E7.lat⟩
    have h11 : ¬ x16 < 1 := fun h => h1 (.inl h)
    have h13 : ¬ 3 < x16 := fun h => h1 (.inr h)
    replace hE := hid (hE.out.trans (if_neg h1))
    clear h1
    go_wp2_with (first
     | (refine Qam rfl rfl _ _ rfl (Blk.new wr.drew _ pz0) rfl rfl rfl rfl ?_; intro w3 hb3 ho3
        have C3 : Bag w w3 [(wr.heap.size, 32, PaC ⟨x16, 0, (x17.toNat : Int), (x18.toNat : Int), []⟩ (.slice none 0 0)), (w.heap.size, 32, pz0)] := C2.push (Qaa _ _) (Qmx _) ho3 hb3
        obtain ⟨k0, k1, k2, k3, k4⟩ := Qaq (C3.nth 0 rfl)
        have hlg := (C3.nth 0 rfl).lt)
     | fail)
    generalize wr.heap.size = g3 at *
    clear k0 k1 k2 k3 k4 hlg hb3 ho3 C1 C2 hlb
    go_loopw [6] (fun i wr => ∃ k : Nat, 20 ≤ k ∧ k ≤ 28 ∧ i = .int .i64 k ∧ Bag w wr [(g3, 32, PaC ⟨x16, QmB (beN (subB b 20 (k - 20)) 0), (x17.toNat : Int), (x18.toNat : Int), []⟩ (.slice none 0 0)), (w.heap.size, 32, pz0)]) (fun i _ => 28 - (intOf i).toNat)
    case atStart => exact ⟨20, by omega, by omega, rfl, by rw [show 20 - 20 = 0 from rfl, hi0.out]; exact C3⟩
    case round =>
     clear C3
     obtain ⟨k, hk2, hk6, rfl, B1⟩ := hrel
     by_cases hlt : k < 28
     · have B2 := B1.drew
       have hcz := QaL (hb.later B2.lat) k (by omega)
       have hlb : b0 < wr.drew.heap.size := QmL hb00 B2.lat.size
       have hlg : g3 < wr.drew.heap.size := (B2.nth 0 rfl).lt
       have hx := hin.out k hk2 hlt
       generalize QmB (beN (subB b 20 (k - 20)) 0) = x at *
       generalize b.getD k 0 = z at *
       replace hx := hid hx
       have hc3 := (Qaq (B2.nth 0 rfl)).2.1
       go_wp2_with fail
       refine Qaj [] [0, 1, 2, 3, 4, 5, 6, 7, 8, 9] [10] (by as_aux_lemma => kernel_rfl) (by as_aux_lemma => kernel_rfl) (by intro _ _ d _ _ h; cases d <;> exact h) ?_
       simp only [QaF, pick, Qmz, QmE, QmI, QmK, QmN]
       repeat (go_big_quiet_step (fail))
       refine wpQuiet_nil ?_
       go_wp2_with (first
        | (refine Qai rfl rfl _ _ _ rfl g3 1 _ _ (B2.nth 0 rfl) rfl (by rw [Qah]; omega) rfl (by kernel_rfl) ?_; intro v6 w6 hv6 hb6 ho6; simp [go_sem] at hv6; subst hv6
           have B3 := B2.write 0 rfl ho6 hb6)
        | fail)
       rw [QfO] at B3
       go_roundw
       case rel => exact ⟨k + 1, by omega, by omega, by go_num, by rw [hx.out]; exact B3⟩
       case measure => simp [intOf]; omega
     · obtain rfl : k = 28 := by omega
       have B2 := B1.drew
       obtain ⟨c28, c29⟩ := hcl.out _ (hb.later B2.lat)
       have hlb : b0 < wr.drew.heap.size := QmL hb00 B2.lat.size
       have w28 : IntKind.i64.wrap (x28.toNat : Int) = (x28.toNat : Int) := by have := x28.toNat_lt; rw [IntKind.wrap_i64]; omega
       have w29 : IntKind.i64.wrap (x29.toNat : Int) = (x29.toNat : Int) := by have := x29.toNat_lt; rw [IntKind.wrap_i64]; omega
       have wm : IntKind.i64.wrap ((x28.toNat : Int) * 256) = (x28.toNat : Int) * 256 := by have := x28.toNat_lt; rw [IntKind.wrap_i64]; omega
       have wS : IntKind.i64.wrap ((x28.toNat : Int) * 256 + (x29.toNat : Int)) = (S : Int) := by have := x28.toNat_lt; have := x29.toNat_lt; rw [IntKind.wrap_i64]; omega
       generalize QmB (beN (subB b 20 (28 - 20)) 0) = ID at *
       have wS' : (x28.toNat : Int) * 256 + (x29.toNat : Int) = (S : Int) := by omega
       clear hs2
       go_wp2_with fail
       refine Qaj [] [0, 1, 2, 3, 4, 5, 6, 7, 8, 9, 10] [] (by as_aux_lemma => kernel_rfl) (by as_aux_lemma => kernel_rfl) (by intro _ _ d _ _ h; cases d <;> exact h) ?_
       simp only [QaF, pick, Qmz, QmE, QmI, QmK, QmN]
       repeat (go_big_quiet_step (fail))
       refine wpQuiet_nil ?_
       by_cases h3 : 450 < S
       · have d3 : decide ((450 : Int) < (S : Int)) = true := decide_eq_true (by omega)
         have HE : E = 3 := hE.out.trans (if_pos h3)
         have HP : PP = prt0 := by rw [hP.out, if_neg (by rw [HE]; decide)]
         replace HE := hid HE
         replace HP := hid HP
         clear hE hP hF hOf hsl
         go_wp2_with (first
          | (refine Qad rfl 32 _ rfl (PaC prt0 (.slice none 0 0)) (by simp only [Qmy, QmG]; exact hbz) ?_)
          | (refine Qam rfl rfl _ _ rfl (B2.nth 1 rfl) rfl rfl rfl rfl ?_; intro e7 eb7 eo7
             have E7 := B2.write 1 rfl eo7 eb7)
          | fail)
         exact bodyPost_ret (Qae rfl _ _ _ _ _ _ (E7.nth 1 rfl) rfl Tryz.underlying32 rfl (by rw [Qah]; exact QaM)) rfl ⟨none, 0, by rw [HE.out, HP.out]; rfl, by rw [HP.out]; exact Qav _ _ _, E7.lat⟩
       have d3 : decide ((450 : Int) < (S : Int)) = false := decide_eq_false (by omega)
       replace hE := hid (hE.out.trans (if_neg h3))
       have hP0 : P = ⟨x16, ID, (x17.toNat : Int), (x18.toNat : Int), subB b 30 S⟩ := hOf.out
       have hdl := hsl.out (by omega)
       have f2 : ((30 : Int) + (S : Int)).toNat = 30 + S := by omega
       have hCp := hid (fun (w : World) (h : RdB w (some ⟨b0, o, none⟩) 480 b) => QeE (some ⟨b0, o + 30, none⟩) S (c - 30) (subB b 30 S) w (by
        by_cases h0 : S = 0
        · rw [h0]
          exact ⟨rfl, fun h => absurd h (by omega)⟩
        · exact QfY h 30 S (by omega) (by omega)) (by omega))
       have hda : Hid (P.da = subB b 30 S) := hid (by rw [hP0])
       generalize subB b 30 S = D at *
       clear hOf hsl
       go_wp2_with fail
       (refine (hCp.out _ (hb.later B2.lat)).mono ?_); rintro e w7 ⟨A7, c7, rfl, o7, j7⟩
       have C7 := B2.later j7
       have hset : Hid ((PaC ⟨x16, ID, (x17.toNat : Int), (x18.toNat : Int), []⟩ (.slice none 0 0)).set 4 (.slice A7 S c7) = PaC P (.slice A7 S c7)) := hid (by rw [hP0]; rfl)
       have hB2l : w.heap.size ≤ wr.drew.heap.size := B2.lat.size
       clear hP0 hCp j7 B1
       go_wp2_with (first
        | (refine Qai rfl rfl _ _ _ rfl g3 4 _ _ (C7.nth 0 rfl) rfl (by rw [Qah]; omega) rfl (by kernel_rfl) ?_; intro v8 w8 hv8 hb8 ho8; simp [go_sem] at hv8; subst hv8; rw [hset.out] at hb8
           have C8 := C7.write 0 rfl ho8 hb8
           have o8 := QaT o7 (C7.nth 0 rfl) (by decide) ho8)
        | (refine QaV rfl _ rfl (C8.nth 0 rfl) rfl ?_)
        | fail)
       (refine (hF.out _ A7 S c7 (by rw [hda.out]; exact OwnB.rd o8) (by omega)).mono ?_); rintro e w9 ⟨A9, c9, rfl, o9, j9⟩
       have C9 := C8.later j9
       have o10 := QaK o8 j9
       clear hF o7 o8 j9 hb8 ho8 C7 B2 hset
       by_cases hPE : PE = 0
       · subst hPE
         replace hE := hid (hE.out.trans (if_neg (by simp)))
         go_wp2_with fail
         (refine (QcB A9 (some ⟨b0, o, none⟩) PR.length 480 c9 c PR b _ (OwnB.rd o9) (hb.later C9.lat) (by omega) (by omega)).mono ?_); rintro e w10 ⟨rfl, j10⟩
         have C10 := C9.later j10
         have o11 := QaK o10 j10
         clear o9 o10 j10 C9 C8
         generalize decide (PR = b) = F2 at *
         cases F2
         · have HE : E = 3 := hE.out.trans (if_pos rfl)
           have HP : PP = prt0 := by rw [hP.out, if_neg (by rw [HE]; decide)]
           replace HE := hid HE
           replace HP := hid HP
           clear hE hP
           go_wp2_with (first
            | (refine Qad rfl 32 _ rfl (PaC prt0 (.slice none 0 0)) (by simp only [Qmy, QmG]; exact hbz) ?_)
            | (refine Qam rfl rfl _ _ rfl (C10.nth 1 rfl) rfl rfl rfl rfl ?_; intro e7 eb7 eo7
               have E7 := C10.write 1 rfl eo7 eb7)
            | fail)
           exact bodyPost_ret (Qae rfl _ _ _ _ _ _ (E7.nth 1 rfl) rfl Tryz.underlying32 rfl (by rw [Qah]; exact QaM)) rfl ⟨none, 0, by rw [HE.out, HP.out]; rfl, by rw [HP.out]; exact Qav _ _ _, E7.lat⟩
         · have HE : E = 0 := hE.out.trans (if_neg (by simp))
           have HP : PP = P := by rw [hP.out, if_pos HE]
           replace HE := hid HE
           replace HP := hid HP
           clear hE hP
           go_wp2_with (first
            | (refine QaV rfl _ rfl (C10.nth 0 rfl) rfl ?_)
            | (refine Qam rfl rfl _ _ rfl (C10.nth 1 rfl) rfl rfl rfl rfl ?_; intro e7 eb7 eo7
               have E7 := C10.write 1 rfl eo7 eb7
               have o12 := QaT o11 (C10.nth 1 rfl) (by decide) eo7)
            | fail)
           exact bodyPost_ret (Qae rfl _ _ _ _ _ _ (E7.nth 1 rfl) rfl Tryz.underlying32 rfl (by rw [Qah]; exact QaM)) rfl ⟨A7, c7, by rw [HE.out, HP.out, hdl]; rfl, by rw [HP.out, hdl, hda.out]; exact QaY o12 (show w.heap.size ≤ _ from hB2l), E7.lat⟩
       · have hne : ((PE : Int) != 0) = true := by simp; omega
         have HE : E = 3 := hE.out.trans (if_pos hPE)
         have HP : PP = prt0 := by rw [hP.out, if_neg (by rw [HE]; decide)]
         replace HE := hid HE
         replace HP := hid HP
         clear hE hP
         go_wp2_with (first
          | (refine Qad rfl 32 _ rfl (PaC prt0 (.slice none 0 0)) (by simp only [Qmy, QmG]; exact hbz) ?_)
          | (refine Qam rfl rfl _ _ rfl (C9.nth 1 rfl) rfl rfl rfl rfl ?_; intro e7 eb7 eo7
             have E7 := C9.write 1 rfl eo7 eb7)
          | fail)
         exact bodyPost_ret (Qae rfl _ _ _ _ _ _ (E7.nth 1 rfl) rfl Tryz.underlying32 rfl (by rw [Qah]; exact QaM)) rfl ⟨none, 0, by rw [HE.out, HP.out]; rfl, by rw [HP.out]; exact Qav _ _ _, E7.lat⟩
set_option maxRecDepth 100000 in
set_option maxHeartbeats 4000000 in
theorem Qed (p : Prt) (A B : Option Addr) (n c d : Nat) (w : World) (hx : RdB w A n p.da) (hy : RdB w B n p.da) (hn : n ≤ 1048576) :
 Calls Tryz.prog 22 #[.agg (PaC p (.slice A n c)).toArray, .agg (PaC p (.slice B n d)).toArray] w fun e w' => e = .returned (.bool true) ∧ Later w w' := by
 have C1 := QaU w 32 (PaC p (.slice A n c))
 have C2 := C1.add (Qaa _ (.cells (PaC p (.slice B n d)).toArray 32)) (k := w.heap.size + 1) (by simp) (by omega) (Blk.new' _ _ (PaC p (.slice B n d)) (by simp))
 obtain ⟨a0, a1, a2, a3, a4⟩ := Qaq (C2.nth 1 rfl)
 obtain ⟨b0, b1, b2, b3, b4⟩ := Qaq (C2.nth 0 rfl)
 have u0 := (C2.nth 0 rfl).lt
 have u1 := (C2.nth 1 rfl).lt
 obtain ⟨kd, id, ix, ct, da⟩ := p
 simp only at *
 go_enter Tryz.func22, Tryz.ntmps22
 go_wp2_with fail
 (refine (QcB A B n n c d da da _ (hx.later C2.lat) (hy.later C2.lat) (by omega) (by omega)).mono ?_); rintro e w3 ⟨rfl, j3⟩
 go_wp2_with fail
 go_ret
 exact ⟨by simp, C2.lat.trans j3⟩
end Go.Proofs.YtkibgdigcgakfabGreat
