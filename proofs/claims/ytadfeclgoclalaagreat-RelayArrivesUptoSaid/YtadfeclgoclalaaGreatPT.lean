/-
  Lemmas for the last text of this claim (part 20 of 20).
-/
import Derived.BigQuiet
import Derived.BigRegion
import Derived.ChangeOld
import Derived.Deep.RegionWith
import Derived.JoinedCond
import Derived.LaidMore
import Derived.Laws.CopyOwn
import Derived.Laws.Externs
import Derived.Laws.IdiomStrings
import Derived.Laws.Tables
import Derived.Lib.AppendStr
import Derived.Lib.AppendZerosOnto
import Derived.Lib.Mul64
import Derived.Lib.SlBytesConst
import Derived.LoopN
import Derived.OpenShut
import Derived.OrdersHeld
import Derived.ProofKit
import Derived.Shelf.Spec.BitsCarry
import Derived.ShutString
import Derived.Test.YtadfeclgoclalaaGreatProg
import Derived.Test.YtadfeclgoclalaaGreatRows
import Derived.WalkKit
import Derived.WalkLawsBesides
import Derived.WalkSpells
import Derived.Test.YtadfeclgoclalaaGreatPR
import Derived.Test.YtadfeclgoclalaaGreatPS
open List renaming replicate → QCK, getElem?_cons_succ → QCL, getElem?_cons_zero → QCM, cons_append → QCO, length_map → QCP, nil_append → QCQ, getElem?_eq_getElem → QCR, getD_eq_getElem?_getD → QCS, setIfInBounds_toArray → QCT, set_cons_zero → QCV, set_cons_succ → QCW, length_replicate → QCY, take_of_length_le → QCZ, map_toArray → QC0, not_mem_nil → QC1, mem_cons → QC2, getElem?_map → QC6, map_nil → QC9, length_take → QDe, map_cons → QDh, take_succ_eq_append_getElem → QDl, map_replicate → QDs, range → QDw, mem_map → QDI, getElem?_drop → QDW, getElem?_range → QEm, drop_zero → QEu, getElem?_take → QEx, map_congr_left → QEU
open Nat renaming le_refl → QCX, lt_of_lt_of_le → QDb, zero_add → QDf, le_trans → QDy, add_zero → QEc
open Option renaming toList_some → QCN, bind_some → QD7
namespace Go.Proofs.YtadfeclgoclalaaGreat
open Go.RowKit
open Go.BigFrame
noncomputable def sndR (x : List UInt8) (p : Prt) (hs : List Hp) : List UInt8 := if Qhr x p hs = 0 then QkQ x p hs else []
theorem QjA (k : UInt8) : Tryz.prog.built 54 [(0, W8 k)] = some (CC (lcK k)).toArray := by
 rw [Qa8 (pl := [(0, 1), (1, 1), (2, 1), (3, 1), (4, 16)]) Tryz.underlying54 Qvq (by kernel_rfl), Qbr (vs := [W8 k]) (off := 0) rfl rfl (by rw [Qap]; simp), Qcv]
 rfl
set_option maxRecDepth 100000 in
set_option maxHeartbeats 8000000 in
theorem Qz3 (A D H : Option Addr) (nx cx nd cd n ch : Nat) (x : List UInt8) (p : Prt) (hs : List Hp) (w : World) (hx : RdB w A nx x) (hnx : nx ≤ 1048576) (hd : RdB w D nd p.da) (hnd : nd ≤ 1048576) (hh : RdH w H n hs) (hn : n ≤ 1048576) :
 Calls Tryz.prog 5 #[.slice A nx cx, .agg (PaC p (.slice D nd cd)).toArray, .slice H n ch] w fun e w' => ∃ A' c', e = .returned (.tuple #[.slice A' (sndR x p hs).length c', .int .i64 (Qhr x p hs : Nat)]) ∧ OwnB w' w.heap.size A' (sndR x p hs).length c' (sndR x p hs) ∧ Later w w' := by
 have B0 := Qbg w 25 (PaC p (.slice D nd cd))
 have hFr := hid (fun w h => QqK p D nd cd w h hnd)
 have hR : Hid (sndR x p hs = if Qhr x p hs = 0 then QkQ x p hs else []) := hid rfl
 have hbd : Hid (∀ kd body, (if Qc6 x (lcK kd) body hs = 0 then QiO x (lcK kd) body hs else []) = bldR x (lcK kd) body hs) := hid (fun kd body => rfl)
 have hFB : Hid (frmR p = if prtE p = 0 then Qa4 p else []) := hid rfl
 obtain ⟨KD, hKD⟩ : ∃ KD : UInt8, KD = if p.kd = 2 then 3 else 2 := ⟨_, rfl⟩
 have hKD2 : KD = 2 ∨ KD = 3 := by
  rw [hKD]
  split
  · exact .inr rfl
  · exact .inl rfl
 have hsc : Qds p = lcK KD := by rw [Qds, ← hKD]; rfl
 obtain ⟨FE, hFE⟩ : ∃ FE, FE = frmE p := ⟨_, rfl⟩
 obtain ⟨SB, hSB⟩ : ∃ SB, SB = QfU p := ⟨_, rfl⟩
 have hE : Hid (Qhr x p hs = QdG [FE, Qc6 x (lcK KD) SB hs]) := hid (by rw [Qhr, hsc, ← hFE, ← hSB])
 have hB : Hid (QkQ x p hs = QiO x (lcK KD) SB hs) := hid (by rw [QkQ, hsc, ← hSB])
 have hRE : Hid (Qhr x p hs ≠ 0 → sndR x p hs = []) := hid (fun h => by rw [sndR, if_neg h])
 have hRB : Hid (Qhr x p hs = 0 → sndR x p hs = bldR x (lcK KD) SB hs) := hid (fun h => by
  have h' := h
  rw [hE.out, Qda] at h'
  rw [sndR, if_pos h, bldR, if_pos (h' _ (by simp)), hB.out])
 have hBu := hid (fun Bs cb w h1 h2 h3 => Qxv KD hKD2 A Bs H nx cx 480 cb n ch x SB hs w h1 hnx h2 (by omega) h3 hn)
 have hfr0 : Hid (prtE p = 0 → (Qa4 p).length = 480) := hid (fun h => Qei p (Qfj h).2.1)
 have hSBd : Hid (SB = if FE = 0 then Qa4 p else QCK 480 0) := hid (by rw [hSB, hFE]; rfl)
 have hFEd : Hid (FE = if prtE p = 0 ∧ p.kd = 3 then 3 else prtE p) := hid hFE
 have hKDd : Hid (KD = if p.kd = 2 then 3 else 2) := hid hKD
 have hz8 : Hid (QCK 480 (Value.int .u8 0) = (QCK 480 (0 : UInt8)).map W8) := hid (by rw [QDs]; rfl)
 clear hSB hFE hKD hsc hbd hR hB hKD2
 have bc2 := QjA 2
 have bc3 := QjA 3
 generalize frmR p = FR at *
 generalize Qa4 p = FB at *
 generalize sndR x p hs = R at *
 generalize Qhr x p hs = E at *
 generalize prtE p = PE at *
 generalize Qc6 x (lcK KD) SB hs = BE at *
 generalize bldR x (lcK KD) SB hs = BR at *
 go_enter Tryz.func5, Tryz.ntmps5
 go_wp2_with (first
  | (refine Qgm rfl _ rfl (B0.nth 0 rfl) rfl ?_)
  | fail)
 (refine (hFr.out _ (hd.later B0.lat)).mono ?_); rintro e w1 ⟨A1, c1, rfl, o1, j1⟩
 have B1 := B0.later j1
 have kc1 := (QaO (B1.nth 0 rfl)).1
 have hl1 := (B1.nth 0 rfl).lt
 clear B0 hFr hd j1
 by_cases hp0 : PE = 0
 · subst hp0
   have hFRv : FR = FB := hFB.out.trans (if_pos rfl)
   have hfl := hfr0.out rfl
   rw [hFRv, hfl] at o1
   rw [hFRv, hfl]
   cases h3 : (p.kd == 3)
   · have hk3 : p.kd ≠ 3 := by simpa using h3
     obtain rfl : FE = 0 := hFEd.out.trans (if_neg (fun h => hk3 h.2))
     cases h2 : (p.kd == 2)
     · obtain rfl : KD = 2 := hKDd.out.trans (if_neg (by simpa using h2))
       have hSBv := hid (hSBd.out.trans (if_pos rfl))
       go_wp2_with (first
        | (refine Qal rfl 54 _ rfl (CC (lcK 2)) (by simp only [QC0, QDh, QC9]; exact bc2) ?_)
        | (refine QbO rfl rfl _ _ rfl (Blk.new w1 _ cz0) rfl rfl rfl ?_; intro w3 hb3 ho3
           have B3 := B1.push (Qaa _ _) (QCX _) ho3 hb3
           have kc3 := (QaO (B3.nth 1 rfl)).1
           have hl3' := (B3.nth 1 rfl).lt)
        | (refine Qc5 rfl _ rfl (B3.nth 0 rfl) rfl ?_)
        | fail)
       have oF := Qao (QaC (Qao o1 (Qaa w1 (.cells cz0.toArray 54))) (Blk.new w1 _ cz0) (by decide) ho3) (Later.refl _)
       (refine (hBu.out _ _ _ (hx.later B3.lat) (by rw [hSBv.out]; exact Qcc oF) (hh.later B3.lat)).mono ?_); rintro e w5 ⟨A5, c5, rfl, o5, j5⟩
       have L5 := B3.lat.trans j5
       have J := Qaa w5 (.cells #[.int .i64 (0 : Int), .int .i64 (BE : Int)] 3)
       have hls := hid (QeO (some ⟨w5.heap.size, 0, none⟩) 2 2 [0, BE] _ ((Blk.new w5 3 [.int .i64 (0 : Int), .int .i64 (BE : Int)]).rd rfl) (by omega))
       rw [← hE.out] at hls
       go_wp2_with fail
       refine hls.out.mono ?_; rintro e w6 ⟨rfl, j6⟩
       have o6 := Qa5 (Qao o5 (J.trans j6)) B3.lat.size
       have L6 := L5.trans (J.trans j6)
       by_cases hEz : E = 0
       · have hX := hid (hRB.out hEz)
         subst hEz
         go_wp2_with fail
         go_ret2
         exact ⟨A5, c5, by rw [hX.out]; rfl, by rw [hX.out]; exact o6, L6⟩
       · have hX := hid (hRE.out hEz)
         have hne9 : ((E : Int) != 0) = true := by simp; omega
         go_wp2_with fail
         go_ret2
         exact ⟨none, 0, by rw [hX.out]; rfl, by rw [hX.out]; exact Qbb _ _ _, L6⟩
     · obtain rfl : KD = 3 := hKDd.out.trans (if_pos (by simpa using h2))
       have hSBv := hid (hSBd.out.trans (if_pos rfl))
       go_wp2_with (first
        | (refine Qal rfl 54 _ rfl (CC (lcK 2)) (by simp only [QC0, QDh, QC9]; exact bc2) ?_)
        | (refine QbO rfl rfl _ _ rfl (Blk.new w1 _ cz0) rfl rfl rfl ?_; intro w3 hb3 ho3
           have B3 := B1.push (Qaa _ _) (QCX _) ho3 hb3
           have kc3 := (QaO (B3.nth 1 rfl)).1
           have hl3' := (B3.nth 1 rfl).lt)
        | (refine Qal rfl 54 _ rfl (CC (lcK 3)) (by simp only [QC0, QDh, QC9]; exact bc3) ?_)
        | (refine QbO rfl rfl _ _ rfl (B3.nth 0 rfl) rfl rfl (Qap _) ?_; intro w4 hb4 ho4
           have B4 := B3.write 0 rfl ho4 hb4)
        | (refine Qc5 rfl _ rfl (B4.nth 0 rfl) rfl ?_)
        | fail)
       have oF := QaC (QaC (Qao o1 (Qaa w1 (.cells cz0.toArray 54))) (Blk.new w1 _ cz0) (by decide) ho3) (B3.nth 0 rfl) (by decide) ho4
       (refine (hBu.out _ _ _ (hx.later B4.lat) (by rw [hSBv.out]; exact Qcc oF) (hh.later B4.lat)).mono ?_); rintro e w5 ⟨A5, c5, rfl, o5, j5⟩
       have L5 := B4.lat.trans j5
       have J := Qaa w5 (.cells #[.int .i64 (0 : Int), .int .i64 (BE : Int)] 3)
       have hls := hid (QeO (some ⟨w5.heap.size, 0, none⟩) 2 2 [0, BE] _ ((Blk.new w5 3 [.int .i64 (0 : Int), .int .i64 (BE : Int)]).rd rfl) (by omega))
       rw [← hE.out] at hls
       go_wp2_with fail
       refine hls.out.mono ?_; rintro e w6 ⟨rfl, j6⟩
       have o6 := Qa5 (Qao o5 (J.trans j6)) B4.lat.size
       have L6 := L5.trans (J.trans j6)
       by_cases hEz : E = 0
       · have hX := hid (hRB.out hEz)
         subst hEz
         go_wp2_with fail
         go_ret2
         exact ⟨A5, c5, by rw [hX.out]; rfl, by rw [hX.out]; exact o6, L6⟩
       · have hX := hid (hRE.out hEz)
         have hne9 : ((E : Int) != 0) = true := by simp; omega
         go_wp2_with fail
         go_ret2
         exact ⟨none, 0, by rw [hX.out]; rfl, by rw [hX.out]; exact Qbb _ _ _, L6⟩
   · have hk3 : p.kd = 3 := by simpa using h3
     obtain rfl : FE = 3 := hFEd.out.trans (if_pos ⟨rfl, hk3⟩)
     have h2 : (p.kd == 2) = false := by rw [hk3]; decide
     obtain rfl : KD = 2 := hKDd.out.trans (if_neg (by rw [hk3]; decide))
     clear hk3
     have hSBv := hid (hSBd.out.trans (if_neg (by decide)))
     go_wp2_with (first
      | (refine Qax rfl _ _ _ rfl 5 _ 1 Tryz.underlying22 Qbl rfl _ _ _ _ 480 rfl rfl rfl rfl (by omega) (by omega) ?_; intro w2 hb2 hl2
         have B2 := B1.fresh hl2 (QCX _) (hb2.cast hz8.out)
         have kc2 := (QaO (B2.nth 1 rfl)).1
         have hl2' := (B2.nth 1 rfl).lt)
      | (refine Qal rfl 54 _ rfl (CC (lcK 2)) (by simp only [QC0, QDh, QC9]; exact bc2) ?_)
      | (refine QbO rfl rfl _ _ rfl (Blk.new w2 _ cz0) rfl rfl rfl ?_; intro w3 hb3 ho3
         have B3 := B2.push (Qaa _ _) (QCX _) ho3 hb3
         have kc3 := (QaO (B3.nth 2 rfl)).1
         have hl3' := (B3.nth 2 rfl).lt)
      | (refine Qc5 rfl _ rfl (B3.nth 0 rfl) rfl ?_)
      | fail)
     (refine (hBu.out _ 480 _ (hx.later B3.lat) (by rw [hSBv.out]; exact (B3.nth 1 rfl).rd (by rw [QCP, QCY])) (hh.later B3.lat)).mono ?_); rintro e w5 ⟨A5, c5, rfl, o5, j5⟩
     have L5 := B3.lat.trans j5
     have J := Qaa w5 (.cells #[.int .i64 (3 : Int), .int .i64 (BE : Int)] 3)
     have hls := hid (QeO (some ⟨w5.heap.size, 0, none⟩) 2 2 [3, BE] _ ((Blk.new w5 3 [.int .i64 (3 : Int), .int .i64 (BE : Int)]).rd rfl) (by omega))
     rw [← hE.out] at hls
     go_wp2_with fail
     refine hls.out.mono ?_; rintro e w6 ⟨rfl, j6⟩
     have o6 := Qa5 (Qao o5 (J.trans j6)) B3.lat.size
     have L6 := L5.trans (J.trans j6)
     by_cases hEz : E = 0
     · have hX := hid (hRB.out hEz)
       subst hEz
       go_wp2_with fail
       go_ret2
       exact ⟨A5, c5, by rw [hX.out]; rfl, by rw [hX.out]; exact o6, L6⟩
     · have hX := hid (hRE.out hEz)
       have hne9 : ((E : Int) != 0) = true := by simp; omega
       go_wp2_with fail
       go_ret2
       exact ⟨none, 0, by rw [hX.out]; rfl, by rw [hX.out]; exact Qbb _ _ _, L6⟩
 · obtain rfl : FE = PE := hFEd.out.trans (if_neg (fun h => hp0 h.1))
   have hpe := hid hp0
   have f0 : ((FE : Int) == 0) = false := by simp; omega
   have f1 : ((FE : Int) != 0) = true := by simp; omega
   clear hp0
   cases h2 : (p.kd == 2)
   · obtain rfl : KD = 2 := hKDd.out.trans (if_neg (by simpa using h2))
     have hSBv := hid (hSBd.out.trans (if_neg (by exact hpe.out)))
     go_wp2_with (first
      | (refine Qax rfl _ _ _ rfl 5 _ 1 Tryz.underlying22 Qbl rfl _ _ _ _ 480 rfl rfl rfl rfl (by omega) (by omega) ?_; intro w2 hb2 hl2
         have B2 := B1.fresh hl2 (QCX _) (hb2.cast hz8.out)
         have kc2 := (QaO (B2.nth 1 rfl)).1
         have hl2' := (B2.nth 1 rfl).lt)
      | (refine Qal rfl 54 _ rfl (CC (lcK 2)) (by simp only [QC0, QDh, QC9]; exact bc2) ?_)
      | (refine QbO rfl rfl _ _ rfl (Blk.new w2 _ cz0) rfl rfl rfl ?_; intro w3 hb3 ho3
         have B3 := B2.push (Qaa _ _) (QCX _) ho3 hb3
         have kc3 := (QaO (B3.nth 2 rfl)).1
         have hl3' := (B3.nth 2 rfl).lt)
      | (refine Qc5 rfl _ rfl (B3.nth 0 rfl) rfl ?_)
      | fail)
     (refine (hBu.out _ 480 _ (hx.later B3.lat) (by rw [hSBv.out]; exact (B3.nth 1 rfl).rd (by rw [QCP, QCY])) (hh.later B3.lat)).mono ?_); rintro e w5 ⟨A5, c5, rfl, o5, j5⟩
     have L5 := B3.lat.trans j5
     have J := Qaa w5 (.cells #[.int .i64 (FE : Int), .int .i64 (BE : Int)] 3)
     have hls := hid (QeO (some ⟨w5.heap.size, 0, none⟩) 2 2 [FE, BE] _ ((Blk.new w5 3 [.int .i64 (FE : Int), .int .i64 (BE : Int)]).rd rfl) (by omega))
     rw [← hE.out] at hls
     go_wp2_with fail
     refine hls.out.mono ?_; rintro e w6 ⟨rfl, j6⟩
     have o6 := Qa5 (Qao o5 (J.trans j6)) B3.lat.size
     have L6 := L5.trans (J.trans j6)
     by_cases hEz : E = 0
     · have hX := hid (hRB.out hEz)
       subst hEz
       go_wp2_with fail
       go_ret2
       exact ⟨A5, c5, by rw [hX.out]; rfl, by rw [hX.out]; exact o6, L6⟩
     · have hX := hid (hRE.out hEz)
       have hne9 : ((E : Int) != 0) = true := by simp; omega
       go_wp2_with fail
       go_ret2
       exact ⟨none, 0, by rw [hX.out]; rfl, by rw [hX.out]; exact Qbb _ _ _, L6⟩
   · obtain rfl : KD = 3 := hKDd.out.trans (if_pos (by simpa using h2))
     have hSBv := hid (hSBd.out.trans (if_neg (by exact hpe.out)))
     go_wp2_with (first
      | (refine Qax rfl _ _ _ rfl 5 _ 1 Tryz.underlying22 Qbl rfl _ _ _ _ 480 rfl rfl rfl rfl (by omega) (by omega) ?_; intro w2 hb2 hl2
         have B2 := B1.fresh hl2 (QCX _) (hb2.cast hz8.out)
         have kc2 := (QaO (B2.nth 1 rfl)).1
         have hl2' := (B2.nth 1 rfl).lt)
      | (refine Qal rfl 54 _ rfl (CC (lcK 2)) (by simp only [QC0, QDh, QC9]; exact bc2) ?_)
      | (refine QbO rfl rfl _ _ rfl (Blk.new w2 _ cz0) rfl rfl rfl ?_; intro w3 hb3 ho3
         have B3 := B2.push (Qaa _ _) (QCX _) ho3 hb3
         have kc3 := (QaO (B3.nth 2 rfl)).1
         have hl3' := (B3.nth 2 rfl).lt)
      | (refine Qal rfl 54 _ rfl (CC (lcK 3)) (by simp only [QC0, QDh, QC9]; exact bc3) ?_)
      | (refine QbO rfl rfl _ _ rfl (B3.nth 0 rfl) rfl rfl (Qap _) ?_; intro w4 hb4 ho4
         have B4 := B3.write 0 rfl ho4 hb4)
      | (refine Qc5 rfl _ rfl (B4.nth 0 rfl) rfl ?_)
      | fail)
     (refine (hBu.out _ 480 _ (hx.later B4.lat) (by rw [hSBv.out]; exact (B4.nth 1 rfl).rd (by rw [QCP, QCY])) (hh.later B4.lat)).mono ?_); rintro e w5 ⟨A5, c5, rfl, o5, j5⟩
     have L5 := B4.lat.trans j5
     have J := Qaa w5 (.cells #[.int .i64 (FE : Int), .int .i64 (BE : Int)] 3)
     have hls := hid (QeO (some ⟨w5.heap.size, 0, none⟩) 2 2 [FE, BE] _ ((Blk.new w5 3 [.int .i64 (FE : Int), .int .i64 (BE : Int)]).rd rfl) (by omega))
     rw [← hE.out] at hls
     go_wp2_with fail
     refine hls.out.mono ?_; rintro e w6 ⟨rfl, j6⟩
     have o6 := Qa5 (Qao o5 (J.trans j6)) B4.lat.size
     have L6 := L5.trans (J.trans j6)
     by_cases hEz : E = 0
     · have hX := hid (hRB.out hEz)
       subst hEz
       go_wp2_with fail
       go_ret2
       exact ⟨A5, c5, by rw [hX.out]; rfl, by rw [hX.out]; exact o6, L6⟩
     · have hX := hid (hRE.out hEz)
       have hne9 : ((E : Int) != 0) = true := by simp; omega
       go_wp2_with fail
       go_ret2
       exact ⟨none, 0, by rw [hX.out]; rfl, by rw [hX.out]; exact Qbb _ _ _, L6⟩
end Go.Proofs.YtadfeclgoclalaaGreat
namespace Go.Proofs.YtadfeclgoclalaaGreat
open Go.RowKit
open Go.BigFrame
def recC (k p : List UInt8) : Cmd := if recE k p = 0 then unwC k p else cmd0
def recB (k p : List UInt8) : List UInt8 := if recE k p = 0 then unwB k p else []
def recP (k p : List UInt8) : Prt := if recE k p = 0 ∧ (unwC k p).kd ≠ 4 then parP (unwB k p) else prt0
theorem Quq {k p : List UInt8} (hp : p.length = 768) (h0 : unwE k p = 0) (h1 : (unwC k p).kd ≠ 1) : (unwB k p).length = 480 := by
 by_cases hm : Qbe k (p.take 32) = 0
 · rw [unwE, if_pos hm] at h0
   rw [unwC, if_pos hm] at h1
   rw [unwB, if_pos hm, relB, if_pos ⟨h0, h1⟩, Qga _ _ hp (Qd6 _ _)]
 · rw [unwE, if_neg hm] at h0
   exact absurd h0 hm
def Qtr (v1 v2 : Value) : Prop := ∀ b1 b2, v1.ownBlock = some b1 → v2.ownBlock = some b2 → b2 < b1
theorem QdP (n c : Nat) (v : Value) : Qtr (.slice none n c) v := fun _ _ h => by cases h
theorem QdW (w : World) (base : Nat) {l : List UInt8} (h : l = []) : OwnB w base none l.length 0 l := by subst h; exact Qbb _ _ _
set_option maxRecDepth 100000 in
set_option maxHeartbeats 8000000 in
theorem QsR (A : Option Addr) (n c : Nat) (k p : List UInt8) (w : World) (hk : RdB w A n k) (hn : n ≤ 140737488355328) (hp : p.length = 768) :
 Calls Tryz.prog 13 #[.slice A n c, .agg (p.map W8).toArray] w fun e w' => ∃ A1 c1 A2 c2, e = .returned (.tuple #[.agg (PaC (recP k p) (.slice A1 (recP k p).da.length c1)).toArray, .agg (PC (recC k p) z768 (.slice A2 (recB k p).length c2)).toArray, .int .i64 (recE k p : Nat)]) ∧
  OwnB w' w.heap.size A1 (recP k p).da.length c1 (recP k p).da ∧ OwnB w' w.heap.size A2 (recB k p).length c2 (recB k p) ∧ Qtr (.slice A1 (recP k p).da.length c1) (.slice A2 (recB k p).length c2) ∧ Later w w' := by
 have HZ := hid zcPe
 have C1 := Qbg w 45 (p.map W8)
 have C2 := C1.add (Qaa _ (.cells pz0.toArray 25)) (k := w.heap.size + 1) (by simp) (by omega) (Blk.new' _ _ pz0 (by simp))
 have C3 := C2.add (Qaa _ (.cells Tryz.zeroCells58 58)) (k := w.heap.size + 2) (by simp) (by omega) ((Blk.new' _ _ Tryz.zeroCells58.toList (by simp)).cast HZ.out)
 clear C1 C2
 have hU := hid (fun (w : World) h => Qhc A n c k p w h hn hp)
 have hR : Hid (recE k p = if unwE k p ≠ 0 then unwE k p else if (unwC k p).kd = 1 then 10 else if (unwC k p).kd = 4 then 0 else if parE (unwB k p) ≠ 0 then parE (unwB k p) else if (parP (unwB k p)).kd ≠ (if (unwC k p).kd = 3 then 2 else 1) then 10 else 0) := hid rfl
 have hRC : Hid (recC k p = if recE k p = 0 then unwC k p else cmd0) := hid rfl
 have hRB : Hid (recB k p = if recE k p = 0 then unwB k p else []) := hid rfl
 have hRP : Hid (recP k p = if recE k p = 0 ∧ (unwC k p).kd ≠ 4 then parP (unwB k p) else prt0) := hid rfl
 have hPl := Qe1 k p hp
 have hBl := hid (fun h0 h1 => Quq (k := k) hp h0 h1)
 have hlast := hid (fun h => Qvi (k := k) (p := p) h)
 have hF := hid (fun (w : World) A' c' h hc => QpS A' c' (unwB k p) w h hc)
 generalize recE k p = RE at *
 generalize recC k p = RC at *
 generalize recB k p = RB at *
 generalize recP k p = RP at *
 generalize unwE k p = UE at *
 generalize unwC k p = UC at *
 generalize unwP k p = UP at *
 generalize unwB k p = UB at *
 generalize parE UB = FE at *
 generalize parP UB = FP at *
 have hb0 := Qi4
 have hb1 := Qmf
 have hzl : (PC cmd0 z768 nil8).length = 789 := QaG _ QaF _
 have z768l := QaF
 go_enter Tryz.func13, Tryz.ntmps13
 go_wp2_with (first
  | (refine QiV rfl _ rfl (C3.nth 2 rfl) hp rfl ?_)
  | fail)
 (refine (hU.out _ (hk.later C3.lat)).mono ?_); rintro e w4 ⟨A4, c4, rfl, o4, j4⟩
 have C4 := C3.later j4
 have o5 := Qao (Qa5 o4 C3.lat.size) (Qaa w4 (.cells Tryz.zeroCells58 58))
 have hnb : Blk (w4.alloc (.cells Tryz.zeroCells58 58)) w4.heap.size 58 Tryz.zeroCells58.toList := Blk.new w4 _ _
 clear C3 j4 o4 hU
 by_cases h0 : UE = 0
 · subst h0
   replace hR := hid (hR.out.trans (if_neg (by simp)))
   have hn1 : (UC.kd != 1) = !(UC.kd == 1) := rfl
   cases hk1 : (UC.kd == 1)
   · have hk1n : UC.kd ≠ 1 := by simpa using hk1
     replace hR := hid (hR.out.trans (if_neg hk1n))
     have hB480 := hid (hBl.out (by trivial) hk1n)
     have hUP := hlast.out hk1n
     subst hUP
     clear hBl hlast
     go_wp2_with (first
      | (refine Qbp rfl rfl _ _ rfl ((Blk.new w4 _ Tryz.zeroCells58.toList).cast HZ.out) rfl rfl hPl rfl hzl ?_; intro w6 hb6 ho6
         have C6 := C4.push (Qaa _ _) (QCX _) ho6 hb6
         have o6 := QaC o5 hnb (by decide) ho6)
      | (refine Qg3 rfl _ rfl (C6.nth 0 rfl) rfl ?_)
      | fail)
     (with_reducible refine (Qg2 UC _).mono ?_); rintro e w7 ⟨rfl, j7⟩
     rw [hk1]
     have C7 := C6.later j7
     have o7 := Qao o6 j7
     have x0 := (C7.nth 0 rfl).cellD 0 (Qeb _ _ _ 0 _ rfl)
     have x8 := (C7.nth 0 rfl).cellD 788 (Qlg _ z768l _)
     have y0 := (C7.nth 0 rfl).lt
     cases hk4 : (UC.kd == 4)
     · have hk4n : UC.kd ≠ 4 := by simpa using hk4
       replace hR := hid (hR.out.trans (if_neg hk4n))
       have o7' := o7
       rw [hB480.out] at o7' x8
       go_wp2_with fail
       (refine (hF.out _ _ _ (OwnB.rd o7') (OwnB.cap o7')).mono ?_); rintro e w8 ⟨A8, c8, rfl, o8, j8⟩
       have C8 := C7.later j8
       have q7 := Qao (Qao o7 j8) (Qaa w8 (.cells pz0.toArray 25))
       have q8 := Qao o8 (Qaa w8 (.cells pz0.toArray 25))
       have hnp : Blk (w8.alloc (.cells pz0.toArray 25)) w8.heap.size 25 pz0 := Blk.new w8 _ _
       have hbeh : Qtr (.slice A8 FP.da.length c8) (.slice A4 UB.length c4) := fun b1 b2 h1 h2 => by
        have e1 := (World.ownsRow.lt o8 b1 h1).1
        have e2 := (World.ownsRow.lt o7 b2 h2).2
        omega
       clear o7 o7' o8 j8 hF
       by_cases hf0 : FE = 0
       · subst hf0
         replace hR := hid (hR.out.trans (if_neg (by simp)))
         obtain ⟨mt, hmt⟩ : ∃ mt : UInt8, mt = if UC.kd = 3 then 2 else 1 := ⟨_, rfl⟩
         rw [← hmt] at hR
         have hm3 : Hid ((UC.kd == 3) = true → mt = 2) := hid (fun h => by rw [hmt, if_pos (by simpa using h)])
         have hm1 : Hid ((UC.kd == 3) = false → mt = 1) := hid (fun h => by rw [hmt, if_neg (by simpa using h)])
         clear hmt
         cases hk3 : (UC.kd == 3)
         · have hmt := hm1.out hk3
           subst hmt
           have hn2 : (FP.kd != 1) = !(FP.kd == 1) := rfl
           cases hfk : (FP.kd == 1)
           · rw [hfk] at hn2
             replace hR := hid (hR.out.trans (if_pos (show FP.kd ≠ 1 by simpa using hfk)))
             have hr0 : RE ≠ 0 := by rw [hR.out]; decide
             have HC : RC = cmd0 := by rw [hRC.out, if_neg hr0]
             have HB : RB = [] := by rw [hRB.out, if_neg hr0]
             have HP : RP = prt0 := by rw [hRP.out, if_neg (fun h => hr0 h.1)]
             replace HC := hid HC
             replace HB := hid HB
             replace HP := hid HP
             clear hr0
             go_wp2_with (first
              | (refine Qbq rfl rfl _ _ rfl (Blk.new w8 _ pz0) rfl rfl rfl rfl ?_; intro w9 hb9 ho9
                 have C9 := C8.push (Qaa _ _) (QCX _) ho9 hb9
                 have r7 := QaC q7 hnp (by decide) ho9
                 have r8 := QaC q8 hnp (by decide) ho9
                 have z0 := (C9.nth 1 rfl).cellD 0 (Qeb _ _ _ 0 _ rfl)
                 have z1 := (QaO (C9.nth 0 rfl)).1
                 have u0 := (C9.nth 0 rfl).lt
                 have u1 := (C9.nth 1 rfl).lt)
              | (refine Qal rfl 25 _ rfl (PaC prt0 (.slice none 0 0)) (by simp only [QC0, QC9]; exact hb1) ?_)
              | (refine Qal rfl 58 _ rfl (PC cmd0 z768 nil8) (by simp only [QC0, QC9]; exact hb0) ?_)
              | (refine Qbq rfl rfl _ _ rfl (C9.nth 3 rfl) rfl rfl rfl rfl ?_; intro e7 eb7 eo7
                 have E7 := C9.write 3 rfl eo7 eb7)
              | (refine Qbp rfl rfl _ _ rfl (E7.nth 2 rfl) rfl rfl z768l rfl hzl ?_; intro e8 eb8 eo8
                 have E8 := E7.write 2 rfl eo8 eb8)
              | fail)
             exact bodyPost_ret (Qbs rfl _ _ _ _ _ _ _ _ _ _ (E8.nth 3 rfl) rfl Tryz.underlying25 rfl (by rw [QaP]; exact QcE) (E8.nth 2 rfl) rfl Tryz.underlying58 rfl (by rw [QaG _ z768l]; exact Qb8)) rfl ⟨none, 0, none, 0, by rw [hR.out, HC.out, HB.out, HP.out]; rfl, QdW _ _ (by rw [HP.out]; rfl), QdW _ _ HB.out, QdP _ _ _, E8.lat⟩
           · rw [hfk] at hn2
             replace hR := hid (hR.out.trans (if_neg (show ¬ FP.kd ≠ 1 by simpa using hfk)))
             have HC : RC = UC := by rw [hRC.out, if_pos hR.out]
             have HB : RB = UB := by rw [hRB.out, if_pos hR.out]
             have HP : RP = FP := by rw [hRP.out, if_pos ⟨hR.out, hk4n⟩]
             replace HC := hid HC
             replace HB := hid HB
             replace HP := hid HP
             go_wp2_with (first
              | (refine Qbq rfl rfl _ _ rfl (Blk.new w8 _ pz0) rfl rfl rfl rfl ?_; intro w9 hb9 ho9
                 have C9 := C8.push (Qaa _ _) (QCX _) ho9 hb9
                 have r7 := QaC q7 hnp (by decide) ho9
                 have r8 := QaC q8 hnp (by decide) ho9
                 have z0 := (C9.nth 1 rfl).cellD 0 (Qeb _ _ _ 0 _ rfl)
                 have z1 := (QaO (C9.nth 0 rfl)).1
                 have u0 := (C9.nth 0 rfl).lt
                 have u1 := (C9.nth 1 rfl).lt)
              | fail)
             have nA := C9.ne 0 2 rfl rfl (by decide)
             have nB := C9.ne 0 3 rfl rfl (by decide)
             have nC := C9.ne 1 2 rfl rfl (by decide)
             have nD := C9.ne 1 3 rfl rfl (by decide)
             have C10 := C9.drew
             clear z0 z1 u0 u1
             refine QbP (Spared w9 [w.heap.size + 1, w.heap.size + 2]) [([0, 1], 2), ([], 3)] [4] (by as_aux_lemma => kernel_rfl) (by as_aux_lemma => kernel_rfl) (by intro _ _ d _ _ h; cases d <;> exact h) ⟨Spared.refl _ _, ?_⟩
             simp only [Qba, pick, QCL, QCM, QCN, QCO, QCQ]
             repeat (first | go_big_quiet_skip | (go_big_quiet_want; (first | refine QcM _ _ rfl 0 (PaC FP (.slice A8 FP.da.length c8)) (C9.nth 0 rfl) (by intro b hb; simp only [QC2, QC1, or_false] at hb; rcases hb with rfl | rfl <;> first | exact nA | exact nB) rfl (QcF _) _ Tryz.underlying25 rfl (by rw [QaP]; exact QcE) ?_ | refine QcM _ _ rfl 0 (PC UC z768 (.slice A4 UB.length c4)) (C9.nth 1 rfl) (by intro b hb; simp only [QC2, QC1, or_false] at hb; rcases hb with rfl | rfl <;> first | exact nC | exact nD) rfl (QcF _) _ Tryz.underlying58 rfl (by rw [QaG _ z768l]; exact Qb8) ?_); simp only [Act.put, QCT, QCW, QCV]; go_big_quiet_on) | (go_big_quiet_step (fail)) | (go_big_quiet_want; go_big_quiet_op; refine ⟨_, fun _ _ => rfl, ?_⟩; go_big_quiet_on))
             refine wpQuiet_nil ?_
             go_wp2_with (first
              | (refine Qbq rfl rfl _ _ rfl (C10.nth 3 rfl) rfl rfl rfl rfl ?_; intro w11 hb11 ho11
                 have C11 := C10.write 3 rfl ho11 hb11)
              | fail)
             have S11 := (Spared.refl w9 [w.heap.size + 1, w.heap.size + 2]).only ho11 (by simp)
             refine ⟨S11, ?_⟩
             try simp only [Qba, pick, QCL, QCM, QCN, QCO, QCQ]
             repeat (first | (go_big_quiet_step (fail)) | (go_big_quiet_want; go_big_quiet_op; refine ⟨_, fun _ _ => rfl, ?_⟩; go_big_quiet_on))
             refine wpQuiet_nil ?_
             go_wp2_with (first
              | (refine Qbp rfl rfl _ _ rfl (C11.nth 2 rfl) rfl rfl z768l rfl hzl ?_; intro w12 hb12 ho12
                 have C12 := C11.write 2 rfl ho12 hb12)
              | fail)
             refine ⟨S11.only ho12 (by simp), ?_⟩
             try simp only [Qba, pick, QCL, QCM, QCN, QCO, QCQ]
             repeat (first | (go_big_quiet_step (fail)) | (go_big_quiet_want; go_big_quiet_op; refine ⟨_, fun _ _ => rfl, ?_⟩; go_big_quiet_on))
             refine wpQuiet_nil ?_
             go_wp2_with fail
             have s7 := QaC (QaC (Qao r7 (Qab w9)) (C10.nth 3 rfl) (by decide) ho11) (C11.nth 2 rfl) (by decide) ho12
             have s8 := QaC (QaC (Qao r8 (Qab w9)) (C10.nth 3 rfl) (by decide) ho11) (C11.nth 2 rfl) (by decide) ho12
             exact bodyPost_ret (Qbs rfl _ _ _ _ _ _ _ _ _ _ (C12.nth 3 rfl) rfl Tryz.underlying25 rfl (by rw [QaP]; exact QcE) (C12.nth 2 rfl) rfl Tryz.underlying58 rfl (by rw [QaG _ z768l]; exact Qb8)) rfl ⟨A8, c8, A4, c4, by rw [hR.out, HC.out, HB.out, HP.out]; rfl, by rw [HP.out]; exact Qa5 s8 C7.lat.size, by rw [HB.out]; exact s7, by rw [HP.out, HB.out]; exact hbeh, C12.lat⟩
         · have hmt := hm3.out hk3
           subst hmt
           have hn2 : (FP.kd != 2) = !(FP.kd == 2) := rfl
           cases hfk : (FP.kd == 2)
           · rw [hfk] at hn2
             replace hR := hid (hR.out.trans (if_pos (show FP.kd ≠ 2 by simpa using hfk)))
             have hr0 : RE ≠ 0 := by rw [hR.out]; decide
             have HC : RC = cmd0 := by rw [hRC.out, if_neg hr0]
             have HB : RB = [] := by rw [hRB.out, if_neg hr0]
             have HP : RP = prt0 := by rw [hRP.out, if_neg (fun h => hr0 h.1)]
             replace HC := hid HC
             replace HB := hid HB
             replace HP := hid HP
             clear hr0
             go_wp2_with (first
              | (refine Qbq rfl rfl _ _ rfl (Blk.new w8 _ pz0) rfl rfl rfl rfl ?_; intro w9 hb9 ho9
                 have C9 := C8.push (Qaa _ _) (QCX _) ho9 hb9
                 have r7 := QaC q7 hnp (by decide) ho9
                 have r8 := QaC q8 hnp (by decide) ho9
                 have z0 := (C9.nth 1 rfl).cellD 0 (Qeb _ _ _ 0 _ rfl)
                 have z1 := (QaO (C9.nth 0 rfl)).1
                 have u0 := (C9.nth 0 rfl).lt
                 have u1 := (C9.nth 1 rfl).lt)
              | (refine Qal rfl 25 _ rfl (PaC prt0 (.slice none 0 0)) (by simp only [QC0, QC9]; exact hb1) ?_)
              | (refine Qal rfl 58 _ rfl (PC cmd0 z768 nil8) (by simp only [QC0, QC9]; exact hb0) ?_)
              | (refine Qbq rfl rfl _ _ rfl (C9.nth 3 rfl) rfl rfl rfl rfl ?_; intro e7 eb7 eo7
                 have E7 := C9.write 3 rfl eo7 eb7)
              | (refine Qbp rfl rfl _ _ rfl (E7.nth 2 rfl) rfl rfl z768l rfl hzl ?_; intro e8 eb8 eo8
                 have E8 := E7.write 2 rfl eo8 eb8)
              | fail)
             exact bodyPost_ret (Qbs rfl _ _ _ _ _ _ _ _ _ _ (E8.nth 3 rfl) rfl Tryz.underlying25 rfl (by rw [QaP]; exact QcE) (E8.nth 2 rfl) rfl Tryz.underlying58 rfl (by rw [QaG _ z768l]; exact Qb8)) rfl ⟨none, 0, none, 0, by rw [hR.out, HC.out, HB.out, HP.out]; rfl, QdW _ _ (by rw [HP.out]; rfl), QdW _ _ HB.out, QdP _ _ _, E8.lat⟩
           · rw [hfk] at hn2
             replace hR := hid (hR.out.trans (if_neg (show ¬ FP.kd ≠ 2 by simpa using hfk)))
             have HC : RC = UC := by rw [hRC.out, if_pos hR.out]
             have HB : RB = UB := by rw [hRB.out, if_pos hR.out]
             have HP : RP = FP := by rw [hRP.out, if_pos ⟨hR.out, hk4n⟩]
             replace HC := hid HC
             replace HB := hid HB
             replace HP := hid HP
             go_wp2_with (first
              | (refine Qbq rfl rfl _ _ rfl (Blk.new w8 _ pz0) rfl rfl rfl rfl ?_; intro w9 hb9 ho9
                 have C9 := C8.push (Qaa _ _) (QCX _) ho9 hb9
                 have r7 := QaC q7 hnp (by decide) ho9
                 have r8 := QaC q8 hnp (by decide) ho9
                 have z0 := (C9.nth 1 rfl).cellD 0 (Qeb _ _ _ 0 _ rfl)
                 have z1 := (QaO (C9.nth 0 rfl)).1
                 have u0 := (C9.nth 0 rfl).lt
                 have u1 := (C9.nth 1 rfl).lt)
              | fail)
             have nA := C9.ne 0 2 rfl rfl (by decide)
             have nB := C9.ne 0 3 rfl rfl (by decide)
             have nC := C9.ne 1 2 rfl rfl (by decide)
             have nD := C9.ne 1 3 rfl rfl (by decide)
             have C10 := C9.drew
             clear z0 z1 u0 u1
             refine QbP (Spared w9 [w.heap.size + 1, w.heap.size + 2]) [([0, 1], 2), ([], 3)] [4] (by as_aux_lemma => kernel_rfl) (by as_aux_lemma => kernel_rfl) (by intro _ _ d _ _ h; cases d <;> exact h) ⟨Spared.refl _ _, ?_⟩
             simp only [Qba, pick, QCL, QCM, QCN, QCO, QCQ]
             repeat (first | go_big_quiet_skip | (go_big_quiet_want; (first | refine QcM _ _ rfl 0 (PaC FP (.slice A8 FP.da.length c8)) (C9.nth 0 rfl) (by intro b hb; simp only [QC2, QC1, or_false] at hb; rcases hb with rfl | rfl <;> first | exact nA | exact nB) rfl (QcF _) _ Tryz.underlying25 rfl (by rw [QaP]; exact QcE) ?_ | refine QcM _ _ rfl 0 (PC UC z768 (.slice A4 UB.length c4)) (C9.nth 1 rfl) (by intro b hb; simp only [QC2, QC1, or_false] at hb; rcases hb with rfl | rfl <;> first | exact nC | exact nD) rfl (QcF _) _ Tryz.underlying58 rfl (by rw [QaG _ z768l]; exact Qb8) ?_); simp only [Act.put, QCT, QCW, QCV]; go_big_quiet_on) | (go_big_quiet_step (fail)) | (go_big_quiet_want; go_big_quiet_op; refine ⟨_, fun _ _ => rfl, ?_⟩; go_big_quiet_on))
             refine wpQuiet_nil ?_
             go_wp2_with (first
              | (refine Qbq rfl rfl _ _ rfl (C10.nth 3 rfl) rfl rfl rfl rfl ?_; intro w11 hb11 ho11
                 have C11 := C10.write 3 rfl ho11 hb11)
              | fail)
             have S11 := (Spared.refl w9 [w.heap.size + 1, w.heap.size + 2]).only ho11 (by simp)
             refine ⟨S11, ?_⟩
             try simp only [Qba, pick, QCL, QCM, QCN, QCO, QCQ]
             repeat (first | (go_big_quiet_step (fail)) | (go_big_quiet_want; go_big_quiet_op; refine ⟨_, fun _ _ => rfl, ?_⟩; go_big_quiet_on))
             refine wpQuiet_nil ?_
             go_wp2_with (first
              | (refine Qbp rfl rfl _ _ rfl (C11.nth 2 rfl) rfl rfl z768l rfl hzl ?_; intro w12 hb12 ho12
                 have C12 := C11.write 2 rfl ho12 hb12)
              | fail)
             refine ⟨S11.only ho12 (by simp), ?_⟩
             try simp only [Qba, pick, QCL, QCM, QCN, QCO, QCQ]
             repeat (first | (go_big_quiet_step (fail)) | (go_big_quiet_want; go_big_quiet_op; refine ⟨_, fun _ _ => rfl, ?_⟩; go_big_quiet_on))
             refine wpQuiet_nil ?_
             go_wp2_with fail
             have s7 := QaC (QaC (Qao r7 (Qab w9)) (C10.nth 3 rfl) (by decide) ho11) (C11.nth 2 rfl) (by decide) ho12
             have s8 := QaC (QaC (Qao r8 (Qab w9)) (C10.nth 3 rfl) (by decide) ho11) (C11.nth 2 rfl) (by decide) ho12
             exact bodyPost_ret (Qbs rfl _ _ _ _ _ _ _ _ _ _ (C12.nth 3 rfl) rfl Tryz.underlying25 rfl (by rw [QaP]; exact QcE) (C12.nth 2 rfl) rfl Tryz.underlying58 rfl (by rw [QaG _ z768l]; exact Qb8)) rfl ⟨A8, c8, A4, c4, by rw [hR.out, HC.out, HB.out, HP.out]; rfl, by rw [HP.out]; exact Qa5 s8 C7.lat.size, by rw [HB.out]; exact s7, by rw [HP.out, HB.out]; exact hbeh, C12.lat⟩
       · have hne : ((FE : Int) != 0) = true := by simp; omega
         replace hR := hid (hR.out.trans (if_pos hf0))
         have hr0 : RE ≠ 0 := by rw [hR.out]; exact hf0
         have HC : RC = cmd0 := by rw [hRC.out, if_neg hr0]
         have HB : RB = [] := by rw [hRB.out, if_neg hr0]
         have HP : RP = prt0 := by rw [hRP.out, if_neg (fun h => hr0 h.1)]
         replace HC := hid HC
         replace HB := hid HB
         replace HP := hid HP
         clear hr0
         go_wp2_with (first
          | (refine Qal rfl 25 _ rfl (PaC prt0 (.slice none 0 0)) (by simp only [QC0, QC9]; exact hb1) ?_)
          | (refine Qal rfl 58 _ rfl (PC cmd0 z768 nil8) (by simp only [QC0, QC9]; exact hb0) ?_)
          | (refine Qbq rfl rfl _ _ rfl (Blk.new w8 _ pz0) rfl rfl rfl rfl ?_; intro w9 hb9 ho9
             have C9 := C8.push (Qaa _ _) (QCX _) ho9 hb9)
          | (refine Qbq rfl rfl _ _ rfl (C9.nth 3 rfl) rfl rfl rfl rfl ?_; intro e7 eb7 eo7
             have E7 := C9.write 3 rfl eo7 eb7)
          | (refine Qbp rfl rfl _ _ rfl (E7.nth 2 rfl) rfl rfl z768l rfl hzl ?_; intro e8 eb8 eo8
             have E8 := E7.write 2 rfl eo8 eb8)
          | fail)
         exact bodyPost_ret (Qbs rfl _ _ _ _ _ _ _ _ _ _ (E8.nth 3 rfl) rfl Tryz.underlying25 rfl (by rw [QaP]; exact QcE) (E8.nth 2 rfl) rfl Tryz.underlying58 rfl (by rw [QaG _ z768l]; exact Qb8)) rfl ⟨none, 0, none, 0, by rw [hR.out, HC.out, HB.out, HP.out]; rfl, QdW _ _ (by rw [HP.out]; rfl), QdW _ _ HB.out, QdP _ _ _, E8.lat⟩
     · have hk4y : UC.kd = 4 := by simpa using hk4
       replace hR := hid (hR.out.trans (if_pos hk4y))
       have HC : RC = UC := by rw [hRC.out, if_pos hR.out]
       have HB : RB = UB := by rw [hRB.out, if_pos hR.out]
       have HP : RP = prt0 := by rw [hRP.out, if_neg (fun h => h.2 hk4y)]
       replace HC := hid HC
       replace HB := hid HB
       replace HP := hid HP
       clear hk4y
       have nA := C7.ne 0 1 rfl rfl (by decide)
       have nB := C7.ne 0 2 rfl rfl (by decide)
       have C8 := C7.drew
       go_wp2_with fail
       refine QbP (Spared w7 [w.heap.size + 1, w.heap.size + 2]) [([0, 1], 2), ([], 3)] [4] (by as_aux_lemma => kernel_rfl) (by as_aux_lemma => kernel_rfl) (by intro _ _ d _ _ h; cases d <;> exact h) ⟨Spared.refl _ _, ?_⟩
       simp only [Qba, pick, QCL, QCM, QCN, QCO, QCQ]
       repeat (first | go_big_quiet_skip | (go_big_quiet_want; (first | refine Qbu _ _ rfl (PaC prt0 (.slice none 0 0)) (by simp only [QC0, QC9]; exact hb1) ?_ | refine QcM _ _ rfl 0 (PC UC z768 (.slice A4 UB.length c4)) (C7.nth 0 rfl) (by intro b hb; simp only [QC2, QC1, or_false] at hb; rcases hb with rfl | rfl <;> first | exact nA | exact nB) rfl (QcF _) _ Tryz.underlying58 rfl (by rw [QaG _ z768l]; exact Qb8) ?_); simp only [Act.put, QCT, QCW, QCV]; go_big_quiet_on) | (go_big_quiet_step (fail)) | (go_big_quiet_want; go_big_quiet_op; refine ⟨_, fun _ _ => rfl, ?_⟩; go_big_quiet_on))
       refine wpQuiet_nil ?_
       go_wp2_with (first
        | (refine Qbq rfl rfl _ _ rfl (C8.nth 2 rfl) rfl rfl rfl rfl ?_; intro w9 hb9 ho9
           have C9 := C8.write 2 rfl ho9 hb9)
        | fail)
       have S9 := (Spared.refl w7 [w.heap.size + 1, w.heap.size + 2]).only ho9 (by simp)
       refine ⟨S9, ?_⟩
       try simp only [Qba, pick, QCL, QCM, QCN, QCO, QCQ]
       repeat (first | (go_big_quiet_step (fail)) | (go_big_quiet_want; go_big_quiet_op; refine ⟨_, fun _ _ => rfl, ?_⟩; go_big_quiet_on))
       refine wpQuiet_nil ?_
       go_wp2_with (first
        | (refine Qbp rfl rfl _ _ rfl (C9.nth 1 rfl) rfl rfl z768l rfl hzl ?_; intro w10 hb10 ho10
           have C10 := C9.write 1 rfl ho10 hb10)
        | fail)
       refine ⟨S9.only ho10 (by simp), ?_⟩
       try simp only [Qba, pick, QCL, QCM, QCN, QCO, QCQ]
       repeat (first | (go_big_quiet_step (fail)) | (go_big_quiet_want; go_big_quiet_op; refine ⟨_, fun _ _ => rfl, ?_⟩; go_big_quiet_on))
       refine wpQuiet_nil ?_
       go_wp2_with fail
       have o10 := QaC (QaC (Qao o7 (Qab w7)) (C8.nth 2 rfl) (by decide) ho9) (C9.nth 1 rfl) (by decide) ho10
       exact bodyPost_ret (Qbs rfl _ _ _ _ _ _ _ _ _ _ (C10.nth 2 rfl) rfl Tryz.underlying25 rfl (by rw [QaP]; exact QcE) (C10.nth 1 rfl) rfl Tryz.underlying58 rfl (by rw [QaG _ z768l]; exact Qb8)) rfl ⟨none, 0, A4, c4, by rw [hR.out, HC.out, HB.out, HP.out]; rfl, QdW _ _ (by rw [HP.out]; rfl), by rw [HB.out]; exact o10, QdP _ _ _, C10.lat⟩
   · have hk1y : UC.kd = 1 := by simpa using hk1
     replace hR := hid (hR.out.trans (if_pos hk1y))
     have hr0 : RE ≠ 0 := by rw [hR.out]; decide
     have HC : RC = cmd0 := by rw [hRC.out, if_neg hr0]
     have HB : RB = [] := by rw [hRB.out, if_neg hr0]
     have HP : RP = prt0 := by rw [hRP.out, if_neg (fun h => hr0 h.1)]
     replace HC := hid HC
     replace HB := hid HB
     replace HP := hid HP
     clear hr0
     clear hk1y hBl hlast
     go_wp2_with (first
      | (refine Qbp rfl rfl _ _ rfl ((Blk.new w4 _ Tryz.zeroCells58.toList).cast HZ.out) rfl rfl hPl rfl hzl ?_; intro w6 hb6 ho6
         have C6 := C4.push (Qaa _ _) (QCX _) ho6 hb6)
      | (refine Qg3 rfl _ rfl (C6.nth 0 rfl) rfl ?_)
      | fail)
     (with_reducible refine (Qg2 UC _).mono ?_); rintro e w7 ⟨rfl, j7⟩
     rw [hk1]
     have C7 := C6.later j7
     go_wp2_with (first
      | (refine Qal rfl 25 _ rfl (PaC prt0 (.slice none 0 0)) (by simp only [QC0, QC9]; exact hb1) ?_)
      | (refine Qal rfl 58 _ rfl (PC cmd0 z768 nil8) (by simp only [QC0, QC9]; exact hb0) ?_)
      | (refine Qbq rfl rfl _ _ rfl (C7.nth 2 rfl) rfl rfl rfl rfl ?_; intro e7 eb7 eo7
         have E7 := C7.write 2 rfl eo7 eb7)
      | (refine Qbp rfl rfl _ _ rfl (E7.nth 1 rfl) rfl rfl z768l rfl hzl ?_; intro e8 eb8 eo8
         have E8 := E7.write 1 rfl eo8 eb8)
      | fail)
     exact bodyPost_ret (Qbs rfl _ _ _ _ _ _ _ _ _ _ (E8.nth 2 rfl) rfl Tryz.underlying25 rfl (by rw [QaP]; exact QcE) (E8.nth 1 rfl) rfl Tryz.underlying58 rfl (by rw [QaG _ z768l]; exact Qb8)) rfl ⟨none, 0, none, 0, by rw [hR.out, HC.out, HB.out, HP.out]; rfl, QdW _ _ (by rw [HP.out]; rfl), QdW _ _ HB.out, QdP _ _ _, E8.lat⟩
 · have hne : ((UE : Int) != 0) = true := by simp; omega
   replace hR := hid (hR.out.trans (if_pos h0))
   have hr0 : RE ≠ 0 := by rw [hR.out]; exact h0
   have HC : RC = cmd0 := by rw [hRC.out, if_neg hr0]
   have HB : RB = [] := by rw [hRB.out, if_neg hr0]
   have HP : RP = prt0 := by rw [hRP.out, if_neg (fun h => hr0 h.1)]
   replace HC := hid HC
   replace HB := hid HB
   replace HP := hid HP
   clear hr0
   go_wp2_with (first
    | (refine Qbp rfl rfl _ _ rfl ((Blk.new w4 _ Tryz.zeroCells58.toList).cast HZ.out) rfl rfl hPl rfl hzl ?_; intro w6 hb6 ho6
       have C6 := C4.push (Qaa _ _) (QCX _) ho6 hb6)
    | (refine Qal rfl 25 _ rfl (PaC prt0 (.slice none 0 0)) (by simp only [QC0, QC9]; exact hb1) ?_)
    | (refine Qal rfl 58 _ rfl (PC cmd0 z768 nil8) (by simp only [QC0, QC9]; exact hb0) ?_)
    | (refine Qbq rfl rfl _ _ rfl (C6.nth 2 rfl) rfl rfl rfl rfl ?_; intro w7 hb7 ho7
       have C7 := C6.write 2 rfl ho7 hb7)
    | (refine Qbp rfl rfl _ _ rfl (C7.nth 1 rfl) rfl rfl z768l rfl hzl ?_; intro w8 hb8 ho8
       have C8 := C7.write 1 rfl ho8 hb8)
    | fail)
   exact bodyPost_ret (Qbs rfl _ _ _ _ _ _ _ _ _ _ (C8.nth 2 rfl) rfl Tryz.underlying25 rfl (by rw [QaP]; exact QcE) (C8.nth 1 rfl) rfl Tryz.underlying58 rfl (by rw [QaG _ z768l]; exact Qb8)) rfl ⟨none, 0, none, 0, by rw [hR.out, HC.out, HB.out, HP.out]; rfl, QdW _ _ (by rw [HP.out]; rfl), QdW _ _ HB.out, QdP _ _ _, C8.lat⟩
end Go.Proofs.YtadfeclgoclalaaGreat
namespace Go.Proofs.YtadfeclgoclalaaGreat
open Go.RowKit
open Go.BigFrame
theorem Qjw {x : List UInt8} {p : Prt} {hs : List Hp} (h : Qhr x p hs = 0) : prtE p = 0 ∧ p.kd ≠ 3 ∧ Qc6 x (Qds p) (Qa4 p) hs = 0 ∧ QkQ x p hs = QiO x (Qds p) (Qa4 p) hs := by
 rw [Qhr, Qda] at h
 have h1 : frmE p = 0 := h _ (by simp)
 have h2 : Qc6 x (Qds p) (QfU p) hs = 0 := h _ (by simp)
 have hb : QfU p = Qa4 p := by rw [QfU, if_pos h1]
 rw [hb] at h2
 have hp : prtE p = 0 ∧ p.kd ≠ 3 := by
  unfold frmE at h1
  split at h1
  · cases h1
  · rename_i hn
    exact ⟨h1, fun e => hn ⟨h1, e⟩⟩
 exact ⟨hp.1, hp.2, h2, by rw [QkQ, hb]⟩
def QeL (hs : List Hp) : List (List UInt8) := hs.map fun h => h.nod.priv.val
theorem QlB (hs : List Hp) (i : Nat) (hi : i < hs.length) : (QeL hs).getD i [] = (hs.getD i hp0).nod.priv.val := by
 rw [QeL, QCS, QC6, QCS, QCR hi]
 rfl
def arrP (p : Prt) (hs : List Hp) (Y : Nat → Y768) (i : Nat) : Pel := ⟨Qb9 (Qds p) hs i, Y (i + 1), if i + 1 < hs.length then [] else Qa4 p⟩
theorem Qtz {x : List UInt8} {p : Prt} {hs : List Hp} (h : Qhr x p hs = 0) (hfit : ∀ i, i < hs.length → QbF (hs.getD i hp0).nod.priv.val (nb 9) = (hs.getD i hp0).nod.pub.val) :
 ∃ Y : Nat → Y768, 1 ≤ hs.length ∧ QkQ x p hs = (Y 0).val ∧ Y hs.length = Qt2 ∧ (∀ i, i < hs.length → unwE (hs.getD i hp0).nod.priv.val (Y i).val = 0 ∧ unwL (hs.getD i hp0).nod.priv.val (Y i) = arrP p hs Y i ∧ ((Qb9 (Qds p) hs i).kd = 1 ↔ i + 1 < hs.length)) := by
 obtain ⟨_, _, hbe, hsb⟩ := Qjw h
 have hz := hbe
 rw [Qc6, Qda] at hz
 have hpe : Qf4 (Qds p) hs = 0 := hz _ (by simp)
 have hb3 : (if (Qa4 p).length = 480 then 0 else 2) = 0 := hz _ (by simp)
 have hb : (Qa4 p).length = 480 := by
  split at hb3
  · assumption
  · cases hb3
 obtain ⟨_, _, h1, h5, _, _⟩ := QeB hpe
 have hlen : ∀ i, (pktA hs.length (fun i => encB (Qb9 (Qds p) hs i)) (QcR x (pubH hs)) (Qa4 p) i).length = 768 := fun i => (QoI h1 h5 (fun _ => Qdj _) (fun _ => Qdq _ _ _) hb i).2.2
 refine ⟨fun i => if i < hs.length then ⟨pktA hs.length (fun i => encB (Qb9 (Qds p) hs i)) (QcR x (pubH hs)) (Qa4 p) i, hlen i⟩ else Qt2, h1, ?_, ?_, fun i hi => ?_⟩
 · simp only [if_pos (show 0 < hs.length by omega)]
   rw [hsb, QiO]
 · simp only [if_neg (Nat.lt_irrefl _)]
 · obtain ⟨u1, u2, u3, u4⟩ := Qmn x (Qds p) (Qa4 p) hs hbe hfit i hi
   simp only [if_pos hi]
   refine ⟨u1, ?_, (Qkm hpe hi).2⟩
   rw [unwL, arrP]
   simp only [u2, u4]
   congr 1
   apply Subtype.ext
   rw [unwY]
   simp only [u3]
   split
   · rfl
   · rfl
theorem Qr2 {x : List UInt8} {p : Prt} {b : List UInt8} {hs : List Hp} (h : Qc6 x (Qds p) b hs = 0) (k : Nat) (hk : k < hs.length) :
 ((Qb9 (Qds p) hs k).dl.toNat : Int) = (hs.getD k hp0).delay ∧ ((Qb9 (Qds p) hs k).fl.toNat : Int) = (hs.getD k hp0).flags ∧ (Qb9 (Qds p) hs k).ma = QaS ∧ (k + 1 < hs.length → (Qb9 (Qds p) hs k).nx = (hs.getD (k + 1) hp0).nod.id) ∧ (k + 1 = hs.length → (Qb9 (Qds p) hs k).kd = if p.kd = 2 then 3 else 2) := by
 rw [Qc6, Qda] at h
 obtain ⟨_, h2, _, _, _, _⟩ := QeB (show Qf4 (Qds p) hs = 0 from h _ (by simp))
 obtain ⟨d1, d2, f1, f2⟩ := QsJ (QzC h2 hk)
 have e1 := Qg0 (hs.getD k hp0).delay d1 (by omega)
 have e2 := Qd5 (hs.getD k hp0).flags f1 (by omega)
 unfold Qb9
 by_cases hl : k + 1 < hs.length
 · rw [if_pos hl]
   exact ⟨e1, e2, rfl, fun _ => rfl, fun h => absurd h (by omega)⟩
 · rw [if_neg hl]
   exact ⟨e1, e2, rfl, fun h => absurd h hl, fun _ => rfl⟩
theorem Qsi {p : Prt} {hs : List Hp} {Y : Nat → Y768} (hY : ∀ i, i < hs.length → unwE (hs.getD i hp0).nod.priv.val (Y i).val = 0 ∧ unwL (hs.getD i hp0).nod.priv.val (Y i) = arrP p hs Y i ∧ ((Qb9 (Qds p) hs i).kd = 1 ↔ i + 1 < hs.length)) :
 ∀ m k, k + m = hs.length → pelL ((QeL hs).drop k) (Y k) = (QDw m).map (fun i => arrP p hs Y (k + i)) ∧ pelE ((QeL hs).drop k) (Y k) = 0
 | 0, k, h => QrG (by rw [QeL, QCP]; omega)
 | m + 1, k, h => by
   have hk : k < (QeL hs).length := by rw [QeL, QCP]; omega
   obtain ⟨h1, h2, h3⟩ := hY k (by omega)
   have hC : unwC (hs.getD k hp0).nod.priv.val (Y k).val = Qb9 (Qds p) hs k := congrArg Pel.c h2
   have hP : unwY (hs.getD k hp0).nod.priv.val (Y k) = Y (k + 1) := congrArg Pel.P h2
   rw [← QlB hs k (by omega)] at h1 h2 hC hP
   by_cases hl : k + 1 < hs.length
   · obtain ⟨e1, e2⟩ := Qop hk h1 (by rw [hC]; exact h3.2 hl)
     rw [hP] at e1 e2
     obtain ⟨i1, i2⟩ := Qsi hY m (k + 1) (by omega)
     rw [e1, e2, i1, i2, h2, List.range_succ_eq_map, QDh, List.map_map]
     refine ⟨?_, rfl⟩
     rw [QEc]
     congr 1
     refine QEU fun i _ => ?_
     show arrP p hs Y (k + 1 + i) = arrP p hs Y (k + (i + 1))
     rw [show k + 1 + i = k + (i + 1) by omega]
   · obtain ⟨e1, e2⟩ := QoA hk h1 (by rw [hC]; exact fun e => hl (h3.1 e))
     obtain rfl : m = 0 := by omega
     rw [e1, e2, h2]
     exact ⟨rfl, rfl⟩
theorem Qxr {p : Prt} {hs : List Hp} {k : List UInt8} {q : Y768} {Y : Nat → Y768} {i : Nat} (hp : prtE p = 0) (h3 : p.kd ≠ 3) (h1 : unwE k q.val = 0) (h2 : unwL k q = arrP p hs Y i) (hi : i + 1 = hs.length) :
 recE k q.val = 0 ∧ recC k q.val = Qb9 (Qds p) hs i ∧ recB k q.val = Qa4 p ∧ recP k q.val = p := by
 have hC : unwC k q.val = Qb9 (Qds p) hs i := congrArg Pel.c h2
 have hB : unwB k q.val = Qa4 p := by
  have : unwB k q.val = if i + 1 < hs.length then [] else Qa4 p := congrArg Pel.B h2
  rw [this, if_neg (by omega)]
 obtain ⟨f1, f2⟩ := QmY p hp
 have hkd : (Qb9 (Qds p) hs i).kd = if p.kd = 2 then 3 else 2 := by
  rw [Qb9, if_neg (by omega)]
  rfl
 have hk := (Qfj hp).1
 have hp1 : p.kd ≠ 2 → p.kd = 1 := by
  intro hn
  rcases Qk7 p.kd with e | e | e | e
  · exact e
  · exact absurd e hn
  · exact absurd e h3
  · exact absurd e hk
 have hE : recE k q.val = 0 := by
  rw [recE, if_neg (by simp [h1]), hC, hB, hkd, f1, f2]
  by_cases e : p.kd = 2
  · rw [if_pos e, if_neg (by decide), if_neg (by decide), if_neg (by simp), if_pos rfl, if_neg (by simp [e])]
  · rw [if_neg e, if_neg (by decide), if_neg (by decide), if_neg (by simp), show (if (2 : UInt8) = 3 then (2 : UInt8) else 1) = 1 from rfl, if_neg (by simp [hp1 e])]
 have hk4 : (unwC k q.val).kd ≠ 4 := by
  rw [hC, hkd]
  split <;> decide
 exact ⟨hE, by rw [recC, if_pos hE, hC], by rw [recB, if_pos hE, hB], by rw [recP, if_pos ⟨hE, hk4⟩, hB, f2]⟩
end Go.Proofs.YtadfeclgoclalaaGreat
namespace Go.Proofs.YtadfeclgoclalaaGreat
open Go.RowKit
open Go.BigFrame
theorem Qoj : (Tryz.prog.info? 35).map (·.size) = some 68 := by kernel_rfl
theorem QvJ : Tryz.zeroCells35.toList.length = 68 := by kernel_rfl
theorem QtU {α : Type} {F : α → List Value} {sz : Nat} {d : α} {w : World} {A : Option Addr} {n m : Nat} {xs : List α} (h : RdF F sz d w A n xs) (hm : m ≤ n) : RdF F sz d w A m (xs.take m) := by
 refine ⟨by rw [QDe, h.1]; omega, fun h0 => ?_⟩
 obtain ⟨b, o, hA, hb, hc⟩ := h.2 (by omega)
 refine ⟨b, o, hA, hb, fun j i v hj hv => hc j i v (by omega) ?_⟩
 rw [QCS, QEx, if_pos hj] at hv
 rw [QCS]
 exact hv
theorem Qqj (hs : List Hp) (k : Nat) (h : k < hs.length) : (QeL hs).take (k + 1) = (QeL hs).take k ++ [(hs.getD k hp0).nod.priv.val] := by
 rw [QeL, QDl (by rw [QCP]; exact h), List.getElem_map, QCS, QCR h]
 rfl
theorem QzW (c : Cmd) (P : List UInt8) (v : Value) : ∀ j u, (c.ma.val.map W8)[j]? = some u → (PC c P v)[4 + j]? = some u := fun j u h => by
 have := Qeb c P v (4 + j) u (by rw [← Qr9, QDW] at h; exact h)
 rwa [QDf] at this
theorem QmV {ops : Array Oper} {o : Oper} {a : Act} (hw : Region.wanted o (yielded ops a.tmps) = true) (ho : o.op = .alloc 25) :
 Makes Tryz.prog ops o (fun g => .pointer (some ⟨g, 0, none⟩)) (.cells pz0.toArray 25) a :=
 ⟨hw, fun w => by
   unfold execOp
   rw [ho]
   simp [go_sem]⟩
theorem Qox : (Tryz.prog.info? 56).map (·.size) = some 20 := by kernel_rfl
set_option maxRecDepth 100000 in
set_option maxHeartbeats 8000000 in
theorem Qha (A D H : Option Addr) (nx cx nd cd nh ch : Nat) (x : List UInt8) (p : Prt) (hs0 : List Hp) (w : World) (hx : RdB w A nx x) (hnx : nx ≤ 1048576) (hd : RdB w D nd p.da) (hnd : nd ≤ 1048576) (hh : RdH w H nh hs0) (hnh : nh ≤ 1048576) (hch : nh ≤ ch) :
 Calls Tryz.prog 3 #[.slice A nx cx, .agg (PaC p (.slice D nd cd)).toArray, .slice H nh ch] w fun e w' => e = .returned (.bool true) ∧ Later w w' := by
 obtain rfl : nd = p.da.length := hd.len.symm
 have B0 := Qbg w 25 (PaC p (.slice D p.da.length cd))
 obtain ⟨n, hs, hhs, hn3, hcut⟩ : ∃ n hs, RdH w H n hs ∧ n ≤ 3 ∧ ((3 < nh ∧ n = 3) ∨ (nh ≤ 3 ∧ n = nh)) := by
  by_cases h : 3 < nh
  · exact ⟨3, hs0.take 3, QtU hh (by omega), by omega, .inl ⟨h, rfl⟩⟩
  · exact ⟨nh, hs0, hh, by omega, .inr ⟨by omega, rfl⟩⟩
 have hl := hhs.1
 have hSe := hid (fun w h1 h2 h3 => Qz3 A D H nx cx p.da.length cd n ch x p hs w h1 hnx h2 hnd h3 (by omega))
 have hpt := hid (Qqj hs)
 have hpn : Hid ((QeL hs).take n = QeL hs) := hid (by rw [QCZ (by rw [QeL, QCP]; omega)])
 have hpr := hid (fun h hf => Qtz (x := x) (p := p) (hs := hs) h hf)
 have hsf := hid (fun h => Qjw (x := x) (p := p) (hs := hs) h)
 have hR : Hid (Qhr x p hs = 0 → sndR x p hs = QkQ x p hs) := hid (fun h => by rw [sndR, if_pos h])
 generalize Qhr x p hs = E at *
 generalize sndR x p hs = R at *
 generalize QkQ x p hs = SB at *
 clear hh
 obtain ⟨hcutn, hc1⟩ : (∀ W, 3 < nh → (Instr.sliceAt 26 (.slice H nh ch) none (some (.int .i64 3)) none).run Tryz.prog W = .ok (.slice H n ch) W) ∧ (nh ≤ 3 → n = nh) := by
  refine ⟨fun W h => ?_, fun h => ?_⟩
  · have g3 : (3 : Nat) ≤ ch := by omega
    obtain rfl : n = 3 := by omega
    simp [go_sem]
    intro h'
    omega
  · omega
 clear hcut
 by_cases hgt : 3 < nh
 have f3 : decide ((3 : Int) < (nh : Int)) = true := decide_eq_true (by omega)
 have hcutn' := fun W => hcutn W hgt
 clear hcutn hc1
 go_enter Tryz.func3, Tryz.ntmps3
 go_wp2_with fail
 (with_reducible refine (Qtc _).mono ?_); rintro e w1 ⟨rfl, j1⟩
 have B1 := B0.later j1
 go_wp2_with (first
  | (refine Qgm rfl _ rfl (B1.nth 0 rfl) rfl ?_)
  | fail)
 rotate_left
 have f3 : decide ((3 : Int) < (nh : Int)) = false := decide_eq_false (by omega)
 obtain rfl := hc1 (by omega)
 clear hcutn hc1
 go_enter Tryz.func3, Tryz.ntmps3
 go_wp2_with fail
 (with_reducible refine (Qtc _).mono ?_); rintro e w1 ⟨rfl, j1⟩
 have B1 := B0.later j1
 go_wp2_with (first
  | (refine Qgm rfl _ rfl (B1.nth 0 rfl) rfl ?_)
  | fail)
 rotate_left
 all_goals
  clear B0 f3 hgt
  (refine (hSe.out _ (hx.later B1.lat) (hd.later B1.lat) (hhs.later B1.lat)).mono ?_); rintro e w2 ⟨A2, c2, rfl, o2, j2⟩
  have B2 := B1.later j2
  clear B1 hSe j1 j2
  by_cases hE : E = 0
  · subst hE
    go_wp2_with fail
    go_loopw [9, 43] (fun v i wr => ∃ (k : Nat) (A' : Option Addr) (c' : Nat), k ≤ n ∧ i = .int .i64 k ∧ v = .slice A' k c' ∧ OwnParts wr w2.heap.size A' k c' ((QeL hs).take k) ∧ Hid (∀ j, j < k → QbF (hs.getD j hp0).nod.priv.val (nb 9) = (hs.getD j hp0).nod.pub.val) ∧ Later w2 wr) (fun _ i _ => n - (intOf i).toNat)
    case atStart => exact ⟨0, none, 0, by omega, rfl, rfl, ⟨[], World.ownsRow_nil _ _ _ 1, rfl, by simp⟩, hid (fun j hj => absurd hj (by omega)), Later.refl _⟩
    case round =>
     obtain ⟨k, A', c', hk, rfl, rfl, ⟨us, hu1, hu2, hu3⟩, hm, L⟩ := hrel
     by_cases hlt : k < n
     · obtain ⟨b, o, rfl, hbb, hc⟩ := (hhs.later (B2.lat.trans L)).at_ hlt
       have HS := hid (hpt.out k (by omega))
       have hgo := hid (fun h : QbF (hs.getD k hp0).nod.priv.val (nb 9) = (hs.getD k hp0).nod.pub.val => Qhh (p := fun j => QbF (hs.getD j hp0).nod.priv.val (nb 9) = (hs.getD j hp0).nod.pub.val) hm.out h)
       have HU := hid hu3
       clear hu3 hm
       generalize hs.getD k hp0 = z at *
       obtain ⟨MY, hMY⟩ : ∃ MY : Y32, MY.val = QbF z.nod.priv.val (nb 9) := ⟨⟨_, Qa2 _ _⟩, rfl⟩
       rw [← hMY] at hgo
       have hPu := hid (fun A w h => QjV A 32 32 z.nod.priv.val w h (by omega))
       rw [← hMY] at hPu
       clear hMY
       replace hc := hid hc
       go_wp2_with (first
        | (refine QaN rfl 35 _ rfl b (o + k * 68) (HC z) hc.out rfl _ Tryz.underlying35 rfl (by rw [Qc4]; exact Qoj) ?_)
        | (refine Qah rfl rfl _ _ _ rfl wr.heap.size 0 _ _ (HC z) (Blk.new wr _ Tryz.zeroCells35.toList) rfl rfl (by rw [Qc4]; exact Qoj) (by rw [Qc4, QvJ]; omega) (QwQ z) ?_; intro w3 hb3 ho3; rw [Qam _ _ (by rw [Qc4, QvJ])] at hb3
           have B3 : Bag w2 w3 [(wr.heap.size, 35, HC z)] := ((Bag.none w2).later L).push (Qaa _ _) (QCX _) ho3 hb3
           have J3 : Later wr w3 := (Qaa _ _).only ho3 (QCX _)
           have hl3 := (B3.nth 0 rfl).lt)
        | fail)
       (refine (hPu.out _ _ (Qdn hl3 (fun j v hv => (B3.nth 0 rfl).cellD _ (QmA z (Qts _ hv))) z.nod.priv.2)).mono ?_); rintro e w4 ⟨rfl, j4⟩
       have B4 := B3.later j4
       have hcp : ∀ (w' : World), Bag w2 w' [(w4.heap.size, 31, MY.val.map W8), (wr.heap.size, 35, HC z)] → ∀ j v, (z.nod.pub.val.map W8)[j]? = some v → w'.cell? ⟨wr.heap.size, 34 + j, none⟩ = some v := fun w' B j v hv => (B.nth 1 rfl).cellD _ (QmA z (QwK _ hv))
       replace hcp := hid hcp
       cases heq : (MY.val == z.nod.pub.val)
       · have hnq : (MY.val != z.nod.pub.val) = true := by rw [bne, heq]; rfl
         go_wp2_with (first
          | (refine QaR rfl rfl _ _ rfl (Blk.new w4 _ (QCK 32 (.int .u8 0))) rfl rfl MY.2 rfl ?_; intro w5 hb5 ho5
             have B5 := B4.push (Qaa _ _) (QCX _) ho5 hb5)
          | (refine Qgt rfl _ rfl (fun j v hv => by rw [QDf]; exact (B5.nth 0 rfl).cellD j hv) MY.2 rfl ?_)
          | (refine Qgt rfl _ rfl (hcp.out _ B5) z.nod.pub.2 rfl ?_)
          | fail)
         go_ret
         exact ⟨rfl, B2.lat.trans B5.lat⟩
       · have hgo' := hid (hgo.out (by simpa using heq))
         have hnq : (MY.val != z.nod.pub.val) = false := by rw [bne, heq]; rfl
         go_wp2_with (first
          | (refine QaR rfl rfl _ _ rfl (Blk.new w4 _ (QCK 32 (.int .u8 0))) rfl rfl MY.2 rfl ?_; intro w5 hb5 ho5
             have B5 := B4.push (Qaa _ _) (QCX _) ho5 hb5
             have J5 : Later wr w5 := J3.trans (j4.trans ((Qaa _ _).only ho5 (QCX _)))
             have hl5 := (B5.nth 1 rfl).lt)
          | (refine Qgt rfl _ rfl (fun j v hv => by rw [QDf]; exact (B5.nth 0 rfl).cellD j hv) MY.2 rfl ?_)
          | (refine Qgt rfl _ rfl (hcp.out _ B5) z.nod.pub.2 rfl ?_)
          | fail)
         (refine (Qbv (some ⟨wr.heap.size, 2, none⟩) 32 32 z.nod.priv.val _ (Qdn hl5 (fun j v hv => (B5.nth 1 rfl).cellD _ (QmA z (Qts _ hv))) z.nod.priv.2) (by omega)).mono ?_); rintro e w6 ⟨A6, c6, rfl, o6, j6⟩
         have hu6 := Qao hu1 (J5.trans (j6.alloc (.cells #[.slice A6 32 c6] 22)))
         go_wp2_with (first
          | (refine Qaj rfl _ _ _ rfl 22 _ 24 Tryz.underlying30 Qvz rfl w2 _ k us hu6 ((L.trans (J5.trans j6)).alloc _) _ 1 1 [.slice A6 32 c6] (Qcc (QeZ w6 _ [.slice A6 32 c6] (by simp))) ?h1 rfl rfl (by omega) (by omega) ?_; (case h1 => simp [Qi5]); intro A7 c7 w7 hown7 hl7 hg7 _)
          | fail)
         have hnp : OwnParts w7 w2.heap.size A7 (k + 1) c7 ((QeL hs).take (k + 1)) := by
          rw [HS.out]
          exact OwnParts.snoc hu6 hu2 (fun j v p hv hp => by obtain ⟨B, m, d, e1, e2⟩ := HU.out j v p hv hp; exact ⟨B, m, d, e1, e2.later (J5.trans (j6.alloc _))⟩) ((o6.mono B5.lat.size).later (Qaa _ _)) hg7 hown7
         exact ⟨⟨k + 1, A7, c7, by omega, by go_num, rfl, hnp, hgo', hl7⟩, by simp [intOf]; omega⟩
     · obtain rfl : k = n := by omega
       obtain ⟨Y, hn1, hY0, hYn, hY⟩ := hpr.out (by trivial) (by rw [hl]; exact hm.out)
       obtain ⟨hpp, hp3, hbe, _⟩ := hsf.out (by trivial)
       have hRY : R = (Y 0).val := (hR.out (by trivial)).trans hY0
       subst hRY
       rw [(Y 0).2] at o2 ⊢
       rw [hpn.out] at hu2 hu3
       have hPs : Parts wr (fun _ => False) A' k (QeL hs) := OwnParts.parts ⟨us, hu1, hu2, hu3⟩
       obtain ⟨hpl, hpe⟩ := Qsi hY k 0 (by omega)
       rw [QEu] at hpl hpe
       have hPe := hid (fun w h => QtA A' k c' (QeL hs) (Y 0) w h (by omega) (fun q hq => by
        obtain ⟨z, _, rfl⟩ := QDI.1 hq
        rw [z.nod.priv.2]
        omega))
       rw [hpe] at hPe
       have HZ := hid zcP
       have l0 : ((QCK 768 (0 : UInt8)).map W8).length = 768 := by rw [QCP, QCY]
       generalize QCK 768 (0 : UInt8) = Z at *
       replace hpl := hid hpl
       replace hY := hid hY
       clear hpr hsf hR hpt hpn hu1 hu2 hu3 hm hpe hY0
       go_wp2_with fail
       (refine (Qn0 A2 c2 (Y 0).val _ (Qcc (Qao o2 L))).mono ?_); rintro e w3 ⟨rfl, j3⟩
       go_wp2_with (first
        | (refine Qe8 rfl rfl _ _ rfl ((Blk.new w3 _ Tryz.zeroCells45.toList).cast HZ.out) rfl rfl (Y 0).2 l0 ?_; intro w4 hb4 ho4
           have C1 := (Bag.none w3).push (Qaa _ _) (QCX _) ho4 hb4)
        | (refine QiV rfl _ rfl (C1.nth 0 rfl) (Y 0).2 rfl ?_)
        | fail)
       have hP3 := hPs.later j3
       have hP4 := hP3.later C1.lat
       (refine (hPe.out _ hP4).mono ?_); rintro e w5 ⟨A5, c5, xs, rfl, o5, hrow, j5⟩
       have hxl : xs.length = k := by
        rw [hrow.len, hpl.out, QCP, List.length_range]
       rw [hxl] at o5 ⊢
       have C5 := C1.later j5
       have LB := B2.lat.trans (L.trans j3)
       have B3 := (B2.later L).later j3
       have h43 : w3.heap.size < w4.heap.size := (C1.nth 0 rfl).lt
       clear hPe hPs hP4 C1 hb4 ho4 j3 j5 HZ l0 o2 B2
       have hte := hid (fun j hj => Qr2 (x := x) (p := p) hbe j hj)
       have hwo := hid (fun j hj => (hY.out j hj).2.2)
       replace hxl := hid hxl
       have HZp := hid zcPe
       have hzl : (PC cmd0 z768 nil8).length = 789 := QaG _ QaF _
       have hpa : Hid (∀ (w' : World) j, PelRow w' w4.heap.size xs (pelL (QeL hs) (Y 0)) → j < k → QuW w' w4.heap.size (xs.getD j Qjh) (arrP p hs Y j)) := hid (fun w' j h hj => by
        have := h.at_ j (by rw [hpl.out, QCP, List.length_range]; exact hj)
        rw [hpl.out, QCS (l := List.map _ _), QC6, QEm hj] at this
        simpa using this)
       have n5 : ∀ b, (Value.slice A5 k c5).ownBlock = some b → b ≠ w3.heap.size := fun b hb e => by have := (World.ownsRow.lt o5 b hb).1; omega
       go_wp2_with fail
       go_loopw [93] (fun i wr => ∃ j : Nat, j < k ∧ i = .int .i64 j ∧ Bag w3 wr [(w3.heap.size, 45, (Y j).val.map W8)] ∧ wr.ownsRow w4.heap.size 58 789 (.slice A5 k c5) k (xs.flatMap VC) ∧ PelRow wr w4.heap.size xs (pelL (QeL hs) (Y 0))) (fun i _ => k - (intOf i).toNat)
       case atStart => exact ⟨0, by omega, rfl, C5, o5, hrow⟩
       case round =>
        clear o5 hrow C5
        obtain ⟨j, hj, rfl, C5, o5, hrow⟩ := hrel
        obtain ⟨br, or_, rfl, hbr, hcr⟩ := (QsQ (d := Qjh) Qg4 o5 hxl.out).at_ hj
        have hok := hpa.out _ j hrow hj
        obtain ⟨bh, oh, rfl, hbh, hch⟩ := (hhs.later (LB.trans C5.lat)).at_ hj
        obtain ⟨e1, e2, e3, e4⟩ := hok
        obtain ⟨t1, t2, t3, t4, t5⟩ := hte.out j (by omega)
        have hw1 := hwo.out j (by omega)
        generalize xs.getD j Qjh = X at *
        obtain ⟨Xc, XP, XA, Xn, Xcp⟩ := X
        simp only at e1 e2 e3 e4
        have hP1 : XP = Y (j + 1) := e2
        have hC1 : Xc = Qb9 (Qds p) hs j := e1
        rw [← hC1] at t1 t2 t3 t4 t5 hw1
        clear e1 e2
        replace hP1 := hid hP1
        replace hC1 := hid hC1
        replace e3 := hid e3
        have hdl : ((Xc.dl.toNat : Int) != (hs.getD j hp0).delay) = false := by rw [t1]; simp
        have hfl : ((Xc.fl.toNat : Int) != (hs.getD j hp0).flags) = false := by rw [t2]; simp
        have hma : (Xc.ma.val != QaS.val) = false := by rw [t3]; simp
        have hwf : IntKind.i64.wrap (Xc.fl.toNat : Int) = (Xc.fl.toNat : Int) := by have := Xc.fl.toNat_lt; rw [IntKind.wrap_i64]; omega
        obtain ⟨lb, hb1, hb2, hb3⟩ : ∃ lb : Bool, ((j : Int) + 1 == (k : Int)) = lb ∧ (Xc.kd == 1) = !lb ∧ Hid ((lb = true ∧ j + 1 = k) ∨ (lb = false ∧ j + 1 < k)) := by
         by_cases hl' : j + 1 = k
         · exact ⟨true, by simp; omega, by simp only [Bool.not_true, beq_eq_false_iff_ne]; intro e; have := hw1.1 e; omega, hid (.inl ⟨rfl, hl'⟩)⟩
         · exact ⟨false, by simp; omega, by simp only [Bool.not_false, beq_iff_eq]; exact hw1.2 (by omega), hid (.inr ⟨rfl, by omega⟩)⟩
        clear t1 t2 t3 hw1
        replace t4 := hid t4
        replace t5 := hid t5
        have hcr' : ∀ q v, (PC Xc XP.val (.slice XA Xn Xcp))[q]? = some v → wr.cell? ⟨br, or_ + j * 789 + q, none⟩ = some v := fun q v hv => hcr q v hv
        replace hcr' := hid hcr'
        have hch' := hid hch
        clear hcr hch
        have hPl := XP.2
        have hhl : ∀ (v : Value), (PC Xc XP.val v).length = 789 := fun v => QaG _ hPl v
        have hpz := hid (QlB hs j (by omega))
        have hRe := hid (fun (hjk : j + 1 = hs.length) A c w h => by
         have := QsR A 32 c (hs.getD j hp0).nod.priv.val (Y j).val w h (by omega) (Y j).2
         obtain ⟨r1, r2, r3, r4⟩ := Qxr hpp hp3 (hY.out j (by omega)).1 (hY.out j (by omega)).2.1 hjk
         rw [r1, r2, r3, r4, ← hC1.out] at this
         exact this)
        have hBj : Hid (j + 1 = hs.length → (arrP p hs Y j).B = Qa4 p) := hid (fun h => by rw [arrP, if_neg (by omega)])
        have hBm : Hid (j + 1 < hs.length → (arrP p hs Y j).B = []) := hid (fun h => by rw [arrP, if_pos h])
        generalize arrP p hs Y j = XR at *
        generalize hs.getD j hp0 = z at *
        go_wp2_with (first
         | (refine QaN rfl 58 _ rfl br (or_ + j * 789) (PC Xc XP.val (.slice XA Xn Xcp)) hcr'.out rfl _ Tryz.underlying58 rfl (by rw [QaG _ hPl]; exact Qb8) ?_)
         | (refine Qbp rfl rfl _ _ rfl ((Blk.new wr _ Tryz.zeroCells58.toList).cast HZp.out) rfl rfl hPl rfl hzl ?_; intro w6 hb6 ho6
            have C6 := C5.push (Qaa _ _) (QCX _) ho6 hb6
            have J6 : Later wr w6 := (Qaa _ _).only ho6 (QCX _)
            have hc6 := hid (fun q v hv => (J6.below.cell (p := ⟨bh, oh + j * 68 + q, none⟩) hbh).trans (hch'.out q v hv))
            have hb6h : bh < w6.heap.size := QDb hbh J6.size)
         | (refine QaN rfl 35 _ rfl bh (oh + j * 68) (HC z) hc6.out rfl _ Tryz.underlying35 rfl (by rw [Qc4]; exact Qoj) ?_)
         | (refine Qah rfl rfl _ _ _ rfl w6.heap.size 0 _ _ (HC z) (Blk.new w6 _ Tryz.zeroCells35.toList) rfl rfl (by rw [Qc4]; exact Qoj) (by rw [Qc4, QvJ]; omega) (QwQ z) ?_; intro w7 hb7 ho7; rw [Qam _ _ (by rw [Qc4, QvJ])] at hb7
            have C7 := C6.push (Qaa _ _) (QCX _) ho7 hb7
            have J7 : Later wr w7 := J6.trans ((Qaa _ _).only ho7 (QCX _)))
         | fail)
        have C8 := C7.drew
        have d66 := (C8.nth 0 rfl).cellD 66 (Qh9 z)
        have d67 := (C8.nth 0 rfl).cellD 67 (Qh8 z)
        have m1 := (C8.nth 1 rfl).cellD 1 (by have := Qeb Xc XP.val (.slice XA Xn Xcp) 1 _ rfl; rwa [QDf] at this)
        have l0 := (C8.nth 0 rfl).lt
        have l1 := (C8.nth 1 rfl).lt
        have bz := Qmp
        refine Qad [([0, 1, 3], 2), ([4, 5, 6, 7, 9, 10], 8)] [11, 12, 13, 14, 15, 16, 17, 18, 19, 20, 21, 22, 23, 24, 25, 26, 27, 28, 29, 30] [] (by as_aux_lemma => kernel_rfl) (by as_aux_lemma => kernel_rfl) (by intro _ _ d _ _ h; cases d <;> exact h) ?_
        simp only [Qag, pick, QCL, QCM, QCN, QCO, QCQ]
        repeat (first | go_big_quiet_skip | (go_big_quiet_want; (first | refine Qde _ _ rfl 0 (CC Xc) (C8.nth 1 rfl) rfl (Qeb _ _ _) _ Tryz.underlying56 rfl (by rw [Qap]; exact Qox) ?_ | refine Qde _ _ rfl 4 (Xc.ma.val.map W8) (C8.nth 1 rfl) rfl (QzW _ _ _) _ Tryz.underlying39 rfl (by rw [QCP, Xc.ma.2]; exact QkU) ?_ | refine Qbu _ _ rfl (QaS.val.map W8) (by first | (simp only [QC0]; exact bz) | (simp only [QC9]; exact bz)) ?_); simp only [Act.put, QCT, QCW, QCV]; go_big_quiet_on) | (go_big_quiet_step (fail)))
        refine wpQuiet_nil ?_
        go_wp2_with fail
        (with_reducible refine (Qg2 Xc _).mono ?_); rintro e w8 ⟨rfl, j8⟩
        rw [hb2]
        have C9 := C8.later j8
        have d66 := (C9.nth 0 rfl).cellD 66 (Qh9 z)
        have l0 := (C9.nth 0 rfl).lt
        have l1 := (C9.nth 1 rfl).lt
        go_wp2_with fail
        try refine ⟨by first | assumption | exact Qab _ | exact Qaa _ _ | exact Later.refl _, ?_⟩
        try simp only [Qag, pick, QCL, QCM, QCN, QCO, QCQ]
        repeat (first | go_big_quiet_skip | (go_big_quiet_want; (refine Qde _ _ rfl 0 (CC Xc) (C9.nth 1 rfl) rfl (Qeb _ _ _) _ Tryz.underlying56 rfl (by rw [Qap]; exact Qox) ?_); simp only [Act.put, QCT, QCW, QCV]; go_big_quiet_on) | (go_big_quiet_step (fail)))
        refine wpQuiet_nil ?_
        go_wp2_with fail
        (with_reducible refine (Qu7 Xc _).mono ?_); rintro e w9 ⟨rfl, j9⟩
        have C10 := C9.later j9
        have d67 := (C10.nth 0 rfl).cellD 67 (Qh8 z)
        have m1 := (C10.nth 1 rfl).cellD 1 (by have := Qeb Xc XP.val (.slice XA Xn Xcp) 1 _ rfl; rwa [QDf] at this)
        have l0 := (C10.nth 0 rfl).lt
        have l1 := (C10.nth 1 rfl).lt
        go_wp2_with fail
        try refine ⟨by first | assumption | exact Qab _ | exact Qaa _ _ | exact Later.refl _, ?_⟩
        try simp only [Qag, pick, QCL, QCM, QCN, QCO, QCQ]
        repeat (first | go_big_quiet_skip | (go_big_quiet_want; (first | refine Qde _ _ rfl 4 (Xc.ma.val.map W8) (C10.nth 1 rfl) rfl (QzW _ _ _) _ Tryz.underlying39 rfl (by rw [QCP, Xc.ma.2]; exact QkU) ?_ | refine Qbu _ _ rfl (QaS.val.map W8) (by first | (simp only [QC0]; exact bz) | (simp only [QC9]; exact bz)) ?_); simp only [Act.put, QCT, QCW, QCV]; go_big_quiet_on) | (go_big_quiet_step (fail)))
        refine wpQuiet_nil ?_
        have hP9 := hP3.later (C10.lat.trans (Qab _))
        rcases hb3.out with ⟨rfl, hjk⟩ | ⟨rfl, hjk⟩
        · obtain rfl := hjk
          obtain ⟨bp, op_, Ap, np, cp_, rfl, hbp, hcp, hcap, hrd, _⟩ := hP9.at_ (k := j) (by omega)
          rw [hpz.out] at hrd
          obtain rfl : np = 32 := by rw [← hrd.len]; exact z.nod.priv.2
          replace hRe := hid (hRe.out hl.symm)
          have C11 := C10.drew
          have hXB : XR.B = Qa4 p := hBj.out hl.symm
          have hXn : Xn = (Qa4 p).length := by rw [e3.out, hXB]
          subst hXn
          rw [hXB] at e4
          have J9 : Later wr w9 := J7.trans ((Qab w7).trans (j8.trans j9))
          have own10 := Qcf o5 J9
          have hB10 := Qao e4 J9
          have hx10 : ∀ b, (Value.slice (some ⟨br, or_, none⟩) (j + 1) c5).ownBlock = some b → b < w9.drew.heap.size := fun b hb => QDb (World.ownsRow.lt o5 b hb).2 J9.size
          go_wp2_with fail
          refine QaH [0, 1, 2, 3, 4, 5, 6] [([], 1, 7), ([8, 9, 10, 11], 2, 12), ([], 2, 13)] [] [14, 15, 16] [12, 13] (fun i => if i = 12 then (fun g => .pointer (some ⟨g, 0, none⟩), .cells pz0.toArray 25) else (fun g => .pointer (some ⟨g, 0, none⟩), .cells Tryz.zeroCells58 58)) (by as_aux_lemma => kernel_rfl) (by as_aux_lemma => kernel_rfl) (by intro _ _ d _ _ h; cases d <;> exact h) (by intro _ _ d _ _ h; cases d <;> exact h) ?_
          simp only [pick, QCL, QCM, QCN, QCO, QCQ]
          repeat (first | go_big_quiet_skip | (go_big_quiet_want; (refine Qg9 0 768 _ rfl (C11.nth 2 rfl) rfl Tryz.underlying45 rfl Qfr (Qh1 _ _ (Y j).2) (Y j).2 ?_); simp only [Act.put, QCT, QCW, QCV]; go_big_quiet_on) | (go_big_quiet_step (fail)))
          refine wpQuiet_nil ?_
          refine ⟨?mk, ?_⟩
          case mk =>
           refine ⟨fun o ho => ?_, fun o ho => ?_, trivial⟩
           all_goals
            simp only [QCL, QCM, Option.some.injEq] at ho
            subst ho
           · exact QmV rfl rfl
           · exact QqT rfl rfl
          simp only [QbD, pick, QCL, QCM, QCN, QCO, QCQ, reduceIte, QD7]
          refine wpQuiet_nil ?_
          intro m1 i1
          go_wp2_with fail
          (refine (hRe.out Ap cp_ _ (RdB.later hrd i1)).mono ?_); rintro e m4 ⟨B1, d1, B2, d2, rfl, q1, q2, _, i4⟩
          go_wp2_with fail
          try refine ⟨by first | assumption | exact Qab _ | exact Qaa _ _ | exact Later.refl _, ?_⟩
          try simp only [Qag, pick, QCL, QCM, QCN, QCO, QCQ]
          repeat (go_big_quiet_step (fail))
          refine wpQuiet_nil ?_
          intro m5 g8 i5 hg8 _ hb8
          refine wpQuiet_nil ?_
          intro m6 g9 i6 hg9 hn9 hb9
          refine wpQuiet_nil ?_
          intro m7 i7
          simp only [Act.put, QCT, QCW, QCV]
          have hne : g8 ≠ g9 := fun e => hn9 (.inl e.symm)
          have hX : Blk m7 g8 25 pz0 := Blk.later (show Blk m5 g8 _ _ from hb8) (i6.trans i7)
          have hY7 : Blk m7 g9 58 (PC cmd0 z768 nil8) := (Blk.later (show Blk m6 g9 _ Tryz.zeroCells58.toList from hb9) i7).cast HZp.out
          have ii := (i1.trans i4).trans ((i5.trans i6).trans i7)
          have r1 := Qao q1 ((i5.trans i6).trans i7)
          have r2 := Qao q2 ((i5.trans i6).trans i7)
          have gl8 : w9.drew.heap.size ≤ g8 := by have := hg8; simpa using this
          have gl9 : w9.drew.heap.size ≤ g9 := by have := hg9; simpa using this
          have Ca := C11.add ii (k := g8) (fun p hp e => by have := (C11.blk p hp).lt; omega) (by have := C11.lat.size; omega) hX
          have Cb := Ca.add (Later.refl m7) (k := g9) (fun p hp e => by
           rcases QC2.1 hp with rfl | hp
           · exact hne e.symm
           · have := (C11.blk p hp).lt
             omega) (by have := C11.lat.size; omega) hY7
          have z768l := QaF
          have s5 := Qcf own10 ((Qab w9).trans ii)
          have s6 := Qao hB10 ((Qab w9).trans ii)
          have iiK := hid ii
          clear hb8 hb9 i1 i4 i5 i6 i7 hn9 q1 q2 Ca ii hX hY7
          obtain ⟨vk, hv1, hv2⟩ : ∃ vk : UInt8, vk = (if p.kd = 2 then 3 else 2) ∧ Xc.kd = vk := ⟨_, rfl, t5.out hl.symm⟩
          have hkk : (Xc.kd == vk) = true := by rw [hv2]; simp
          have hfl480 := hid (Qei p (Qfj hpp).2.1)
          have hb8r : wr.heap.size ≤ g8 := QDy J9.size gl8
          have hb9r : wr.heap.size ≤ g9 := QDy J9.size gl9
          replace hv2 := hid hv2
          have hvk : ((p.kd == 2) = true ∧ vk = 3) ∨ ((p.kd == 2) = false ∧ vk = 2) := by
           by_cases h2 : p.kd = 2
           · exact .inl ⟨by simp [h2], hv1.trans (if_pos h2)⟩
           · exact .inr ⟨by simp [h2], hv1.trans (if_neg h2)⟩
          clear hv1
          rcases hvk with ⟨h2, rfl⟩ | ⟨h2, rfl⟩
          all_goals
           go_wp2_with (first
            | (refine Qbq rfl rfl _ _ rfl (Cb.nth 1 rfl) rfl rfl rfl rfl ?_; intro m8 hb8 ho8
               have Cc := Cb.write 1 rfl ho8 hb8
               have p1 := QaC r1 (Cb.nth 1 rfl) (by decide) ho8
               have p2 := QaC r2 (Cb.nth 1 rfl) (by decide) ho8
               have s7 := Qce s5 ho8 (fun b hb e => by have := hx10 b hb; omega)
               have s8 := QaC s6 (Cb.nth 1 rfl) (by decide) ho8)
            | (refine Qbp rfl rfl _ _ rfl (Cc.nth 0 rfl) rfl rfl z768l rfl hzl ?_; intro m9 hb9 ho9
               have Cd := Cc.write 0 rfl ho9 hb9
               have q1 := QaC p1 (Cc.nth 0 rfl) (by decide) ho9
               have q2 := QaC p2 (Cc.nth 0 rfl) (by decide) ho9
               have t7 := Qce s7 ho9 (fun b hb e => by have := hx10 b hb; omega)
               have t8 := QaC s8 (Cc.nth 0 rfl) (by decide) ho9
               have JM : Later wr m9 := ((J9.trans ((Qab w9).trans iiK.out)).only ho8 hb8r).only ho9 hb9r
               have Bw := (B3.later Cd.lat)
               have kc := (QaO (Bw.nth 0 rfl)).1
               have hwl := (Bw.nth 0 rfl).lt)
            | fail)
           have Ce := Cd.drew
           have Bx := Bw.drew
           refine Qad [([0, 1, 2, 3, 4], 5), ([6, 7, 8, 9, 10, 11, 12, 13, 14, 15, 16, 17, 18, 19, 20, 21, 22, 23, 24], 25)] [26, 27] [] (by as_aux_lemma => kernel_rfl) (by as_aux_lemma => kernel_rfl) (by intro _ _ d _ _ h; cases d <;> exact h) ?_
           simp only [Qag, pick, QCL, QCM, QCN, QCO, QCQ]
           repeat (first | go_big_quiet_skip | (go_big_quiet_want; (first | refine Qde _ _ rfl 0 (PaC p (.slice B1 p.da.length d1)) (Ce.nth 1 rfl) rfl (QcF _) _ Tryz.underlying25 rfl (by rw [QaP]; exact QcE) ?_ | refine Qde _ _ rfl 0 (PaC p (.slice D p.da.length cd)) (Bx.nth 0 rfl) rfl (QcF _) _ Tryz.underlying25 rfl (by rw [QaP]; exact QcE) ?_); simp only [Act.put, QCT, QCW, QCV]; go_big_quiet_on) | (go_big_quiet_step (fail)))
           refine wpQuiet_nil ?_
           go_wp2_with fail
           (refine (QnO p B1 D p.da.length d1 cd _ (Qcc (Qao q1 (Qab _))) (hd.later Bx.lat) hnd).mono ?_); rintro e wa ⟨rfl, ja⟩
           have Cf := Ce.later ja
           have k9 := (Cf.nth 0 rfl).cellD 0 (by have := Qeb Xc z768 (.slice B2 (Qa4 p).length d2) 0 _ rfl; rwa [QDf] at this)
           have b9 := (Cf.nth 0 rfl).cellD 788 (Qlg _ z768l _)
           have l9 := (Cf.nth 0 rfl).lt
           have JA : Later wr wa := JM.trans ((Qab _).trans ja)
           have c788 : wa.cell? ⟨br, or_ + j * 789 + 788, none⟩ = some (.slice XA (Qa4 p).length Xcp) := (JA.below.cell (p := ⟨br, or_ + j * 789 + 788, none⟩) hbr).trans (hcr'.out 788 _ (Qlg _ hPl _))
           have lbr : br < wa.heap.size := QDb hbr JA.size
           go_wp2_with fail
           try refine ⟨by first | assumption | exact Qab _ | exact Qaa _ _ | exact Later.refl _, ?_⟩
           try simp only [Qag, pick, QCL, QCM, QCN, QCO, QCQ]
           repeat (go_big_quiet_step (fail))
           refine wpQuiet_nil ?_
           go_wp2_with fail
           have hEq := QiA B2 XA (Qa4 p).length (Qa4 p).length d2 Xcp (Qa4 p) (Qa4 p) _ (Qcc (Qao q2 ((Qab _).trans ja))) (Qcc (Qao t8 ((Qab _).trans ja))) (by have := hfl480.out; omega) (by have := hfl480.out; omega)
           rw [decide_eq_true (rfl : Qa4 p = Qa4 p)] at hEq
           refine hEq.mono ?_; rintro e wb ⟨rfl, jb⟩
           clear hEq
           go_wp2_with fail
           try refine ⟨by first | assumption | exact Qab _ | exact Qaa _ _ | exact Later.refl _, ?_⟩
           try simp only [Qag, pick, QCL, QCM, QCN, QCO, QCQ]
           repeat (go_big_quiet_step (fail))
           refine wpQuiet_nil ?_
           go_wp2_with fail
           go_ret
           exact ⟨rfl, LB.trans (Cf.lat.trans jb)⟩
        · have hXn : Xn = 0 := by rw [e3.out, hBm.out (by omega)]; rfl
          subst hXn
          have C11 := C10.drew
          have J9 : Later wr w9 := J7.trans ((Qab w7).trans (j8.trans j9))
          obtain ⟨bh2, oh2, hbo, hbh2, hch2⟩ := (hhs.later (LB.trans C11.lat)).at_ (k := j + 1) (by omega)
          obtain ⟨rfl, rfl⟩ : bh = bh2 ∧ oh = oh2 := by simpa using hbo
          have d1 : w9.drew.cell? ⟨bh, oh + (j + 1) * 68 + 1, none⟩ = some (W64 (hs.getD (j + 1) hp0).nod.id) := hch2 1 _ (QzV _)
          rw [← t4.out (by omega)] at d1
          have k0 := (C11.nth 1 rfl).cellD 0 (by have := Qeb Xc XP.val (.slice XA 0 Xcp) 0 _ rfl; rwa [QDf] at this)
          have k3 := (C11.nth 1 rfl).cellD 3 (by have := Qeb Xc XP.val (.slice XA 0 Xcp) 3 _ rfl; rwa [QDf] at this)
          have l1 := (C11.nth 1 rfl).lt
          have hk1 : (Xc.kd != 1) = false := by rw [bne, hb2]; rfl
          have ej : ((j : Int) + 1).toNat = j + 1 := by omega
          have hjk' : (j : Int) + 1 < (k : Int) := by omega
          replace hjk := hid hjk
          clear hch2 hbo hRe hpz hP9
          go_wp2_with fail
          refine Qad [([0, 1, 2, 3, 4, 5, 6, 7, 8, 9, 10, 11, 12, 13, 14, 15, 16, 17, 18, 19, 20, 21], 22)] [23, 24, 25, 26, 27, 28, 29, 30, 31] [] (by as_aux_lemma => kernel_rfl) (by as_aux_lemma => kernel_rfl) (by intro _ _ d _ _ h; cases d <;> exact h) ?_
          simp only [Qag, pick, QCL, QCM, QCN, QCO, QCQ]
          repeat (first | go_big_quiet_skip | (go_big_quiet_want; (refine Qde _ _ rfl 20 (XP.val.map W8) (C11.nth 1 rfl) rfl (Qwe _ _ _) _ Tryz.underlying45 rfl (by rw [QCP, hPl]; exact Qfr) ?_); simp only [Act.put, QCT, QCW, QCV]; go_big_quiet_on) | (go_big_quiet_step (fail)))
          refine wpQuiet_nil ?_
          go_wp2_with fail
          (refine (Qkg XP.val hPl _).mono ?_); rintro e wa ⟨Aa, ca, rfl, _, ja⟩
          have C12 := C11.later ja
          have k8 := (C12.nth 1 rfl).cellD 788 (Qlg _ hPl _)
          have l8 := (C12.nth 1 rfl).lt
          have lY : ((Y j).val.map W8).length = 768 := by rw [QCP, (Y j).2]
          have JA : Later wr wa := J9.trans ((Qab w9).trans ja)
          go_wp2_with fail
          try refine ⟨by first | assumption | exact Qab _ | exact Qaa _ _ | exact Later.refl _, ?_⟩
          try simp only [Qag, pick, QCL, QCM, QCN, QCO, QCQ]
          repeat (go_big_quiet_step (fail))
          refine wpQuiet_nil ?_
          go_wp2_with (first
           | (refine Qo1 rfl _ rfl (C12.nth 1 rfl) hPl rfl ?_)
           | (refine Qe8 rfl rfl _ _ rfl (C12.nth 2 rfl) rfl rfl hPl lY ?_; intro wb hbb hob)
           | fail)
          have C13 : Bag w3 wb [(w3.heap.size, 45, (Y (j + 1)).val.map W8)] := by
           have := (C12.write 2 rfl hob hbb).drop 2
           rw [hP1.out] at this
           exact this
          have o13 := Qce (Qcf o5 JA) hob n5
          have r13 : PelRow wb w4.heap.size xs (pelL (QeL hs) (Y 0)) := PelRow.mono (fun _ _ _ _ h => QaC (Qao h JA) (C12.nth 2 rfl) (by decide) hob) hrow
          exact ⟨⟨j + 1, by have := hjk.out; omega, by go_num, C13, o13, r13⟩, by simp [intOf]; omega⟩
  · have hne : ((E : Int) != 0) = true := by simp; omega
    go_wp2_with fail
    go_ret
    exact ⟨rfl, B2.lat⟩
end Go.Proofs.YtadfeclgoclalaaGreat
