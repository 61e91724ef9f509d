/-
  Lemmas for the last text of this claim (part 19 of 20).
-/
import Derived.BigQuiet
import Derived.BigRegion
import Derived.ChangeOld
import Derived.Deep.RegionWith
import Derived.DeepKeys4
import Derived.JoinedCond
import Derived.LaidMore
import Derived.Laws.CopyOwn
import Derived.Laws.Externs
import Derived.Laws.IdiomStrings
import Derived.Laws.Tables
import Derived.Lib.AppendStr
import Derived.Lib.AppendZerosOnto
import Derived.Lib.Mul64
import Derived.Lib.SlBytesConst
import Derived.LoopN
import Derived.Maps.OwnSet
import Derived.OpenShut
import Derived.OrdersHeld
import Derived.ProofKit
import Derived.Shelf.Spec.BitsCarry
import Derived.ShutString
import Derived.Test.YtcbdgnlcknllnaaGreatProg
import Derived.Test.YtcbdgnlcknllnaaGreatRows
import Derived.WalkKit
import Derived.WalkLawsBesides
import Derived.WalkSpells
import Derived.Test.YtcbdgnlcknllnaaGreatPJ
import Derived.Test.YtcbdgnlcknllnaaGreatPQ
import Derived.Test.YtcbdgnlcknllnaaGreatPR
open BitVec renaming toNat_ushiftRight → QGu
open List renaming replicate → QFu, getElem?_cons_succ → QFv, getElem?_cons_zero → QFw, cons_append → QFy, nil_append → QFz, length_map → QFA, getElem?_eq_getElem → QFB, getD_eq_getElem?_getD → QFC, setIfInBounds_toArray → QFD, length_append → QFF, set_cons_zero → QFG, set_cons_succ → QFH, map_toArray → QFI, take_of_length_le → QFJ, getElem?_append_right → QFK, append_assoc → QFL, length_replicate → QFM, getElem?_map → QFN, not_mem_nil → QFO, mem_cons → QFP, map_nil → QFR, getElem?_append_left → QFS, map_cons → QFW, length_take → QFY, length_drop → QF0, map_append → QF2, take_succ_eq_append_getElem → QF5, range → QF6, set_append_right → QF9, append_nil → QGb, length_set → QGd, map_replicate → QGg, length_cons → QGo, drop_of_length_le → QGw, getElem_mem → QGy, drop_eq_getElem_cons → QGA, replicate_append_replicate → QGJ, mem_singleton → QGL, getElem?_range → QGM, drop_append_of_le_length → QGQ, getElem?_drop → QGR, drop_drop → QGY, range_succ → QG4, any_eq_true → QHh, getElem_of_mem → QHk, flatMap_cons → QHm, drop_eq_nil_of_le → QHs, take_zero → QHy, flatMap_append → QHG
open Nat renaming le_refl → QFE, mod_eq_of_lt → QFT, lt_of_lt_of_le → QFV, le_trans → QGh, div_div_eq_div_mul → QGj, shiftRight_eq_div_pow → QGp, pow_succ → QGs, mul_comm → QGF, mod_mod → QG3, add_zero → QG6, pow_mul → QHb, add_comm → QHr, add_assoc → QHx, zero_mul → QHJ, pow_zero → QHK
open Option renaming toList_some → QFx, map_some → QHg
open UInt32 renaming ofNat → QF7, ofInt → QGr
open UInt64 renaming ofNat → QFZ, toNat_ofNat' → QF4, toNat_toUInt8 → QHB
open UInt8 renaming ofInt → QF3, ofNat → QGa, toNat_inj → QGl, toNat_ofNat' → QGK
namespace Go.Proofs.YtcbdgnlcknllnaaGreat
open Go.RowKit
open Go.BigFrame
theorem QuZ (b:List UInt8) (hb:b.length=480):parE b=if allZ (b.take 16)=false then 7 else if b.getD 16 0<1∨3<b.getD 16 0 then 1 else if b.getD 19 0≠0∨450<QcD b then 3 else if prtE (Qhx b)≠0∨allZ (b.drop (30+QcD b))=false then 3 else 0:=by
 have h1:(b.take 16≠QFu 16 0)=(allZ (b.take 16)=false):=by
  have:=Qll (b.take 16)
  rw[show (b.take 16).length=16 by rw[QFY];omega]at this
  rw[Ne,←this,Bool.not_eq_true]
 rw[parE,if_neg (by omega)]
 simp only[h1]
 by_cases hs:450<QcD b
 ·rw[if_pos (show b.getD 19 0≠0∨450<QcD b from .inr hs),if_pos (show b.getD 19 0≠0∨450<QcD b from .inr hs)]
 ·have h2:(b.drop (30+QcD b)≠QFu (450-QcD b) 0)=(allZ (b.drop (30+QcD b))=false):=by
   have:=Qll (b.drop (30+QcD b))
   rw[show (b.drop (30+QcD b)).length=450-QcD b by rw[QF0];omega]at this
   rw[Ne,←this,Bool.not_eq_true]
  simp only[h2]
set_option maxRecDepth 100000 in
set_option maxHeartbeats 4000000 in
theorem Qr3 (A:Option Addr) (c:Nat) (b:List UInt8) (w:World) (hb:RdB w A 480 b) (hc:480≤c):
 Calls Tryz.prog 37 #[.slice A 480 c] w fun e w'=>∃A' c',e= .returned (.tuple #[.agg (PaC (parP b) (.slice A' (parP b).da.length c')).toArray,.int .i64 (parE b:Nat)])∧OwnB w' w.heap.size A' (parP b).da.length c' (parP b).da∧Later w w':=by
 have hbl:=hb.len
 obtain⟨b0,o,rfl,hb00,_⟩:=hb.2 (by omega)
 have hE:=hid (QuZ b hbl)
 have hP:Hid (parP b=if parE b=0 then Qhx b else prt0):=hid rfl
 have hOf:Hid (Qhx b=⟨b.getD 16 0,QFZ (beN (subB b 20 8) 0),((b.getD 17 0).toNat:Int),((b.getD 18 0).toNat:Int),subB b 30 (QcD b)⟩):=hid rfl
 have hsp:Hid (QcD b=beN (subB b 28 2) 0):=hid rfl
 have hs6:=Qwm b hbl
 have hZ1:=hid (fun (w:World) (h:RdB w (some ⟨b0,o,none⟩) 480 b)=>Qqn (some ⟨b0,o,none⟩) 16 c (b.take 16) w (h.take (by omega)) (by omega))
 have hG1:=hid (fun (w:World) (h:RdB w (some ⟨b0,o,none⟩) 480 b)=>Qip (some ⟨b0,o,none⟩) 480 c 20 8 b w h (by omega) (by omega) (by omega) (by omega))
 have hG2:=hid (fun (w:World) (h:RdB w (some ⟨b0,o,none⟩) 480 b)=>Qip (some ⟨b0,o,none⟩) 480 c 28 2 b w h (by omega) (by omega) (by omega) (by omega))
 rw[←hsp.out]at hG2
 have hcl:=hid (fun (w:World) (h:RdB w (some ⟨b0,o,none⟩) 480 b)=>(⟨QcW h 16 (by omega),QcW h 17 (by omega),QcW h 18 (by omega),QcW h 19 (by omega)⟩:w.cell? ⟨b0,o+16,none⟩=some (W8 (b.getD 16 0))∧w.cell? ⟨b0,o+17,none⟩=some (W8 (b.getD 17 0))∧w.cell? ⟨b0,o+18,none⟩=some (W8 (b.getD 18 0))∧w.cell? ⟨b0,o+19,none⟩=some (W8 (b.getD 19 0))))
 have hsl:=hid (fun hs=>QmG b hbl hs)
 generalize parE b=E at *
 generalize parP b=PP at *
 generalize Qhx b=P at *
 generalize hS:QcD b=S at *
 generalize QFZ (beN (subB b 20 8) 0)=ID at *
 generalize b.getD 16 0=x16 at *
 generalize b.getD 17 0=x17 at *
 generalize b.getD 18 0=x18 at *
 generalize b.getD 19 0=x19 at *
 clear hsp hS
 have C1:=Qbb w 36 pz0
 have hb0:=Qt8
 generalize allZ (b.take 16)=F1 at *
 go_enter Tryz.func37,Tryz.ntmps37
 go_wp2_with fail
 (refine (hZ1.out _ (hb.later C1.lat)).mono ?_);rintro e w2 ⟨rfl,j2⟩
 have C2:=C1.later j2
 clear hZ1 j2 C1
 cases F1
 ·have HE:E=7:=hE.out.trans (if_pos rfl)
  have HP:PP=prt0:=by rw[hP.out,if_neg (by rw[HE];decide)]
  replace HE:=hid HE
  replace HP:=hid HP
  clear hP hE hcl hG1 hG2
  go_wp2_with (first
   | (refine Qak rfl 36 _ rfl (PaC prt0 (.slice none 0 0)) (by simp only[QFI,QFR];exact hb0) ?_)
   | (refine Qb6 rfl rfl _ _ rfl (C2.nth 0 rfl) rfl rfl rfl rfl ?_;intro e7 eb7 eo7
      have E7:=C2.write 0 rfl eo7 eb7)
   | fail)
  exact bodyPost_ret (Qaf rfl _ _ _ _ _ _ (E7.nth 0 rfl) rfl Tryz.underlying36 rfl (by rw[Qbe];exact Qd4)) rfl ⟨none,0,by rw[HE.out,HP.out];rfl,by rw[HP.out];exact Qa1 _ _ _,E7.lat⟩
 replace hE:=hid (hE.out.trans (if_neg (by decide)))
 obtain⟨k16,k17,k18,k19⟩:=hcl.out _ (hb.later C2.lat)
 have hb0lt:b0<w2.heap.size:=QFV hb00 C2.lat.size
 by_cases h1:x16<1∨3<x16
 ·have h13:(decide (x16<1)||decide (3<x16))=true:=by simpa using h1
  by_cases h11:x16<1
  all_goals
   have h33:x16<1∨3<x16:=h1
   simp only[h11,true_or,false_or]at h33
   have HE:E=1:=hE.out.trans (if_pos h1)
   have HP:PP=prt0:=by rw[hP.out,if_neg (by rw[HE];decide)]
   replace HE:=hid HE
   replace HP:=hid HP
   clear hP hE hcl hG1 hG2
   go_wp2_with (first
    | (refine Qak rfl 36 _ rfl (PaC prt0 (.slice none 0 0)) (by simp only[QFI,QFR];exact hb0) ?_)
    | (refine Qb6 rfl rfl _ _ rfl (C2.nth 0 rfl) rfl rfl rfl rfl ?_;intro e7 eb7 eo7
       have E7:=C2.write 0 rfl eo7 eb7)
    | fail)
   exact bodyPost_ret (Qaf rfl _ _ _ _ _ _ (E7.nth 0 rfl) rfl Tryz.underlying36 rfl (by rw[Qbe];exact Qd4)) rfl ⟨none,0,by rw[HE.out,HP.out];rfl,by rw[HP.out];exact Qa1 _ _ _,E7.lat⟩
 have h11: ¬x16<1:=fun h=>h1 (.inl h)
 have h13: ¬ 3<x16:=fun h=>h1 (.inr h)
 replace hE:=hid (hE.out.trans (if_neg h1))
 clear h1
 go_wp2_with fail
 (refine (hG1.out _ (hb.later C2.lat)).mono ?_);rintro e w3 ⟨rfl,j3⟩
 go_wp2_with fail
 (refine (hG2.out _ (hb.later (C2.lat.trans j3))).mono ?_);rintro e w4 ⟨rfl,j4⟩
 have C4:=(C2.later j3).later j4
 clear k16 k17 k18 k19 j3 j4 C2 hb0lt
 obtain⟨k16,k17,k18,k19⟩:=hcl.out _ (hb.later C4.lat)
 have hb0lt:b0<w4.heap.size:=QFV hb00 C4.lat.size
 obtain⟨z,hz⟩:∃z,z=QFZ S:=⟨_,rfl⟩
 have hzS:z.toNat=S:=by rw[hz,QF4,QFT (by omega)]
 rw[←hz]
 clear hz
 have hlt450:(450:UInt64)<z↔450<S:=by rw[UInt64.lt_iff_toNat_lt,hzS];rfl
 by_cases hx:x19≠0∨450<S
 ·by_cases h19:x19=0
  ·have n1:(x19 != 0)=false:=by simpa using h19
   have n2:(450:UInt64)<z:=hlt450.2 (hx.resolve_left (fun f=>f h19))
   clear h19 hlt450
   have HE:E=3:=hE.out.trans (if_pos hx)
   have HP:PP=prt0:=by rw[hP.out,if_neg (by rw[HE];decide)]
   replace HE:=hid HE
   replace HP:=hid HP
   clear hP hE hcl hG1 hG2
   go_wp2_with (first
    | (refine Qak rfl 36 _ rfl (PaC prt0 (.slice none 0 0)) (by simp only[QFI,QFR];exact hb0) ?_)
    | (refine Qb6 rfl rfl _ _ rfl (C4.nth 0 rfl) rfl rfl rfl rfl ?_;intro e7 eb7 eo7
       have E7:=C4.write 0 rfl eo7 eb7)
    | fail)
   exact bodyPost_ret (Qaf rfl _ _ _ _ _ _ (E7.nth 0 rfl) rfl Tryz.underlying36 rfl (by rw[Qbe];exact Qd4)) rfl ⟨none,0,by rw[HE.out,HP.out];rfl,by rw[HP.out];exact Qa1 _ _ _,E7.lat⟩
  ·have n1:(x19 != 0)=true:=by simpa using h19
   clear h19 hlt450
   have HE:E=3:=hE.out.trans (if_pos hx)
   have HP:PP=prt0:=by rw[hP.out,if_neg (by rw[HE];decide)]
   replace HE:=hid HE
   replace HP:=hid HP
   clear hP hE hcl hG1 hG2
   go_wp2_with (first
    | (refine Qak rfl 36 _ rfl (PaC prt0 (.slice none 0 0)) (by simp only[QFI,QFR];exact hb0) ?_)
    | (refine Qb6 rfl rfl _ _ rfl (C4.nth 0 rfl) rfl rfl rfl rfl ?_;intro e7 eb7 eo7
       have E7:=C4.write 0 rfl eo7 eb7)
    | fail)
   exact bodyPost_ret (Qaf rfl _ _ _ _ _ _ (E7.nth 0 rfl) rfl Tryz.underlying36 rfl (by rw[Qbe];exact Qd4)) rfl ⟨none,0,by rw[HE.out,HP.out];rfl,by rw[HP.out];exact Qa1 _ _ _,E7.lat⟩
 have n1:(x19 != 0)=false:=by
  cases e:(x19 != 0)
  ·rfl
  ·exact absurd (.inl (by simpa using e)) hx
 have hS4:S≤450:=by omega
 have n2: ¬(450:UInt64)<z:=fun h=>by have:=hlt450.1 h;omega
 replace hE:=hid (hE.out.trans (if_neg hx))
 clear hx hlt450
 have w17:IntKind.i64.wrap (x17.toNat:Int)=(x17.toNat:Int):=by have:=x17.toNat_lt;rw[IntKind.wrap_i64];omega
 have w18:IntKind.i64.wrap (x18.toNat:Int)=(x18.toNat:Int):=by have:=x18.toNat_lt;rw[IntKind.wrap_i64];omega
 have wz:IntKind.i64.wrap (z.toNat:Int)=(S:Int):=by rw[hzS,IntKind.wrap_i64];omega
 clear hzS
 have hP0:P=⟨x16,ID,(x17.toNat:Int),(x18.toNat:Int),subB b 30 S⟩:=hOf.out
 have hdl:=hsl.out hS4
 have hCk:=hid (fun (w:World) A' c'=>Qj7 P A' S c' hdl w)
 have hZ2:=hid (fun (w:World) A' c' (h:RdB w A' (480-(30+S)) (b.drop (30+S)))=>Qqn A' (480-(30+S)) c' (b.drop (30+S)) w h (by omega))
 have hR2:=hid (fun (w:World) (h:RdB w (some ⟨b0,o,none⟩) 480 b)=>(⟨fun hne:c≠30+S=>by
  have:=h.cut (k:=30+S) (c:=c) (by omega) hc
  rw[cutA,if_neg hne]at this
  rw[show some (⟨b0,o+(30+S),none⟩:Addr)=(some (⟨b0,o,none⟩:Addr)).map (·.add (30+S)) by rw[QHg,Qda]]
  exact this,fun he:c=30+S=>⟨by rw[QFA,QF0];omega,fun h=>absurd h (by omega)⟩⟩:(c≠30+S→RdB w (some ⟨b0,o+(30+S),none⟩) (480-(30+S)) (b.drop (30+S)))∧(c=30+S→RdB w (some ⟨b0,o,none⟩) (480-(30+S)) (b.drop (30+S)))))
 have hCp:=hid (fun (w:World) (h:RdB w (some ⟨b0,o,none⟩) 480 b)=>Qj6 (some ⟨b0,o+30,none⟩) S (c-30) (subB b 30 S) w (by
  by_cases h0:S=0
  ·rw[h0]
   exact⟨rfl,fun h=>absurd h (by omega)⟩
  ·exact QAv h 30 S (by omega) (by omega)) (by omega))
 have hda:Hid (P.da=subB b 30 S):=hid (by rw[hP0])
 generalize hD:subB b 30 S=D at *
 clear hOf hD
 generalize allZ (b.drop (30+S))=F2 at *
 generalize prtE P=CE at *
 have f0:(0:Int)≤(S:Int):=by omega
 have f1:(S:Int)≤450:=by omega
 have f2:((30:Int)+(S:Int)).toNat=30+S:=by omega
 go_wp2_with fail
 have C5:=C4.drew
 have m0:=hb.later C5.lat
 refine Qad [([0,1,2,3,4,5,6,7,8,9,10,11,12],13)] [] [14] (by as_aux_lemma=>kernel_rfl) (by as_aux_lemma=>kernel_rfl) (by intro _ _ d _ _ h;cases d<;>exact h) ?_
 simp only[Qah,pick,QFv,QFw,QFx,QFy,QFz]
 repeat (first|go_big_quiet_skip|(go_big_quiet_want;(refine QbL _ _ rfl (PaC ⟨x16,ID,(x17.toNat:Int),(x18.toNat:Int),[]⟩ (.slice none 0 0)) (by simp only[QFI,QFW,QFR];exact Qun _ _ _ _) ?_);simp only[Act.put,QFD,QFH,QFG];go_big_quiet_on)|(go_big_quiet_step (fail)))
 refine wpQuiet_nil ?_
 go_wp2_with fail
 try refine⟨by first|assumption|exact Qab _|exact Qaa _ _|exact Later.refl _,?_⟩
 try simp only[Qah,pick,QFv,QFw,QFx,QFy,QFz]
 repeat (go_big_quiet_step (fail))
 refine wpQuiet_nil ?_
 go_wp2_with (first
  | (refine Qb6 rfl rfl _ _ rfl (Blk.new w4.drew _ pz0) rfl rfl rfl rfl ?_;intro w6 hb6 ho6
     have C6:=C5.push (Qaa _ _) (QFE _) ho6 hb6)
  | fail)
 (refine (hCp.out _ (hb.later C6.lat)).mono ?_);rintro e w7 ⟨rfl,hb7,j7⟩
 have C7:=C6.fresh j7 (QFE _) hb7
 have hset:Hid ((PaC ⟨x16,ID,(x17.toNat:Int),(x18.toNat:Int),[]⟩ (.slice none 0 0)).set 4 (.slice (some ⟨w6.heap.size,0,none⟩) S S)=PaC P (.slice (some ⟨w6.heap.size,0,none⟩) S S)):=hid (by rw[hP0];rfl)
 clear hb7 j7 hb6 ho6 C4 C5 hCp m0 hP0
 by_cases hc0:CE=0
 ·subst hc0
  go_wp2_with (first
   | (refine Qac rfl rfl _ _ _ rfl w4.drew.heap.size 4 _ _ (C7.nth 1 rfl) rfl (by rw[Qbe];omega) rfl (by kernel_rfl) ?_;intro v8 w8 hv8 hb8 ho8;simp[go_sem]at hv8;subst hv8;rw[hset.out]at hb8
      have C8:=C7.write 1 rfl ho8 hb8)
   | (refine Qea rfl _ rfl (C8.nth 1 rfl) rfl ?_)
   | fail)
  (refine (hCk.out _ _ _).mono ?_);rintro e w9 ⟨rfl,j9⟩
  have C9:=C8.later j9
  have hR9:=hid (hR2.out _ (hb.later C9.lat))
  by_cases hcs:c=30+S
  all_goals
   have hR10:=hid (by first|exact hR9.out.2 hcs|exact hR9.out.1 hcs)
   go_wp2_with fail
   (with_reducible refine (hZ2.out _ _ _ hR10.out).mono ?_);rintro e w10 ⟨rfl,j10⟩
   have C10:=C9.later j10
   cases F2
   ·replace hE:=hid (hE.out.trans (if_pos (.inr rfl)))
    have HE:E=3:=hE.out
    have HP:PP=prt0:=by rw[hP.out,if_neg (by rw[HE];decide)]
    replace HE:=hid HE
    replace HP:=hid HP
    clear hP hE
    go_wp2_with (first
     | (refine Qak rfl 36 _ rfl (PaC prt0 (.slice none 0 0)) (by simp only[QFI,QFR];exact hb0) ?_)
     | (refine Qb6 rfl rfl _ _ rfl (C10.nth 2 rfl) rfl rfl rfl rfl ?_;intro e7 eb7 eo7
        have E7:=C10.write 2 rfl eo7 eb7)
     | fail)
    exact bodyPost_ret (Qaf rfl _ _ _ _ _ _ eb7 rfl Tryz.underlying36 rfl (by rw[Qbe];exact Qd4)) rfl ⟨none,0,by rw[HE.out,HP.out];rfl,by rw[HP.out];exact Qa1 _ _ _,E7.lat⟩
   ·replace hE:=hid (hE.out.trans (if_neg (by simp)))
    have HP:PP=P:=by rw[hP.out,if_pos hE.out]
    replace HP:=hid HP
    go_wp2_with (first
     | (refine Qea rfl _ rfl (C10.nth 1 rfl) rfl ?_)
     | (refine Qb6 rfl rfl _ _ rfl (C10.nth 2 rfl) rfl rfl rfl rfl ?_;intro e7 eb7 eo7
        have E7:=C10.write 2 rfl eo7 eb7)
     | fail)
    refine bodyPost_ret (Qaf rfl _ _ _ _ _ _ eb7 rfl Tryz.underlying36 rfl (by rw[Qbe];exact Qd4)) rfl ⟨some ⟨w6.heap.size,0,none⟩,S,by rw[hE.out,HP.out,hdl];rfl,?_,E7.lat⟩
    rw[HP.out,hda.out]
    have hDl:D.length=S:=by rw[←hda.out];exact hdl
    have:=Qcj (E7.nth 0 rfl) (E7.at_low 0 rfl) (by rw[QFA,hDl];omega)
    rw[QFA,hDl]at this
    rw[hDl]
    exact this
 ·have hne:((CE:Int) != 0)=true:=by simp;omega
  replace hE:=hid (hE.out.trans (if_pos (.inl hc0)))
  clear hc0
  have HE:E=3:=hE.out
  have HP:PP=prt0:=by rw[hP.out,if_neg (by rw[HE];decide)]
  replace HE:=hid HE
  replace HP:=hid HP
  clear hP hE
  go_wp2_with (first
   | (refine Qac rfl rfl _ _ _ rfl w4.drew.heap.size 4 _ _ (C7.nth 1 rfl) rfl (by rw[Qbe];omega) rfl (by kernel_rfl) ?_;intro v8 w8 hv8 hb8 ho8;simp[go_sem]at hv8;subst hv8;rw[hset.out]at hb8
      have C8:=C7.write 1 rfl ho8 hb8)
   | (refine Qea rfl _ rfl (C8.nth 1 rfl) rfl ?_)
   | fail)
  (refine (hCk.out _ _ _).mono ?_);rintro e w9 ⟨rfl,j9⟩
  have C9:=C8.later j9
  go_wp2_with (first
   | (refine Qak rfl 36 _ rfl (PaC prt0 (.slice none 0 0)) (by simp only[QFI,QFR];exact hb0) ?_)
   | (refine Qb6 rfl rfl _ _ rfl (C9.nth 2 rfl) rfl rfl rfl rfl ?_;intro e7 eb7 eo7
      have E7:=C9.write 2 rfl eo7 eb7)
   | fail)
  exact bodyPost_ret (Qaf rfl _ _ _ _ _ _ eb7 rfl Tryz.underlying36 rfl (by rw[Qbe];exact Qd4)) rfl ⟨none,0,by rw[HE.out,HP.out];rfl,by rw[HP.out];exact Qa1 _ _ _,E7.lat⟩
def fr3 (p:Prt):List UInt8:=QFu 16 0++([p.kd,QF3 p.ix,QF3 p.ct,0]++QFu 460 0)
def frK (p:Prt) (k:Nat):List UInt8:=putB (fr3 p) 20 ((bigB 8 p.id.toNat).take k)
theorem Qj8 (n:Nat):QF3 (n:Int)=QGa n:=by
 apply QGl.1
 rw[QGK]
 show ((n:Int)%(2:Int)^8).toNat%2^8=n%2^8
 omega
theorem Qp0 (p:Prt):(((QFu 480 (0:UInt8)).set 16 p.kd).set 17 (QF3 p.ix)).set 18 (QF3 p.ct)=fr3 p:=by
 rw[show QFu 480 (0:UInt8)=QFu 16 0++([0,0,0,0]++QFu 460 0) by rw[show ([0,0,0,0]:List UInt8)=QFu 4 0 from rfl,QGJ,QGJ]]
 rw[QF9 _ _ (by simp),QF9 _ _ (by simp),QF9 _ _ (by simp),QFM]
 rfl
theorem QhQ (p:Prt):(fr3 p).length=480:=by
 rw[fr3,QFF,QFF,QFM,QFM]
 show 16+(4+460)=480
 omega
theorem Qiu:∀(w n k:Nat),k<w→(bigB w n)[k]?=some (QGa (n/256^(w-1-k)))
 | 0,_,_,h=>by omega
 | w+1,n,k,h=>by
   rw[bigB]
   by_cases hk:k<w
   ·rw[QFS (by rw[QaL];exact hk),Qiu w _ k hk,QGj,show w+1-1-k=(w-1-k)+1 by omega,QGs,QGF]
   ·obtain rfl:k=w:=by omega
    rw[QFK (by rw[QaL];omega),QaL,Nat.sub_self,show k+1-1-k=0 by omega,QHK,Nat.div_one]
    rfl
theorem Qqq (x:UInt64) (k:Nat) (h:k<8):(QfG x (56-8*k)).toUInt8=QGa (x.toNat/256^(8-1-k)):=by
 apply QGl.1
 have e:(QfG x (56-8*k)).toNat=x.toNat/2^(56-8*k):=by
  show (x.toBitVec >>> (56-8*k)).toNat=_
  rw[QGu,QGp]
  rfl
 rw[QHB,e,QGK,show (2:Nat)^(56-8*k)=256^(8-1-k) by rw[show (256:Nat)=2^8 from rfl,←QHb];congr 1;omega]
theorem QvW (p:Prt):frK p 0=fr3 p:=by simp[frK,putB]
theorem Qka (p:Prt) (k:Nat):(frK p k).length=480:=by
 rw[frK,QcL (by rw[QhQ,QFY,QaL];omega),QhQ]
theorem QxG (p:Prt) (k:Nat) (h:k<8):(frK p k).set (20+k) (QfG p.id (56-8*k)).toUInt8=frK p (k+1):=by
 have hb:(bigB 8 p.id.toNat).take (k+1)=(bigB 8 p.id.toNat).take k++[(QfG p.id (56-8*k)).toUInt8]:=by
  rw[List.take_add_one,Qiu 8 _ k h,Qqq _ _ h]
  rfl
 have hl:((bigB 8 p.id.toNat).take k).length=k:=by rw[QFY,QaL];omega
 have h3:=QhQ p
 rw[frK,frK,hb]
 generalize (QfG p.id (56-8*k)).toUInt8=x
 generalize (bigB 8 p.id.toNat).take k=q at *
 generalize fr3 p=L at *
 rw[putB,putB,QF9 _ _ (by simp;omega),QFF,QFY,h3,hl,show 20+k-(min 20 480+k)=0 by omega,QFF,hl,List.length_singleton,QGA (i:=20+k) (by omega),QFG]
 simp[QHx]
theorem QA8 (p:Prt) (h:p.da.length≤450):putB (((frK p 8).set 28 (QF3 ((p.da.length:Int)/256))).set 29 (QF3 ((p.da.length:Int)%256))) 30 p.da=Qbg p:=by
 have h8:(bigB 8 p.id.toNat).take 8=bigB 8 p.id.toNat:=QFJ (by rw[QaL];omega)
 have e1:QF3 ((p.da.length:Int)/256)=QGa (p.da.length/256):=by
  rw[show ((p.da.length:Int)/256)=((p.da.length/256:Nat):Int) by omega,Qj8]
 have e2:QF3 ((p.da.length:Int)%256)=QGa p.da.length:=by
  rw[show ((p.da.length:Int)%256)=((p.da.length%256:Nat):Int) by omega,Qj8]
  apply QGl.1
  rw[QGK,QGK,QG3]
 have hb2:bigB 2 p.da.length=[QGa (p.da.length/256),QGa p.da.length]:=rfl
 rw[e1,e2,frK,h8,Qbg,hb2,fr3]
 generalize QGa (p.da.length/256)=x
 generalize QGa p.da.length=y
 have hI:=QaL 8 p.id.toNat
 generalize bigB 8 p.id.toNat=I at *
 have hH:(QFu 16 0++[p.kd,QF3 p.ix,QF3 p.ct,0]:List UInt8).length=20:=by simp
 rw[←QFL,←QFL]
 generalize (QFu 16 0++[p.kd,QF3 p.ix,QF3 p.ct,0]:List UInt8)=H at *
 rw[show QFu 460 (0:UInt8)=QFu 8 0++([0,0]++(QFu p.da.length 0++QFu (450-p.da.length) 0)) by
  rw[show ([0,0]:List UInt8)=QFu 2 0 from rfl,QGJ,QGJ,QGJ]
  congr 1
  omega,QcF _ _ _ _ 20 hH (by rw[hI,QFM])]
 rw[←QFL,QF9 _ _ (by simp;omega),QF9 _ _ (by simp;omega),QFF,hH,hI]
 show putB ((H++I)++([x,y]++(QFu p.da.length 0++QFu (450-p.da.length) 0))) 30 p.da=_
 rw[←QFL,QcF _ _ _ _ 30 (by simp;omega) (by rw[QFM])]
 simp only[QFL]
def frmR (p:Prt):List UInt8:=if prtE p=0 then Qbg p else []
theorem Qw2 (p:Prt):(((QFu 480 (Value.int .u8 0)).set 16 (W8 p.kd)).set 17 (W8 (QF3 p.ix))).set 18 (W8 (QF3 p.ct))=(frK p 0).map W8:=by
 rw[QvW,←Qp0,←QbC,←QbC,←QbC,QGg]
 rfl
set_option maxRecDepth 100000 in
set_option maxHeartbeats 4000000 in
theorem QrR (p:Prt) (A:Option Addr) (n c:Nat) (w:World) (hr:RdB w A n p.da) (hn:n≤1048576):
 Calls Tryz.prog 27 #[.agg (PaC p (.slice A n c)).toArray] w fun e w'=>∃A' c',e= .returned (.tuple #[.slice A' (frmR p).length c',.int .i64 (prtE p:Nat)])∧OwnB w' w.heap.size A' (frmR p).length c' (frmR p)∧Later w w':=by
 have hl:=hr.len
 have hCk:=hid (fun w=>Qrp p A n c hl w)
 have hz:=hid (fun h=>Qhm (p:=p) h)
 have hR:Hid (frmR p=if prtE p=0 then Qbg p else []):=hid rfl
 have C1:=Qbb w 36 (PaC p (.slice A n c))
 generalize frmR p=R at *
 generalize prtE p=E at *
 go_enter Tryz.func27,Tryz.ntmps27
 go_wp2_with (first
  | (refine Qea rfl _ rfl (C1.nth 0 rfl) rfl ?_)
  | fail)
 (refine (hCk.out _).mono ?_);rintro e w2 ⟨rfl,j2⟩
 have C2:=C1.later j2
 clear C1 j2
 by_cases h0:E=0
 ·subst h0
  have hz':=hid (hz.out (by trivial))
  have hR':=hid (hR.out.trans (if_pos (by trivial)))
  have hn450:n≤450:=by have:=hz'.out.2.1;omega
  have hend:=QA8 p (by omega)
  rw[hl]at hend
  replace hend:=hid hend
  have hlb:=Qdt p (by omega)
  have l0:(QFu 480 (Value.int .u8 0)).length=480:=by rw[QFM]
  have e3:=hid (Qp0 p)
  obtain⟨c0,c1,c2,c3,c4⟩:=QaS (C2.nth 0 rfl)
  go_wp2_with (first
   | (refine QaE rfl _ _ _ rfl 5 _ 1 Tryz.underlying25 Qbq rfl _ _ _ _ 480 rfl rfl rfl rfl (by omega) (by omega) ?_;intro w3 hb3 hl3
      have C3:=C2.fresh hl3 (QFE _) hb3
      obtain⟨c0,c1,c2,c3,c4⟩:=QaS (C3.nth 1 rfl))
   | (refine Qac rfl rfl _ _ _ rfl w2.heap.size 16 _ _ (C3.nth 0 rfl) rfl (by rw[l0];omega) rfl (by kernel_rfl) ?_;intro v4 w4 hv4 hb4 ho4;simp[go_sem]at hv4;subst hv4
      have C4:=C3.write 0 rfl ho4 hb4
      obtain⟨c0,c1,c2,c3,c4⟩:=QaS (C4.nth 1 rfl))
   | (refine Qac rfl rfl _ _ _ rfl w2.heap.size 17 _ _ (C4.nth 0 rfl) rfl (by rw[QGd,l0];omega) rfl (by kernel_rfl) ?_;intro v5 w5 hv5 hb5 ho5;simp[go_sem]at hv5;subst hv5
      have C5:=C4.write 0 rfl ho5 hb5
      obtain⟨c0,c1,c2,c3,c4⟩:=QaS (C5.nth 1 rfl))
   | (refine Qac rfl rfl _ _ _ rfl w2.heap.size 18 _ _ (C5.nth 0 rfl) rfl (by rw[QGd,QGd,l0];omega) rfl (by kernel_rfl) ?_;intro v6 w6 hv6 hb6 ho6;simp[go_sem]at hv6;subst hv6
      have C6:=C5.write 0 rfl ho6 hb6)
   | fail)
  have fv:=hid (Qw2 p)
  have hC6:Bag w w6 [(w2.heap.size,5,(frK p 0).map W8),(w.heap.size,36,PaC p (.slice A n c))]:=by
   rw[←fv.out]
   exact C6
  clear C6 C5 C4 C3 C2 hb3 hb4 hb5 hb6 ho4 ho5 ho6 hl3 c0 c1 c2 c3 c4 fv e3
  generalize w2.heap.size=g at *
  go_loopw [6] (fun i wr=>∃k:Nat,k≤8∧i= .int .i64 k∧Bag w wr [(g,5,(frK p k).map W8),(w.heap.size,36,PaC p (.slice A n c))]) (fun i _=>8-(intOf i).toNat)
  case atStart=>exact⟨0,by omega,rfl,hC6⟩
  case round=>
   clear hC6
   obtain⟨k,hk,rfl,B1⟩:=hrel
   by_cases hlt:k<8
   ·have hlen:=Qka p k
    have c1:=(QaS (B1.nth 1 rfl)).2.1
    have hlg:=(B1.nth 1 rfl).lt
    have hst:=hid (QxG p k hlt)
    have e20:((20:Int)+(k:Int)).toNat=20+k:=by omega
    have e56:((56:Int)-8*(k:Int)).toNat=56-8*k:=by omega
    go_wp2_with (first
     | (refine Qac rfl rfl _ _ _ rfl g (20+k) _ _ (B1.nth 0 rfl) rfl (by rw[QFA,hlen];omega) rfl (by kernel_rfl) ?_;intro v6 w6 hv6 hb6 ho6;simp[go_sem]at hv6;subst hv6;rw[QbC,hst.out]at hb6
        have B2:=B1.write 0 rfl ho6 hb6)
     | fail)
    go_roundw
    case rel=>exact⟨k+1,by omega,by go_num,B2⟩
    case measure=>simp[intOf];omega
   ·obtain rfl:k=8:=by omega
    have hlen:=Qka p 8
    obtain⟨c0,c1,c2,c3,c4⟩:=QaS (B1.nth 1 rfl)
    have hlg:=(B1.nth 1 rfl).lt
    go_wp2_with (first
     | (refine Qac rfl rfl _ _ _ rfl g 28 _ _ (B1.nth 0 rfl) rfl (by rw[QFA,hlen];omega) rfl (by kernel_rfl) ?_;intro v6 w6 hv6 hb6 ho6;simp[go_sem]at hv6;subst hv6
        have B2:=B1.write 0 rfl ho6 hb6
        obtain⟨c0,c1,c2,c3,c4⟩:=QaS (B2.nth 1 rfl)
        have hlg:=(B2.nth 1 rfl).lt)
     | (refine Qac rfl rfl _ _ _ rfl g 29 _ _ (B2.nth 0 rfl) rfl (by rw[QGd,QFA,hlen];omega) rfl (by kernel_rfl) ?_;intro v7 w7 hv7 hb7 ho7;simp[go_sem]at hv7;subst hv7
        have B3:=(B2.write 0 rfl ho7 hb7).drew
        obtain⟨c0,c1,c2,c3,c4⟩:=QaS (B3.nth 1 rfl)
        have hlg:=(B3.nth 1 rfl).lt)
     | fail)
    refine Qad [] [0,1,2,3] [4] (by as_aux_lemma=>kernel_rfl) (by as_aux_lemma=>kernel_rfl) (by intro _ _ d _ _ h;cases d<;>exact h) ?_
    simp only[Qah,pick,QFv,QFw,QFx,QFy,QFz]
    repeat (go_big_quiet_step (fail))
    refine wpQuiet_nil ?_
    go_wp2_with (first
     | (refine Qax rfl _ _ _ _ rfl 5 Tryz.underlying25 Qb0 g 30 450 450 _ _ (B3.nth 0 rfl) A n c (p.da.map W8) (Rd.later hr B3.lat) (Qay _) rfl rfl (by rw[QGd,QGd,QFA,hlen];omega) ?_;intro w8 hb8 ho8
        have B4:=B3.write 0 rfl ho8 hb8)
     | fail)
    rw[QbC,QbC,QFJ (by rw[QFA];omega),Qc5,hend.out]at hb8
    go_ret2
    have ho:=Qcj hb8 (B3.at_low 0 rfl) (by rw[QFA,hlb];omega)
    rw[QFA,hlb]at ho
    exact⟨some ⟨g,0,none⟩,480,by rw[hR'.out,hlb];rfl,by rw[hR'.out,hlb];exact ho,B4.lat⟩
 ·have hne:((E:Int) != 0)=true:=by simp;omega
  have hR':=hid (hR.out.trans (if_neg h0))
  go_wp2
  go_ret2
  exact⟨none,0,by rw[hR'.out];rfl,by rw[hR'.out];exact Qa1 _ _ _,C2.lat⟩
set_option maxRecDepth 100000 in
set_option maxHeartbeats 4000000 in
theorem Qoe (p:Prt) (A B:Option Addr) (n c d:Nat) (w:World) (hx:RdB w A n p.da) (hy:RdB w B n p.da) (hn:n≤1048576):
 Calls Tryz.prog 14 #[.agg (PaC p (.slice A n c)).toArray,.agg (PaC p (.slice B n d)).toArray] w fun e w'=>e= .returned (.bool true)∧Later w w':=by
 have C1:=Qbb w 36 (PaC p (.slice A n c))
 have C2:=C1.add (Qaa _ (.cells (PaC p (.slice B n d)).toArray 36)) (k:=w.heap.size+1) (by simp) (by omega) (Blk.new' _ _ (PaC p (.slice B n d)) (by simp))
 obtain⟨a0,a1,a2,a3,a4⟩:=QaS (C2.nth 1 rfl)
 obtain⟨b0,b1,b2,b3,b4⟩:=QaS (C2.nth 0 rfl)
 have u0:=(C2.nth 0 rfl).lt
 have u1:=(C2.nth 1 rfl).lt
 obtain⟨kd,id,ix,ct,da⟩:=p
 simp only at *
 go_enter Tryz.func14,Tryz.ntmps14
 go_wp2_with fail
 (refine (QmY A B n n c d da da _ (hx.later C2.lat) (hy.later C2.lat) (by omega) (by omega)).mono ?_);rintro e w3 ⟨rfl,j3⟩
 go_wp2_with fail
 go_ret
 exact⟨by simp,C2.lat.trans j3⟩
theorem Qzn (x:UInt32) (j:Nat) (h:j<4):(bigB 4 x.toNat).take (j+1)=(bigB 4 x.toNat).take j++[(QbZ x (8*(3-j))).toUInt8]:=by
 rw[List.take_add_one,Qiu 4 _ j h]
 have e:(QbZ x (8*(3-j))).toNat=x.toNat/2^(8*(3-j)):=by
  show (x.toBitVec >>> (8*(3-j))).toNat=_
  rw[QGu,QGp]
  rfl
 have e2:(QbZ x (8*(3-j))).toUInt8=QGa (x.toNat/256^(4-1-j)):=by
  apply QGl.1
  rw[UInt32.toNat_toUInt8,e,QGK,show (2:Nat)^(8*(3-j))=256^(4-1-j) by rw[show (256:Nat)=2^8 from rfl,←QHb]]
 rw[e2]
 rfl
theorem Qzt (x:UInt64) (j:Nat) (h:j<8):(bigB 8 x.toNat).take (j+1)=(bigB 8 x.toNat).take j++[(QfG x (8*(7-j))).toUInt8]:=by
 rw[List.take_add_one,Qiu 8 _ j h,show 8*(7-j)=56-8*j by omega,Qqq x j h]
 rfl
def encR (c:Cmd):List UInt8:=if cmdE c=0 then encB c else []
set_option maxRecDepth 100000 in
set_option maxHeartbeats 4000000 in
theorem Qr7 (c:Cmd) (w:World):Calls Tryz.prog 82 #[.agg (CC c).toArray] w fun e w'=>∃A' c',e= .returned (.tuple #[.slice A' (encR c).length c',.int .i64 (cmdE c:Nat)])∧OwnB w' w.heap.size A' (encR c).length c' (encR c)∧Later w w':=by
 have C1:=Qbb w 53 (CC c)
 have hCk:=hid (QqV c)
 have hR:Hid (encR c=if cmdE c=0 then encB c else []):=hid rfl
 have hB:Hid (encB c=[c.kd,c.fl]++(bigB 4 c.dl.toNat++(bigB 8 c.nx.toNat++(c.ma.val++[0,0])))):=hid rfl
 have h4:=QaL 4 c.dl.toNat
 have h8:=QaL 8 c.nx.toNat
 have hel:=Qdg c
 have d4:=hid (Qzn c.dl)
 have d8:=hid (Qzt c.nx)
 generalize encR c=R at *
 generalize cmdE c=E at *
 generalize encB c=EB at *
 go_enter Tryz.func82,Tryz.ntmps82
 go_wp2_with (first
  | (refine Qdc rfl _ rfl (C1.nth 0 rfl) rfl ?_)
  | fail)
 (with_reducible refine (hCk.out _).mono ?_);rintro e w2 ⟨rfl,j2⟩
 have C2:=C1.later j2
 clear C1 j2 hCk
 by_cases h0:E=0
 ·subst h0
  replace hR:=hid (hR.out.trans (if_pos (by trivial)))
  obtain⟨k0,k1,k2,k3,k4⟩:=QcS (C2.nth 0 rfl)
  go_wp2_with fail
  generalize bigB 4 c.dl.toNat=D at *
  generalize bigB 8 c.nx.toNat=X at *
  go_loopw [5,6] (fun v i wr=>∃(j:Nat) (A':Option Addr) (c':Nat),j≤4∧i= .int .i64 (3-(j:Int))∧v= .slice A' (2+j) c'∧OwnB wr w2.heap.size A' (2+j) c' ([c.kd,c.fl]++D.take j)∧Later w2 wr) (fun _ i _=>(intOf i+1).toNat)
  case atStart=>exact⟨0,_,_,by omega,rfl,rfl,QfE w2 5 [W8 c.kd,W8 c.fl] (by simp),Qaa _ _⟩
  case round=>
   clear k0 k1 k2 k3 k4
   obtain⟨j,A1,c1,hj,rfl,rfl,hown,L⟩:=hrel
   have hb:=(C2.later L).nth 0 rfl
   obtain⟨k0,k1,k2,k3,k4⟩:=QcS hb
   have hlg:=hb.lt
   by_cases hlt:j<4
   ·have hge:(0:Int)≤3-(j:Int):=by omega
    have e8:((8:Int)*(3-(j:Int))).toNat=8*(3-j):=by omega
    have hst:=hid (d4.out j hlt)
    have J:=Qaa wr (.cells #[W8 (QbZ c.dl (8*(3-j))).toUInt8] 5)
    go_wp2_with (first
     | (refine Qal rfl _ _ _ rfl 5 _ 1 Tryz.underlying25 Qbq rfl w2 _ (2+j) _ (Qaq hown J) (L.trans J) _ 1 1 _ ((Blk.new wr 5 [W8 (QbZ c.dl (8*(3-j))).toUInt8]).rd rfl) (by intro u hu;rw[QGL.1 hu];rfl) rfl rfl (by omega) (by omega) ?_;intro A3 c3 w3 hown3 hl3 hg3 _)
     | fail)
    go_roundw
    case rel=>
     refine⟨j+1,A3,c3,by omega,by rw[show (3:Int)-((j+1:Nat):Int)=3-(j:Int)-1 by omega],rfl,QdJ hown3 rfl ?_,hl3⟩
     rw[hst.out,QF2,QF2,QF2,QFL]
     rfl
    case measure=>simp[intOf];omega
   ·obtain rfl:j=4:=by omega
    rw[QFJ (by omega)]at hown
    go_wp2_with fail
    go_loopw [5,7] (fun v i wr=>∃(j:Nat) (A':Option Addr) (c':Nat),j≤8∧i= .int .i64 (7-(j:Int))∧v= .slice A' (6+j) c'∧OwnB wr w2.heap.size A' (6+j) c' (([c.kd,c.fl]++D)++X.take j)∧Later w2 wr) (fun _ i _=>(intOf i+1).toNat)
    case atStart=>exact⟨0,_,_,by omega,rfl,rfl,QdJ hown rfl (by rw[QHy,QGb]),L⟩
    case round=>
     clear k0 k1 k2 k3 k4 hb hown L hlg
     obtain⟨j,A1,c1,hj,rfl,rfl,hown,L⟩:=hrel
     have hb:=(C2.later L).nth 0 rfl
     obtain⟨k0,k1,k2,k3,k4⟩:=QcS hb
     have hlg:=hb.lt
     by_cases hlt:j<8
     ·have hge:(0:Int)≤7-(j:Int):=by omega
      have e8:((8:Int)*(7-(j:Int))).toNat=8*(7-j):=by omega
      have hst:=hid (d8.out j hlt)
      have J:=Qaa wr (.cells #[W8 (QfG c.nx (8*(7-j))).toUInt8] 5)
      go_wp2_with (first
       | (refine Qal rfl _ _ _ rfl 5 _ 1 Tryz.underlying25 Qbq rfl w2 _ (6+j) _ (Qaq hown J) (L.trans J) _ 1 1 _ ((Blk.new wr 5 [W8 (QfG c.nx (8*(7-j))).toUInt8]).rd rfl) (by intro u hu;rw[QGL.1 hu];rfl) rfl rfl (by omega) (by omega) ?_;intro A3 c3 w3 hown3 hl3 hg3 _)
       | fail)
      have hnx:OwnB w3 w2.heap.size A3 (6+(j+1)) c3 (([c.kd,c.fl]++D)++X.take (j+1)):=QdJ hown3 rfl (by
       rw[hst.out,←QFL,QF2 (l₂:=[_])]
       rfl)
      go_roundw
      case rel=>
       repeat apply Exists.intro
       exact⟨⟨j+1,A3,c3,by omega,by rw[show (7:Int)-((j+1:Nat):Int)=7-(j:Int)-1 by omega],rfl,hnx,hl3⟩,rfl⟩
      case measure=>simp[intOf];omega
     ·obtain rfl:j=8:=by omega
      rw[QFJ (by omega)]at hown
      have hma:=c.ma.2
      have hr16:RdB wr (some ⟨w.heap.size,4,none⟩) 16 c.ma.val:=Qd9 hlg (fun j v hv=>k4 j v hv) hma
      go_wp2_with (first
       | (refine Qal rfl _ _ _ rfl 5 _ 1 Tryz.underlying25 Qbq rfl w2 _ 14 _ hown L (some ⟨w.heap.size,4,none⟩) 16 16 _ hr16 (Qay _) rfl rfl (by omega) (by omega) ?_;intro A3 c3 w3 hown3 hl3 hg3 _
          have J:=Qaa w3 (.cells #[W8 0,W8 0] 5))
       | (refine Qal rfl _ _ _ rfl 5 _ 1 Tryz.underlying25 Qbq rfl w2 _ 30 _ (Qaq hown3 J) (hl3.trans J) _ 2 2 _ ((Blk.new w3 5 [W8 0,W8 0]).rd rfl) (by intro u hu;simp only[QFP,QFO,or_false]at hu;rcases hu with rfl|rfl<;>rfl) rfl rfl (by omega) (by omega) ?_;intro A4 c4 w4 hown4 hl4 hg4 _)
       | fail)
      go_ret2
      refine⟨A4,c4,by rw[hR.out,hel];rfl,?_,C2.lat.trans hl4⟩
      rw[hR.out,hel,hB.out]
      refine Qbc (QdJ hown4 rfl ?_) C2.lat.size
      simp only[QF2,QFL,QFW,QFR,QFy,QFz]
 ·have hne:((E:Int) != 0)=true:=by simp;omega
  replace hR:=hid (hR.out.trans (if_neg h0))
  go_wp2
  go_ret2
  exact⟨none,0,by rw[hR.out];rfl,by rw[hR.out];exact Qa1 _ _ _,C2.lat⟩
theorem Qjj (k p:List UInt8) (hp:p.length=768):(unwP k p).length=768:=by
 unfold unwP
 split
 ·exact Qjo _ _ hp (QfH _ _)
 ·exact QFM
section
variable {ops:Array Oper} {rest:List Oper} {o:Oper} {a:Act}
end
structure Pel where
 c:Cmd
 P:Y768
 B:List UInt8
def Qwy:Y768:=⟨z768,QaU⟩
def pel0:Pel:=⟨cmd0,Qwy,[]⟩
def unwY (k:List UInt8) (p:Y768):Y768:=⟨unwP k p.val,Qjj k p.val p.2⟩
def unwL (k:List UInt8) (p:Y768):Pel:=⟨unwC k p.val,unwY k p,unwB k p.val⟩
section
variable {ks:List (List UInt8)} {k:Nat} {q:Y768}
end
structure PelV where
 c:Cmd
 P:Y768
 A:Option Addr
 n:Nat
 cp:Nat
def QEF:PelV:=⟨cmd0,Qwy,none,0,0⟩
def Qzy (w:World) (base:Nat) (x:PelV) (y:Pel):Prop:=x.c=y.c∧x.P=y.P∧x.n=y.B.length∧OwnB w base x.A x.n x.cp y.B
def PelRow (w:World) (base:Nat):List PelV→List Pel→Prop
 | [],[]=>True
 | x :: xs,y :: ys=>Qzy w base x y∧PelRow w base xs ys
 | _,_=>False
theorem PelRow.len {w:World} {base:Nat}:∀ {xs:List PelV} {ys:List Pel},PelRow w base xs ys→xs.length=ys.length
 | [],[],_=>rfl
 | x :: xs,y :: ys,h=>by rw[QGo,QGo,PelRow.len h.2]
theorem PelRow.snoc {w:World} {base:Nat} {x:PelV} {y:Pel}:∀ {xs:List PelV} {ys:List Pel},PelRow w base xs ys→Qzy w base x y→PelRow w base (xs++[x]) (ys++[y])
 | [],[],_,h=>⟨h,trivial⟩
 | _ :: _,_ :: _,h,h'=>⟨h.1,PelRow.snoc h.2 h'⟩
theorem PelRow.mono {w w':World} {base:Nat} (hw:∀A n c B,OwnB w base A n c B→OwnB w' base A n c B):∀ {xs:List PelV} {ys:List Pel},PelRow w base xs ys→PelRow w' base xs ys
 | [],[],_=>trivial
 | _ :: _,_ :: _,h=>⟨⟨h.1.1,h.1.2.1,h.1.2.2.1,hw _ _ _ _ h.1.2.2.2⟩,PelRow.mono hw h.2⟩
theorem PelRow.at_ {w:World} {base:Nat}:∀ {xs:List PelV} {ys:List Pel} (i:Nat),PelRow w base xs ys→i<ys.length→Qzy w base (xs.getD i QEF) (ys.getD i pel0)
 | [],[],i,_,h=>absurd h (by simp)
 | _ :: _,_ :: _,0,h,_=>h.1
 | _ :: _,_ :: _,i+1,h,hi=>by
   have:=PelRow.at_ i h.2 (by simpa using hi)
   simpa using this
theorem PelRow.later {w w':World} {base:Nat} {xs:List PelV} {ys:List Pel} (h:PelRow w base xs ys) (hl:Later w w'):PelRow w' base xs ys:=h.mono fun _ _ _ _ h=>Qaq h hl
theorem Qd7 {w w':World} {base k sz:Nat} {e:TypeId} {v:Value} {n:Nat} {vs:List Value} (h:w.ownsRow base e sz v n vs) (ho:Only k w w') (hne:∀b,v.ownBlock=some b→b≠k):w'.ownsRow base e sz v n vs:=by
 refine h.kept ho ?_
 cases hb:v.ownBlock with
 | none=>exact .inl rfl
 | some b=>exact .inr fun he=>hne b hb (by injection he)
def All2 {α β:Type} (R:α→β→Prop):List α→List β→Prop
 | [],[]=>True
 | x :: xs,y :: ys=>R x y∧All2 R xs ys
 | _,_=>False
section
variable {α β:Type} {R R':α→β→Prop}
theorem All2.len:∀ {xs:List α} {ys:List β},All2 R xs ys→xs.length=ys.length
 | [],[],_=>rfl
 | x :: xs,y :: ys,h=>by rw[QGo,QGo,All2.len h.2]
theorem All2.snoc {x:α} {y:β}:∀ {xs:List α} {ys:List β},All2 R xs ys→R x y→All2 R (xs++[x]) (ys++[y])
 | [],[],_,h=>⟨h,trivial⟩
 | _ :: _,_ :: _,h,h'=>⟨h.1,All2.snoc h.2 h'⟩
theorem All2.mono (hR:∀x y,R x y→R' x y):∀ {xs:List α} {ys:List β},All2 R xs ys→All2 R' xs ys
 | [],[],_=>trivial
 | _ :: _,_ :: _,h=>⟨hR _ _ h.1,All2.mono hR h.2⟩
theorem All2.at_ (d:α) (e:β):∀ {xs:List α} {ys:List β} (i:Nat),All2 R xs ys→i<ys.length→R (xs.getD i d) (ys.getD i e)
 | [],[],i,_,h=>absurd h (by simp)
 | _ :: _,_ :: _,0,h,_=>h.1
 | _ :: _,_ :: _,i+1,h,hi=>by
   have:=All2.at_ d e i h.2 (by simpa using hi)
   simpa using this
end
structure RefV where
 c:Cmd
 Q:Option Addr
 nq:Nat
 cq:Nat
 A:Option Addr
 n:Nat
 cp:Nat
def RefOk (w:World) (base:Nat) (x:RefV) (y:Pel):Prop:=x.c=y.c∧x.n=y.B.length∧OwnB w base x.A x.n x.cp y.B∧∃Q,OwnB w base x.Q x.nq x.cq Q∧((x.nq=0∧y.P.val=z768)∨(x.nq=768∧Q=y.P.val))
theorem RefOk.mono {w w':World} {base:Nat} {x:RefV} {y:Pel} (hw:∀A n c B,OwnB w base A n c B→OwnB w' base A n c B) (h:RefOk w base x y):RefOk w' base x y:=by
 obtain⟨h1,h2,h3,Q,h4,h5⟩:=h
 exact⟨h1,h2,hw _ _ _ _ h3,Q,hw _ _ _ _ h4,h5⟩
theorem QpT {hs:List Hp} {p:Hp→Bool} {k:Nat} (hk:k<hs.length) (h:p (hs.getD k hp0)=true):hs.any p=true:=by
 rw[QHh]
 refine⟨_,QGy hk,?_⟩
 rw[QFC,QFB hk]at h
 exact h
theorem QvH {hs:List Hp} {p:Hp→Bool} (h:∀k,k<hs.length→p (hs.getD k hp0)=false):hs.any p=false:=by
 rw[List.any_eq_false]
 intro x hx
 obtain⟨k,hk,rfl⟩:=QHk hx
 have:=h k hk
 rw[QFC,QFB hk]at this
 simpa using this
theorem Qk5 (hs:List Hp) (k:Nat):(hs.drop 1).getD k hp0=hs.getD (k+1) hp0:=by
 rw[QFC,QGR,QHr 1 k,QFC]
theorem QvB {hs:List Hp} {p:Hp→Bool} {k:Nat} (hk:k+1<hs.length) (h:p (hs.getD (k+1) hp0)=true):(hs.drop 1).any p=true:=
 QpT (k:=k) (by rw[QF0];omega) (by rw[Qk5];exact h)
theorem QxO {hs:List Hp} {p:Hp→Bool} (h:∀k,k+1<hs.length→p (hs.getD (k+1) hp0)=false):(hs.drop 1).any p=false:=
 QvH (fun k hk=>by rw[QF0]at hk;rw[Qk5];exact h k (by omega))
def lcK (kd:UInt8):Cmd:=⟨kd,0,0,0,QaH⟩
theorem QxJ (kd:UInt8) (hk:kd=2∨kd=3) (hs:List Hp):Qgj (lcK kd) hs=if hs.any badH=true then 1 else if hs.length<1∨5<hs.length then 2 else if (hs.drop 1).any (fun h=>h.nod.id==0)=true then 3 else 0:=by
 have h1: ¬Qw3 (lcK kd)=true:=by rcases hk with rfl|rfl<;>decide
 have h2: ¬Qdm (lcK kd)=false:=by rcases hk with rfl|rfl<;>decide
 rw[Qgj,if_neg h1,if_neg h2]
def QeY (kd:UInt8) (hs:List Hp) (k:Nat):List Cmd:=(QF6 k).map (QbV (lcK kd) hs)
theorem Qq4 (kd:UInt8) (hs:List Hp) (k:Nat):(QeY kd hs (k+1)).flatMap CC=(QeY kd hs k).flatMap CC++[QbV (lcK kd) hs k].flatMap CC:=by
 rw[QeY,QG4,QF2,QHG]
 rfl
theorem Qh6 (kd:UInt8) (hs:List Hp) (k:Nat):(QeY kd hs k).length=k:=by simp[QeY]
def Qlp (kd:UInt8) (hs:List Hp):List Cmd:=if Qgj (lcK kd) hs=0 then QeY kd hs hs.length else []
theorem QyC:(Tryz.prog.info? 53).map (fun i=>(i.zero,i.size,i.bytes))=some (some (.agg (CC cmd0).toArray),20,32):=by kernel_rfl
theorem Qvf:(Tryz.prog.info? 53).map (fun i=>(i.zero,i.size))=some (some (.agg (CC cmd0).toArray),20):=by kernel_rfl
theorem QtO:(Tryz.prog.info? 51).map (·.size)=some 16:=by kernel_rfl
theorem QkV (k f:UInt8) (d:UInt32):Tryz.prog.built 53 [(0,W8 k),(1,W8 f),(2,W32 d)]=some (CC ⟨k,f,d,0,QaH⟩).toArray:=by
 rw[Qa0 (pl:=[(0,1),(1,1),(2,1),(3,1),(4,16)]) Tryz.underlying53 Qwi (by kernel_rfl),QaR (vs:=[W8 k]) (off:=0) rfl rfl (by rw[Qan];simp),QaR (vs:=[W8 f]) (off:=1) rfl rfl (by rw[QaX _ _ _ (by rw[Qan];simp),Qan];simp),QaR (vs:=[W32 d]) (off:=2) rfl rfl (by rw[QaX _ _ _ (by rw[QaX _ _ _ (by rw[Qan];simp),Qan];simp),QaX _ _ _ (by rw[Qan];simp),Qan];simp),Qb5]
 rfl
theorem QxS (c:Cmd):Qat (CC c) 4 (QaH.val.map W8)=CC { c with ma:=QaH }:=by
 have h:=c.ma.2
 rw[CC,Qat,QFA,QaH.2,QGw (by simp[h])]
 simp[CC]
theorem QpP (w:World) (t:TypeId) (x:Cmd):Blk (w.alloc (.cells (CC x).toArray t)) w.heap.size t ([x].flatMap CC):=by
 rw[QHm,List.flatMap_nil,QGb]
 exact Blk.new w t _
theorem Qsk (kd:UInt8) (hs:List Hp) (k:Nat) (h:k+1=hs.length):QbV (lcK kd) hs k=⟨kd,QF3 (hs.getD k hp0).flags,QGr (hs.getD k hp0).delay,0,QaH⟩:=by
 rw[QbV,if_neg (by omega)]
 rfl
theorem Qvu (kd:UInt8) (hs:List Hp) (k:Nat) (h:k+1<hs.length):QbV (lcK kd) hs k=⟨1,QF3 (hs.getD k hp0).flags,QGr (hs.getD k hp0).delay,(hs.getD (k+1) hp0).nod.id,QaH⟩:=by
 rw[QbV,if_pos h]
theorem Qur {w:World} {base base' sz:Nat} {e:TypeId} {v:Value} {n:Nat} {vs:List Value} (h:w.ownsRow base e sz v n vs) (hb:base'≤base):w.ownsRow base' e sz v n vs:=by
 refine⟨h.1,h.2.imp id ?_⟩
 rintro⟨g,cap,cur,h1,h2,h3⟩
 exact⟨g,cap,cur,h1,QGh hb h2,h3⟩
theorem Qxn (x:Hp):(HC x)[1]?=some (W64 x.nod.id):=QyZ x rfl
set_option maxRecDepth 100000 in
set_option maxHeartbeats 8000000 in
theorem Qxu (kd:UInt8) (hkd:kd=2∨kd=3) (A:Option Addr) (n cc:Nat) (hs:List Hp) (w:World) (hh:RdH w A n hs) (hn:n≤1048576):
 Calls Tryz.prog 51 #[.agg (CC (lcK kd)).toArray,.slice A n cc] w fun e w'=>∃A' c',e= .returned (.tuple #[.slice A' (Qlp kd hs).length c',.int .i64 (Qgj (lcK kd) hs:Nat)])∧
  w'.ownsRow w.heap.size 53 20 (.slice A' (Qlp kd hs).length c') (Qlp kd hs).length ((Qlp kd hs).flatMap CC)∧Later w w':=by
 have hl:=hh.1
 have hE:=hid (QxJ kd hkd hs)
 have hR:Hid (Qlp kd hs=if Qgj (lcK kd) hs=0 then QeY kd hs hs.length else []):=hid rfl
 have k2: ¬kd<2:=by rcases hkd with rfl|rfl<;>decide
 have k4: ¬ 4<kd:=by rcases hkd with rfl|rfl<;>decide
 have n4:(kd != 4)=true:=by rcases hkd with rfl|rfl<;>decide
 clear hkd
 have B0:=Qbb w 53 (CC (lcK kd))
 have hz0:cz0.length=20:=rfl
 have hMk:=hid (QkQ (lcK kd))
 rw[hl]at hE hR
 have hcm:=hid (Qq4 kd hs)
 have hcl:=hid (Qh6 kd hs)
 generalize Qgj (lcK kd) hs=E at *
 generalize Qlp kd hs=R at *
 obtain⟨c0,c1,c2,c3,c4⟩:=QcS (B0.nth 0 rfl)
 change _=some (W8 kd)at c0;change _=some (W64 0)at c3
 go_enter Tryz.func51,Tryz.ntmps51
 go_wp2_with fail
 generalize hW:w.alloc _=w1
 replace B0:Bag w w1 [(w.heap.size,53,CC (lcK kd))]:=by rw[←hW];exact B0
 clear hW c0 c1 c2 c3 c4
 go_loopw [6] (fun i wr=>∃k:Nat,k≤n∧i= .int .i64 k∧Hid (∀ j,j<k→badH (hs.getD j hp0)=false)∧Later w1 wr) (fun i _=>n-(intOf i).toNat)
 case atStart=>exact⟨0,by omega,rfl,hid (fun j hj=>absurd hj (by omega)),Later.refl _⟩
 case round=>
  obtain⟨k,hk,rfl,hz,L⟩:=hrel
  by_cases hlt:k<n
  ·obtain⟨b,o,rfl,hbb,hc⟩:=(hh.later (B0.lat.trans L)).at_ hlt
   have c66:wr.cell? ⟨b,o+k*68+66,none⟩=some (.int .i64 (hs.getD k hp0).delay):=hc 66 _ (Qlu _)
   have c67:wr.cell? ⟨b,o+k*68+67,none⟩=some (.int .i64 (hs.getD k hp0).flags):=hc 67 _ (Qlc _)
   have hno:=hid (fun h=>QpT (hs:=hs) (p:=badH) (k:=k) (by omega) h)
   have hgo:=hid (fun h:badH (hs.getD k hp0)=false=>QbR (p:=fun j=>badH (hs.getD j hp0)=false) hz.out h)
   have hbd:Hid (badH (hs.getD k hp0)=(decide ((hs.getD k hp0).delay<0)||decide (1000000<(hs.getD k hp0).delay)||decide ((hs.getD k hp0).flags<0)||decide (255<(hs.getD k hp0).flags))):=hid rfl
   clear hc
   generalize badH (hs.getD k hp0)=bb at *
   generalize (hs.getD k hp0).delay=dl at *
   generalize (hs.getD k hp0).flags=fl at *
   have hbad:=hid (fun h:bb=true=>show E=1∧R=[] from by
    have e:=hE.out.trans (if_pos (hno.out h))
    exact⟨e,by rw[hR.out,if_neg (by omega)]⟩)
   clear hno
   by_cases a1:dl<0
   ·have hX:=hid (hbad.out (by rw[hbd.out];simp[a1]))
    go_wp2_with fail
    go_ret2
    exact⟨none,0,by rw[hX.out.1,hX.out.2];rfl,by rw[hX.out.2];exact World.ownsRow_nil _ _ _ 20,B0.lat.trans L⟩
   by_cases a2:1000000<dl
   ·have hX:=hid (hbad.out (by rw[hbd.out];simp[a2]))
    go_wp2_with fail
    go_ret2
    exact⟨none,0,by rw[hX.out.1,hX.out.2];rfl,by rw[hX.out.2];exact World.ownsRow_nil _ _ _ 20,B0.lat.trans L⟩
   by_cases a3:fl<0
   ·have hX:=hid (hbad.out (by rw[hbd.out];simp[a3]))
    go_wp2_with fail
    go_ret2
    exact⟨none,0,by rw[hX.out.1,hX.out.2];rfl,by rw[hX.out.2];exact World.ownsRow_nil _ _ _ 20,B0.lat.trans L⟩
   by_cases a4:255<fl
   ·have hX:=hid (hbad.out (by rw[hbd.out];simp[a4]))
    go_wp2_with fail
    go_ret2
    exact⟨none,0,by rw[hX.out.1,hX.out.2];rfl,by rw[hX.out.2];exact World.ownsRow_nil _ _ _ 20,B0.lat.trans L⟩
   have hG:=hid (hgo.out (by rw[hbd.out];simp[a1,a2,a3,a4]))
   clear hgo hbd hbad
   go_wp2_with fail
   exact⟨⟨k+1,by omega,by go_num,hG,L⟩,by simp[intOf];omega⟩
  ·obtain rfl:k=n:=by omega
   replace hE:=hid (hE.out.trans (if_neg (by rw[QvH (by rw[hl];exact hz.out)];decide)))
   by_cases h5:k<1∨5<k
   ·have e:=hE.out.trans (if_pos h5)
    have hX:=hid (show E=2∧R=[] from ⟨e,by rw[hR.out,if_neg (by omega)]⟩)
    clear e
    by_cases h1:k=0
    ·have f1:((k:Int)==0)=true:=by simp[h1]
     clear h1 h5
     go_wp2_with fail
     go_ret2
     exact⟨none,0,by rw[hX.out.1,hX.out.2];rfl,by rw[hX.out.2];exact World.ownsRow_nil _ _ _ 20,B0.lat.trans L⟩
    ·have f1:((k:Int)==0)=false:=by simp[h1]
     have f2:decide ((5:Int)<(k:Int))=true:=decide_eq_true (by omega)
     clear h5
     go_wp2_with fail
     go_ret2
     exact⟨none,0,by rw[hX.out.1,hX.out.2];rfl,by rw[hX.out.2];exact World.ownsRow_nil _ _ _ 20,B0.lat.trans L⟩
   ·have f1:((k:Int)==0)=false:=by simp;omega
    have f2:decide ((5:Int)<(k:Int))=false:=decide_eq_false (by omega)
    replace hE:=hid (hE.out.trans (if_neg h5))
    have B1:=B0.later L
    obtain⟨c0,c1,c2,c3,c4⟩:=QcS (B1.nth 0 rfl)
    change _=some (W8 kd)at c0;change _=some (W64 0)at c3
    have hlg:=(B1.nth 0 rfl).lt
    go_wp2_with (first
     | (refine Qdc rfl _ rfl (B1.nth 0 rfl) rfl ?_)
     | fail)
    (with_reducible refine (hMk.out _).mono ?_);rintro e w4 ⟨rfl,j4⟩
    have B4:=B1.later j4
    rw[show (!((lcK kd).ma.val==QaH.val))=false by rw[show (lcK kd).ma=QaH from rfl];decide]
    clear c0 c1 c2 c3 c4 hlg
    go_wp2_with fail
    go_loopw [7,8] (fun v i wr=>∃(j:Nat) (A':Option Addr) (c':Nat),j≤k∧i= .int .i64 j∧v= .slice A' j c'∧wr.ownsRow w4.heap.size 53 20 (.slice A' j c') j ((QeY kd hs j).flatMap CC)∧Hid (∀ i,i+1<j+1→i+1<k→((hs.getD (i+1) hp0).nod.id==0)=false)∧Later w4 wr) (fun _ i _=>k-(intOf i).toNat)
    case atStart=>exact⟨0,none,0,by omega,rfl,rfl,World.ownsRow_nil _ _ _ 20,hid (fun i h=>by omega),Later.refl _⟩
    case round=>
     obtain⟨j,A',c',hj,rfl,rfl,hown,hg,L4⟩:=hrel
     by_cases hjk:j<k
     ·have hne:∀b,(Value.slice A' j c').ownBlock=some b→b≠wr.heap.size:=fun b hb=>by have:=(World.ownsRow.lt hown b hb).2;omega
      have hhd:=hh.later ((B4.lat.trans L4).trans (Qab _))
      obtain⟨b,o,rfl,hbb,hc⟩:=hhd.at_ hjk
      have c66:wr.drew.cell? ⟨b,o+j*68+66,none⟩=some (.int .i64 (hs.getD j hp0).delay):=hc 66 _ (Qlu _)
      have c67:wr.drew.cell? ⟨b,o+j*68+67,none⟩=some (.int .i64 (hs.getD j hp0).flags):=hc 67 _ (Qlc _)
      clear hc
      by_cases hlast:j+1=k
      ·have hp:=Qsk kd hs j (by omega)
       have e1:((j:Int)==(k:Int)-1)=true:=by simp;omega
       replace hlast:=hid hlast
       generalize (hs.getD j hp0).delay=dl at *
       generalize (hs.getD j hp0).flags=fl at *
       replace hp:=hid hp
       have hbc:=QkV 1 (QF3 fl) (QGr dl)
       go_wp2_with fail
       refine Qad [([0,1,2,3,4,5,6,7,8,9,10,11,12],13)] [] [14] (by as_aux_lemma=>kernel_rfl) (by as_aux_lemma=>kernel_rfl) (by intro _ _ d _ _ h;cases d<;>exact h) ?_
       simp only[Qah,pick,QFv,QFw,QFx,QFy,QFz]
       repeat (first|go_big_quiet_skip|(go_big_quiet_want;(refine QbL _ _ rfl (CC ⟨1,QF3 fl,QGr dl,0,QaH⟩) (by simp only[QFI,QFW,QFR];exact hbc) ?_);simp only[Act.put,QFD,QFH,QFG];go_big_quiet_on)|(go_big_quiet_step (fail)))
       refine wpQuiet_nil ?_
       go_wp2_with fail
       try refine⟨by first|assumption|exact Qab _|exact Qaa _ _|exact Later.refl _,?_⟩
       try simp only[Qah,pick,QFv,QFw,QFx,QFy,QFz]
       repeat (go_big_quiet_step (fail))
       refine wpQuiet_nil ?_
       go_wp2_with (first
        | (refine QbP rfl rfl _ _ rfl (Blk.new wr.drew _ cz0) rfl rfl hz0 ?_;intro w5 hb5 ho5
           have C5:Bag w4 w5 [(wr.heap.size,53,CC ⟨1,QF3 fl,QGr dl,0,QaH⟩)]:=((Bag.none w4).later (L4.trans (Qab _))).push (Qaa _ _) (QFE _) ho5 hb5
           have own5:w5.ownsRow w4.heap.size 53 20 (.slice A' j c') j ((QeY kd hs j).flatMap CC):=Qd7 (Qa7 hown ((Qab wr).trans (Qaa _ _))) ho5 hne
           obtain⟨c0,c1,c2,c3,c4⟩:=QcS ((B4.later C5.lat).nth 0 rfl)
           change _=some (W8 kd)at c0;change ∀j v,(QaH.val.map W8)[j]?=some v→_ at c4
           have hlg:=((B4.later C5.lat).nth 0 rfl).lt
           have hl5:=(C5.nth 0 rfl).lt)
        | (refine Qac rfl rfl _ _ _ rfl wr.heap.size 0 _ _ (C5.nth 0 rfl) rfl (by rw[Qan];omega) rfl (by kernel_rfl) ?_;intro v6 w6 hv6 hb6 ho6;simp[go_sem]at hv6;subst hv6
           have C6:Bag w4 w6 [(wr.heap.size,53,CC ⟨kd,QF3 fl,QGr dl,0,QaH⟩)]:=C5.write 0 rfl ho6 hb6
           have own6:=Qd7 own5 ho6 hne
           obtain⟨c0,c1,c2,c3,c4⟩:=QcS ((B4.later C6.lat).nth 0 rfl)
           change _=some (W8 kd)at c0;change ∀j v,(QaH.val.map W8)[j]?=some v→_ at c4)
        | (refine Qar rfl 51 _ rfl w.heap.size 4 (QaH.val.map W8) c4 rfl _ Tryz.underlying51 rfl QtO ?_)
        | (refine Qai rfl rfl _ _ _ rfl wr.heap.size 4 _ _ (QaH.val.map W8) (C6.nth 0 rfl) rfl rfl QtO (by rw[Qan,QFA,QaH.2];omega) (Qay _) ?_;intro w7 hb7 ho7
           have C7:Bag w4 w7 [(wr.heap.size,53,CC ⟨kd,QF3 fl,QGr dl,0,QaH⟩)]:=by
            rw[QxS]at hb7
            exact C6.write 0 rfl ho7 hb7
           have own7:=Qd7 own6 ho7 hne)
        | (refine Qdc rfl _ rfl (C7.nth 0 rfl) rfl ?_)
        | (refine Qdn rfl 144 _ rfl 53 20 _ (CC ⟨kd,QF3 fl,QGr dl,0,QaH⟩) Tryz.underlying144 Qvf (by omega) (by omega) (Qan _) rfl ?_)
        | (refine Qcp Qan Qqf (by omega) rfl _ _ _ rfl 53 _ 32 Tryz.underlying144 QyC rfl w4 _ j _ (Qa7 own7 (Qaa _ _)) (C7.lat.alloc _) _ 1 1 [⟨kd,QF3 fl,QGr dl,0,QaH⟩] (QhN (d:=cmd0) Qan (QpP w7 _ _) rfl) rfl rfl (by omega) (by omega) ?_;intro A3 c3 w8 hown8 hl8 hg8)
        | fail)
       rw[←hp.out,←hcm.out]at hown8
       exact⟨⟨j+1,A3,c3,by omega,by go_num,rfl,hown8,hid (fun i h1 h2=>hg.out i (by have:=hlast.out;omega) h2),hl8⟩,by simp[intOf];omega⟩
      ·have hlt2:j+1<k:=by omega
       have hp:=Qvu kd hs j (by omega)
       have e1:((j:Int)==(k:Int)-1)=false:=by simp;omega
       have e2:((j:Int)+1).toNat=j+1:=by omega
       obtain⟨b2,o2,hbo,hbb2,hc2⟩:=hhd.at_ hlt2
       obtain⟨rfl,rfl⟩:b=b2∧o=o2:=by simpa using hbo
       have d1:wr.drew.cell? ⟨b,o+(j+1)*68+1,none⟩=some (W64 (hs.getD (j+1) hp0).nod.id):=hc2 1 _ (Qxn _)
       have hno:=hid (fun h=>QvB (hs:=hs) (p:=fun h=>h.nod.id==0) (k:=j) (by omega) h)
       have hgo:Hid (((hs.getD (j+1) hp0).nod.id==0)=false→∀i,i+1<j+1+1→i+1<k→((hs.getD (i+1) hp0).nod.id==0)=false):=hid (fun h i h1 h2=>by
        by_cases e:i=j
        ·rw[e];exact h
        ·exact hg.out i (by omega) h2)
       clear hc2 hbo hbb2
       generalize (hs.getD (j+1) hp0).nod.id=idv at *
       generalize (hs.getD j hp0).delay=dl at *
       generalize (hs.getD j hp0).flags=fl at *
       replace hp:=hid hp
       have hbc:=QkV 1 (QF3 fl) (QGr dl)
       go_wp2_with fail
       refine Qad [([0,1,2,3,4,5,6,7,8,9,10,11,12],13)] [] [14] (by as_aux_lemma=>kernel_rfl) (by as_aux_lemma=>kernel_rfl) (by intro _ _ d _ _ h;cases d<;>exact h) ?_
       simp only[Qah,pick,QFv,QFw,QFx,QFy,QFz]
       repeat (first|go_big_quiet_skip|(go_big_quiet_want;(refine QbL _ _ rfl (CC ⟨1,QF3 fl,QGr dl,0,QaH⟩) (by simp only[QFI,QFW,QFR];exact hbc) ?_);simp only[Act.put,QFD,QFH,QFG];go_big_quiet_on)|(go_big_quiet_step (fail)))
       refine wpQuiet_nil ?_
       go_wp2_with fail
       try refine⟨by first|assumption|exact Qab _|exact Qaa _ _|exact Later.refl _,?_⟩
       try simp only[Qah,pick,QFv,QFw,QFx,QFy,QFz]
       repeat (go_big_quiet_step (fail))
       refine wpQuiet_nil ?_
       cases hi0:(idv==0)
       ·replace hgo:=hid (hgo.out hi0)
        go_wp2_with (first
         | (refine QbP rfl rfl _ _ rfl (Blk.new wr.drew _ cz0) rfl rfl hz0 ?_;intro w5 hb5 ho5
            have C5:Bag w4 w5 [(wr.heap.size,53,CC ⟨1,QF3 fl,QGr dl,0,QaH⟩)]:=((Bag.none w4).later (L4.trans (Qab _))).push (Qaa _ _) (QFE _) ho5 hb5
            have own5:w5.ownsRow w4.heap.size 53 20 (.slice A' j c') j ((QeY kd hs j).flatMap CC):=Qd7 (Qa7 hown ((Qab wr).trans (Qaa _ _))) ho5 hne
            obtain⟨c0,c1,c2,c3,c4⟩:=QcS ((B4.later C5.lat).nth 0 rfl)
            change _=some (W8 kd)at c0;change ∀j v,(QaH.val.map W8)[j]?=some v→_ at c4
            have hlg:=((B4.later C5.lat).nth 0 rfl).lt
            have l5:Later wr.drew w5:=(Qaa _ _).only ho5 (QFE _)
            have d5:=(l5.below.cell (p:=⟨b,o+(j+1)*68+1,none⟩) hbb).trans d1
            have hb5':b<w5.heap.size:=QFV hbb l5.size
            have hl5:=(C5.nth 0 rfl).lt)
         | (refine Qac rfl rfl _ _ _ rfl wr.heap.size 3 _ _ (C5.nth 0 rfl) rfl (by rw[Qan];omega) rfl (by kernel_rfl) ?_;intro v6 w6 hv6 hb6 ho6;simp[go_sem]at hv6;subst hv6
            have C6:Bag w4 w6 [(wr.heap.size,53,CC ⟨1,QF3 fl,QGr dl,idv,QaH⟩)]:=C5.write 0 rfl ho6 hb6
            have own6:=Qd7 own5 ho6 hne
            obtain⟨c0,c1,c2,c3,c4⟩:=QcS (C6.nth 0 rfl)
            have hl6:=(C6.nth 0 rfl).lt)
         | (refine Qdc rfl _ rfl (C6.nth 0 rfl) rfl ?_)
         | (refine Qdn rfl 144 _ rfl 53 20 _ (CC ⟨1,QF3 fl,QGr dl,idv,QaH⟩) Tryz.underlying144 Qvf (by omega) (by omega) (Qan _) rfl ?_)
         | (refine Qcp Qan Qqf (by omega) rfl _ _ _ rfl 53 _ 32 Tryz.underlying144 QyC rfl w4 _ j _ (Qa7 own6 (Qaa _ _)) (C6.lat.alloc _) _ 1 1 [⟨1,QF3 fl,QGr dl,idv,QaH⟩] (QhN (d:=cmd0) Qan (QpP w6 _ _) rfl) rfl rfl (by omega) (by omega) ?_;intro A3 c3 w8 hown8 hl8 hg8)
         | fail)
        rw[←hp.out,←hcm.out]at hown8
        exact⟨⟨j+1,A3,c3,by omega,by go_num,rfl,hown8,hgo,hl8⟩,by simp[intOf];omega⟩
       ·have e:=hE.out.trans (if_pos (hno.out hi0))
        have hX:=hid (show E=3∧R=[] from ⟨e,by rw[hR.out,if_neg (by omega)]⟩)
        clear e
        go_wp2_with (first
         | (refine QbP rfl rfl _ _ rfl (Blk.new wr.drew _ cz0) rfl rfl hz0 ?_;intro w5 hb5 ho5
            have C5:Bag w4 w5 [(wr.heap.size,53,CC ⟨1,QF3 fl,QGr dl,0,QaH⟩)]:=((Bag.none w4).later (L4.trans (Qab _))).push (Qaa _ _) (QFE _) ho5 hb5
            have own5:w5.ownsRow w4.heap.size 53 20 (.slice A' j c') j ((QeY kd hs j).flatMap CC):=Qd7 (Qa7 hown ((Qab wr).trans (Qaa _ _))) ho5 hne
            obtain⟨c0,c1,c2,c3,c4⟩:=QcS ((B4.later C5.lat).nth 0 rfl)
            change _=some (W8 kd)at c0;change ∀j v,(QaH.val.map W8)[j]?=some v→_ at c4
            have hlg:=((B4.later C5.lat).nth 0 rfl).lt
            have l5:Later wr.drew w5:=(Qaa _ _).only ho5 (QFE _)
            have d5:=(l5.below.cell (p:=⟨b,o+(j+1)*68+1,none⟩) hbb).trans d1
            have hb5':b<w5.heap.size:=QFV hbb l5.size
            have hl5:=(C5.nth 0 rfl).lt)
         | (refine Qac rfl rfl _ _ _ rfl wr.heap.size 3 _ _ (C5.nth 0 rfl) rfl (by rw[Qan];omega) rfl (by kernel_rfl) ?_;intro v6 w6 hv6 hb6 ho6;simp[go_sem]at hv6;subst hv6
            have C6:Bag w4 w6 [(wr.heap.size,53,CC ⟨1,QF3 fl,QGr dl,idv,QaH⟩)]:=C5.write 0 rfl ho6 hb6
            have own6:=Qd7 own5 ho6 hne
            obtain⟨c0,c1,c2,c3,c4⟩:=QcS (C6.nth 0 rfl)
            have hl6:=(C6.nth 0 rfl).lt)
         | fail)
        go_ret2
        exact⟨none,0,by rw[hX.out.1,hX.out.2];rfl,by rw[hX.out.2];exact World.ownsRow_nil _ _ _ 20,B4.lat.trans C6.lat⟩
     ·obtain rfl:j=k:=by omega
      have e:=hE.out.trans (if_neg (by rw[QxO (p:=fun h=>h.nod.id==0) (by rw[hl];exact fun i h=>hg.out i (by omega) h)];decide))
      have hX:=hid (show E=0∧R=QeY kd hs j from ⟨e,by rw[hR.out,if_pos e]⟩)
      clear e
      go_wp2_with fail
      go_ret2
      exact⟨A',c',by rw[hX.out.1,hX.out.2,hcl.out];rfl,by rw[hX.out.2,hcl.out];exact Qur hown B4.lat.size,B4.lat.trans L4⟩
set_option maxRecDepth 100000 in
set_option maxHeartbeats 4000000 in
theorem QuW (A:Option Addr) (c k0 r n:Nat) (key:List UInt8) (w:World) (hk:RdB w A 32 key) (hr:r<64) (hk0:k0≤1024) (hn:n≤1024):
 Calls Tryz.prog 104 #[.slice A 32 c,.int .i64 ((64*k0+r:Nat):Int),.int .i64 n] w fun e w'=>∃A' c',e= .returned (.slice A' n c')∧OwnB w' w.heap.size A' n c' ((chaS key (64*k0+r+n)).drop (64*k0+r))∧Later w w':=by
 have hB:=hid (fun B d ctr (w':World) (hl:Later w w') hn=>Qkv A B c d key (QFu 12 0) ctr w' (hk.later hl) hn)
 have hs1:Hid (∀ j,(chaF key (k0+(j+1))).drop (64*k0)=(chaF key (k0+j)).drop (64*k0)++chaB key (QFu 12 0) (QF7 (k0+j))):=hid (fun j=>by
  rw[←QHx,QfJ,QGQ (by rw[QcN];omega)])
 have h0:Hid ((chaF key (k0+0)).drop (64*k0)=[]):=hid (by rw[QHs (by rw[QcN];omega)])
 have hS:Hid (∀ j,n+r≤64*j→(((chaF key (k0+j)).drop (64*k0)).drop r).take n=(chaS key (64*k0+r+n)).drop (64*k0+r)):=hid (fun j h=>by
  rw[QfV key _ (k0+j) (by omega),QGY,List.drop_take,show 64*k0+r+n-(64*k0+r)=n by omega])
 have hSl:((chaS key (64*k0+r+n)).drop (64*k0+r)).length=n:=by rw[QF0,QaA];omega
 have q1:((64*k0+r:Nat):Int)/64=(k0:Int):=by omega
 have q2:((64*k0+r:Nat):Int)%64=(r:Int):=by omega
 generalize (chaS key (64*k0+r+n)).drop (64*k0+r)=SS at *
 generalize ((64*k0+r:Nat):Int)=aI at *
 go_enter Tryz.func104,Tryz.ntmps104
 go_wp2_with fail
 simp only[q1]
 go_loopw [7,8] (fun v i wr=>∃(j:Nat) (A':Option Addr) (c':Nat),j≤17∧i= .int .i64 ((k0:Int)+(j:Int))∧v= .slice A' (64*j) c'∧64*j<n+r+64∧OwnB wr w.heap.size A' (64*j) c' ((chaF key (k0+j)).drop (64*k0))∧Later w wr) (fun v _ _=>n+r-lenOf v)
 case atStart=>exact⟨0,none,0,by omega,by simp,rfl,by omega,by rw[h0.out];exact Qa1 _ _ _,Later.refl w⟩
 case round=>
  obtain⟨k,A6,c6,hk6,rfl,rfl,hmk,hown,L⟩:=hrel
  by_cases hlt:64*k<n+r
  ·have hcmp:64*(k:Int)<(n:Int)+(r:Int):=by omega
   have hb:=hs1.out k
   obtain⟨K,hK⟩:∃K,K=k0+k:=⟨_,rfl⟩
   have hcv:=QgD K
   have hcast:(k0:Int)+(k:Int)=(K:Int):=by omega
   rw[←hK]at hb hown
   replace hb:=hid hb
   have hKb:K≤1041:=by omega
   replace hK:=hid hK
   generalize (chaF key K).drop (64*k0)=Fk at *
   rw[hcast]
   clear hcast
   go_wp2_with (first
    | (refine QaE rfl _ _ _ rfl 5 _ 1 Tryz.underlying25 Qbq rfl _ _ _ _ 12 rfl rfl rfl rfl (by omega) (by omega) ?_;intro w1 hb1 hl1')
    | fail)
   have hno:RdB w1 (some ⟨wr.heap.size,0,none⟩) 12 (QFu 12 0):=hb1.rd rfl
   (refine (hB.out _ _ (QF7 K) _ (L.trans hl1') hno).mono ?_);rintro e w4 ⟨A9,c9,rfl,hown9,j9⟩
   have hrd9:=hown9.rd
   generalize chaB key (QFu 12 0) (QF7 K)=Bk at *
   go_wp2_with (first
    | (refine Qal rfl _ _ _ rfl 5 _ 1 Tryz.underlying25 Qbq rfl w _ (64*k) _ (hown.later (hl1'.trans j9)) ((L.trans hl1').trans j9) A9 64 c9 _ hrd9 (Qay _) rfl rfl (by omega) (by omega) ?_;intro A7 c7 w7 hown7 hl7 hg7 _)
    | fail)
   have hown8:OwnB w7 w.heap.size A7 (64*k+64) c7 (Fk++Bk):=QeD hown7
   rw[←hb.out]at hown8
   go_roundw
   case rel=>exact⟨k+1,A7,c7,by omega,by rw[show (k0:Int)+((k+1:Nat):Int)=(K:Int)+1 by have:=hK.out;omega],rfl,by omega,hown8,hl7⟩
   case measure=>simp only[lenOf];omega
  ·have hcmp: ¬ 64*(k:Int)<(n:Int)+(r:Int):=by omega
   have hE:=hid (hS.out k (by omega))
   have hcut:∀W,(Instr.sliceAt 25 (.slice A6 (64*k) c6) (some (.int .i64 (r:Int))) (some (.int .i64 ((r:Int)+(n:Int)))) none).run Tryz.prog W= .ok (.slice (cutA A6 r c6) n (c6-r)) W:=fun W=>by
    have hcap:=hown.cap
    have h:=cut8 A6 (64*k) c6 .i64 .i64 r (r+n) (by omega) (by omega) W
    rw[show r+n-r=n by omega]at h
    simpa using h
   have hrd:=(RdB.cut hown.rd (k:=r) (c:=c6) (by omega) hown.cap).take (m:=n) (by omega)
   rw[hE.out]at hrd
   go_wp2_with fail
   (refine (QbD (cutA A6 r c6) n (c6-r) _ _ hrd (by omega)).mono ?_);rintro e w8 ⟨A8,c8,rfl,hown8,j8⟩
   go_wp2_with fail
   go_ret
   exact⟨_,_,rfl,hown8.mono L.size,L.trans j8⟩
theorem Qsc (k:Nat) (hk:k<5) (at0:Int) (hat:at0=288-(48*(k:Int)+48)) (B:Option Addr) (c:Nat) (key b:List UInt8) (w:World) (hkl:key.length=32) (hb:RdB w B (48*k+48) b):
 Calls Tryz.prog 84 #[.agg (key.map W8).toArray,.int .i64 at0,.slice B (48*k+48) c] w fun e w'=>∃A' c',e= .returned (.slice A' (48*k+48) c')∧OwnB w' w.heap.size A' (48*k+48) c' (xorB b ((chaS key 288).drop (288-48*(k+1))))∧Later w w':=by
 refine Qku at0 B (48*k+48) c key b _ w hkl hb (by omega) (by omega) (by rw[QF0,QaA];omega) (fun g w h=>?_)
 have:=QuW (some ⟨g,0,none⟩) 32 ((288-48*(k+1))/64) ((288-48*(k+1))%64) (48*k+48) key w h (by omega) (by omega) (by omega)
 rw[show 64*((288-48*(k+1))/64)+(288-48*(k+1))%64=288-48*(k+1) by omega,show 288-48*(k+1)+(48*k+48)=288 by omega,show ((288-48*(k+1):Nat):Int)=at0 by omega]at this
 exact this
set_option maxRecDepth 100000 in
set_option maxHeartbeats 4000000 in
theorem QrK (A:Option Addr) (m d:Nat) (xs:List (List UInt8)) (st:Nat→List UInt8) (hstx:∀i,i<m→xs.getD i []=st i) (w:World) (hr:RdK 192 w A m xs) (hxl:∀x∈xs,x.length=192) (h1:1≤m) (h5:m≤5):
 Calls Tryz.prog 83 #[.slice A m d] w fun e w'=>∃A' c',e= .returned (.tuple #[.slice A' (48*(m-1)) c',.int .i64 0])∧OwnB w' w.heap.size A' (48*(m-1)) c' (Qgk st (m-1))∧Later w w':=by
 have hxn:=hr.1
 have hst:=hid (fun k (h:k<m)=>hxl _ (QfA xs k (by omega)))
 have hfs:Hid (∀ k,k<m→Qgk st (k+1)=xorB (Qgk st k++QFu 48 0) ((chaS (subB (xs.getD k []) 32 32) 288).drop (288-48*(k+1)))):=hid (fun k hk=>by rw[hstx k hk];rfl)
 have hfl:=hid (fun k h=>Qdr st k h)
 have hf0:Hid (Qgk st 0=[]):=hid rfl
 generalize Qgk st=FA at *
 clear hstx
 obtain⟨b,o,rfl,hb,hc⟩:∃b o,A=some ⟨b,o,none⟩∧b<w.heap.size∧∀k,k<m→∀(w':World),Later w w'→∀(off q:Nat) (r:List UInt8),subB (xs.getD k []) off q=r→∀j v,(r.map W8)[j]?=some v→w'.cell? ⟨b,o+k*192+off+j,none⟩=some v:=by
  obtain⟨b,o,hA,hb,_⟩:=hr.sub (k:=0) (by omega)
  refine⟨b,o,hA,hb,fun k hk=>?_⟩
  obtain⟨b',o',hA',_,h⟩:=hr.sub (k:=k) hk
  rw[hA]at hA'
  cases hA'
  exact h
 have k1:((m:Int)==0)=false:=by simp;omega
 have k2:decide ((5:Int)<(m:Int))=false:=decide_eq_false (by omega)
 replace hc:=hid hc
 clear hr
 go_enter Tryz.func83,Tryz.ntmps83
 go_wp2_with fail
 go_loopw [4,5] (fun v i wr=>∃(k:Nat) (A':Option Addr) (c':Nat),k≤m-1∧i= .int .i64 k∧v= .slice A' (48*k) c'∧OwnB wr w.heap.size A' (48*k) c' (FA k)∧Later w wr) (fun _ i _=>m-1-(intOf i).toNat)
 case atStart=>exact⟨0,none,0,by omega,rfl,rfl,by rw[hf0.out];exact Qa1 _ _ _,Later.refl w⟩
 case round=>
  obtain⟨k,A1,c1,hk,rfl,rfl,hown,L⟩:=hrel
  by_cases hlt:k<m-1
  ·have hcmp:(k:Int)<(m:Int)-1:=by omega
   have hkl:(subB (xs.getD k []) 32 32).length=32:=Qau (by have:=hst.out k (by omega);omega)
   have hck:=hid (fun w' h=>hc.out k (by omega) w' h 32 32 _ rfl)
   have hs:=hid (hfs.out k (by omega))
   generalize subB (xs.getD k []) 32 32=S at *
   generalize FA k=F at *
   go_wp2_with fail
   (refine (QbD A1 (48*k) c1 F _ (OwnB.rd hown) (by omega)).mono ?_);rintro e w2 ⟨A2,c2,rfl,o2,j2⟩
   go_wp2_with (first
    | (refine Qd8 rfl _ _ _ _ rfl 5 .i64 Tryz.underlying25 Tryz.underlying3 Qbq _ _ (48*k) _ o2 j2.size 48 (by omega) rfl rfl (by omega) ?_;intro A3 c3 w3 hown3 hg3
       have L3:Later wr w3:=j2.grownBy hg3 (fun q hq=>(World.ownsRow.lt o2 q hq).1)
       have o4:OwnB w3 wr.heap.size A3 (48*k+48) c3 (F++QFu 48 0):=QdJ hown3 rfl (by rw[QF2,QGg];rfl)
       have hlb:b<w3.heap.size:=QFV hb (L.trans L3).size)
    | (refine QlF rfl _ rfl (hck.out w3 (L.trans L3)) hkl rfl ?_)
    | fail)
   (refine (Qsc k (by omega) (288-(48*(k:Int)+48)) rfl A3 c3 S _ _ hkl (OwnB.rd o4)).mono ?_);rintro e w5 ⟨A5,c5,rfl,o5,j5⟩
   rw[←hs.out]at o5
   go_wp2_with fail
   go_roundw
   case rel=>exact⟨k+1,A5,c5,by omega,by go_num,rfl,Qbc o5 (L.trans L3).size,L.trans (L3.trans j5)⟩
   case measure=>simp[intOf];omega
  ·obtain rfl:k=m-1:=by omega
   go_wp2_with fail
   go_ret2
   exact⟨A1,c1,rfl,hown,L⟩
def leS (a e:Nat):Nat:=if e≠0∧(a=0∨e<a) then e else a
theorem QoK (es:List Nat) (k:Nat) (h:k<es.length):QbI (es.take (k+1))=leS (QbI (es.take k)) (es.getD k 0):=by
 rw[QbI,QbI,QF5 h,List.foldl_append,QFC,QFB h]
 rfl
def eV (e:Nat):Value:=.int .i64 (e:Int)
set_option maxRecDepth 100000 in
theorem QeQ (A:Option Addr) (n c:Nat) (es:List Nat) (w:World) (hr:Rd w A n (es.map eV)) (hn:n≤1048576):
 Calls Tryz.prog 29 #[.slice A n c] w fun e w'=>e= .returned (.int .i64 (QbI es:Nat))∧Later w w':=by
 have hl:es.length=n:=by have:=hr.1;rwa [QFA]at this
 have hst:=hid (QoK es)
 have h0:Hid (QbI (es.take 0)=0):=hid rfl
 have hn':Hid (QbI (es.take n)=QbI es):=hid (by rw[QFJ (by omega)])
 go_enter Tryz.func29,Tryz.ntmps29
 go_wp2_with fail
 go_loopw [3,4] (fun s i wr=>∃k:Nat,k≤n∧i= .int .i64 k∧s= .int .i64 (QbI (es.take k):Nat)∧Later w wr) (fun _ i _=>n-(intOf i).toNat)
 case atStart=>exact⟨0,by omega,rfl,by rw[h0.out];rfl,Later.refl w⟩
 case round=>
  obtain⟨k,hk,rfl,rfl,L⟩:=hrel
  by_cases hlt:k<n
  ·obtain⟨b,o,rfl,hb,hc⟩:=(hr.later L).2 (by omega)
   have c1:wr.cell? ⟨b,o+k,none⟩=some (eV (es.getD k 0)):=hc k _ (by rw[QFN,QFC,QFB (by omega)];rfl)
   have hS:=hst.out k (by omega)
   rw[eV]at c1
   clear hc
   generalize es.getD k 0=x at *
   generalize QbI (es.take k)=y at *
   replace hS:=hid hS
   by_cases e0:x=0
   ·have f1:((x:Int) != 0)=false:=by simp[e0]
    have hz:=hid (hS.out.trans (by rw[leS,if_neg (by simp[e0])]))
    clear e0
    go_wp2_with fail
    exact⟨⟨k+1,by omega,by go_num,by rw[hz.out],L⟩,by simp[intOf];omega⟩
   have f1:((x:Int) != 0)=true:=by simp[e0]
   by_cases e1:y=0
   ·have f2:((y:Int)==0)=true:=by simp[e1]
    have hz:=hid (hS.out.trans (by rw[leS,if_pos ⟨e0,.inl e1⟩]))
    clear e0 e1
    go_wp2_with fail
    exact⟨⟨k+1,by omega,by go_num,by rw[hz.out],L⟩,by simp[intOf];omega⟩
   have f2:((y:Int)==0)=false:=by simp[e1]
   by_cases e2:x<y
   ·have f3:decide ((x:Int)<(y:Int))=true:=decide_eq_true (by omega)
    have hz:=hid (hS.out.trans (by rw[leS,if_pos ⟨e0,.inr e2⟩]))
    clear e0 e1
    go_wp2_with fail
    exact⟨⟨k+1,by omega,by go_num,by rw[hz.out],L⟩,by simp[intOf];omega⟩
   ·have f3:decide ((x:Int)<(y:Int))=false:=decide_eq_false (by omega)
    have hz:=hid (hS.out.trans (by rw[leS,if_neg (fun h=>h.2.elim e1 e2)]))
    clear e0 e1
    go_wp2_with fail
    exact⟨⟨k+1,by omega,by go_num,by rw[hz.out],L⟩,by simp[intOf];omega⟩
  ·obtain rfl:k=n:=by omega
   rw[hn'.out]
   go_wp2_with fail
   go_ret
   exact⟨rfl,L⟩
set_option maxRecDepth 100000 in
set_option maxHeartbeats 2000000 in
theorem Qtj (A:Option Addr) (n c:Nat) (hs:List Hp) (w:World) (hh:RdH w A n hs) (hn:n≤1048576):
 Calls Tryz.prog 53 #[.slice A n c] w fun e w'=>∃A' c',e= .returned (.slice A' n c')∧OwnParts w' w.heap.size A' n c' (pubH hs)∧Later w w':=by
 have hl:=hh.1
 have hst:Hid (∀ k,k<n→(pubH hs).take (k+1)=(pubH hs).take k++[(hs.getD k hp0).nod.pub.val]):=hid (fun k hk=>by
  rw[pubH,QF5 (by rw[QFA];omega),List.getElem_map,QFC,QFB (by omega)]
  rfl)
 have hn':Hid ((pubH hs).take n=pubH hs):=hid (by rw[QFJ (by rw[pubH,QFA];omega)])
 go_enter Tryz.func53,Tryz.ntmps53
 go_wp2_with fail
 go_loopw [3,4] (fun out i wr=>∃(k:Nat) (A':Option Addr) (c':Nat),k≤n∧i= .int .i64 k∧out= .slice A' k c'∧OwnParts wr w.heap.size A' k c' ((pubH hs).take k)∧Later w wr) (fun _ i _=>n-(intOf i).toNat)
 case atStart=>exact⟨0,none,0,by omega,rfl,rfl,⟨[],World.ownsRow_nil _ _ _ 1,rfl,by simp⟩,Later.refl w⟩
 case round=>
  obtain⟨k,A',c',hk,rfl,rfl,⟨us,hu1,hu2,hu3⟩,hl2⟩:=hrel
  by_cases hlt:k<n
  ·obtain⟨b,o,rfl,hbb,hc⟩:=(hh.later hl2).at_ hlt
   have hrd:RdB wr (some ⟨b,o+k*68+34,none⟩) 32 (hs.getD k hp0).nod.pub.val:=Qd9 hbb (fun j v hv=>by rw[QHx _ 34 j];exact hc _ _ (QyZ _ (QyU _ hv))) (hs.getD k hp0).nod.pub.2
   have HS:=hid (hst.out k hlt)
   clear hc
   generalize (hs.getD k hp0).nod.pub.val=q at *
   have HU:=hid hu3
   clear hu3
   go_wp2_with (first
    | (go_at_call 9;refine (QbD _ 32 32 q _ hrd (by omega)).mono ?_;rintro e w1 ⟨A1,c1,rfl,hown1,hl1⟩)
    | (refine Qal rfl _ _ _ rfl 25 _ 24 Tryz.underlying79 QzI rfl w _ k us (Qaq hu1 (hl1.alloc _)) ((hl2.trans hl1).alloc _) _ 1 1 [.slice A1 32 c1] (QcQ (QfE w1 _ [.slice A1 32 c1] (by simp))) ?h1 rfl rfl (by omega) (by omega) ?_;(case h1=>simp[Qmi]);intro A2 c2 w2 hown2 hl3 hg2 _))
   go_roundw
   case rel=>
    refine⟨k+1,A2,c2,by omega,by go_num,rfl,?_,hl3⟩
    rw[HS.out]
    exact OwnParts.snoc (Qaq hu1 (hl1.alloc _)) hu2 (fun j v p hv hp=>by obtain⟨B,m,d,e1,e2⟩:=HU.out j v p hv hp;exact⟨B,m,d,e1,e2.later (hl1.alloc _)⟩) ((hown1.mono hl2.size).later (Qaa _ _)) hg2 hown2
   case measure=>simp[intOf];omega
  ·obtain rfl:k=n:=by omega
   rw[hn'.out]at hu2 hu3
   go_wp2_with fail
   go_ret
   exact⟨_,_,rfl,⟨us,hu1,hu2,hu3⟩,hl2⟩
theorem QuS (c:Cmd) (h:cmdE c=0) (w:World):Calls Tryz.prog 82 #[.agg (CC c).toArray] w fun e w'=>∃A' c',e= .returned (.tuple #[.slice A' 32 c',.int .i64 0])∧OwnB w' w.heap.size A' 32 c' (encB c)∧Later w w':=by
 have:=Qr7 c w
 rw[encR,if_pos h,h,Qdg]at this
 exact this
def Qnm (cs:List Cmd) (n:Nat):List (List UInt8):=(QF6 n).map fun i=>encB (cs.getD i cmd0)
theorem Qsr (cs:List Cmd) (n:Nat):Qnm cs (n+1)=Qnm cs n++[encB (cs.getD n cmd0)]:=by
 rw[Qnm,QG4,QF2]
 rfl
theorem Quc (cs:List Cmd) (n i:Nat) (h:i<n):(Qnm cs n).getD i []=encB (cs.getD i cmd0):=by
 rw[Qnm,QFC,QFN,QGM h]
 rfl
theorem Qnb {J:Act→Prop} {a:Act} {o:Oper} (x:Operand) (ho:o.op= .load 25 x) {w0:World} {bad:List Nat} {g off:Nat} {v:Value} (hg:g<w0.heap.size) (hn:∀b∈bad,g≠b) (hc:w0.cell? ⟨g,off,none⟩=some v) (hx:a.eval x= .pointer (some ⟨g,off,none⟩)) (h:J (a.put o.dst v)):
 o.quiet Tryz.prog a (Spared w0 bad) J:=
 ⟨v,fun w hw=>by
   have hcw:w.cell? ⟨g,off,none⟩=some v:=by
    rw[←hc]
    simp only[World.cell?]
    rw[hw.2 g hg hn]
   unfold Oper.quietAt execOp
   simp only[ho,hx,Instr.loadAt,Instr.sureAddr,Sem.run_bind,Sem.run_pure,Result.andThen_ok]
   simp[go_sem,hcw],h⟩
set_option maxRecDepth 100000 in
set_option maxHeartbeats 8000000 in
theorem Qrx (A B:Option Addr) (n c d:Nat) (cs:List Cmd) (xs:List (List UInt8)) (w:World) (hcr:RdF CC 20 cmd0 w A n cs) (hr:RdK 192 w B n xs) (hxl:∀x∈xs,x.length=192) (h1:1≤n) (h5:n≤5)
 (hok:∀i,i<n→cmdE (cs.getD i cmd0)=0∧((cs.getD i cmd0).kd=1↔i+1<n))
 (sl st:Nat→List UInt8) (hsl:∀i,i<n→encB (cs.getD i cmd0)=sl i) (hst:∀i,i<n→xs.getD i []=st i):
 Calls Tryz.prog 54 #[.slice A n c,.slice B n d] w fun e w'=>∃A' c',e= .returned (.tuple #[.slice A' 288 c',.int .i64 0])∧OwnB w' w.heap.size A' 288 c' (hdrA n sl st (n-1))∧Later w w':=by
 have hxn:=hr.1
 have hok':=hid hok
 obtain⟨F,hF⟩:∃F,F=48*(n-1):=⟨_,rfl⟩
 obtain⟨Z,hZ⟩:∃Z,Z=208-F:=⟨_,rfl⟩
 have hFi:=hid (fun w h=>QrK B n d xs st hst w h hxl h1 h5)
 rw[←hF]at hFi
 have hb0:Hid (betA n sl st 0=xorB (sl (n-1)++QFu Z 0) (chaS (subB (st (n-1)) 32 32) (32+Z))++Qgk st (n-1)):=hid (by
  rw[betA,←hF,←hZ,show 240-F=32+Z by omega]
  rfl)
 have hsll:Hid (∀ i,i<n→(sl i).length=32):=hid (fun i hi=>by rw[←hsl i hi];exact Qdg _)
 have hstl:Hid (∀ i,i<n→(st i).length=192):=hid (fun i hi=>by rw[←hst i hi];exact hxl _ (QfA xs i (by omega)))
 obtain⟨bS,oS,rfl,hbS,hcS⟩:∃b o,B=some ⟨b,o,none⟩∧b<w.heap.size∧∀k,k<n→∀(w':World),Later w w'→∀(off q:Nat) (r:List UInt8),subB (st k) off q=r→∀j v,(r.map W8)[j]?=some v→w'.cell? ⟨b,o+k*192+off+j,none⟩=some v:=by
  obtain⟨b,o,hA,hb,_⟩:=hr.sub (k:=0) (by omega)
  refine⟨b,o,hA,hb,fun k hk=>?_⟩
  obtain⟨b',o',hA',_,h⟩:=hr.sub (k:=k) hk
  rw[hA]at hA'
  cases hA'
  rw[←hst k hk]
  exact h
 replace hcS:=hid hcS
 have hcM:Hid (∀ k,k<n→∀(w':World),Later w w'→∀j v,((subB (st k) 0 32).map W8)[j]?=some v→w'.cell? ⟨bS,oS+k*192+j,none⟩=some v):=hid (fun k hk w' h j v hv=>by
  have:=hcS.out k hk w' h 0 32 _ rfl j v hv
  rwa [QG6]at this)
 have hkl:Hid (∀ k off,k<n→off+32≤192→(subB (st k) off 32).length=32):=hid (fun k off hk ho=>Qau (by rw[hstl.out k hk];omega))
 have hslG:Hid (∀ i,i<n→(Qnm cs n).getD i []=sl i):=hid (fun i hi=>by rw[Quc cs n i hi,hsl i hi])
 have hslS:=hid (Qsr cs)
 have hsl0:Hid (Qnm cs 0=[]):=hid rfl
 have hZ1:(240:Int)-(F:Int)-32=(Z:Int):=by omega
 have hZF:32+Z+F=240:=by omega
 have hZ0:0<Z:=by omega
 clear hst hsl hF hZ
 clear hok hxl
 have k1:((n:Int)==0)=false:=by simp;omega
 have k2:decide ((5:Int)<(n:Int))=false:=decide_eq_false (by omega)
 go_enter Tryz.func54,Tryz.ntmps54
 go_wp2_with fail
 go_loopw [6,7,8] (fun ws v i wr=>∃(k:Nat) (A':Option Addr) (c':Nat),k≤n∧ws= .int .i64 0∧i= .int .i64 k∧v= .slice A' k c'∧OwnParts wr w.heap.size A' k c' (Qnm cs k)∧Later w wr) (fun _ _ i _=>n-(intOf i).toNat)
 case atStart=>exact⟨0,none,0,by omega,rfl,rfl,rfl,by rw[hsl0.out];exact⟨[],World.ownsRow_nil _ _ _ 1,rfl,by simp⟩,Later.refl w⟩
 case round=>
  obtain⟨k,A',c',hk,rfl,rfl,rfl,hpar,L⟩:=hrel
  by_cases hlt:k<n
  ·obtain⟨b,o,rfl,hbb,hc⟩:=(hcr.later L).at_ hlt
   obtain⟨hE0,hkd⟩:=hok'.out k hlt
   have hEn:=hid (fun w=>QuS (cs.getD k cmd0) hE0 w)
   have hS:=hid (hslS.out k)
   have hfull:=hid hc
   have hkc:wr.cell? ⟨b,o+k*20+0,none⟩=some (W8 (cs.getD k cmd0).kd):=hc 0 _ rfl
   clear hc hE0
   generalize cs.getD k cmd0=C at *
   obtain⟨lb,e1,e2⟩:∃lb:Bool,((k:Int)==(n:Int)-1)=lb∧(C.kd==1)= !lb:=by
    by_cases hl:k+1=n
    ·exact⟨true,by simp;omega,by simp only[Bool.not_true,beq_eq_false_iff_ne];intro e;have:=hkd.1 e;omega⟩
    ·exact⟨false,by simp;omega,by simp only[Bool.not_false,beq_iff_eq];exact hkd.2 (by omega)⟩
   clear hkd
   obtain⟨us,hu1,hu2,hu3⟩:=hpar
   have HU:=hid hu3
   clear hu3
   go_wp2_with (first
    | (refine Qar rfl 53 _ rfl b (o+k*20) (CC C) hfull.out rfl _ Tryz.underlying53 rfl (by rw[Qan];exact Qgt) ?_)
    | fail)
   (with_reducible refine (hEn.out _).mono ?_);rintro e w1 ⟨A1,c1,rfl,hown1,hl1⟩
   have hkc1:w1.cell? ⟨b,o+k*20,none⟩=some (W8 C.kd):=(hl1.below.cell (p:=⟨b,o+k*20,none⟩) hbb).trans hkc
   have hbb1:b<w1.heap.size:=QFV hbb hl1.size
   clear hkc
   cases lb
   all_goals
    go_wp2_with (first
     | (refine Qal rfl _ _ _ rfl 25 _ 24 Tryz.underlying79 QzI rfl w _ k us (Qaq hu1 (hl1.alloc _)) ((L.trans hl1).alloc _) _ 1 1 [.slice A1 32 c1] (QcQ (QfE w1 _ [.slice A1 32 c1] (by simp))) ?h1 rfl rfl (by omega) (by omega) ?_;(case h1=>simp[Qmi]);intro A2 c2 w2 hown2 hl2 hg2 _)
     | fail)
    go_roundw
    case rel=>
     refine⟨k+1,A2,c2,by omega,rfl,by go_num,rfl,?_,hl2⟩
     rw[hS.out]
     exact OwnParts.snoc (Qaq hu1 (hl1.alloc _)) hu2 (fun j v p hv hp=>by obtain⟨B,m,d,e1,e2⟩:=HU.out j v p hv hp;exact⟨B,m,d,e1,e2.later (hl1.alloc _)⟩) ((hown1.mono L.size).later (Qaa _ _)) hg2 hown2
    case measure=>simp[intOf];omega
  ·obtain rfl:k=n:=by omega
   have hPs:=OwnParts.parts hpar
   have e1n:((k:Int)-1).toNat=k-1:=by omega
   have r1:=hr.later L
   clear hpar hslS hok' hcr
   go_wp2_with fail
   (refine (hFi.out _ r1).mono ?_);rintro e w2 ⟨A2,c2,rfl,o2,j2⟩
   have hP2:=hPs.later j2
   obtain⟨b,o,As,ns,cz,rfl,hbb,hcell,hcap,hrd,_⟩:=hP2.at_ (k:=k-1) (by omega)
   rw[hslG.out (k-1) (by omega)]at hrd
   obtain rfl:ns=32:=by rw[←hrd.len];exact hsll.out _ (by omega)
   have hcn:=hid (fun w' h=>hcS.out (k-1) (by omega) w' h 32 32 _ rfl)
   have hkn:=hkl.out (k-1) 32 (by omega) (by omega)
   have hbS2:bS<w2.heap.size:=QFV hbS (L.trans j2).size
   clear hPs hFi r1
   generalize subB (st (k-1)) 32 32=S at *
   generalize sl (k-1)=SLn at *
   generalize Qgk st (k-1)=FI at *
   go_wp2_with fail
   (refine (QbD As 32 cz SLn _ hrd (by omega)).mono ?_);rintro e w3 ⟨A3,c3,rfl,o3,j3⟩
   go_wp2_with (first
    | (refine Qd8 rfl _ _ _ _ rfl 5 .i64 Tryz.underlying25 Tryz.underlying3 Qbq _ _ 32 _ o3 j3.size Z hZ0 rfl rfl (by omega) ?_;intro A4 c4 w4 hown4 hg4
       have L4:Later w2 w4:=j3.grownBy hg4 (fun q hq=>(World.ownsRow.lt o3 q hq).1)
       have o4:OwnB w4 w2.heap.size A4 (32+Z) c4 (SLn++QFu Z 0):=QdJ hown4 rfl (by rw[QF2,QGg];rfl)
       have hbS4:bS<w4.heap.size:=QFV hbS2 L4.size)
    | (refine QlF rfl _ rfl (hcn.out w4 ((L.trans j2).trans L4)) hkn rfl ?_)
    | fail)
   (refine (Qnd A4 (32+Z) c4 S _ _ hkn (OwnB.rd o4) (by omega) (by omega)).mono ?_);rintro e w5 ⟨A5,c5,rfl,o5,j5⟩
   have o2':=Qaq (Qaq o2 L4) j5
   go_wp2_with (first
    | (refine Qal rfl _ _ _ rfl 5 _ 1 Tryz.underlying25 Qbq rfl w4 _ (32+Z) _ o5 j5 A2 F c2 _ (QcQ o2') (Qay _) rfl rfl (by omega) (by omega) ?_;intro A6 c6 w6 hown6 hl6 hg6 _;rw[hZF]at hown6 ⊢
       have o6:OwnB w6 w4.heap.size A6 240 c6 (betA k sl st 0):=QdJ hown6 rfl (by rw[hb0.out,QF2])
       have L6:Later w2 w6:=L4.trans hl6)
    | fail)
   have hLw:=L.trans j2
   have hmM:=hid (fun w' h=>hcM.out (k-1) (by omega) w' h)
   have hmA:=hid (fun w' h=>hcS.out (k-1) (by omega) w' h 128 32 _ rfl)
   have hml:=hkl.out (k-1) 0 (by omega) (by omega)
   have hal:=hkl.out (k-1) 128 (by omega) (by omega)
   have hT0:Hid (tagA k sl st 0=tagB (subB (st (k-1)) 0 32) (subB (st (k-1)) 128 32) (betA k sl st 0)):=hid rfl
   have hbS6:bS<w6.drew.heap.size:=QFV hbS2 L6.size
   have L4s:w2.heap.size≤w4.heap.size:=L4.size
   have hBT:Hid (betA k sl st 0=betA k sl st 0∧tagA k sl st 0=tagA k sl st 0):=hid ⟨rfl,rfl⟩
   clear hZ1 hZF hZ0 hb0 hcn hkn hrd hcell o2 o2' o3 o4 o5 j3 j5 hown4 hg4 hown6 hl6 hg6 L4 hbS4 hcap
   generalize subB (st (k-1)) 0 32=M at *
   generalize subB (st (k-1)) 128 32=AL at *
   obtain⟨B0,hB0⟩:∃B0,betA k sl st 0=B0:=⟨_,rfl⟩
   obtain⟨T0,hTT⟩:∃T0,tagA k sl st 0=T0:=⟨_,rfl⟩
   rw[hTT,hB0]at hT0
   rw[hB0]at o6
   replace hBT:=hid (And.intro hB0 hTT)
   clear hB0 hTT
   refine Qad [([0,1,2,3,4,5,6,7,8,9,10,11,12,13],14)] [15] [] (by as_aux_lemma=>kernel_rfl) (by as_aux_lemma=>kernel_rfl) (by intro _ _ d _ _ h;cases d<;>exact h) ?_
   simp only[Qah,pick,QFv,QFw,QFx,QFy,QFz]
   repeat (first|go_big_quiet_skip|(go_big_quiet_want;(refine Ql6 _ rfl (hmM.out w6.drew (hLw.trans (L6.trans (Qab _)))) hbS6 hml rfl ?_);simp only[Act.put,QFD,QFH,QFG];go_big_quiet_on)|(go_big_quiet_step (fail)))
   refine wpQuiet_nil ?_
   go_wp2_with fail
   (refine (Qqo (some ⟨bS,oS+(k-1)*192+128,none⟩) A6 32 32 240 c6 M AL _ _ hml (Qd9 hbS6 (hmA.out w6.drew (hLw.trans (L6.trans (Qab _)))) hal) (QcQ (Qaq o6 (Qab _))) (by omega) (by omega)).mono ?_);rintro e w7 ⟨A7,c7,rfl,o7,j7⟩
   rw[←hT0.out]at o7
   go_wp2_with fail
   try refine⟨by first|assumption|exact Qab _|exact Qaa _ _|exact Later.refl _,?_⟩
   try simp only[Qah,pick,QFv,QFw,QFx,QFy,QFz]
   repeat (go_big_quiet_step (fail))
   refine wpQuiet_nil ?_
   have L7:=L6.trans ((Qab w6).trans j7)
   have oB:=Qbc (Qaq o6 ((Qab w6).trans j7)) L4s
   have oT:=Qbc o7 (show w2.heap.size≤w6.drew.heap.size from L6.size)
   clear hmM hmA hml hal hT0 o6 o7 j7 L6 hbS6
   go_wp2_with fail
   go_loopw [16,17,18] (fun vb vt i wr=>∃(j:Nat) (A':Option Addr) (c':Nat) (A'':Option Addr) (c'':Nat),j≤k-1∧i= .int .i64 ((k:Int)-2-(j:Int))∧vb= .slice A' 240 c'∧vt= .slice A'' 16 c''∧OwnB wr w2.heap.size A' 240 c' (betA k sl st j)∧OwnB wr w2.heap.size A'' 16 c'' (tagA k sl st j)∧Later w2 wr) (fun _ _ i _=>(intOf i+1).toNat)
   case atStart=>exact⟨0,A6,c6,A7,c7,by omega,by simp,rfl,rfl,by rw[hBT.out.1];exact oB,by rw[hBT.out.2];exact oT,L7⟩
   case round=>
    clear oB oT L7 hBT
    obtain⟨j,A8,c8,A9,c9,hj,rfl,rfl,rfl,ob,ot,LB⟩:=hrel
    by_cases hjl:j<k-1
    ·obtain⟨i,hi⟩:∃i,i=k-2-j:=⟨_,rfl⟩
     have hcast:(k:Int)-2-(j:Int)=(i:Int):=by omega
     rw[hcast]
     have hik:i<k:=by omega
     have hbs:Hid (betA k sl st (j+1)=xorB (sl i++(tagA k sl st j++(betA k sl st j).take 192)) (chaS (subB (st i) 32 32) 240)):=hid (by rw[hi];rfl)
     have hts:Hid (tagA k sl st (j+1)=tagB (subB (st i) 0 32) (subB (st i) 128 32) (betA k sl st (j+1))):=hid (by rw[tagA,show k-1-(j+1)=i by omega];rfl)
     replace hcast:=hid hcast
     replace hi:=hid hi
     have hmM:=hid (fun w' h=>hcM.out i hik w' h)
     have hmA:=hid (fun w' h=>hcS.out i hik w' h 128 32 _ rfl)
     have hmS:=hid (fun w' h=>hcS.out i hik w' h 32 32 _ rfl)
     have hml:=hkl.out i 0 hik (by omega)
     have hal:=hkl.out i 128 hik (by omega)
     have hsl3:=hkl.out i 32 hik (by omega)
     obtain⟨b',o',Ai,ni,ci,hbo,hbb',hcell,hcap,hrd,_⟩:=(hP2.later (LB.trans (Qab _))).at_ (k:=i) hik
     obtain⟨rfl,rfl⟩:b=b'∧o=o':=by simpa using hbo
     rw[hslG.out i hik]at hrd
     obtain rfl:ni=32:=by rw[←hrd.len];exact hsll.out _ (by omega)
     have hcap8:=OwnB.cap ob
     generalize subB (st i) 0 32=M at *
     generalize subB (st i) 128 32=AL at *
     generalize subB (st i) 32 32=S at *
     generalize sl i=SLi at *
     generalize betA k sl st j=BJ at *
     generalize tagA k sl st j=TJ at *
     have hBl:=ob.len
     go_wp2_with fail
     refine Qfn (Spared wr []) [([0,1,2,3,5,7,8],4),([],6),([],9)] [10] (by as_aux_lemma=>kernel_rfl) (by as_aux_lemma=>kernel_rfl) (by intro _ _ d _ _ h;cases d<;>exact h) ⟨Spared.refl _ _,?_⟩
     simp only[Qc0,pick,QFv,QFw,QFx,QFy,QFz]
     repeat (first|go_big_quiet_skip|(go_big_quiet_want;(refine Qnb _ rfl (w0:=wr) (bad:=[]) hbb' (fun b hb=>absurd hb (QFO)) hcell rfl ?_);simp only[Act.put,QFD,QFH,QFG];go_big_quiet_on)|(go_big_quiet_step (fail))|(go_big_quiet_want;go_big_quiet_op;refine⟨_,fun _ _=>rfl,?_⟩;go_big_quiet_on))
     refine wpQuiet_nil ?_
     go_wp2_with fail
     (refine (QbD Ai 32 ci SLi _ hrd (by omega)).mono ?_);rintro e wa ⟨Aa,ca,rfl,oa,la⟩
     have S2:=(Spared.refl wr []).later la
     go_wp2_with fail
     refine⟨S2,?_⟩
     try simp only[Qc0,pick,QFv,QFw,QFx,QFy,QFz]
     repeat (first|(go_big_quiet_step (fail))|(go_big_quiet_want;go_big_quiet_op;refine⟨_,fun _ _=>rfl,?_⟩;go_big_quiet_on))
     refine wpQuiet_nil ?_
     go_wp2_with (first
      | (refine Qal rfl _ _ _ rfl 5 _ 1 Tryz.underlying25 Qbq rfl wr.drew _ 32 _ oa la A9 16 c9 _ (QcQ (Qaq ot ((Qab wr).trans la))) (Qay _) rfl rfl (by omega) (by omega) ?_;intro Ab cb wb ownb lb gb _)
      | fail)
     simp only[Act.put,QFD,QFH,QFG]
     have S3:=S2.grown gb (fun q hq=>(World.ownsRow.lt oa q hq).1)
     refine⟨S3,?_⟩
     try simp only[Qc0,pick,QFv,QFw,QFx,QFy,QFz]
     repeat (first|(go_big_quiet_step (fail))|(go_big_quiet_want;go_big_quiet_op;refine⟨_,fun _ _=>rfl,?_⟩;go_big_quiet_on))
     refine wpQuiet_nil ?_
     have hbB:OwnB wb wr.drew.heap.size Ab 48 cb (SLi++TJ):=QdJ ownb rfl (by rw[QF2])
     have rB:=RdB.take (OwnB.rd (Qaq ob ((Qab wr).trans lb))) (m:=192) (by omega)
     go_wp2_with (first
      | (refine Qal rfl _ _ _ rfl 5 _ 1 Tryz.underlying25 Qbq rfl wr.drew _ 48 _ hbB lb A8 192 c8 _ rB (Qay _) rfl rfl (by omega) (by omega) ?_;intro Ac cc wc ownc lc gc _)
      | fail)
     simp only[Act.put,QFD,QFH,QFG]
     have S4:=S3.grown gc (fun q hq=>(World.ownsRow.lt hbB q hq).1)
     refine⟨S4,?_⟩
     try simp only[Qc0,pick,QFv,QFw,QFx,QFy,QFz]
     repeat (first|(go_big_quiet_step (fail))|(go_big_quiet_want;go_big_quiet_op;refine⟨_,fun _ _=>rfl,?_⟩;go_big_quiet_on))
     refine wpQuiet_nil ?_
     have oC:OwnB wc wr.drew.heap.size Ac 240 cc (SLi++(TJ++BJ.take 192)):=QdJ ownc rfl (by simp only[QF2,QFL])
     have LC:=LB.trans ((Qab wr).trans lc)
     have hbSc:bS<wc.heap.size:=QFV hbS2 LC.size
     clear S2 S3 S4 gb gc oa la lb lc hbB rB ownb ownc hcell hbb' hcap hrd
     go_wp2_with (first
      | (refine QlF rfl _ rfl (hmS.out wc (hLw.trans LC)) hsl3 rfl ?_)
      | fail)
     (refine (Qnd Ac 240 cc S _ _ hsl3 (OwnB.rd oC) (by omega) (by omega)).mono ?_);rintro e we ⟨Ae,ce,rfl,oe,je⟩
     rw[←hbs.out]at oe
     have LE:=LC.trans je
     have hbSe:bS<we.drew.heap.size:=QFV hbS2 (LE.trans (Qab _)).size
     go_wp2_with fail
     refine Qad [([0,1,2,3,4,5,6,7,8,9,10,11],12)] [13] [] (by as_aux_lemma=>kernel_rfl) (by as_aux_lemma=>kernel_rfl) (by intro _ _ d _ _ h;cases d<;>exact h) ?_
     simp only[Qah,pick,QFv,QFw,QFx,QFy,QFz]
     repeat (first|go_big_quiet_skip|(go_big_quiet_want;(refine Ql6 _ rfl (hmM.out we.drew (hLw.trans (LE.trans (Qab _)))) hbSe hml rfl ?_);simp only[Act.put,QFD,QFH,QFG];go_big_quiet_on)|(go_big_quiet_step (fail)))
     refine wpQuiet_nil ?_
     go_wp2_with fail
     (refine (Qqo (some ⟨bS,oS+i*192+128,none⟩) Ae 32 32 240 ce M AL _ _ hml (Qd9 hbSe (hmA.out we.drew (hLw.trans (LE.trans (Qab _)))) hal) (QcQ (Qaq oe (Qab _))) (by omega) (by omega)).mono ?_);rintro e wf ⟨Af,cf,rfl,of_,jf⟩
     rw[←hts.out]at of_
     go_wp2_with fail
     try refine⟨by first|assumption|exact Qab _|exact Qaa _ _|exact Later.refl _,?_⟩
     try simp only[Qah,pick,QFv,QFw,QFx,QFy,QFz]
     repeat (go_big_quiet_step (fail))
     refine wpQuiet_nil ?_
     have LF:=LE.trans ((Qab we).trans jf)
     have oB:=Qbc (Qaq oe ((Qab we).trans jf)) LC.size
     have oT:=Qbc of_ (show w2.heap.size≤we.drew.heap.size from LE.size)
     go_wp2_with fail
     exact⟨⟨j+1,Ae,ce,Af,cf,by omega,by rw[show (k:Int)-2-((j+1:Nat):Int)=(i:Int)-1 by have:=hcast.out;omega],rfl,rfl,oB,oT,LF⟩,by simp only[intOf];omega⟩
    ·obtain rfl:j=k-1:=by omega
     have hge: ¬(0:Int)≤(k:Int)-2-((k-1:Nat):Int):=by omega
     have hmA:=hid (fun w' h=>hcS.out 0 (by omega) w' h 128 32 _ rfl)
     have hal:=hkl.out 0 128 (by omega) (by omega)
     have hH:Hid (hdrA k sl st (k-1)=subB (st 0) 128 32++(tagA k sl st (k-1)++betA k sl st (k-1))):=hid (by
      rw[hdrA,show k-1-(k-1)=0 by omega]
      rfl)
     have hbSr:bS<wr.heap.size:=QFV hbS2 LB.size
     generalize subB (st 0) 128 32=AL at *
     generalize betA k sl st (k-1)=BJ at *
     generalize tagA k sl st (k-1)=TJ at *
     go_wp2_with fail
     (refine (QbD (some ⟨bS,oS+128,none⟩) 32 32 AL _ (Qd9 hbSr (fun q v hv=>by have:=hmA.out wr (hLw.trans LB) q v hv;rwa [QHJ,QG6]at this) hal) (by omega)).mono ?_);rintro e wa ⟨Aa,ca,rfl,oa,la⟩
     go_wp2_with (first
      | (refine Qal rfl _ _ _ rfl 5 _ 1 Tryz.underlying25 Qbq rfl wr _ 32 _ oa la A9 16 c9 _ (QcQ (Qaq ot la)) (Qay _) rfl rfl (by omega) (by omega) ?_;intro Ab cb wb ownb lb gb _
         have hbB:OwnB wb wr.heap.size Ab 48 cb (AL++TJ):=QdJ ownb rfl (by rw[QF2]))
      | (refine Qal rfl _ _ _ rfl 5 _ 1 Tryz.underlying25 Qbq rfl wr _ 48 _ hbB lb A8 240 c8 _ (QcQ (Qaq ob lb)) (Qay _) rfl rfl (by omega) (by omega) ?_;intro Ac cc wc ownc lc gc _)
      | fail)
     go_ret2
     refine⟨Ac,cc,rfl,?_,hLw.trans (LB.trans lc)⟩
     rw[hH.out]
     exact Qbc (QdJ ownc rfl (by simp only[QF2,QFL])) (hLw.trans LB).size
def QFr (v1 v2:Value):Prop:=∀b1 b2,v1.ownBlock=some b1→v2.ownBlock=some b2→b2<b1
end Go.Proofs.YtcbdgnlcknllnaaGreat
