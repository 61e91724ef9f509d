/-
  Lemmas for the last text of this claim (part 18 of 20).
-/
import Derived.ArgAppend
import Derived.BigQuiet
import Derived.BigRegion
import Derived.ChangeOld
import Derived.Deep.RegionWith
import Derived.DeepKeys4
import Derived.JoinedCond
import Derived.LaidMore
import Derived.Laws.BytesArg
import Derived.Laws.CopyOwn
import Derived.Laws.Externs
import Derived.Laws.IdiomStrings
import Derived.Laws.Tables
import Derived.Lib.AppendStr
import Derived.Lib.AppendZerosOnto
import Derived.Lib.Mul64
import Derived.Lib.SlBytesConst
import Derived.LoopN
import Derived.Maps.OwnSet
import Derived.OpenShut
import Derived.OrdersHeld
import Derived.ProofKit
import Derived.Shelf.Spec.BitsCarry
import Derived.ShutString
import Derived.Test.YtdhgpkdjdmlphaaGreatProg
import Derived.Test.YtdhgpkdjdmlphaaGreatRows
import Derived.WalkKit
import Derived.WalkLawsBesides
import Derived.WalkSpells
import Derived.Test.YtdhgpkdjdmlphaaGreatSB
import Derived.Test.YtdhgpkdjdmlphaaGreatSD
import Derived.Test.YtdhgpkdjdmlphaaGreatSF
import Derived.Test.YtdhgpkdjdmlphaaGreatSK
import Derived.Test.YtdhgpkdjdmlphaaGreatSL
import Derived.Test.YtdhgpkdjdmlphaaGreatSN
import Derived.Test.YtdhgpkdjdmlphaaGreatSP
import Derived.Test.YtdhgpkdjdmlphaaGreatSQ
open List renaming replicate → QCC, getElem?_cons_succ → QCD, getElem?_cons_zero → QCE, length_map → QCG, getElem?_eq_getElem → QCH, nil_append → QCI, cons_append → QCJ, getD_eq_getElem?_getD → QCK, setIfInBounds_toArray → QCL, length_append → QCM, length_replicate → QCO, set_cons_zero → QCP, set_cons_succ → QCQ, getElem?_append_right → QCR, map_toArray → QCS, take_of_length_le → QCT, append_assoc → QCU, getElem?_map → QCY, getElem?_append_left → QC0, map_nil → QC2, length_take → QC5, length_drop → QC7, take_append_drop → QC9, map_cons → QDa, set_append_right → QDe, append_nil → QDg, map_replicate → QDi, length_set → QDl, take_append_of_le_length → QDn, map_append → QDo, length_cons → QDq, range → QDt, drop_append_of_le_length → QDJ, replicate_append_replicate → QDM, getElem?_drop → QDN, drop_of_length_le → QDP, getElem_mem → QDS, replicate_succ → QD6, drop_zero → QD8, getElem?_set_self → QEz, range_succ → QEN, getElem_of_mem → QEO
open Nat renaming le_refl → QCN, mod_eq_of_lt → QC1, lt_of_lt_of_le → QC3, div_div_eq_div_mul → QDs, mul_comm → QDz, pow_succ → QDA, sub_self → QD0, mod_mod → QD4, add_zero → QEm, add_comm → QEF, pow_zero → QES
open Option renaming toList_some → QCF, map_eq_some_iff → QEb, map_some → QEc
open UInt32 renaming ofInt → QEk
open UInt64 renaming ofNat → QC4, toNat_ofNat' → QDb
open UInt8 renaming ofNat → QDc, ofInt → QDh, toNat_inj → QDr, toNat_ofNat' → QDH
set_option linter.all false
namespace Go.Proofs.YtdhgpkdjdmlphaaGreat
open Go.RowKit
open Go.BigFrame
theorem QqP (b:List UInt8) (hb:b.length=480):parE b=if allZ (b.take 16)=false then 7 else if b.getD 16 0<1∨3<b.getD 16 0 then 1 else if b.getD 19 0≠0∨450<Qcw b then 3 else if prtE (QgX b)≠0∨allZ (b.drop (30+Qcw b))=false then 3 else 0:=by
 have h1:(b.take 16≠QCC 16 0)=(allZ (b.take 16)=false):=by
  have:=Qkm (b.take 16)
  rw[show (b.take 16).length=16 by rw[QC5];omega]at this
  rw[Ne,←this,Bool.not_eq_true]
 rw[parE,if_neg (by omega)]
 simp only[h1]
 by_cases hs:450<Qcw b
 ·rw[if_pos (show b.getD 19 0≠0∨450<Qcw b from .inr hs),if_pos (show b.getD 19 0≠0∨450<Qcw b from .inr hs)]
 ·have h2:(b.drop (30+Qcw b)≠QCC (450-Qcw b) 0)=(allZ (b.drop (30+Qcw b))=false):=by
   have:=Qkm (b.drop (30+Qcw b))
   rw[show (b.drop (30+Qcw b)).length=450-Qcw b by rw[QC7];omega]at this
   rw[Ne,←this,Bool.not_eq_true]
  simp only[h2]
set_option maxRecDepth 100000 in
set_option maxHeartbeats 4000000 in
theorem Qpo (A:Option Addr) (c:Nat) (b:List UInt8) (w:World) (hb:RdB w A 480 b) (hc:480≤c):
 Calls Tryz.prog 71 #[.slice A 480 c] w fun e w'=>∃A' c',e= .returned (.tuple #[.agg (PaC (parP b) (.slice A' (parP b).da.length c')).toArray,.int .i64 (parE b:Nat)])∧OwnB w' w.heap.size A' (parP b).da.length c' (parP b).da∧Later w w':=by
 have hbl:=hb.len
 obtain⟨b0,o,rfl,hb00,_⟩:=hb.2 (by omega)
 have hE:=hid (QqP b hbl)
 have hP:Hid (parP b=if parE b=0 then QgX b else prt0):=hid rfl
 have hOf:Hid (QgX b=⟨b.getD 16 0,QC4 (beN (subB b 20 8) 0),((b.getD 17 0).toNat:Int),((b.getD 18 0).toNat:Int),subB b 30 (Qcw b)⟩):=hid rfl
 have hsp:Hid (Qcw b=beN (subB b 28 2) 0):=hid rfl
 have hs6:=Qvt b hbl
 have hZ1:=hid (fun (w:World) (h:RdB w (some ⟨b0,o,none⟩) 480 b)=>QoJ (some ⟨b0,o,none⟩) 16 c (b.take 16) w (h.take (by omega)) (by omega))
 have hG1:=hid (fun (w:World) (h:RdB w (some ⟨b0,o,none⟩) 480 b)=>QhD (some ⟨b0,o,none⟩) 480 c 20 8 b w h (by omega) (by omega) (by omega) (by omega))
 have hG2:=hid (fun (w:World) (h:RdB w (some ⟨b0,o,none⟩) 480 b)=>QhD (some ⟨b0,o,none⟩) 480 c 28 2 b w h (by omega) (by omega) (by omega) (by omega))
 rw[←hsp.out]at hG2
 have hcl:=hid (fun (w:World) (h:RdB w (some ⟨b0,o,none⟩) 480 b)=>(⟨Qde h 16 (by omega),Qde h 17 (by omega),Qde h 18 (by omega),Qde h 19 (by omega)⟩:w.cell? ⟨b0,o+16,none⟩=some (W8 (b.getD 16 0))∧w.cell? ⟨b0,o+17,none⟩=some (W8 (b.getD 17 0))∧w.cell? ⟨b0,o+18,none⟩=some (W8 (b.getD 18 0))∧w.cell? ⟨b0,o+19,none⟩=some (W8 (b.getD 19 0))))
 have hsl:=hid (fun hs=>QlN b hbl hs)
 generalize parE b=E at *
 generalize parP b=PP at *
 generalize QgX b=P at *
 generalize hS:Qcw b=S at *
 generalize QC4 (beN (subB b 20 8) 0)=ID at *
 generalize b.getD 16 0=x16 at *
 generalize b.getD 17 0=x17 at *
 generalize b.getD 18 0=x18 at *
 generalize b.getD 19 0=x19 at *
 clear hsp hS
 have C1:=Qba w 25 pz0
 have hb0:=Ql0
 generalize allZ (b.take 16)=F1 at *
 go_enter Tryz.func71,Tryz.ntmps71
 go_wp2_with fail
 (refine (hZ1.out _ (hb.later C1.lat)).mono ?_);rintro e w2 ⟨rfl,j2⟩
 have C2:=C1.later j2
 clear hZ1 j2 C1
 cases F1
 ·have HE:E=7:=hE.out.trans (if_pos rfl)
  have HP:PP=prt0:=by rw[hP.out,if_neg (by rw[HE];decide)]
  replace HE:=hid HE
  replace HP:=hid HP
  clear hP hE hcl hG1 hG2
  go_wp2_with (first
   | (refine Qah rfl 25 _ rfl (PaC prt0 (.slice none 0 0)) (by simp only[QCS,QC2];exact hb0) ?_)
   | (refine Qbd rfl rfl _ _ rfl (C2.nth 0 rfl) rfl rfl rfl rfl ?_;intro e7 eb7 eo7
      have E7:=C2.write 0 rfl eo7 eb7)
   | fail)
  exact bodyPost_ret (Qaf rfl _ _ _ _ _ _ (E7.nth 0 rfl) rfl Tryz.underlying25 rfl (by rw[QaM];exact QcN)) rfl ⟨none,0,by rw[HE.out,HP.out];rfl,by rw[HP.out];exact Qcn _ _ _,E7.lat⟩
 replace hE:=hid (hE.out.trans (if_neg (by decide)))
 obtain⟨k16,k17,k18,k19⟩:=hcl.out _ (hb.later C2.lat)
 have hb0lt:b0<w2.heap.size:=QC3 hb00 C2.lat.size
 by_cases h1:x16<1∨3<x16
 ·have h13:(decide (x16<1)||decide (3<x16))=true:=by simpa using h1
  by_cases h11:x16<1
  all_goals
   have h33:x16<1∨3<x16:=h1
   simp only[h11,true_or,false_or]at h33
   have HE:E=1:=hE.out.trans (if_pos h1)
   have HP:PP=prt0:=by rw[hP.out,if_neg (by rw[HE];decide)]
   replace HE:=hid HE
   replace HP:=hid HP
   clear hP hE hcl hG1 hG2
   go_wp2_with (first
    | (refine Qah rfl 25 _ rfl (PaC prt0 (.slice none 0 0)) (by simp only[QCS,QC2];exact hb0) ?_)
    | (refine Qbd rfl rfl _ _ rfl (C2.nth 0 rfl) rfl rfl rfl rfl ?_;intro e7 eb7 eo7
       have E7:=C2.write 0 rfl eo7 eb7)
    | fail)
   exact bodyPost_ret (Qaf rfl _ _ _ _ _ _ (E7.nth 0 rfl) rfl Tryz.underlying25 rfl (by rw[QaM];exact QcN)) rfl ⟨none,0,by rw[HE.out,HP.out];rfl,by rw[HP.out];exact Qcn _ _ _,E7.lat⟩
 have h11: ¬x16<1:=fun h=>h1 (.inl h)
 have h13: ¬ 3<x16:=fun h=>h1 (.inr h)
 replace hE:=hid (hE.out.trans (if_neg h1))
 clear h1
 go_wp2_with fail
 (refine (hG1.out _ (hb.later C2.lat)).mono ?_);rintro e w3 ⟨rfl,j3⟩
 go_wp2_with fail
 (refine (hG2.out _ (hb.later (C2.lat.trans j3))).mono ?_);rintro e w4 ⟨rfl,j4⟩
 have C4:=(C2.later j3).later j4
 clear k16 k17 k18 k19 j3 j4 C2 hb0lt
 obtain⟨k16,k17,k18,k19⟩:=hcl.out _ (hb.later C4.lat)
 have hb0lt:b0<w4.heap.size:=QC3 hb00 C4.lat.size
 obtain⟨z,hz⟩:∃z,z=QC4 S:=⟨_,rfl⟩
 have hzS:z.toNat=S:=by rw[hz,QDb,QC1 (by omega)]
 rw[←hz]
 clear hz
 have hlt450:(450:UInt64)<z↔450<S:=by rw[UInt64.lt_iff_toNat_lt,hzS];rfl
 by_cases hx:x19≠0∨450<S
 ·by_cases h19:x19=0
  ·have n1:(x19 != 0)=false:=by simpa using h19
   have n2:(450:UInt64)<z:=hlt450.2 (hx.resolve_left (fun f=>f h19))
   clear h19 hlt450
   have HE:E=3:=hE.out.trans (if_pos hx)
   have HP:PP=prt0:=by rw[hP.out,if_neg (by rw[HE];decide)]
   replace HE:=hid HE
   replace HP:=hid HP
   clear hP hE hcl hG1 hG2
   go_wp2_with (first
    | (refine Qah rfl 25 _ rfl (PaC prt0 (.slice none 0 0)) (by simp only[QCS,QC2];exact hb0) ?_)
    | (refine Qbd rfl rfl _ _ rfl (C4.nth 0 rfl) rfl rfl rfl rfl ?_;intro e7 eb7 eo7
       have E7:=C4.write 0 rfl eo7 eb7)
    | fail)
   exact bodyPost_ret (Qaf rfl _ _ _ _ _ _ (E7.nth 0 rfl) rfl Tryz.underlying25 rfl (by rw[QaM];exact QcN)) rfl ⟨none,0,by rw[HE.out,HP.out];rfl,by rw[HP.out];exact Qcn _ _ _,E7.lat⟩
  ·have n1:(x19 != 0)=true:=by simpa using h19
   clear h19 hlt450
   have HE:E=3:=hE.out.trans (if_pos hx)
   have HP:PP=prt0:=by rw[hP.out,if_neg (by rw[HE];decide)]
   replace HE:=hid HE
   replace HP:=hid HP
   clear hP hE hcl hG1 hG2
   go_wp2_with (first
    | (refine Qah rfl 25 _ rfl (PaC prt0 (.slice none 0 0)) (by simp only[QCS,QC2];exact hb0) ?_)
    | (refine Qbd rfl rfl _ _ rfl (C4.nth 0 rfl) rfl rfl rfl rfl ?_;intro e7 eb7 eo7
       have E7:=C4.write 0 rfl eo7 eb7)
    | fail)
   exact bodyPost_ret (Qaf rfl _ _ _ _ _ _ (E7.nth 0 rfl) rfl Tryz.underlying25 rfl (by rw[QaM];exact QcN)) rfl ⟨none,0,by rw[HE.out,HP.out];rfl,by rw[HP.out];exact Qcn _ _ _,E7.lat⟩
 have n1:(x19 != 0)=false:=by
  cases e:(x19 != 0)
  ·rfl
  ·exact absurd (.inl (by simpa using e)) hx
 have hS4:S≤450:=by omega
 have n2: ¬(450:UInt64)<z:=fun h=>by have:=hlt450.1 h;omega
 replace hE:=hid (hE.out.trans (if_neg hx))
 clear hx hlt450
 have w17:IntKind.i64.wrap (x17.toNat:Int)=(x17.toNat:Int):=by have:=x17.toNat_lt;rw[IntKind.wrap_i64];omega
 have w18:IntKind.i64.wrap (x18.toNat:Int)=(x18.toNat:Int):=by have:=x18.toNat_lt;rw[IntKind.wrap_i64];omega
 have wz:IntKind.i64.wrap (z.toNat:Int)=(S:Int):=by rw[hzS,IntKind.wrap_i64];omega
 clear hzS
 have hP0:P=⟨x16,ID,(x17.toNat:Int),(x18.toNat:Int),subB b 30 S⟩:=hOf.out
 have hdl:=hsl.out hS4
 have hCk:=hid (fun (w:World) A' c'=>Qjl P A' S c' hdl w)
 have hZ2:=hid (fun (w:World) A' c' (h:RdB w A' (480-(30+S)) (b.drop (30+S)))=>QoJ A' (480-(30+S)) c' (b.drop (30+S)) w h (by omega))
 have hR2:=hid (fun (w:World) (h:RdB w (some ⟨b0,o,none⟩) 480 b)=>(⟨fun hne:c≠30+S=>by
  have:=h.cut (k:=30+S) (c:=c) (by omega) hc
  rw[cutA,if_neg hne]at this
  rw[show some (⟨b0,o+(30+S),none⟩:Addr)=(some (⟨b0,o,none⟩:Addr)).map (·.add (30+S)) by rw[QEc,Qdl]]
  exact this,fun he:c=30+S=>⟨by rw[QCG,QC7];omega,fun h=>absurd h (by omega)⟩⟩:(c≠30+S→RdB w (some ⟨b0,o+(30+S),none⟩) (480-(30+S)) (b.drop (30+S)))∧(c=30+S→RdB w (some ⟨b0,o,none⟩) (480-(30+S)) (b.drop (30+S)))))
 have hCp:=hid (fun (w:World) (h:RdB w (some ⟨b0,o,none⟩) 480 b)=>Qp3 (some ⟨b0,o+30,none⟩) S (c-30) (subB b 30 S) w (by
  by_cases h0:S=0
  ·rw[h0]
   exact⟨rfl,fun h=>absurd h (by omega)⟩
  ·exact Qxi h 30 S (by omega) (by omega)) (by omega))
 have hda:Hid (P.da=subB b 30 S):=hid (by rw[hP0])
 generalize hD:subB b 30 S=D at *
 clear hOf hD
 generalize allZ (b.drop (30+S))=F2 at *
 generalize prtE P=CE at *
 have f0:(0:Int)≤(S:Int):=by omega
 have f1:(S:Int)≤450:=by omega
 have f2:((30:Int)+(S:Int)).toNat=30+S:=by omega
 go_wp2_with fail
 have C5:=C4.drew
 have m0:=hb.later C5.lat
 refine Qag [([0,1,2,3,4,5,6,7,8,9,10,11,12],13)] [] [14] (by as_aux_lemma=>kernel_rfl) (by as_aux_lemma=>kernel_rfl) (by intro _ _ d _ _ h;cases d<;>exact h) ?_
 simp only[Qai,pick,QCD,QCE,QCF,QCJ,QCI]
 repeat (first|go_big_quiet_skip|(go_big_quiet_want;(refine QbN _ _ rfl (PaC ⟨x16,ID,(x17.toNat:Int),(x18.toNat:Int),[]⟩ (.slice none 0 0)) (by simp only[QCS,QDa,QC2];exact QrA _ _ _ _) ?_);simp only[Act.put,QCL,QCQ,QCP];go_big_quiet_on)|(go_big_quiet_step (fail)))
 refine wpQuiet_nil ?_
 go_wp2_with fail
 try refine⟨by first|assumption|exact Qab _|exact Qaa _ _|exact Later.refl _,?_⟩
 try simp only[Qai,pick,QCD,QCE,QCF,QCJ,QCI]
 repeat (go_big_quiet_step (fail))
 refine wpQuiet_nil ?_
 go_wp2_with (first
  | (refine Qbd rfl rfl _ _ rfl (Blk.new w4.drew _ pz0) rfl rfl rfl rfl ?_;intro w6 hb6 ho6
     have C6:=C5.push (Qaa _ _) (QCN _) ho6 hb6)
  | fail)
 (refine (hCp.out _ (hb.later C6.lat)).mono ?_);rintro e w7 ⟨rfl,hb7,j7⟩
 have C7:=C6.fresh j7 (QCN _) hb7
 have hset:Hid ((PaC ⟨x16,ID,(x17.toNat:Int),(x18.toNat:Int),[]⟩ (.slice none 0 0)).set 4 (.slice (some ⟨w6.heap.size,0,none⟩) S S)=PaC P (.slice (some ⟨w6.heap.size,0,none⟩) S S)):=hid (by rw[hP0];rfl)
 clear hb7 j7 hb6 ho6 C4 C5 hCp m0 hP0
 by_cases hc0:CE=0
 ·subst hc0
  go_wp2_with (first
   | (refine Qad rfl rfl _ _ _ rfl w4.drew.heap.size 4 _ _ (C7.nth 1 rfl) rfl (by rw[QaM];omega) rfl (by kernel_rfl) ?_;intro v8 w8 hv8 hb8 ho8;simp[go_sem]at hv8;subst hv8;rw[hset.out]at hb8
      have C8:=C7.write 1 rfl ho8 hb8)
   | (refine QdK rfl _ rfl (C8.nth 1 rfl) rfl ?_)
   | fail)
  (refine (hCk.out _ _ _).mono ?_);rintro e w9 ⟨rfl,j9⟩
  have C9:=C8.later j9
  have hR9:=hid (hR2.out _ (hb.later C9.lat))
  by_cases hcs:c=30+S
  all_goals
   have hR10:=hid (by first|exact hR9.out.2 hcs|exact hR9.out.1 hcs)
   go_wp2_with fail
   (with_reducible refine (hZ2.out _ _ _ hR10.out).mono ?_);rintro e w10 ⟨rfl,j10⟩
   have C10:=C9.later j10
   cases F2
   ·replace hE:=hid (hE.out.trans (if_pos (.inr rfl)))
    have HE:E=3:=hE.out
    have HP:PP=prt0:=by rw[hP.out,if_neg (by rw[HE];decide)]
    replace HE:=hid HE
    replace HP:=hid HP
    clear hP hE
    go_wp2_with (first
     | (refine Qah rfl 25 _ rfl (PaC prt0 (.slice none 0 0)) (by simp only[QCS,QC2];exact hb0) ?_)
     | (refine Qbd rfl rfl _ _ rfl (C10.nth 2 rfl) rfl rfl rfl rfl ?_;intro e7 eb7 eo7
        have E7:=C10.write 2 rfl eo7 eb7)
     | fail)
    exact bodyPost_ret (Qaf rfl _ _ _ _ _ _ eb7 rfl Tryz.underlying25 rfl (by rw[QaM];exact QcN)) rfl ⟨none,0,by rw[HE.out,HP.out];rfl,by rw[HP.out];exact Qcn _ _ _,E7.lat⟩
   ·replace hE:=hid (hE.out.trans (if_neg (by simp)))
    have HP:PP=P:=by rw[hP.out,if_pos hE.out]
    replace HP:=hid HP
    go_wp2_with (first
     | (refine QdK rfl _ rfl (C10.nth 1 rfl) rfl ?_)
     | (refine Qbd rfl rfl _ _ rfl (C10.nth 2 rfl) rfl rfl rfl rfl ?_;intro e7 eb7 eo7
        have E7:=C10.write 2 rfl eo7 eb7)
     | fail)
    refine bodyPost_ret (Qaf rfl _ _ _ _ _ _ eb7 rfl Tryz.underlying25 rfl (by rw[QaM];exact QcN)) rfl ⟨some ⟨w6.heap.size,0,none⟩,S,by rw[hE.out,HP.out,hdl];rfl,?_,E7.lat⟩
    rw[HP.out,hda.out]
    have hDl:D.length=S:=by rw[←hda.out];exact hdl
    have:=Qdy (E7.nth 0 rfl) (E7.at_low 0 rfl) (by rw[QCG,hDl];omega)
    rw[QCG,hDl]at this
    rw[hDl]
    exact this
 ·have hne:((CE:Int) != 0)=true:=by simp;omega
  replace hE:=hid (hE.out.trans (if_pos (.inl hc0)))
  clear hc0
  have HE:E=3:=hE.out
  have HP:PP=prt0:=by rw[hP.out,if_neg (by rw[HE];decide)]
  replace HE:=hid HE
  replace HP:=hid HP
  clear hP hE
  go_wp2_with (first
   | (refine Qad rfl rfl _ _ _ rfl w4.drew.heap.size 4 _ _ (C7.nth 1 rfl) rfl (by rw[QaM];omega) rfl (by kernel_rfl) ?_;intro v8 w8 hv8 hb8 ho8;simp[go_sem]at hv8;subst hv8;rw[hset.out]at hb8
      have C8:=C7.write 1 rfl ho8 hb8)
   | (refine QdK rfl _ rfl (C8.nth 1 rfl) rfl ?_)
   | fail)
  (refine (hCk.out _ _ _).mono ?_);rintro e w9 ⟨rfl,j9⟩
  have C9:=C8.later j9
  go_wp2_with (first
   | (refine Qah rfl 25 _ rfl (PaC prt0 (.slice none 0 0)) (by simp only[QCS,QC2];exact hb0) ?_)
   | (refine Qbd rfl rfl _ _ rfl (C9.nth 2 rfl) rfl rfl rfl rfl ?_;intro e7 eb7 eo7
      have E7:=C9.write 2 rfl eo7 eb7)
   | fail)
  exact bodyPost_ret (Qaf rfl _ _ _ _ _ _ eb7 rfl Tryz.underlying25 rfl (by rw[QaM];exact QcN)) rfl ⟨none,0,by rw[HE.out,HP.out];rfl,by rw[HP.out];exact Qcn _ _ _,E7.lat⟩
def fr3 (p:Prt):List UInt8:=QCC 16 0++([p.kd,QDh p.ix,QDh p.ct,0]++QCC 460 0)
def frK (p:Prt) (k:Nat):List UInt8:=putB (fr3 p) 20 ((bigB 8 p.id.toNat).take k)
theorem Qfq (n:Nat):QDh (n:Int)=QDc n:=by
 apply QDr.1
 rw[QDH]
 show ((n:Int)%(2:Int)^8).toNat%2^8=n%2^8
 omega
theorem Qvg (p:Prt):(((QCC 480 (0:UInt8)).set 16 p.kd).set 17 (QDh p.ix)).set 18 (QDh p.ct)=fr3 p:=by
 rw[show QCC 480 (0:UInt8)=QCC 16 0++([0,0,0,0]++QCC 460 0) by rw[show ([0,0,0,0]:List UInt8)=QCC 4 0 from rfl,QDM,QDM]]
 rw[QDe _ _ (by simp),QDe _ _ (by simp),QDe _ _ (by simp),QCO]
 rfl
theorem Qg5 (p:Prt):(fr3 p).length=480:=by
 rw[fr3,QCM,QCM,QCO,QCO]
 show 16+(4+460)=480
 omega
theorem QoC:∀(w n k:Nat),k<w→(bigB w n)[k]?=some (QDc (n/256^(w-1-k)))
 | 0,_,_,h=>by omega
 | w+1,n,k,h=>by
   rw[bigB]
   by_cases hk:k<w
   ·rw[QC0 (by rw[Qap];exact hk),QoC w _ k hk,QDs,show w+1-1-k=(w-1-k)+1 by omega,QDA,QDz]
   ·obtain rfl:k=w:=by omega
    rw[QCR (by rw[Qap];omega),Qap,QD0,show k+1-1-k=0 by omega,QES,Nat.div_one]
    rfl
theorem QoZ (p:Prt):frK p 0=fr3 p:=by simp[frK,putB]
theorem Qpr (p:Prt) (k:Nat):(frK p k).length=480:=by
 rw[frK,QbJ (by rw[Qg5,QC5,Qap];omega),Qg5]
theorem QwX (p:Prt) (h:p.da.length≤450):putB (((frK p 8).set 28 (QDh ((p.da.length:Int)/256))).set 29 (QDh ((p.da.length:Int)%256))) 30 p.da=Qbr p:=by
 have h8:(bigB 8 p.id.toNat).take 8=bigB 8 p.id.toNat:=QCT (by rw[Qap];omega)
 have e1:QDh ((p.da.length:Int)/256)=QDc (p.da.length/256):=by
  rw[show ((p.da.length:Int)/256)=((p.da.length/256:Nat):Int) by omega,Qfq]
 have e2:QDh ((p.da.length:Int)%256)=QDc p.da.length:=by
  rw[show ((p.da.length:Int)%256)=((p.da.length%256:Nat):Int) by omega,Qfq]
  apply QDr.1
  rw[QDH,QDH,QD4]
 have hb2:bigB 2 p.da.length=[QDc (p.da.length/256),QDc p.da.length]:=rfl
 rw[e1,e2,frK,h8,Qbr,hb2,fr3]
 generalize QDc (p.da.length/256)=x
 generalize QDc p.da.length=y
 have hI:=Qap 8 p.id.toNat
 generalize bigB 8 p.id.toNat=I at *
 have hH:(QCC 16 0++[p.kd,QDh p.ix,QDh p.ct,0]:List UInt8).length=20:=by simp
 rw[←QCU,←QCU]
 generalize (QCC 16 0++[p.kd,QDh p.ix,QDh p.ct,0]:List UInt8)=H at *
 rw[show QCC 460 (0:UInt8)=QCC 8 0++([0,0]++(QCC p.da.length 0++QCC (450-p.da.length) 0)) by
  rw[show ([0,0]:List UInt8)=QCC 2 0 from rfl,QDM,QDM,QDM]
  congr 1
  omega,Qcg _ _ _ _ 20 hH (by rw[hI,QCO])]
 rw[←QCU,QDe _ _ (by simp;omega),QDe _ _ (by simp;omega),QCM,hH,hI]
 show putB ((H++I)++([x,y]++(QCC p.da.length 0++QCC (450-p.da.length) 0))) 30 p.da=_
 rw[←QCU,Qcg _ _ _ _ 30 (by simp;omega) (by rw[QCO])]
 simp only[QCU]
def frmR (p:Prt):List UInt8:=if prtE p=0 then Qbr p else []
theorem Qub (p:Prt):(((QCC 480 (Value.int .u8 0)).set 16 (W8 p.kd)).set 17 (W8 (QDh p.ix))).set 18 (W8 (QDh p.ct))=(frK p 0).map W8:=by
 rw[QoZ,←Qvg,←QcF,←QcF,←QcF,QDi]
 rfl
structure Pel where
 c:Cmd
 P:Y768
 B:List UInt8
def Qup:Y768:=⟨z768,Qat⟩
def pel0:Pel:=⟨cmd0,Qup,[]⟩
def unwY (k:List UInt8) (p:Y768):Y768:=⟨unwP k p.val,Qh4 k p.val p.2⟩
def unwL (k:List UInt8) (p:Y768):Pel:=⟨unwC k p.val,unwY k p,unwB k p.val⟩
section
variable {ks:List (List UInt8)} {k:Nat} {q:Y768}
end
structure PelV where
 c:Cmd
 P:Y768
 A:Option Addr
 n:Nat
 cp:Nat
def QBy:PelV:=⟨cmd0,Qup,none,0,0⟩
def PelOk (w:World) (base:Nat) (x:PelV) (y:Pel):Prop:=x.c=y.c∧x.P=y.P∧x.n=y.B.length∧OwnB w base x.A x.n x.cp y.B
def PelRow (w:World) (base:Nat):List PelV→List Pel→Prop
 | [],[]=>True
 | x :: xs,y :: ys=>PelOk w base x y∧PelRow w base xs ys
 | _,_=>False
theorem PelRow.len {w:World} {base:Nat}:∀ {xs:List PelV} {ys:List Pel},PelRow w base xs ys→xs.length=ys.length
 | [],[],_=>rfl
 | x :: xs,y :: ys,h=>by rw[QDq,QDq,PelRow.len h.2]
theorem PelRow.snoc {w:World} {base:Nat} {x:PelV} {y:Pel}:∀ {xs:List PelV} {ys:List Pel},PelRow w base xs ys→PelOk w base x y→PelRow w base (xs++[x]) (ys++[y])
 | [],[],_,h=>⟨h,trivial⟩
 | _ :: _,_ :: _,h,h'=>⟨h.1,PelRow.snoc h.2 h'⟩
theorem PelRow.mono {w w':World} {base:Nat} (hw:∀A n c B,OwnB w base A n c B→OwnB w' base A n c B):∀ {xs:List PelV} {ys:List Pel},PelRow w base xs ys→PelRow w' base xs ys
 | [],[],_=>trivial
 | _ :: _,_ :: _,h=>⟨⟨h.1.1,h.1.2.1,h.1.2.2.1,hw _ _ _ _ h.1.2.2.2⟩,PelRow.mono hw h.2⟩
theorem PelRow.at_ {w:World} {base:Nat}:∀ {xs:List PelV} {ys:List Pel} (i:Nat),PelRow w base xs ys→i<ys.length→PelOk w base (xs.getD i QBy) (ys.getD i pel0)
 | [],[],i,_,h=>absurd h (by simp)
 | _ :: _,_ :: _,0,h,_=>h.1
 | _ :: _,_ :: _,i+1,h,hi=>by
   have:=PelRow.at_ i h.2 (by simpa using hi)
   simpa using this
theorem PelRow.later {w w':World} {base:Nat} {xs:List PelV} {ys:List Pel} (h:PelRow w base xs ys) (hl:Later w w'):PelRow w' base xs ys:=h.mono fun _ _ _ _ h=>QaB h hl
theorem QcT {w w':World} {base k sz:Nat} {e:TypeId} {v:Value} {n:Nat} {vs:List Value} (h:w.ownsRow base e sz v n vs) (ho:Only k w w') (hne:∀b,v.ownBlock=some b→b≠k):w'.ownsRow base e sz v n vs:=by
 refine h.kept ho ?_
 cases hb:v.ownBlock with
 | none=>exact .inl rfl
 | some b=>exact .inr fun he=>hne b hb (by injection he)
def All2 {α β:Type} (R:α→β→Prop):List α→List β→Prop
 | [],[]=>True
 | x :: xs,y :: ys=>R x y∧All2 R xs ys
 | _,_=>False
section
variable {α β:Type} {R R':α→β→Prop}
theorem All2.len:∀ {xs:List α} {ys:List β},All2 R xs ys→xs.length=ys.length
 | [],[],_=>rfl
 | x :: xs,y :: ys,h=>by rw[QDq,QDq,All2.len h.2]
theorem All2.snoc {x:α} {y:β}:∀ {xs:List α} {ys:List β},All2 R xs ys→R x y→All2 R (xs++[x]) (ys++[y])
 | [],[],_,h=>⟨h,trivial⟩
 | _ :: _,_ :: _,h,h'=>⟨h.1,All2.snoc h.2 h'⟩
theorem All2.mono (hR:∀x y,R x y→R' x y):∀ {xs:List α} {ys:List β},All2 R xs ys→All2 R' xs ys
 | [],[],_=>trivial
 | _ :: _,_ :: _,h=>⟨hR _ _ h.1,All2.mono hR h.2⟩
theorem All2.at_ (d:α) (e:β):∀ {xs:List α} {ys:List β} (i:Nat),All2 R xs ys→i<ys.length→R (xs.getD i d) (ys.getD i e)
 | [],[],i,_,h=>absurd h (by simp)
 | _ :: _,_ :: _,0,h,_=>h.1
 | _ :: _,_ :: _,i+1,h,hi=>by
   have:=All2.at_ d e i h.2 (by simpa using hi)
   simpa using this
end
structure RefV where
 c:Cmd
 Q:Option Addr
 nq:Nat
 cq:Nat
 A:Option Addr
 n:Nat
 cp:Nat
theorem QoQ {hs:List Hp} {p:Hp→Bool} {k:Nat} (hk:k<hs.length) (h:p (hs.getD k hp0)=true):hs.any p=true:=by
 rw[List.any_eq_true]
 refine⟨_,QDS hk,?_⟩
 rw[QCK,QCH hk]at h
 exact h
theorem Qth {hs:List Hp} {p:Hp→Bool} (h:∀k,k<hs.length→p (hs.getD k hp0)=false):hs.any p=false:=by
 rw[List.any_eq_false]
 intro x hx
 obtain⟨k,hk,rfl⟩:=QEO hx
 have:=h k hk
 rw[QCK,QCH hk]at this
 simpa using this
theorem QjT (hs:List Hp) (k:Nat):(hs.drop 1).getD k hp0=hs.getD (k+1) hp0:=by
 rw[QCK,QDN,QEF 1 k,QCK]
theorem Qrv {hs:List Hp} {p:Hp→Bool} {k:Nat} (hk:k+1<hs.length) (h:p (hs.getD (k+1) hp0)=true):(hs.drop 1).any p=true:=
 QoQ (k:=k) (by rw[QC7];omega) (by rw[QjT];exact h)
theorem QtB {hs:List Hp} {p:Hp→Bool} (h:∀k,k+1<hs.length→p (hs.getD (k+1) hp0)=false):(hs.drop 1).any p=false:=
 Qth (fun k hk=>by rw[QC7]at hk;rw[QjT];exact h k (by omega))
def lcK (kd:UInt8):Cmd:=⟨kd,0,0,0,QbE⟩
theorem QuM (kd:UInt8) (hk:kd=2∨kd=3) (hs:List Hp):QeL (lcK kd) hs=if hs.any badH=true then 1 else if hs.length<1∨5<hs.length then 2 else if (hs.drop 1).any (fun h=>h.nod.id==0)=true then 3 else 0:=by
 have h1: ¬QtI (lcK kd)=true:=by rcases hk with rfl|rfl<;>decide
 have h2: ¬Qdn (lcK kd)=false:=by rcases hk with rfl|rfl<;>decide
 rw[QeL,if_neg h1,if_neg h2]
def QeY (kd:UInt8) (hs:List Hp) (k:Nat):List Cmd:=(QDt k).map (QbS (lcK kd) hs)
theorem Qdk (kd:UInt8) (hs:List Hp) (k:Nat):(QeY kd hs k).length=k:=by simp[QeY]
def Ql7 (kd:UInt8) (hs:List Hp):List Cmd:=if QeL (lcK kd) hs=0 then QeY kd hs hs.length else []
theorem Qzv:(Tryz.prog.info? 64).map (fun i=>(i.zero,i.size,i.bytes))=some (some (.agg (CC cmd0).toArray),20,32):=by kernel_rfl
theorem Qrh:(Tryz.prog.info? 31).map (·.size)=some 16:=by kernel_rfl
theorem Qt2 (c:Cmd):Qao (CC c) 4 (QbE.val.map W8)=CC { c with ma:=QbE }:=by
 have h:=c.ma.2
 rw[CC,Qao,QCG,QbE.2,QDP (by simp[h])]
 simp[CC]
theorem Qpm (kd:UInt8) (hs:List Hp) (k:Nat) (h:k+1=hs.length):QbS (lcK kd) hs k=⟨kd,QDh (hs.getD k hp0).flags,QEk (hs.getD k hp0).delay,0,QbE⟩:=by
 rw[QbS,if_neg (by omega)]
 rfl
theorem Qsy (kd:UInt8) (hs:List Hp) (k:Nat) (h:k+1<hs.length):QbS (lcK kd) hs k=⟨1,QDh (hs.getD k hp0).flags,QEk (hs.getD k hp0).delay,(hs.getD (k+1) hp0).nod.id,QbE⟩:=by
 rw[QbS,if_pos h]
theorem QAf (x:Hp):(HC x)[1]?=some (W64 x.nod.id):=Qin x rfl
theorem Qt5 {w:World} {base g sz N:Nat} {e:TypeId} {l:List Value} (h:Blk w g e l) (hb:base≤g) (hl:l.length=N*sz) (hm:N≤maxLen):w.ownsRow base e sz (.slice (some ⟨g,0,none⟩) N N) N l:=
 ⟨hl,.inr ⟨g,N,l.toArray,rfl,hb,h,QCN _,hm,by simp[hl],by simp[←hl]⟩⟩
theorem Qu0 {w:World} {base sz n c:Nat} {e:TypeId} {A:Option Addr} {vs:List Value} (h:w.ownsRow base e sz (.slice A n c) n vs) (hn:0<n):
 ∃g rest,A=some ⟨g,0,none⟩∧base≤g∧Blk w g e (vs++rest)∧n≤c∧c≤maxLen∧(vs++rest).length=c*sz:=by
 rcases h.2 with ⟨hv,h0⟩|⟨g,cap,cur,hv,hb,hh,hnc,hm,hs,ht⟩
 ·omega
 ·cases hv
  have e:vs++cur.toList.drop (n*sz)=cur.toList:=by rw[←ht,QC9]
  refine⟨g,cur.toList.drop (n*sz),rfl,hb,?_,hnc,hm,?_⟩
  ·rw[e]
   exact hh
  ·rw[e,Array.length_toList,hs]
theorem Qrp {w:World} {base g sz n c:Nat} {e:TypeId} {vs rest:List Value} (h:Blk w g e (vs++rest)) (hb:base≤g) (hl:vs.length=n*sz) (hc:(vs++rest).length=c*sz) (hn:n≤c) (hm:c≤maxLen):w.ownsRow base e sz (.slice (some ⟨g,0,none⟩) n c) n vs:=
 ⟨hl,.inr ⟨g,c,(vs++rest).toArray,rfl,hb,h,hn,hm,by simp only[List.size_toArray];exact hc,by show (vs++rest).take _=vs;rw[←hl,List.take_left]⟩⟩
theorem Qmd (l r vs:List Value) (o:Nat) (h:o+vs.length≤l.length):Qao (l++r) o vs=Qao l o vs++r:=by
 rw[Qao,Qao,QDn (by omega),QDJ (by omega),QCU,QCU,QCU]
section
variable {P:Program} {ops:Array Oper} {rest:List Oper} {o:Oper} {a:Act} {w:World} {Q:Exit→Act→World→Prop} {α:Type} {F:α→List Value} {sz:Nat}
theorem Qey (hF:∀x,(F x).length=sz) (hF1:∀x,∀u∈F x,u.oneCell'=true) (d:α) (hgd:o.guard=none) (hd:o.dst=none) (ty:TypeId) (x y:Operand) (ho:o.op= .store ty x y) {base g n c:Nat} {e:TypeId} {xs:List α}
 (hown:w.ownsRow base e sz (.slice (some ⟨g,0,none⟩) n c) n (xs.flatMap F)) (hn:xs.length=n) (j:Nat) (hj:j<n) (v:α) (hx:a.eval x= .pointer (some ⟨g,j*sz,none⟩)) (hy:a.eval y= .agg (F v).toArray) (hi:(P.info? ty).map (·.size)=some sz)
 (h:∀w',w'.ownsRow base e sz (.slice (some ⟨g,0,none⟩) n c) n ((xs.set j v).flatMap F)→Only g w w'→wpList P ops Q rest a w'):wpList P ops Q (o :: rest) a w:=by
 obtain⟨g',r,hg,hb,hB,hnc,hm,hl⟩:=Qu0 hown (by omega)
 obtain rfl:g=g':=by simpa using hg
 have hfl:=Qb0 hF xs
 rw[hn]at hfl
 have hjn:j*sz+sz≤n*sz:=by
  rw[←Nat.succ_mul]
  exact Nat.mul_le_mul_right _ hj
 refine Qak hgd hd ty x y ho g (j*sz) e _ (F v) hB hx hy (by rw[hF];exact hi) (by rw[QCM,hF];omega) (hF1 v) ?_
 intro w' hb' ho'
 have e1:Qao (xs.flatMap F) (j*sz) (F v)=(xs.set j v).flatMap F:=by
  have:=Qmm hF d (off:=0) (vs:=F v) (y:=v) xs j (by omega) (by rw[hF];omega) (by rw[Qas _ _ (by rw[hF,hF])])
  rwa [QEm]at this
 have e2:((xs.set j v).flatMap F).length=n*sz:=by rw[Qb0 hF,QDl,hn]
 rw[Qmd _ _ _ _ (by rw[hF];omega),e1]at hb'
 exact h w' (Qrp hb' hb e2 (by rw[QCM]at hl ⊢;omega) hnc hm) ho'
end
def Qil (kd:UInt8) (hs:List Hp) (j:Nat):List Cmd:=QeY kd hs j++QCC (hs.length-j) cmd0
theorem QpN (kd:UInt8) (hs:List Hp):Qil kd hs 0=QCC hs.length cmd0:=by
 rw[Qil,Nat.sub_zero]
 rfl
theorem Qtt (kd:UInt8) (hs:List Hp):Qil kd hs hs.length=QeY kd hs hs.length:=by rw[Qil,QD0,List.replicate_zero,QDg]
theorem Qk4 (kd:UInt8) (hs:List Hp) (j:Nat) (h:j≤hs.length):(Qil kd hs j).length=hs.length:=by
 rw[Qil,QCM,Qdk,QCO]
 omega
theorem Qo6 (kd:UInt8) (hs:List Hp) (j:Nat) (h:j<hs.length):(Qil kd hs j).set j (QbS (lcK kd) hs j)=Qil kd hs (j+1):=by
 have hc:QeY kd hs (j+1)=QeY kd hs j++[QbS (lcK kd) hs j]:=by rw[QeY,QEN,QDo];rfl
 rw[Qil,Qil,hc,QDe _ _ (by rw[Qdk];omega),Qdk,QD0,show hs.length-j=hs.length-(j+1)+1 by omega,QD6,QCP,QCU]
 rfl
theorem Qpg (k:UInt8):Tryz.prog.built 64 [(0,W8 k)]=some (CC ⟨k,0,0,0,QbE⟩).toArray:=by kernel_rfl
theorem Qry (kd:UInt8) (h:kd=2∨kd=3):Qdn (lcK kd)=true:=by rcases h with rfl|rfl<;>decide
set_option maxRecDepth 100000 in
set_option maxHeartbeats 4000000 in
theorem QpF (kd:UInt8) (hkd:kd=2∨kd=3) (A:Option Addr) (n cc:Nat) (hs:List Hp) (w:World) (hh:RdH w A n hs) (hn:n≤1048576):
 Calls Tryz.prog 112 #[.agg (CC (lcK kd)).toArray,.slice A n cc] w fun e w'=>e= .returned (.int .i64 (QeL (lcK kd) hs:Nat))∧Later w w':=by
 have hl:=hh.1
 have hE:=hid (QuM kd hkd hs)
 have k2: ¬kd<2:=by rcases hkd with rfl|rfl<;>decide
 have k4: ¬ 4<kd:=by rcases hkd with rfl|rfl<;>decide
 have hSh:=hid (fun w=>QjA (lcK kd) w)
 rw[Qry kd hkd]at hSh
 clear hkd
 have B0:=Qba w 64 (CC (lcK kd))
 rw[hl]at hE
 generalize QeL (lcK kd) hs=E at *
 obtain⟨c0,c1,c2,c3,c4⟩:=Qen (B0.nth 0 rfl)
 change _=some (W8 kd)at c0
 go_enter Tryz.func112,Tryz.ntmps112
 go_wp2_with fail
 generalize hW:w.alloc _=w1
 replace B0:Bag w w1 [(w.heap.size,64,CC (lcK kd))]:=by rw[←hW];exact B0
 clear hW c0 c1 c2 c3 c4
 go_loopw [18] (fun i wr=>∃k:Nat,k≤n∧i= .int .i64 k∧Hid (∀ j,j<k→badH (hs.getD j hp0)=false)∧Later w1 wr) (fun i _=>n-(intOf i).toNat)
 case atStart=>exact⟨0,by omega,rfl,hid (fun j hj=>absurd hj (by omega)),Later.refl _⟩
 case round=>
  obtain⟨k,hk,rfl,hz,L⟩:=hrel
  by_cases hlt:k<n
  ·obtain⟨b,o,rfl,hbb,hc⟩:=(hh.later (B0.lat.trans L)).at_ hlt
   have c66:wr.cell? ⟨b,o+k*68+66,none⟩=some (.int .i64 (hs.getD k hp0).delay):=hc 66 _ (Qgj _)
   have c67:wr.cell? ⟨b,o+k*68+67,none⟩=some (.int .i64 (hs.getD k hp0).flags):=hc 67 _ (QgG _)
   have hno:=hid (fun h=>QoQ (hs:=hs) (p:=badH) (k:=k) (by omega) h)
   have hgo:=hid (fun h:badH (hs.getD k hp0)=false=>Qjd (p:=fun j=>badH (hs.getD j hp0)=false) hz.out h)
   have hbd:Hid (badH (hs.getD k hp0)=(decide ((hs.getD k hp0).delay<0)||decide (1000000<(hs.getD k hp0).delay)||decide ((hs.getD k hp0).flags<0)||decide (255<(hs.getD k hp0).flags))):=hid rfl
   clear hc
   generalize badH (hs.getD k hp0)=bb at *
   generalize (hs.getD k hp0).delay=dl at *
   generalize (hs.getD k hp0).flags=fl at *
   have hbad:=hid (fun h:bb=true=>show E=1 from hE.out.trans (if_pos (hno.out h)))
   clear hno
   by_cases a1:dl<0
   ·have hX:=hid (hbad.out (by rw[hbd.out];simp[a1]))
    go_wp2_with fail
    go_ret
    exact⟨by rw[hX.out];rfl,B0.lat.trans L⟩
   by_cases a2:1000000<dl
   ·have hX:=hid (hbad.out (by rw[hbd.out];simp[a2]))
    go_wp2_with fail
    go_ret
    exact⟨by rw[hX.out];rfl,B0.lat.trans L⟩
   by_cases a3:fl<0
   ·have hX:=hid (hbad.out (by rw[hbd.out];simp[a3]))
    go_wp2_with fail
    go_ret
    exact⟨by rw[hX.out];rfl,B0.lat.trans L⟩
   by_cases a4:255<fl
   ·have hX:=hid (hbad.out (by rw[hbd.out];simp[a4]))
    go_wp2_with fail
    go_ret
    exact⟨by rw[hX.out];rfl,B0.lat.trans L⟩
   have hG:=hid (hgo.out (by rw[hbd.out];simp[a1,a2,a3,a4]))
   clear hgo hbd hbad
   go_wp2_with fail
   exact⟨⟨k+1,by omega,by go_num,hG,L⟩,by simp[intOf];omega⟩
  ·obtain rfl:k=n:=by omega
   replace hE:=hid (hE.out.trans (if_neg (by rw[Qth (by rw[hl];exact hz.out)];decide)))
   by_cases h5:k<1∨5<k
   ·have e:=hid (hE.out.trans (if_pos h5))
    by_cases h1:k<1
    ·have f1:decide ((k:Int)<1)=true:=decide_eq_true (by omega)
     clear h1 h5
     go_wp2_with fail
     go_ret
     exact⟨by rw[e.out];rfl,B0.lat.trans L⟩
    ·have f1:decide ((k:Int)<1)=false:=decide_eq_false (by omega)
     have f2:decide ((5:Int)<(k:Int))=true:=decide_eq_true (by omega)
     clear h5
     go_wp2_with fail
     go_ret
     exact⟨by rw[e.out];rfl,B0.lat.trans L⟩
   ·have f1:decide ((k:Int)<1)=false:=decide_eq_false (by omega)
    have f2:decide ((5:Int)<(k:Int))=false:=decide_eq_false (by omega)
    replace hE:=hid (hE.out.trans (if_neg h5))
    have B1:=B0.later L
    go_wp2_with (first
     | (refine go_l rfl ?_;refine QcL rfl _ rfl (B1.nth 0 rfl) rfl ?_)
     | fail)
    refine (hSh.out wr).mono ?_
    rintro e w4 ⟨rfl,j4⟩
    have B4:=B1.later j4
    go_wp2_with fail
    go_loopw [64] (fun i wq=>∃j:Nat,j≤k∧i= .int .i64 j∧Hid (∀ i,i+1<j→((hs.getD (i+1) hp0).nod.id==0)=false)∧Later w4 wq) (fun i _=>k-(intOf i).toNat)
    case atStart=>exact⟨0,by omega,rfl,hid (fun i h=>by omega),Later.refl _⟩
    case round=>
     obtain⟨j,hj,rfl,hg,L4⟩:=hrel
     by_cases hjk:j<k
     ·obtain⟨b,o,rfl,hbb,hc⟩:=(hh.later (B4.lat.trans L4)).at_ hjk
      have d1:wr.cell? ⟨b,o+j*68+1,none⟩=some (W64 (hs.getD j hp0).nod.id):=hc 1 _ (QAf _)
      clear hc
      by_cases h0:0<j
      ·obtain⟨i,rfl⟩:∃i,j=i+1:=⟨j-1,by omega⟩
       have hno:=hid (fun h=>Qrv (hs:=hs) (p:=fun h=>h.nod.id==0) (k:=i) (by omega) h)
       have hgo:Hid (((hs.getD (i+1) hp0).nod.id==0)=false→∀t,t+1<i+1+1→((hs.getD (t+1) hp0).nod.id==0)=false):=hid (fun h t h1=>by
        by_cases e:t=i
        ·rw[e];exact h
        ·exact hg.out t (by omega))
       generalize (hs.getD (i+1) hp0).nod.id=z at *
       have f0:decide ((0:Int)<(i:Int)+1)=true:=decide_eq_true (by omega)
       cases hzz:(z==0)
       ·have hG:=hid (hgo.out hzz)
        go_wp2_with fail
        exact⟨⟨i+1+1,by omega,by go_num,hG,L4⟩,by simp[intOf];omega⟩
       ·have e:=hid (hE.out.trans (if_pos (hno.out hzz)))
        go_wp2_with fail
        go_ret
        exact⟨by rw[e.out];rfl,B4.lat.trans L4⟩
      ·obtain rfl:j=0:=by omega
       go_wp2_with fail
       exact⟨⟨1,by omega,by go_num,hid (fun i h=>by omega),L4⟩,by simp[intOf];omega⟩
     ·obtain rfl:j=k:=by omega
      have e:=hid (hE.out.trans (if_neg (by rw[QtB (hs:=hs) (p:=fun h=>h.nod.id==0) (fun t ht=>hg.out t (by omega))];decide)))
      go_wp2_with fail
      go_ret
      exact⟨by rw[e.out];rfl,B4.lat.trans L4⟩
set_option maxRecDepth 100000 in
set_option maxHeartbeats 8000000 in
theorem Qs1 (kd:UInt8) (hkd:kd=2∨kd=3) (A:Option Addr) (n cc:Nat) (hs:List Hp) (w:World) (hh:RdH w A n hs) (hn:n≤1048576):
 Calls Tryz.prog 75 #[.agg (CC (lcK kd)).toArray,.slice A n cc] w fun e w'=>∃A' c',e= .returned (.tuple #[.slice A' (Ql7 kd hs).length c',.int .i64 (QeL (lcK kd) hs:Nat)])∧
  RdF CC 20 cmd0 w' A' (Ql7 kd hs).length (Ql7 kd hs)∧Later w w':=by
 have hl:=hh.1
 have hPe:=hid (fun w h=>QpF kd hkd A n cc hs w h hn)
 have hR:Hid (Ql7 kd hs=if QeL (lcK kd) hs=0 then QeY kd hs hs.length else []):=hid rfl
 have B0:=Qba w 64 (CC (lcK kd))
 have hst:=hid (Qo6 kd hs)
 have hp0':=hid (QpN kd hs)
 have hpa:=hid (Qtt kd hs)
 have hpl:=hid (Qk4 kd hs)
 have hml:=hid (Qpm kd hs)
 have hmm:=hid (Qsy kd hs)
 have hbk:=hid Qpg
 have hcl:=hid (Qdk kd hs hs.length)
 generalize QeL (lcK kd) hs=E at *
 generalize Ql7 kd hs=R at *
 generalize Qil kd hs=CP at *
 generalize QeY kd hs hs.length=CA at *
 generalize QbS (lcK kd) hs=PC0 at *
 clear hkd
 rw[hl]at hst hp0' hpa hpl hml hmm hcl
 go_enter Tryz.func75,Tryz.ntmps75
 go_wp2_with (first
  | (refine go_l rfl ?_;refine QcL rfl _ rfl (B0.nth 0 rfl) rfl ?_)
  | fail)
 refine (hPe.out _ (hh.later B0.lat)).mono ?_
 rintro e w1 ⟨rfl,j1⟩
 have B1:=B0.later j1
 by_cases hE:E=0
 case neg=>
  have fE:((E:Int) != 0)=true:=bne_iff_ne.2 (by omega)
  have hX:=hid (hR.out.trans (if_neg hE))
  go_wp2_with fail
  go_ret2
  exact⟨none,0,by rw[hX.out];rfl,by rw[hX.out];exact Qoz _,B1.lat⟩
 subst hE
 have hX:=hid (hR.out.trans (if_pos (by trivial)))
 clear hR B0 hPe
 go_wp2_with (first
  | (refine QkR Qan (by omega) cmd0 rfl _ _ _ rfl 64 32 Tryz.underlying179 Qzv _ _ _ _ n rfl rfl rfl rfl (by omega) (by omega) ?_;intro w2 hb2 hl2)
  | fail)
 have own2:w2.ownsRow w1.heap.size 64 20 (.slice (some ⟨w1.heap.size,0,none⟩) n n) n ((CP 0).flatMap CC):=by
  rw[hp0'.out]
  exact Qt5 hb2 (QCN _) (by rw[Qb0 Qan,QCO]) (by unfold maxLen;omega)
 clear hb2
 generalize hg1:w1.heap.size=g1 at own2 ⊢
 go_loopw [21] (fun i wr=>∃j:Nat,j≤n∧i= .int .i64 j∧wr.ownsRow g1 64 20 (.slice (some ⟨g1,0,none⟩) n n) n ((CP j).flatMap CC)∧Later w1 wr) (fun i _=>n-(intOf i).toNat)
 case atStart=>exact⟨0,by omega,rfl,own2,hl2⟩
 case round=>
  clear own2
  obtain⟨j,hj,rfl,own,L⟩:=hrel
  have B:=B1.later L
  by_cases hjn:j<n
  ·obtain⟨b,o,rfl,hbb,hc⟩:=(hh.later B.lat).at_ hjn
   have hCl:=hpl.out j (by omega)
   have hsj:=hid (hst.out j hjn)
   have c66:wr.cell? ⟨b,o+j*68+66,none⟩=some (.int .i64 (hs.getD j hp0).delay):=hc 66 _ (Qgj _)
   have c67:wr.cell? ⟨b,o+j*68+67,none⟩=some (.int .i64 (hs.getD j hp0).flags):=hc 67 _ (QgG _)
   clear hc
   replace c66:=hid c66
   replace c67:=hid c67
   have tr:Hid (∀ (w':World),Later wr w'→w'.cell? ⟨b,o+j*68+66,none⟩=some (.int .i64 (hs.getD j hp0).delay)∧w'.cell? ⟨b,o+j*68+67,none⟩=some (.int .i64 (hs.getD j hp0).flags)∧b<w'.heap.size):=hid (fun w' l=>⟨(l.below.cell (p:=⟨b,o+j*68+66,none⟩) hbb).trans c66.out,(l.below.cell (p:=⟨b,o+j*68+67,none⟩) hbb).trans c67.out,QC3 hbb l.size⟩)
   have hne:∀x,(Value.slice (some ⟨g1,0,none⟩) n n).ownBlock=some x→x≠wr.heap.size:=fun x hx=>by have:=(World.ownsRow.lt own x hx).2;omega
   by_cases hlast:j+1<n
   ·have f1:decide ((j:Int)+1<(n:Int))=true:=decide_eq_true (by omega)
    obtain⟨b2,o2,hbo,hbb2,hc2⟩:=(hh.later B.lat).at_ hlast
    obtain⟨rfl,rfl⟩:b=b2∧o=o2:=by simpa using hbo
    have d1:wr.cell? ⟨b,o+(j+1)*68+1,none⟩=some (W64 (hs.getD (j+1) hp0).nod.id):=hc2 1 _ (QAf _)
    have hpc:=hid (hmm.out j (by omega))
    have e2:((j:Int)+1).toNat=j+1:=by omega
    clear hc2 hbo hml hmm
    generalize (hs.getD (j+1) hp0).nod.id=nx at *
    generalize (hs.getD j hp0).delay=dl at *
    generalize (hs.getD j hp0).flags=fl at *
    replace d1:=hid d1
    go_wp2_with (first
     | (refine go_b rfl ?_;refine Qah ?hw 64 _ rfl (CC ⟨1,0,0,0,QbE⟩) (by simp only[QCS,QDa,QC2];exact hbk.out 1) ?_;(case hw=>rfl))
     | (refine Qbg rfl ?_;refine Qb8 rfl rfl _ _ rfl (Blk.new wr _ cz0) rfl rfl rfl ?_;intro w3 hb3 ho3
        have l3:Later wr w3:=(Qaa wr _).only ho3 (QCN _)
        have own3:=QcT (QfA own (Qaa wr (.cells cz0.toArray 64))) ho3 hne
        have d3:=(l3.below.cell (p:=⟨b,o+(j+1)*68+1,none⟩) hbb).trans d1.out
        have hbl:=QC3 hbb l3.size)
     | (refine Qbg rfl ?_;refine Qad rfl rfl _ _ _ rfl wr.heap.size 3 _ _ hb3 rfl (by rw[Qan];omega) rfl (by kernel_rfl) ?_;intro v4 w4 hv4 hb4 ho4;simp[go_sem]at hv4;subst hv4
        have l4:=l3.only ho4 (QCN _)
        have own4:=QcT own3 ho4 hne
        obtain⟨f66,f67,hbl4⟩:=tr.out w4 l4)
     | (refine Qbg rfl ?_;refine Qad rfl rfl _ _ _ rfl wr.heap.size 2 _ _ hb4 rfl (by rw[QDl,Qan];omega) rfl (by kernel_rfl) ?_;intro v5 w5 hv5 hb5 ho5;simp[go_sem]at hv5;subst hv5
        have l5:=l4.only ho5 (QCN _)
        have own5:=QcT own4 ho5 hne
        obtain⟨f66',f67',hbl5⟩:=tr.out w5 l5)
     | (refine Qbg rfl ?_;refine Qad rfl rfl _ _ _ rfl wr.heap.size 1 _ _ hb5 rfl (by rw[QDl,QDl,Qan];omega) rfl (by kernel_rfl) ?_;intro v6 w6 hv6 hb6 ho6;simp[go_sem]at hv6;subst hv6
        have l6:=l5.only ho6 (QCN _)
        have own6:=QcT own5 ho6 hne
        replace hb6:Blk w6 wr.heap.size 64 (CC ⟨1,QDh fl,QEk dl,nx,QbE⟩):=hb6)
     | (refine go_l rfl ?_;refine QcL rfl _ rfl hb6 rfl ?_)
     | (refine Qbg rfl ?_;refine Qey Qan QoS cmd0 rfl rfl _ _ _ rfl own6 hCl j hjn ⟨1,QDh fl,QEk dl,nx,QbE⟩ rfl rfl Qep ?_;intro w7 own7 ho7)
     | fail)
    rw[←hpc.out,hsj.out]at own7
    exact⟨⟨j+1,by omega,by go_num,own7,(L.trans l6).only ho7 (Nat.le_of_eq hg1)⟩,by simp[intOf];omega⟩
   ·have f1:decide ((j:Int)+1<(n:Int))=false:=decide_eq_false (by omega)
    have hpc:=hid (hml.out j (by omega))
    clear hml hmm
    generalize (hs.getD j hp0).delay=dl at *
    generalize (hs.getD j hp0).flags=fl at *
    have tb:Hid (∀ (w':World),Later wr w'→w'.cell? ⟨w.heap.size,0,none⟩=some (W8 kd)∧(∀ q v,(QbE.val.map W8)[q]?=some v→w'.cell? ⟨w.heap.size,4+q,none⟩=some v)∧w.heap.size<w'.heap.size):=hid (fun w' l=>by
     have h:=(B.later l).nth 0 rfl
     obtain⟨c0,_,_,_,c4⟩:=Qen h
     exact⟨c0,c4,h.lt⟩)
    go_wp2_with (first
     | (refine go_b rfl ?_;refine Qah ?hw 64 _ rfl (CC ⟨1,0,0,0,QbE⟩) (by simp only[QCS,QDa,QC2];exact hbk.out 1) ?_;(case hw=>rfl))
     | (refine Qbg rfl ?_;refine Qb8 rfl rfl _ _ rfl (Blk.new wr _ cz0) rfl rfl rfl ?_;intro w3 hb3 ho3
        have l3:Later wr w3:=(Qaa wr _).only ho3 (QCN _)
        have own3:=QcT (QfA own (Qaa wr (.cells cz0.toArray 64))) ho3 hne
        obtain⟨c0,c4,hlw⟩:=tb.out w3 l3)
     | (refine Qbg rfl ?_;refine Qad rfl rfl _ _ _ rfl wr.heap.size 0 _ _ hb3 rfl (by rw[Qan];omega) rfl (by kernel_rfl) ?_;intro v4 w4 hv4 hb4 ho4;simp[go_sem]at hv4;subst hv4
        have l4:=l3.only ho4 (QCN _)
        have own4:=QcT own3 ho4 hne
        replace hb4:Blk w4 wr.heap.size 64 (CC ⟨kd,0,0,0,QbE⟩):=hb4
        obtain⟨c0',c4',hlw'⟩:=tb.out w4 l4)
     | (refine go_l rfl ?_;refine Qay rfl 31 _ rfl w.heap.size 4 (QbE.val.map W8) c4' rfl _ Tryz.underlying31 rfl Qrh ?_)
     | (refine Qbg rfl ?_;refine Qak rfl rfl _ _ _ rfl wr.heap.size 4 _ _ (QbE.val.map W8) hb4 rfl rfl Qrh (by rw[Qan,QCG,QbE.2];omega) (QaW _) ?_;intro w8 hb8 ho8
        rw[Qt2]at hb8
        have l8:=l4.only ho8 (QCN _)
        have own8:=QcT own4 ho8 hne
        obtain⟨f66,f67,hbl4⟩:=tr.out w8 l8)
     | (refine Qbg rfl ?_;refine Qad rfl rfl _ _ _ rfl wr.heap.size 2 _ _ hb8 rfl (by rw[Qan];omega) rfl (by kernel_rfl) ?_;intro v5 w5 hv5 hb5 ho5;simp[go_sem]at hv5;subst hv5
        have l5:=l8.only ho5 (QCN _)
        have own5:=QcT own8 ho5 hne
        obtain⟨f66',f67',hbl5⟩:=tr.out w5 l5)
     | (refine Qbg rfl ?_;refine Qad rfl rfl _ _ _ rfl wr.heap.size 1 _ _ hb5 rfl (by rw[QDl,Qan];omega) rfl (by kernel_rfl) ?_;intro v6 w6 hv6 hb6 ho6;simp[go_sem]at hv6;subst hv6
        have l6:=l5.only ho6 (QCN _)
        have own6:=QcT own5 ho6 hne
        replace hb6:Blk w6 wr.heap.size 64 (CC ⟨kd,QDh fl,QEk dl,0,QbE⟩):=hb6)
     | (refine go_l rfl ?_;refine QcL rfl _ rfl hb6 rfl ?_)
     | (refine Qbg rfl ?_;refine Qey Qan QoS cmd0 rfl rfl _ _ _ rfl own6 hCl j hjn ⟨kd,QDh fl,QEk dl,0,QbE⟩ rfl rfl Qep ?_;intro w7 own7 ho7)
     | fail)
    rw[←hpc.out,hsj.out]at own7
    exact⟨⟨j+1,by omega,by go_num,own7,(L.trans l6).only ho7 (Nat.le_of_eq hg1)⟩,by simp[intOf];omega⟩
  ·obtain rfl:j=n:=by omega
   rw[hpa.out]at own
   go_wp2_with fail
   go_ret2
   exact⟨some ⟨g1,0,none⟩,j,by rw[hX.out,hcl.out];rfl,by rw[hX.out,hcl.out];exact QnV (d:=cmd0) Qan own hcl.out,B.lat⟩
end Go.Proofs.YtdhgpkdjdmlphaaGreat
namespace Go.Proofs.YtdhgpkdjdmlphaaGreat
open Go.RowKit
end Go.Proofs.YtdhgpkdjdmlphaaGreat
namespace Go.Proofs.YtdhgpkdjdmlphaaGreat
open Go.RowKit
open Go.BigFrame
theorem Bag.perm {w wk:World} {ls ls':List (Nat×TypeId×List Value)} (h:Bag w wk ls) (p:ls.Perm ls'):Bag w wk ls':=
 ⟨h.lat,fun q hq=>h.blk q (p.mem_iff.2 hq),fun q hq=>h.low q (p.mem_iff.2 hq),(p.map _).nodup_iff.1 h.nd⟩
theorem Bag.cast {w wk:World} {ls ls':List (Nat×TypeId×List Value)} (h:Bag w wk ls) (e:ls=ls'):Bag w wk ls':=e ▸ h
def sl32 (b:Nat):Value:=.slice (some ⟨b,0,none⟩) 32 32
def payB (b:Nat) (p:List UInt8):Nat×TypeId×List Value:=(b,5,p.map W8)
def Qd4 (xs:List (List UInt8)):List (List UInt8):=xs.map fun x=>subB x 64 32
theorem QcS (xs:List (List UInt8)):(Qd4 xs).length=xs.length:=by simp[Qd4]
theorem Qib (xs:List (List UInt8)) (k:Nat) (h:k<xs.length):(Qd4 xs).getD k []=subB (xs.getD k []) 64 32:=by
 rw[Qd4,QCK,QCY,QCK,QCH h]
 rfl
theorem Qtx (gs:List Nat) (xs:List (List UInt8)) (k b:Nat) (hg:gs.length=k) (h:k<xs.length):
 List.zipWith payB (gs++[b]) ((Qd4 xs).take (k+1))=List.zipWith payB gs ((Qd4 xs).take k)++[payB b (subB (xs.getD k []) 64 32)]:=by
 rw[Qej _ k (by rw[QcS];exact h),Qib xs k h,List.zipWith_append (by rw[hg,QC5,QcS];omega)]
 rfl
theorem Qvc (gs:List Nat) (n k b:Nat) (hg:gs.length=k) (h:k<n):
 (gs.map sl32++QCC (n-k) (Value.slice none 0 0)).set k (sl32 b)=(gs++[b]).map sl32++QCC (n-(k+1)) (Value.slice none 0 0):=by
 rw[QDe _ _ (by rw[QCG];omega),QCG,hg,QD0,show n-k=(n-(k+1))+1 by omega,QD6,QCP,QDo,QCU]
 rfl
theorem RdK.rdB {sz:Nat} {w:World} {A:Option Addr} {n:Nat} {xs:List (List UInt8)} (h:RdK sz w A n xs) {k off m:Nat} (hk:k<n) {r:List UInt8} (hr:subB (xs.getD k []) off m=r) (hm:r.length=m):
 ∃b o,A=some ⟨b,o,none⟩∧b<w.heap.size∧RdB w (some ⟨b,o+k*sz+off,none⟩) m r:=by
 obtain⟨b,o,hA,hb,hc⟩:=h.sub hk
 exact⟨b,o,hA,hb,by rw[QCG,hm],fun _=>⟨b,o+k*sz+off,rfl,hb,fun j v hv=>hc w (Later.refl w) off m r hr j v hv⟩⟩
theorem Qzc:(Tryz.prog.info? 22).map (fun i=>(i.zero,i.size,i.bytes))=some (some (.slice none 0 0),1,24):=Qq7
set_option maxRecDepth 100000 in
set_option maxHeartbeats 4000000 in
theorem QtL (A:Option Addr) (n c:Nat) (xs:List (List UInt8)) (w:World) (hr:RdK 192 w A n xs) (hxl:∀x∈xs,x.length=192) (hn:n≤1048576):
 Calls Tryz.prog 19 #[.slice A n c] w fun e w'=>∃gs:List Nat,e= .returned (.slice (some ⟨w.heap.size,0,none⟩) n n)∧gs.length=n∧
  Bag w w' ((w.heap.size,22,gs.map sl32) :: List.zipWith payB gs (Qd4 xs)):=by
 have hxn:=hr.1
 go_enter Tryz.func19,Tryz.ntmps19
 go_wp2_with (first
  | (refine Qax rfl _ _ 48 rfl 22 (.slice none 0 0) 24 Tryz.underlying48 Qzc rfl _ _ _ _ n rfl rfl rfl rfl (by omega) (by omega) ?_;intro w1 hb1 hl1)
  | fail)
 have B0:Bag w w1 [(w.heap.size,22,QCC n (Value.slice none 0 0))]:=(Bag.none w).add hl1 (by simp) (QCN _) hb1
 clear hb1 hl1
 generalize hg:w.heap.size=g at *
 go_loopw [10] (fun i wr=>∃(k:Nat) (gs:List Nat),k≤n∧i= .int .i64 k∧gs.length=k∧Bag w wr ((g,22,gs.map sl32++QCC (n-k) (Value.slice none 0 0)) :: List.zipWith payB gs ((Qd4 xs).take k))) (fun i _=>n-(intOf i).toNat)
 case atStart=>exact⟨0,[],by omega,rfl,rfl,B0⟩
 case round=>
  clear B0
  obtain⟨k,gs,hk,rfl,hgl,B1⟩:=hrel
  by_cases hlt:k<n
  ·have hTl:(xs.getD k []).length=192:=hxl _ (QdL xs k (by omega))
   obtain⟨b,o,rfl,hb,hrd⟩:=(hr.later B1.lat).rdB (k:=k) (off:=64) (m:=32) hlt rfl (Qam (by omega))
   have hps:=hid (fun b=>Qtx gs xs k b hgl (by omega))
   have hpl:(subB (xs.getD k []) 64 32).length=32:=Qam (by omega)
   have hll:(gs.map sl32++QCC (n-k) (Value.slice none 0 0)).length=n:=by rw[QCM,QCG,QCO];omega
   generalize hR:subB (xs.getD k []) 64 32=p at *
   have HR:=hid hR
   clear hR hrd
   generalize hL:gs.map sl32++QCC (n-k) (Value.slice none 0 0)=L0 at *
   have hput:putB (QCC 32 (0:UInt8)) 0 p=p:=Qku _ _ (by simp[hpl])
   have hz32:(QCC 32 (0:UInt8)).length=32:=by simp
   have hzm:(QCC 32 (Value.int .u8 0))=(QCC 32 (0:UInt8)).map W8:=by rw[QDi];rfl
   generalize QCC 32 (0:UInt8)=Z at *
   have HP:=hid hput
   have HZ:=hid hzm
   have hns:=hid (fun b=>show L0.set k (sl32 b)=(gs++[b]).map sl32++QCC (n-(k+1)) (Value.slice none 0 0) by rw[←hL,Qvc gs n k b hgl hlt])
   clear hput hzm hL
   go_wp2_with (first
    | (refine Qax rfl _ _ 22 rfl 5 (.int .u8 0) 1 Tryz.underlying22 QcR rfl _ _ _ _ 32 rfl rfl rfl rfl (by omega) (by omega) ?_;intro w2 hb2 hl2
       have B2:=(B1.later hl2).add (Later.refl w2) (k:=wr.heap.size) (by intro q hq;have:=(B1.blk q hq).lt;omega) B1.lat.size (hb2.cast HZ.out))
    | (refine Qad rfl rfl _ _ _ rfl g k 22 L0 (B2.nth 1 rfl) rfl (by omega) rfl (by kernel_rfl) ?_;intro v w3 hv hb3 ho3;simp[go_sem]at hv;subst hv
       have B3:=(B2.write 1 rfl ho3 hb3).drew)
    | fail)
   have d0:=(B3.nth 1 rfl).cellD k (u:=.slice (some ⟨wr.heap.size,0,none⟩) 32 32) (by rw[QEz (by omega)])
   obtain⟨b',o',e,_,hrd3⟩:=(hr.later B3.lat).rdB (k:=k) (off:=64) (m:=32) hlt (HR.out) hpl
   cases e
   go_wp2_with fail
   refine Qag [] [0,1,2,3,4,5,6,7,8,9] [10] (by as_aux_lemma=>kernel_rfl) (by as_aux_lemma=>kernel_rfl) (by intro _ _ d _ _ h;cases d<;>exact h) ?_
   simp only[Qai,pick,QCD,QCE,QCF,QCJ,QCI]
   repeat (go_big_quiet_step (fail))
   refine wpQuiet_nil ?_
   go_wp2_with (first
    | (refine QjI 0 32 rfl _ _ _ _ rfl 5 Tryz.underlying22 QbY (B3.nth 0 rfl) hrd3 rfl rfl (by omega) ?_;intro w4 hb4 ho4
       rw[HP.out]at hb4
       have B4:=B3.write 0 rfl ho4 hb4)
    | fail)
   have B5:=B4.perm ((List.Perm.swap _ _ _).trans (List.Perm.cons _ (List.perm_append_singleton _ _).symm))
   go_roundw
   case rel=>
    refine⟨k+1,gs++[wr.heap.size],by omega,by go_num,by simp[hgl],B5.cast ?_⟩
    rw[hps.out wr.heap.size,←hns.out wr.heap.size]
    rfl
   case measure=>simp[intOf];omega
  ·have hkn:k=n:=by omega
   subst hkn
   rw[QD0,List.replicate_zero,QDg,QCT (by rw[QcS];omega)]at B1
   go_wp2_with fail
   go_ret
   subst hg
   exact⟨gs,rfl,hgl,B1⟩
theorem Qqe {w w':World} {g n:Nat} {gs:List Nat} {ps:List (List UInt8)} (h:Bag w w' ((g,22,gs.map sl32) :: List.zipWith payB gs ps)) (hg:gs.length=n) (hp:ps.length=n) (h32:∀p∈ps,p.length=32):Parts w' (fun _=>False) (some ⟨g,0,none⟩) n ps:=by
 refine⟨gs.map sl32,(h.nth 0 rfl).rd (by rw[QCG,hg]),fun _ _ _ h=>h,by rw[QCG,hg,hp],fun j v p hv hpj=>?_⟩
 rw[QCY,QEb]at hv
 obtain⟨b,hb,rfl⟩:=hv
 have:=h.nth (j+1) (k:=b) (t:=5) (l:=p.map W8) (by rw[QCD,List.getElem?_zipWith,hb,hpj];rfl)
 exact QaX (Qb9 this (h32 p (List.mem_of_getElem? hpj))) (QCN _)
theorem QqH (g:Nat) (w:World):Calls Tryz.prog 145 #[.int .i64 0,.pointer (some ⟨g,0,none⟩)] w fun e w'=>e= .returned (.tuple #[])∧Later w w':=by
 go_enter Tryz.func145,Tryz.ntmps145
 go_wp2_with fail
 exact bodyPost_end (results_none rfl _ _ _) rfl ⟨rfl,Later.refl w⟩
set_option maxRecDepth 100000 in
set_option maxHeartbeats 4000000 in
theorem Qt1 (A:Option Addr) (n c:Nat) (cs:List Cmd) (w:World) (hcr:RdF CC 20 cmd0 w A n cs) (h1:1≤n) (h5:n≤5) (hok:∀i,i<n→cmdE (cs.getD i cmd0)=0∧((cs.getD i cmd0).kd=1↔i+1<n)):
 Calls Tryz.prog 113 #[.slice A n c,.int .i64 (n:Int)] w fun e w'=>e= .returned (.int .i64 0)∧Later w w':=by
 have hmf:∀(fn:Fn) (first cap:Array Value) (w:World),(Instr.makeFunc fn first cap).run Tryz.prog w= .ok (.func fn first cap) w:=fun _ _ _ _=>rfl
 have hok':=hid hok
 clear hok
 have k1:decide ((n:Int)<1)=false:=decide_eq_false (by omega)
 have k5:decide ((5:Int)<(n:Int))=false:=decide_eq_false (by omega)
 have hNt:=hid QqH
 go_enter Tryz.func113,Tryz.ntmps113
 go_wp2_with (first
  | (refine Qbg rfl ?_;refine Qad rfl rfl _ _ _ rfl w.heap.size 0 _ _ (Blk.new w _ [.int .i64 0]) rfl (by simp) rfl (by kernel_rfl) ?_;intro v1 w1 hv1 hb1 ho1;simp[go_sem]at hv1;subst hv1)
  | fail)
 have l1:Later w w1:=(Qaa w _).only ho1 (QCN _)
 go_loopw [13] (fun i wr=>∃k:Nat,k≤n∧i= .int .i64 k∧Later w1 wr) (fun i _=>n-(intOf i).toNat)
 case atStart=>exact⟨0,by omega,rfl,Later.refl _⟩
 case round=>
  obtain⟨k,hk,rfl,L⟩:=hrel
  by_cases hlt:k<n
  ·obtain⟨b,o,rfl,hb,hc⟩:=(hcr.later (l1.trans L)).at_ hlt
   obtain⟨hE0,hkd⟩:=hok'.out k hlt
   have hCk:=hid (fun w=>QgV (cs.getD k cmd0) w)
   rw[hE0]at hCk
   generalize cs.getD k cmd0=C at *
   obtain⟨lb,e1,e2⟩:∃lb:Bool,((k:Int)+1==(n:Int))=lb∧(C.kd==1)= !lb:=by
    by_cases hl:k+1=n
    ·exact⟨true,by simp;omega,by simp only[Bool.not_true,beq_eq_false_iff_ne];intro e;have:=hkd.1 e;omega⟩
    ·exact⟨false,by simp;omega,by simp only[Bool.not_false,beq_iff_eq];exact hkd.2 (by omega)⟩
   clear hkd hE0
   go_wp2_with (first
    | (refine go_l rfl ?_;refine Qay rfl 64 _ rfl b (o+k*20) (CC C) hc rfl _ Tryz.underlying64 rfl (by rw[Qan];exact Qep) ?_)
    | (refine Qbg rfl ?_;refine Qb8 rfl rfl _ _ rfl (Blk.new wr _ cz0) rfl rfl rfl ?_;intro w2 hb2 ho2
       have l2:Later wr w2:=(Qaa wr _).only ho2 (QCN _))
    | (refine go_l rfl ?_;refine QcL rfl _ rfl hb2 rfl ?_)
    | fail)
   refine (hCk.out w2).mono ?_
   rintro e w3 ⟨rfl,j3⟩
   go_wp2_with fail
   refine (hNt.out _ w3).mono ?_
   rintro e w4 ⟨rfl,j4⟩
   have c0:=(Qen (hb2.later (j3.trans j4))).1
   have hl4:=(hb2.later (j3.trans j4)).lt
   cases lb
   all_goals
    go_wp2_with fail
    exact⟨⟨k+1,by omega,by go_num,L.trans (l2.trans (j3.trans j4))⟩,by simp[intOf];omega⟩
  ·obtain rfl:k=n:=by omega
   have c0:=(hb1.later L).cellD 0 (u:=.int .i64 0) rfl
   have hlw:=(hb1.later L).lt
   go_wp2_with fail
   go_ret
   exact⟨rfl,l1.trans L⟩
theorem Qx7:Tryz.zeroCells53.toList.length=192:=by kernel_rfl
theorem Qoh:(Tryz.prog.info? 53).map (·.size)=some 192:=by kernel_rfl
set_option maxRecDepth 100000 in
set_option maxHeartbeats 4000000 in
theorem QmN (A:Option Addr) (m d:Nat) (xs:List (List UInt8)) (st:Nat→List UInt8) (hstx:∀i,i<m→xs.getD i []=st i) (w:World) (hr:RdK 192 w A m xs) (hxl:∀x∈xs,x.length=192) (h1:1≤m) (h5:m≤5) (hmd:m≤d):
 Calls Tryz.prog 114 #[.slice A m d] w fun e w'=>∃A' c',e= .returned (.tuple #[.slice A' (48*(m-1)) c',.int .i64 0])∧OwnB w' w.heap.size A' (48*(m-1)) c' (Qe7 st (m-1))∧Later w w':=by
 have hxn:=hr.1
 have hst:=hid (fun k (h:k<m)=>hxl _ (QdL xs k (by omega)))
 have hfs:Hid (∀ k,k<m→Qe7 st (k+1)=xorB (Qe7 st k++QCC 48 0) ((chaS (subB (xs.getD k []) 32 32) 288).drop (288-48*(k+1)))):=hid (fun k hk=>by rw[hstx k hk];rfl)
 have hf0:Hid (Qe7 st 0=[]):=hid rfl
 have hfl:=hid (fun k h=>Qdg st k h)
 have hchl:=hid (fun key=>QaA key 288)
 generalize Qe7 st=FA at *
 clear hstx
 obtain⟨b,o,rfl,hb,hc⟩:∃b o,A=some ⟨b,o,none⟩∧b<w.heap.size∧∀k,k<m→∀(w':World),Later w w'→∀j v,((xs.getD k []).map W8)[j]?=some v→w'.cell? ⟨b,o+k*192+j,none⟩=some v:=by
  obtain⟨b,o,hA,hb,_⟩:=hr.sub (k:=0) (by omega)
  refine⟨b,o,hA,hb,fun k hk w' l j v hv=>?_⟩
  obtain⟨b',o',hA',_,h⟩:=hr.sub (k:=k) hk
  rw[hA]at hA'
  cases hA'
  have:=h w' l 0 192 (xs.getD k []) (by rw[subB,QD8,QCT (by have:=hst.out k hk;omega)]) j v hv
  rwa [QEm]at this
 have k1:decide ((m:Int)<1)=false:=decide_eq_false (by omega)
 have k2:decide ((5:Int)<(m:Int))=false:=decide_eq_false (by omega)
 have hcut:∀W,(Instr.sliceAt 45 (.slice (some ⟨b,o,none⟩) m d) none (some (.int .i64 ((m:Int)-1))) none).run Tryz.prog W= .ok (.slice (some ⟨b,o,none⟩) (m-1) d) W:=fun W=>by
  simp[go_sem]
  omega
 replace hc:=hid hc
 clear hr
 go_enter Tryz.func114,Tryz.ntmps114
 go_wp2_with fail
 go_loopw [4,24] (fun v i wr=>∃(k:Nat) (A':Option Addr) (c':Nat),k≤m-1∧i= .int .i64 k∧v= .slice A' (48*k) c'∧OwnB wr w.heap.size A' (48*k) c' (FA k)∧Later w wr) (fun _ i _=>m-1-(intOf i).toNat)
 case atStart=>exact⟨0,none,0,by omega,rfl,rfl,by rw[hf0.out];exact Qcn _ _ _,Later.refl w⟩
 case round=>
  obtain⟨k,A1,c1,hk,rfl,rfl,hown,L⟩:=hrel
  by_cases hlt:k<m-1
  ·have hTl:=hst.out k (by omega)
   have hkl:(subB (xs.getD k []) 32 32).length=32:=Qam (by omega)
   have hck:=hc.out k (by omega) wr L
   have hs:=hid (hfs.out k (by omega))
   have hbw:=QC3 hb L.size
   have hcap1:=OwnB.cap hown
   have hFk:=hfl.out k (by omega)
   generalize hT:xs.getD k []=T at *
   clear hT
   have hS32:Hid (∀ {w':World} {g:Nat},Blk w' g 53 (T.map W8)→RdB w' (some ⟨g,32,none⟩) 32 (subB T 32 32)):=hid (fun h=>QbK h rfl hkl)
   generalize subB T 32 32=S at *
   generalize FA k=F at *
   go_wp2_with (first
    | (refine go_l rfl ?_;refine Qay rfl 53 _ rfl b (o+k*192) (T.map W8) hck rfl _ Tryz.underlying53 rfl (by rw[QCG,hTl];exact Qoh) ?_)
    | (refine Qbg rfl ?_;refine QgL 192 rfl rfl _ _ rfl (Blk.new wr _ Tryz.zeroCells53.toList) rfl rfl Qoh hTl Qx7 ?_;intro w2 hb2 ho2
       have l2:Later wr w2:=(Qaa wr _).only ho2 (QCN _))
    | fail)
   refine (QjN (some ⟨wr.heap.size,32,none⟩) 32 288 S w2 (hS32.out hb2) (by omega)).mono ?_
   rintro e w3 ⟨A3,c3,rfl,o3,j3⟩
   have hcap3:=OwnB.cap o3
   go_wp2_with (first
    | (refine Qax rfl _ _ _ rfl 5 _ 1 Tryz.underlying22 QcR rfl _ _ _ _ 48 rfl rfl rfl rfl (by omega) (by omega) ?_;intro w4 hb4 hl4)
    | fail)
   have hz48:QCC 48 (Value.int .u8 0)=(QCC 48 (0:UInt8)).map W8:=by rw[QDi];rfl
   rw[hz48]at hb4
   have J4:=(l2.trans j3).trans hl4
   have P4:=Qer (Blk.new w4 22 [.slice A1 (48*k) c1,.slice (some ⟨w3.heap.size,0,none⟩) 48 48]) (QaX (OwnB.rd (QaB hown (J4.trans (Qaa _ _)))) hcap1) (QaX (Qb9 (hb4.later (Qaa _ _)) (by rw[QCO])) (QCN _))
   have hflat:([F,QCC 48 (0:UInt8)]:List (List UInt8)).flatten=F++QCC 48 0:=by simp
   have hFl2:(F++QCC 48 (0:UInt8)).length=48*k+48:=by rw[QCM,QCO,hFk]
   have hJn:=QcW (some ⟨w4.heap.size,0,none⟩) 2 2 _ _ P4 (by omega) (by rw[hflat,hFl2];omega)
   rw[hflat,hFl2]at hJn
   refine hJn.mono ?_
   rintro e w5 ⟨A5,c5,rfl,o5,j5⟩
   have hcap5:=OwnB.cap o5
   clear hJn P4 hb4
   have hch:=hchl.out S
   obtain⟨DA,dc,hcut2,hbd,hdc⟩:∃(DA:Option Addr) (dc:Nat),(∀ W,(Instr.sliceAt 22 (.slice A3 288 c3) (some (.int .i64 ((288:Int)-(48*(k:Int)+48)))) none none).run Tryz.prog W= .ok (.slice DA (48*k+48) dc) W)∧RdB w5 DA (48*k+48) ((chaS S 288).drop (288-48*(k+1)))∧48*k+48≤dc:=by
    refine⟨cutA A3 (288-48*(k+1)) c3,c3-(288-48*(k+1)),fun W=>?_,?_,by omega⟩
    ·have:=Qig A3 288 c3 .i64 (288-48*(k+1)) (by omega) W
     rw[show (288:Int)-(48*(k:Int)+48)=((288-48*(k+1):Nat):Int) by omega,this,show 288-(288-48*(k+1))=48*k+48 by omega]
    ·have h:=RdB.cut ((OwnB.rd o3).later (hl4.trans ((Qaa _ _).trans j5))) (k:=288-48*(k+1)) (by omega) hcap3
     rwa [show 288-(288-48*(k+1))=48*k+48 by omega]at h
   have J5:=J4.trans ((Qaa _ _).trans j5)
   have P6:=Qer (Blk.new w5 22 [.slice A5 (48*k+48) c5,.slice DA (48*k+48) dc]) (QaX (OwnB.rd (QaB o5 (Qaa _ _))) hcap5) (QaX (RdB.later hbd (Qaa _ _)) hdc)
   have hX:=QlX (some ⟨w5.heap.size,0,none⟩) 2 (48*k+48) _ _ _ P6 hFl2 (by rw[QC7,hch];omega) (by omega)
   rw[←hs.out]at hX
   go_wp2_with fail
   refine hX.mono ?_
   rintro e w6 ⟨A6,c6,rfl,o6,j6⟩
   clear hX P6
   go_wp2_with fail
   exact⟨⟨k+1,A6,c6,by omega,by go_num,rfl,Qcu o6 (L.trans (J5.trans (Qaa _ _))).size,L.trans (J5.trans ((Qaa _ _).trans j6))⟩,by simp[intOf];omega⟩
  ·obtain rfl:k=m-1:=by omega
   go_wp2_with fail
   go_ret2
   exact⟨A1,c1,rfl,hown,L⟩
theorem PelOk.later {w w':World} {b:Nat} {x:PelV} {y:Pel} (h:PelOk w b x y) (l:Later w w'):PelOk w' b x y:=⟨h.1,h.2.1,h.2.2.1,QaB h.2.2.2 l⟩
end Go.Proofs.YtdhgpkdjdmlphaaGreat
