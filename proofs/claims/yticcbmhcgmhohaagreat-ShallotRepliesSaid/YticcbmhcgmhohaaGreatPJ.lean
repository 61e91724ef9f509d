/-
  Lemmas for the last text of this claim (part 10 of 20).
-/
import Derived.ArgAppend
import Derived.BigQuiet
import Derived.BigRegion
import Derived.ChangeOld
import Derived.Deep.RegionWith
import Derived.DeepKeys4
import Derived.JoinedCond
import Derived.LaidMore
import Derived.Laws.Append
import Derived.Laws.BytesArg
import Derived.Laws.CopyOwn
import Derived.Laws.Externs
import Derived.Laws.IdiomStrings
import Derived.Laws.Tables
import Derived.Lib.AppendStr
import Derived.Lib.AppendZerosOnto
import Derived.Lib.Mul64
import Derived.Lib.SlBytesConst
import Derived.LoopN
import Derived.Maps.OwnSet
import Derived.OpenShut
import Derived.OrdersHeld
import Derived.ProofKit
import Derived.Shelf.Spec.BitsCarry
import Derived.ShutString
import Derived.Test.YticcbmhcgmhohaaGreatProg
import Derived.Test.YticcbmhcgmhohaaGreatRows
import Derived.WalkKit
import Derived.WalkLawsBesides
import Derived.WalkSpells
import Derived.Test.YticcbmhcgmhohaaGreatPB
import Derived.Test.YticcbmhcgmhohaaGreatPC
import Derived.Test.YticcbmhcgmhohaaGreatPI
open List renaming replicate → QCC, getElem?_cons_succ → QCD, getElem?_cons_zero → QCE, length_map → QCF, nil_append → QCH, cons_append → QCI, getElem?_eq_getElem → QCJ, getD_eq_getElem?_getD → QCK, setIfInBounds_toArray → QCL, set_cons_zero → QCN, set_cons_succ → QCO, length_replicate → QCS, map_toArray → QCT, getElem?_map → QCY, map_nil → QC3, map_cons → QC9
open Nat renaming mod_eq_of_lt → QC1, zero_add → QC4, mod_lt → QC8, lt_trans → QDG
open Option renaming toList_some → QCG, bind_some → QD1
open UInt8 renaming toNat_inj → QDr
set_option linter.all false
namespace Go.Proofs.YticcbmhcgmhohaaGreat
open Go.RowKit
open Go.BigFrame
theorem Qc0 {ops:Array Oper} {o:Oper} {a:Act} (hw:Region.wanted o (yielded ops a.tmps)=true) (ho:o.op= .alloc 270):
 Makes Tryz.prog ops o (fun g=>.pointer (some ⟨g,0,none⟩)) (.cells (QCC 8 (.int .u32 0)).toArray 270) a:=
 ⟨hw,fun w=>by
   unfold execOp
   rw[ho]
   simp[go_sem]⟩
theorem Quk {o:Oper} {a:Act} {K:Act→Prop} (x:Operand) (ho:o.op= .load 270 x) {w0:World} {g:Nat} {t:TypeId} {n:Nat} (hb:Blk w0 g t (NL n)) (hx:a.eval x= .pointer (some ⟨g,0,none⟩)) (h:K (a.put o.dst (NN n))):
 o.quiet Tryz.prog a (Below w0.heap.size w0) K:=
 Qav _ x ho g 0 (NL n) (fun w' hw j v hv=>by rw[QC4];exact Blk.cellD ((hw.block g hb.lt).trans hb) j hv) hx _ Tryz.underlying270 rfl (by rw[Qax];exact Qkd) h
theorem QdK {o:Oper} {a:Act} {K:Act→Prop} (x:Operand) (ho:o.op= .load 270 x) {w0:World} {bad:List Nat} {g:Nat} {t:TypeId} {n:Nat} (hb:Blk w0 g t (NL n)) (hn:∀b∈bad,g≠b) (hx:a.eval x= .pointer (some ⟨g,0,none⟩)) (h:K (a.put o.dst (NN n))):
 o.quiet Tryz.prog a (Spared w0 bad) K:=
 Qav _ x ho g 0 (NL n) (fun w' hw j v hv=>by rw[QC4];exact Blk.cellD (hw.blk hb hn) j hv) hx _ Tryz.underlying270 rfl (by rw[Qax];exact Qkd) h
theorem Qj2:Program.built Tryz.prog 270 []=some (NL 0).toArray:=by kernel_rfl
theorem QtL:Program.built Tryz.prog 270 [(0,Value.int .u32 1)]=some (NL 1).toArray:=by kernel_rfl
theorem Qmh:Program.built Tryz.prog 270 [(0,Value.int .u32 121665)]=some (NL 121665).toArray:=by kernel_rfl
theorem Qx1 (x:UInt8) (m:Nat):(shr8 x m%2==1)=decide (x.toNat/2^m%2=1):=by
 rw[←QrF]
 have h:∀y:UInt8,y%2=y &&& 1:=by
  intro y
  apply QDr.1
  rw[UInt8.toNat_mod,UInt8.toNat_and]
  exact (Nat.and_two_pow_sub_one_eq_mod _ 1).symm
 rw[h]
theorem addR (a b:Nat) (ha:a<T256) (hb:b<T256) (w:World):Calls Tryz.prog 152 #[NN a,NN b] w fun e w'=>e= .returned (NN (fadd a b))∧Later w w':=Qxc a b ha hb w
theorem subR (a b:Nat) (ha:a<T256) (hb:b<T256) (w:World):Calls Tryz.prog 153 #[NN a,NN b] w fun e w'=>e= .returned (NN (fsub a b))∧Later w w':=Qxy a b ha hb w
theorem mulR (a b:Nat) (ha:a<T256) (hb:b<T256) (w:World):Calls Tryz.prog 154 #[NN a,NN b] w fun e w'=>e= .returned (NN (fmul a b))∧Later w w':=QjV a b ha hb w
abbrev bagL (gz3 gx3 gz2 gx2 g8 g6 g0:Nat) (x1:Nat) (K:List UInt8) (s:Lad):List (Nat×TypeId×List Value):=
 [(gz3,270,NL s.z3),(gx3,270,NL s.x3),(gz2,270,NL s.z2),(gx2,270,NL s.x2),(g8,270,NL x1),(g6,25,K.map W8),(g0,25,QCC 32 (Value.int .u8 0))]
set_option maxRecDepth 100000 in
set_option maxHeartbeats 16000000 in
theorem QtX (A B:Option Addr) (n c m d:Nat) (ks us:List UInt8) (w:World) (hk:RdB w A n ks) (hu:RdB w B m us) (hn:n≤140737488355328) (hm:m≤140737488355328):
 Calls Tryz.prog 91 #[.slice A n c,.slice B m d] w fun e w'=>e= .returned (.tuple #[.agg ((Qbe ks us).map W8).toArray,.int .i64 (Qbf ks us:Nat)])∧Later w w':=by
 have hkl:=hk.len
 have hul:=hu.len
 have hb0:=Blk.new w 25 (QCC 32 (Value.int .u8 0))
 have L0:=Qaa w (.cells (QCC 32 (Value.int .u8 0)).toArray 25)
 have hcl:=Qbs ks
 have cK:=hid (fun w h=>QqZ A n c ks w h hn)
 have cU:=hid (fun w h=>Qve B m d us w h hm)
 by_cases hn32:n=32
 ·subst hn32
  have eK:QbW ks=0:=by rw[QbW,if_pos (by omega)]
  rw[eK]at cK
  by_cases hm32:m=32
  ·subst hm32
   have eU:QbW us=0:=by rw[QbW,if_pos (by omega)]
   rw[eU]at cU
   have hx:=Qmv us
   have hMB:=hid (show Qbe ks us=nb (QiV ks us) by rw[Qbe,if_pos ⟨hkl,hul⟩])
   have hME:=hid (show Qbf ks us=if QiV ks us=0 then 5 else 0 by rw[Qbf,if_pos ⟨hkl,hul⟩])
   have hQ:=hid (show QiV ks us=fmul (Lad.at (Qco us) (QaL ks) 255).x2 (pinv (Lad.at (Qco us) (QaL ks) 255).z2) from rfl)
   generalize QaL ks=K at *
   generalize Qco us=x1 at *
   go_enter Tryz.func91,Tryz.ntmps91
   go_wp2_with fail
   generalize hW:w.alloc _=w0
   replace L0:Later w w0:=by rw[←hW];exact Qaa _ _
   replace hb0:Blk w0 w.heap.size 25 (QCC 32 (Value.int .u8 0)):=by rw[←hW];exact Blk.new w 25 (QCC 32 (Value.int .u8 0))
   clear hW
   have B0:Bag w w0 [(w.heap.size,25,QCC 32 (Value.int .u8 0))]:=⟨L0,by simpa using hb0,by simp,by simp⟩
   clear L0 hb0
   (with_reducible refine (cK.out _ (hk.later B0.lat)).mono ?_);rintro e w1 ⟨rfl,hl1⟩
   go_wp2_with (first
    | (refine QaG rfl rfl _ _ rfl (Blk.new w1 _ (QCC 32 (.int .u8 0))) rfl rfl hcl rfl ?_;intro w2 hb2 ho2
       have B1:=B0.push (hl1.trans (Qaa w1 _)) hl1.size ho2 hb2)
    | fail)
   (with_reducible refine (cU.out _ (hu.later B1.lat)).mono ?_);rintro e w3 ⟨rfl,hl3⟩
   clear cK cU hl1 hb2 ho2 B0
   go_wp2_with (first
    | (refine Qau rfl rfl _ _ rfl (Blk.new w3 _ (QCC 8 (.int .u32 0))) rfl rfl rfl ?_;intro w4 hb4 ho4
       have B2:=B1.push (hl3.trans (Qaa w3 _)) hl3.size ho4 hb4)
    | fail)
   clear hl3 hb4 ho4 B1
   generalize w1.heap.size=g6 at *
   generalize w3.heap.size=g8 at *
   obtain⟨g0,hg0⟩:∃g0,g0=w.heap.size:=⟨_,rfl⟩
   rw[←hg0]at B2 ⊢
   clear hg0
   refine QhG [0,1,2,3] [4,5,6,7] [8,9,10,11] (fun _=>(fun g=>.pointer (some ⟨g,0,none⟩),.cells (QCC 8 (Value.int .u32 0)).toArray 270)) (by as_aux_lemma=>kernel_rfl) (by as_aux_lemma=>kernel_rfl) (by intro _ _ d _ _ h;cases d<;>exact h) ?_
   refine⟨?mk,?_⟩
   case mk=>
    refine⟨fun o ho=>?_,fun o ho=>?_,fun o ho=>?_,fun o ho=>?_,trivial⟩
    all_goals
     simp only[QCD,QCE,Option.some.injEq]at ho
     subst ho
     exact Qc0 rfl rfl
   simp only[pick,QCD,QCE,QCG,QCI,QCH]
   repeat (first|go_big_quiet_skip|(go_big_quiet_want;(first|refine Quk _ rfl (B2.nth 0 rfl) rfl ?_|refine Qcc _ _ rfl (NL 1) (by simp only[QCT,QC9,QC3];exact QtL) ?_|refine Qcc _ _ rfl (NL 0) (by simp only[QCT,QC3];exact Qj2) ?_);simp only[Act.put,QCL,QCO,QCN];go_big_quiet_on))
   refine wpQuiet_nil ?_
   simp only[QoG,Qkz,QCD,QCE,QD1,Act.put,QCL,QCO,QCN]
   intro v1 gA j1 hg1 _ hb1 v2 gB j2 hg2 hn2 hb2 v3 gC j3 hg3 hn3 hb3 v4 gD j4 hg4 hn4 hb4 v5 j5
   simp only[or_false,not_or]at hn2 hn3 hn4
   have lt8:=(B2.nth 0 rfl).lt
   have lt6:=(B2.nth 1 rfl).lt
   have lt0:=(B2.nth 2 rfl).lt
   have hlow:=B2.lat.size
   have C1:Bag w v1 [(gA,270,QCC 8 (Value.int .u32 0)),(g8,270,NL x1),(g6,25,K.map W8),(g0,25,QCC 32 (Value.int .u8 0))]:=
    B2.add ((Qab _).trans j1) (by simp;omega) (by omega) hb1
   have C2:Bag w v2 [(gB,270,QCC 8 (Value.int .u32 0)),(gA,270,QCC 8 (Value.int .u32 0)),(g8,270,NL x1),(g6,25,K.map W8),(g0,25,QCC 32 (Value.int .u8 0))]:=
    C1.add j2 (by simp;omega) (by omega) hb2
   have C3:Bag w v3 [(gC,270,QCC 8 (Value.int .u32 0)),(gB,270,QCC 8 (Value.int .u32 0)),(gA,270,QCC 8 (Value.int .u32 0)),(g8,270,NL x1),(g6,25,K.map W8),(g0,25,QCC 32 (Value.int .u8 0))]:=
    C2.add j3 (by simp;omega) (by omega) hb3
   have C4:Bag w v5 [(gD,270,QCC 8 (Value.int .u32 0)),(gC,270,QCC 8 (Value.int .u32 0)),(gB,270,QCC 8 (Value.int .u32 0)),(gA,270,QCC 8 (Value.int .u32 0)),(g8,270,NL x1),(g6,25,K.map W8),(g0,25,QCC 32 (Value.int .u8 0))]:=
    (C3.add j4 (by simp;omega) (by omega) hb4).later j5
   have la:Later w4 v5:=(((((Qab _).trans j1).trans j2).trans j3).trans j4).trans j5
   clear C1 C2 C3 j1 j2 j3 j4 j5 hb1 hb2 hb3 hb4 hn2 hn3 hn4 lt8 lt6 lt0 hlow
   simp only[pick,QCD,QCE,QCG,QCI,QCH]
   refine Qau rfl rfl _ _ rfl (C4.nth 3 rfl) rfl rfl rfl ?_
   intro y1 hb1 ho1
   have C5:=C4.write 3 rfl ho1 hb1
   replace la:=la.only ho1 hg1
   refine⟨la.below,?_⟩
   refine Qau rfl rfl _ _ rfl (C5.nth 2 rfl) rfl rfl rfl ?_
   intro y2 hb2 ho2
   have C6:=C5.write 2 rfl ho2 hb2
   replace la:=la.only ho2 hg2
   refine⟨la.below,?_⟩
   refine Qau rfl rfl _ _ rfl (C6.nth 1 rfl) rfl rfl rfl ?_
   intro y3 hb3 ho3
   have C7:=C6.write 1 rfl ho3 hb3
   replace la:=la.only ho3 hg3
   refine⟨la.below,?_⟩
   refine Qau rfl rfl _ _ rfl (C7.nth 0 rfl) rfl rfl rfl ?_
   intro y4 hb4 ho4
   have C8:Bag w y4 (bagL gD gC gB gA g8 g6 g0 x1 K ⟨1,0,x1,1⟩):=C7.write 0 rfl ho4 hb4
   replace la:=la.only ho4 hg4
   refine⟨la.below,?_⟩
   clear la C4 C5 C6 C7 ho1 ho2 ho3 ho4 hb1 hb2 hb3 hb4 hg1 hg2 hg3 hg4 B2
   go_wp2_with fail
   go_loopw [13] (fun i wr=>∃k:Nat,k≤255∧i= .int .i64 (dn k)∧Bag w wr (bagL gD gC gB gA g8 g6 g0 x1 K (Lad.at x1 K (255-k)))) (fun i _=>(intOf i+1).toNat)
   case atStart=>exact⟨255,by omega,rfl,C8⟩
   case round=>
    clear C8
    obtain⟨k,hk,rfl,C0⟩:=hrel
    cases k with
    | zero=>
      simp only[Qkl]
      rw[show 255-0=255 from rfl]at C0
      have hok:=Lad.at_ok x1 K hx 255
      rw[hQ.out]at hMB hME
      clear hQ
      generalize Lad.at x1 K 255=S at *
      have hv:=hid (QwX S.z2 hok.2.1)
      have hM:=hid (mulR S.x2 (pinv S.z2) hok.1 (QsP S.z2))
      have hQP:fmul S.x2 (pinv S.z2)<P25:=QC8 _ Qbd
      generalize fmul S.x2 (pinv S.z2)=Q at *
      generalize pinv S.z2=I at *
      have hQT:Q<T256:=QDG hQP (by decide)
      have hBy:Hid (∀ w,Calls Tryz.prog 90 #[NN Q] w fun e w'=>e= .returned (.agg ((nb Q).map W8).toArray)∧Later w w'):=hid (by
       intro w
       have:=QlD Q hQT w
       rwa [QC1 hQP,BB]at this)
      go_wp2_with fail
      refine Qay [0,1] [([],1,2),([],1,3),([],2,4)] [] [5] [4] (fun _=>(fun g=>.pointer (some ⟨g,0,none⟩),.cells (QCC 8 (Value.int .u32 0)).toArray 270)) (by as_aux_lemma=>kernel_rfl) (by as_aux_lemma=>kernel_rfl) (by intro _ _ d _ _ h;cases d<;>exact h) (by intro _ _ d _ _ h;cases d<;>exact h) ?_
      simp only[pick,QCD,QCE,QCG,QCI,QCH]
      repeat (first|go_big_quiet_skip|(go_big_quiet_want;(first|refine Qbq _ rfl (C0.drew.nth 3 rfl) rfl ?_|refine Qbq _ rfl (C0.drew.nth 2 rfl) rfl ?_);simp only[Act.put,QCL,QCO,QCN];go_big_quiet_on)|(go_big_quiet_step (fail)))
      refine wpQuiet_nil ?_
      refine⟨?mk,?_⟩
      case mk=>
       refine⟨fun o ho=>?_,trivial⟩
       simp only[QCD,QCE,Option.some.injEq]at ho
       subst ho
       exact Qc0 rfl rfl
      simp only[Qbi,pick,QCD,QCE,QCG,QCI,QCH,QD1]
      refine wpQuiet_nil ?_
      intro v1 j1
      go_wp2_with fail
      (with_reducible refine (hv.out _).mono ?_);rintro e v2 ⟨rfl,j2⟩
      go_wp2_with fail
      try refine⟨by first|assumption|exact Qab _|exact Qaa _ _|exact Later.refl _,?_⟩
      try simp only[Qah,pick,QCD,QCE,QCG,QCI,QCH]
      repeat (go_big_quiet_step (fail))
      refine wpQuiet_nil ?_
      intro v3 j3
      go_wp2_with fail
      (with_reducible refine (hM.out _).mono ?_);rintro e v4 ⟨rfl,j4⟩
      go_wp2_with fail
      try refine⟨by first|assumption|exact Qab _|exact Qaa _ _|exact Later.refl _,?_⟩
      try simp only[Qah,pick,QCD,QCE,QCG,QCI,QCH]
      repeat (go_big_quiet_step (fail))
      refine wpQuiet_nil ?_
      intro v5 gq j5 hgq _ hbq
      refine wpQuiet_nil ?_
      intro v6 j6
      simp only[Act.put,QCL,QCO,QCN]
      have hB6:Blk v6 gq 270 (QCC 8 (Value.int .u32 0)):=Blk.later (show Blk v5 gq _ _ from hbq) j6
      have jj:=((Qab _).trans j1).trans ((j2.trans j3).trans (j4.trans (j5.trans j6)))
      clear j1 j2 j3 j4 j5 j6 hbq
      refine Qau rfl rfl _ _ rfl hB6 rfl rfl rfl ?_
      intro v7 hb7 ho7
      have C1:=C0.push jj hgq ho7 hb7
      have h0:=C1.nth 7 rfl
      have hq7:=C1.nth 0 rfl
      have L7:=C1.lat
      have hl0:=C1.at_low 7 rfl
      clear jj hB6 hgq ho7 hb7 C0 C1 hv hM
      by_cases hq:Q=0
      ·as_aux_lemma=>
       have hd:(Q==0)=true:=by simp[hq]
       have hMZ:=hid (show Qbe ks us=QCC 32 0 by rw[hMB.out,hq,QkG])
       have hM5:=hid (show Qbf ks us=5 by rw[hME.out,if_pos hq])
       clear hq hMB hME
       go_wp2_with (first
        | (refine QaQ rfl _ rfl hq7 rfl ?_)
        | (refine Qam rfl 270 _ rfl (NL 0) ?hb ?_;(case hb=>simp only[QCT,QC3];exact Qj2))
        | (refine Qam rfl 25 _ rfl (QCC 32 (W8 0)) ?hb ?_;(case hb=>kernel_rfl))
        | (refine QaG (bs:=QCC 32 0) rfl rfl _ _ rfl h0 rfl (by kernel_rfl) rfl rfl ?_;intro w9 hb9 ho9)
        | fail)
       exact bodyPost_ret (Qai rfl _ _ _ _ _ _ hb9 rfl Tryz.underlying25 rfl (by rw[QCF,QCS];exact Qba)) rfl ⟨by rw[hMZ.out,hM5.out];rfl,L7.only ho9 hl0⟩
      ·as_aux_lemma=>
       have hd:(Q==0)=false:=by simp[hq]
       have hM5:=hid (show Qbf ks us=0 by rw[hME.out,if_neg hq])
       have hnl:=QbS Q
       generalize nb Q=Y at *
       clear hME
       go_wp2_with (first
        | (refine QaQ rfl _ rfl hq7 rfl ?_)
        | (refine Qam rfl 270 _ rfl (NL 0) ?hb ?_;(case hb=>simp only[QCT,QC3];exact Qj2))
        | (go_at_call 90;(with_reducible refine (hBy.out _).mono ?_);rintro e v8 ⟨rfl,j8⟩)
        | (refine QaG rfl rfl _ _ rfl (h0.later j8) rfl rfl hnl rfl ?_;intro w9 hb9 ho9)
        | fail)
       exact bodyPost_ret (Qai rfl _ _ _ _ _ _ hb9 rfl Tryz.underlying25 rfl (by rw[QCF,hnl];exact Qba)) rfl ⟨by rw[hMB.out,hM5.out];rfl,(L7.trans j8).only ho9 hl0⟩
    | succ k=>
      have d0:=(C0.nth 5 rfl).cellD (k/8) (u:=W8 (K.getD (k/8) 0)) (by rw[QCY,QCK,QCJ (by omega)];rfl)
      have hbe:=Qx1 (K.getD (k/8) 0) (k%8)
      have hst:Lad.at x1 K (255-k)=(Lad.at x1 K (254-k)).round x1 (kbit K k):=by
       rw[show 255-k=(254-k)+1 by omega,Lad.at,show 254-(254-k)=k by omega]
      have hkb:kbit K k=(shr8 (K.getD (k/8) 0) (k%8)%2==1):=by rw[hbe];rfl
      generalize K.getD (k/8) 0=kb at *
      have hok:=Lad.at_ok x1 K hx (254-k)
      rw[show 255-(k+1)=254-k by omega]at C0
      generalize Lad.at x1 K (254-k)=S at *
      have HST:=hid hst
      clear hst hbe
      simp only[Qkp]
      cases hb:kbit K k with
      | false=>
       as_aux_lemma=>
        rw[hb]at hkb HST
        have hd:=hkb.symm
        clear hkb
        have B0:=C0
        have cA:=hid (addR S.x2 S.z2 hok.1 hok.2.1)
        have tA:=QeN S.x2 S.z2
        generalize hA:fadd S.x2 S.z2=Av at *
        replace hA:=hid hA
        have cB:=hid (subR S.x2 S.z2 hok.1 hok.2.1)
        have tB:=QeK S.x2 S.z2
        generalize hB:fsub S.x2 S.z2=Bv at *
        replace hB:=hid hB
        have cD:=hid (subR S.x3 S.z3 hok.2.2.1 hok.2.2.2)
        have tD:=QeK S.x3 S.z3
        generalize hD:fsub S.x3 S.z3=Dv at *
        replace hD:=hid hD
        have cDA:=hid (mulR Dv Av tD tA)
        have tDA:=QbC Dv Av
        generalize hDA:fmul Dv Av=DAv at *
        replace hDA:=hid hDA
        have cC:=hid (addR S.x3 S.z3 hok.2.2.1 hok.2.2.2)
        have tC:=QeN S.x3 S.z3
        generalize hC:fadd S.x3 S.z3=Cv at *
        replace hC:=hid hC
        have cCB:=hid (mulR Cv Bv tC tB)
        have tCB:=QbC Cv Bv
        generalize hCB:fmul Cv Bv=CBv at *
        replace hCB:=hid hCB
        have cAA:=hid (mulR Av Av tA tA)
        have tAA:=QbC Av Av
        generalize hAA:fmul Av Av=AAv at *
        replace hAA:=hid hAA
        have cBB:=hid (mulR Bv Bv tB tB)
        have tBB:=QbC Bv Bv
        generalize hBB:fmul Bv Bv=BBv at *
        replace hBB:=hid hBB
        have cEe:=hid (subR AAv BBv tAA tBB)
        have tEe:=QeK AAv BBv
        generalize hEe:fsub AAv BBv=Eev at *
        replace hEe:=hid hEe
        have cSs:=hid (addR DAv CBv tDA tCB)
        have tSs:=QeN DAv CBv
        generalize hSs:fadd DAv CBv=Ssv at *
        replace hSs:=hid hSs
        have cDd:=hid (subR DAv CBv tDA tCB)
        have tDd:=QeK DAv CBv
        generalize hDd:fsub DAv CBv=Ddv at *
        replace hDd:=hid hDd
        have cSS:=hid (mulR Ssv Ssv tSs tSs)
        have tSS:=QbC Ssv Ssv
        generalize hSS:fmul Ssv Ssv=SSv at *
        replace hSS:=hid hSS
        have cDD:=hid (mulR Ddv Ddv tDd tDd)
        have tDD:=QbC Ddv Ddv
        generalize hDD:fmul Ddv Ddv=DDv at *
        replace hDD:=hid hDD
        have cZZ:=hid (mulR x1 DDv hx tDD)
        have tZZ:=QbC x1 DDv
        generalize hZZ:fmul x1 DDv=ZZv at *
        replace hZZ:=hid hZZ
        have cXX:=hid (mulR AAv BBv tAA tBB)
        have tXX:=QbC AAv BBv
        generalize hXX:fmul AAv BBv=XXv at *
        replace hXX:=hid hXX
        have cFf:=hid (mulR 121665 Eev (show 121665<T256 by decide) tEe)
        have tFf:=QbC 121665 Eev
        generalize hFf:fmul 121665 Eev=Ffv at *
        replace hFf:=hid hFf
        have cGg:=hid (addR AAv Ffv tAA tFf)
        have tGg:=QeN AAv Ffv
        generalize hGg:fadd AAv Ffv=Ggv at *
        replace hGg:=hid hGg
        have cYY:=hid (mulR Eev Ggv tEe tGg)
        have tYY:=QbC Eev Ggv
        generalize hYY:fmul Eev Ggv=YYv at *
        replace hYY:=hid hYY
        go_wp2_with (first
        | (refine QaQ rfl _ rfl (B0.nth 3 rfl) rfl ?_)
        | (refine QaQ rfl _ rfl (B0.nth 2 rfl) rfl ?_)
        | (go_at_call 152;(with_reducible refine (cA.out _).mono ?_);rintro e v0 ⟨rfl,j0⟩)
        | (refine Qau rfl rfl _ _ rfl (Blk.new v0 _ (QCC 8 (.int .u32 0))) rfl rfl rfl ?_;intro u0 hb0 ho0
           have B1:=B0.push (j0.trans (Qaa v0 _)) j0.size ho0 hb0)
        | (refine QaQ rfl _ rfl (B1.nth 4 rfl) rfl ?_)
        | (refine QaQ rfl _ rfl (B1.nth 3 rfl) rfl ?_)
        | (go_at_call 153;(with_reducible refine (cB.out _).mono ?_);rintro e v1 ⟨rfl,j1⟩)
        | (refine Qau rfl rfl _ _ rfl (Blk.new v1 _ (QCC 8 (.int .u32 0))) rfl rfl rfl ?_;intro u1 hb1 ho1
           have B2:=B1.push (j1.trans (Qaa v1 _)) j1.size ho1 hb1)
        | fail)
        clear j0 hb0 ho0 B0 j1 hb1 ho1 B1
        refine Qay [0,1,3] [([],1,2),([],1,4),([],2,5)] [] [6] [5] (fun _=>(fun g=>.pointer (some ⟨g,0,none⟩),.cells (QCC 8 (Value.int .u32 0)).toArray 270)) (by as_aux_lemma=>kernel_rfl) (by as_aux_lemma=>kernel_rfl) (by intro _ _ d _ _ h;cases d<;>exact h) (by intro _ _ d _ _ h;cases d<;>exact h) ?_
        simp only[pick,QCD,QCE,QCG,QCI,QCH]
        repeat (first|go_big_quiet_skip|(go_big_quiet_want;(first|refine Qbq _ rfl (B2.drew.nth 3 rfl) rfl ?_|refine Qbq _ rfl (B2.drew.nth 2 rfl) rfl ?_|refine Qbq _ rfl (B2.drew.nth 1 rfl) rfl ?_);simp only[Act.put,QCL,QCO,QCN];go_big_quiet_on)|(go_big_quiet_step (fail)))
        refine wpQuiet_nil ?_
        refine⟨?mk,?_⟩
        case mk=>
         refine⟨fun o ho=>?_,trivial⟩
         simp only[QCD,QCE,Option.some.injEq]at ho
         subst ho
         exact Qc0 rfl rfl
        simp only[Qbi,pick,QCD,QCE,QCG,QCI,QCH,QD1]
        refine wpQuiet_nil ?_
        intro v2 j2
        go_wp2_with fail
        (with_reducible refine (cD.out _).mono ?_);rintro e v2a ⟨rfl,k2⟩
        go_wp2_with fail
        try refine⟨by first|assumption|exact Qab _|exact Qaa _ _|exact Later.refl _,?_⟩
        try simp only[Qah,pick,QCD,QCE,QCG,QCI,QCH]
        repeat (go_big_quiet_step (fail))
        refine wpQuiet_nil ?_
        intro v2b l2
        go_wp2_with fail
        (with_reducible refine (cDA.out _).mono ?_);rintro e v2c ⟨rfl,m2⟩
        go_wp2_with fail
        try refine⟨by first|assumption|exact Qab _|exact Qaa _ _|exact Later.refl _,?_⟩
        try simp only[Qah,pick,QCD,QCE,QCG,QCI,QCH]
        repeat (go_big_quiet_step (fail))
        refine wpQuiet_nil ?_
        intro v2d g2 n2 hg2 _ hb2
        refine wpQuiet_nil ?_
        intro v2e p2
        simp only[Act.put,QCL,QCO,QCN]
        have hB2:Blk v2e g2 270 (QCC 8 (Value.int .u32 0)):=Blk.later (show Blk v2d g2 _ _ from hb2) p2
        have jj:=((Qab _).trans j2).trans ((k2.trans l2).trans (m2.trans (n2.trans p2)))
        clear j2 k2 l2 m2 n2 p2 hb2
        refine Qau rfl rfl _ _ rfl hB2 rfl rfl rfl ?_
        intro u2 hb2 ho2
        have B3:=B2.push jj hg2 ho2 hb2
        clear jj hB2 hg2 ho2 hb2 B2
        go_wp2_with fail
        refine Qay [0,1,3] [([],1,2),([],1,4),([],2,5)] [] [6] [5] (fun _=>(fun g=>.pointer (some ⟨g,0,none⟩),.cells (QCC 8 (Value.int .u32 0)).toArray 270)) (by as_aux_lemma=>kernel_rfl) (by as_aux_lemma=>kernel_rfl) (by intro _ _ d _ _ h;cases d<;>exact h) (by intro _ _ d _ _ h;cases d<;>exact h) ?_
        simp only[pick,QCD,QCE,QCG,QCI,QCH]
        repeat (first|go_big_quiet_skip|(go_big_quiet_want;(first|refine Qbq _ rfl (B3.drew.nth 4 rfl) rfl ?_|refine Qbq _ rfl (B3.drew.nth 3 rfl) rfl ?_|refine Qbq _ rfl (B3.drew.nth 1 rfl) rfl ?_);simp only[Act.put,QCL,QCO,QCN];go_big_quiet_on)|(go_big_quiet_step (fail)))
        refine wpQuiet_nil ?_
        refine⟨?mk,?_⟩
        case mk=>
         refine⟨fun o ho=>?_,trivial⟩
         simp only[QCD,QCE,Option.some.injEq]at ho
         subst ho
         exact Qc0 rfl rfl
        simp only[Qbi,pick,QCD,QCE,QCG,QCI,QCH,QD1]
        refine wpQuiet_nil ?_
        intro v3 j3
        go_wp2_with fail
        (with_reducible refine (cC.out _).mono ?_);rintro e v3a ⟨rfl,k3⟩
        go_wp2_with fail
        try refine⟨by first|assumption|exact Qab _|exact Qaa _ _|exact Later.refl _,?_⟩
        try simp only[Qah,pick,QCD,QCE,QCG,QCI,QCH]
        repeat (go_big_quiet_step (fail))
        refine wpQuiet_nil ?_
        intro v3b l3
        go_wp2_with fail
        (with_reducible refine (cCB.out _).mono ?_);rintro e v3c ⟨rfl,m3⟩
        go_wp2_with fail
        try refine⟨by first|assumption|exact Qab _|exact Qaa _ _|exact Later.refl _,?_⟩
        try simp only[Qah,pick,QCD,QCE,QCG,QCI,QCH]
        repeat (go_big_quiet_step (fail))
        refine wpQuiet_nil ?_
        intro v3d g3 n3 hg3 _ hb3
        refine wpQuiet_nil ?_
        intro v3e p3
        simp only[Act.put,QCL,QCO,QCN]
        have hB3:Blk v3e g3 270 (QCC 8 (Value.int .u32 0)):=Blk.later (show Blk v3d g3 _ _ from hb3) p3
        have jj:=((Qab _).trans j3).trans ((k3.trans l3).trans (m3.trans (n3.trans p3)))
        clear j3 k3 l3 m3 n3 p3 hb3
        refine Qau rfl rfl _ _ rfl hB3 rfl rfl rfl ?_
        intro u3 hb3 ho3
        have B4:=B3.push jj hg3 ho3 hb3
        clear jj hB3 hg3 ho3 hb3 B3
        go_wp2_with (first
        | (refine QaQ rfl _ rfl (B4.nth 3 rfl) rfl ?_)
        | (go_at_call 154;(with_reducible refine (cAA.out _).mono ?_);rintro e v4 ⟨rfl,j4⟩)
        | (refine Qau rfl rfl _ _ rfl (Blk.new v4 _ (QCC 8 (.int .u32 0))) rfl rfl rfl ?_;intro u4 hb4 ho4
           have B5:=B4.push (j4.trans (Qaa v4 _)) j4.size ho4 hb4)
        | (refine QaQ rfl _ rfl (B5.nth 3 rfl) rfl ?_)
        | (go_at_call 154;(with_reducible refine (cBB.out _).mono ?_);rintro e v5 ⟨rfl,j5⟩)
        | (refine Qau rfl rfl _ _ rfl (Blk.new v5 _ (QCC 8 (.int .u32 0))) rfl rfl rfl ?_;intro u5 hb5 ho5
           have B6:=B5.push (j5.trans (Qaa v5 _)) j5.size ho5 hb5)
        | (refine QaQ rfl _ rfl (B6.nth 1 rfl) rfl ?_)
        | (refine QaQ rfl _ rfl (B6.nth 0 rfl) rfl ?_)
        | (go_at_call 153;(with_reducible refine (cEe.out _).mono ?_);rintro e v6 ⟨rfl,j6⟩)
        | (refine Qau rfl rfl _ _ rfl (Blk.new v6 _ (QCC 8 (.int .u32 0))) rfl rfl rfl ?_;intro u6 hb6 ho6
           have B7:=B6.push (j6.trans (Qaa v6 _)) j6.size ho6 hb6)
        | (refine QaQ rfl _ rfl (B7.nth 4 rfl) rfl ?_)
        | (refine QaQ rfl _ rfl (B7.nth 3 rfl) rfl ?_)
        | (go_at_call 152;(with_reducible refine (cSs.out _).mono ?_);rintro e v7 ⟨rfl,j7⟩)
        | (refine Qau rfl rfl _ _ rfl (Blk.new v7 _ (QCC 8 (.int .u32 0))) rfl rfl rfl ?_;intro u7 hb7 ho7
           have B8:=B7.push (j7.trans (Qaa v7 _)) j7.size ho7 hb7)
        | (refine QaQ rfl _ rfl (B8.nth 5 rfl) rfl ?_)
        | (refine QaQ rfl _ rfl (B8.nth 4 rfl) rfl ?_)
        | (go_at_call 153;(with_reducible refine (cDd.out _).mono ?_);rintro e v8 ⟨rfl,j8⟩)
        | (refine Qau rfl rfl _ _ rfl (Blk.new v8 _ (QCC 8 (.int .u32 0))) rfl rfl rfl ?_;intro u8 hb8 ho8
           have B9:=B8.push (j8.trans (Qaa v8 _)) j8.size ho8 hb8)
        | (refine QaQ rfl _ rfl (B9.nth 1 rfl) rfl ?_)
        | (go_at_call 154;(with_reducible refine (cSS.out _).mono ?_);rintro e v9 ⟨rfl,j9⟩)
        | (refine Qau rfl rfl _ _ rfl ((B9.later j9).nth 10 rfl) rfl rfl (Qax _) ?_;intro u9 hb9 ho9
           have B10:=(B9.later j9).write 10 rfl ho9 hb9)
        | fail)
        clear j4 hb4 ho4 B4 j5 hb5 ho5 B5 j6 hb6 ho6 B6 j7 hb7 ho7 B7 j8 hb8 ho8 B8 j9 hb9 ho9 B9
        refine Qag [([0,1,2],3)] [] [4,5] (by as_aux_lemma=>kernel_rfl) (by as_aux_lemma=>kernel_rfl) (by intro _ _ d _ _ h;cases d<;>exact h) ?_
        simp only[Qah,pick,QCD,QCE,QCG,QCI,QCH]
        repeat (first|go_big_quiet_skip|(go_big_quiet_want;(first|refine Qbq _ rfl (B10.drew.nth 13 rfl) rfl ?_|refine Qbq _ rfl (B10.drew.nth 0 rfl) rfl ?_);simp only[Act.put,QCL,QCO,QCN];go_big_quiet_on)|(go_big_quiet_step (fail)))
        refine wpQuiet_nil ?_
        go_wp2_with fail
        (with_reducible refine (cDD.out _).mono ?_);rintro e v10 ⟨rfl,j10⟩
        replace j10:=(Qab _).trans j10
        go_wp2_with fail
        try refine⟨by first|assumption|exact Qab _|exact Qaa _ _|exact Later.refl _,?_⟩
        try simp only[Qah,pick,QCD,QCE,QCG,QCI,QCH]
        repeat (go_big_quiet_step (fail))
        refine wpQuiet_nil ?_
        go_wp2_with fail
        (with_reducible refine (cZZ.out _).mono ?_);rintro e v10a ⟨rfl,k10⟩
        have B10a:=B10.later (j10.trans k10)
        clear j10 k10 B10
        go_wp2_with (first
        | (refine Qau rfl rfl _ _ rfl (B10a.nth 9 rfl) rfl rfl (Qax _) ?_;intro u10 hb10 ho10
           have B11:=B10a.write 9 rfl ho10 hb10)
        | (refine QaQ rfl _ rfl (B11.nth 4 rfl) rfl ?_)
        | (refine QaQ rfl _ rfl (B11.nth 3 rfl) rfl ?_)
        | (go_at_call 154;(with_reducible refine (cXX.out _).mono ?_);rintro e v11 ⟨rfl,j11⟩)
        | (refine Qau rfl rfl _ _ rfl ((B11.later j11).nth 12 rfl) rfl rfl (Qax _) ?_;intro u11 hb11 ho11
           have B12:=(B11.later j11).write 12 rfl ho11 hb11)
        | fail)
        clear hb10 ho10 B10a hb11 ho11 j11 B11
        refine Qag [([0,1,2,3],4),([],5)] [] [6,7] (by as_aux_lemma=>kernel_rfl) (by as_aux_lemma=>kernel_rfl) (by intro _ _ d _ _ h;cases d<;>exact h) ?_
        simp only[Qah,pick,QCD,QCE,QCG,QCI,QCH]
        repeat (first|go_big_quiet_skip|(go_big_quiet_want;(first|refine Qbq _ rfl (B12.drew.nth 2 rfl) rfl ?_|refine Qbq _ rfl (B12.drew.nth 4 rfl) rfl ?_|refine Qcc _ _ rfl (NL 121665) (by simp only[QCT,QC9,QC3];exact Qmh) ?_);simp only[Act.put,QCL,QCO,QCN];go_big_quiet_on)|(go_big_quiet_step (fail)))
        refine wpQuiet_nil ?_
        go_wp2_with fail
        (with_reducible refine (cFf.out _).mono ?_);rintro e v12 ⟨rfl,j12⟩
        replace j12:=(Qab _).trans j12
        go_wp2_with fail
        try refine⟨by first|assumption|exact Qab _|exact Qaa _ _|exact Later.refl _,?_⟩
        try simp only[Qah,pick,QCD,QCE,QCG,QCI,QCH]
        repeat (go_big_quiet_step (fail))
        refine wpQuiet_nil ?_
        go_wp2_with fail
        (with_reducible refine (cGg.out _).mono ?_);rintro e v12a ⟨rfl,k12⟩
        go_wp2_with fail
        try refine⟨by first|assumption|exact Qab _|exact Qaa _ _|exact Later.refl _,?_⟩
        try simp only[Qah,pick,QCD,QCE,QCG,QCI,QCH]
        repeat (go_big_quiet_step (fail))
        refine wpQuiet_nil ?_
        go_wp2_with fail
        (with_reducible refine (cYY.out _).mono ?_);rintro e v12b ⟨rfl,l12⟩
        have B12a:=B12.later (j12.trans (k12.trans l12))
        clear j12 k12 l12 B12
        go_wp2_with (first
        | (refine Qau rfl rfl _ _ rfl (B12a.nth 11 rfl) rfl rfl (Qax _) ?_;intro u12 hb12 ho12
           have B13:=B12a.write 11 rfl ho12 hb12)
        | fail)
        go_roundw
        case rel=>
         refine⟨k,by omega,?hi,?hB⟩
         case hi=>rw[QeU]
         case hB=>
          have hstep:S.step x1=⟨XXv,YYv,SSv,ZZv⟩:=by simp only[Lad.step,hA.out,hB.out,hD.out,hDA.out,hC.out,hCB.out,hAA.out,hBB.out,hEe.out,hSs.out,hDd.out,hSS.out,hDD.out,hZZ.out,hXX.out,hFf.out,hGg.out,hYY.out]
          rw[HST.out,Lad.round,if_neg (by simp),hstep]
          exact B13.drop 9
        case measure=>simp[intOf]
      | true=>
       as_aux_lemma=>
        rw[hb]at hkb HST
        have hd:=hkb.symm
        clear hkb
        go_wp2_with fail
        refine Qc4 [0,1,2,3] [4,5,6,7] (fun i=>if i=1 then [4] else []) (fun i=>if i=4 then gA else if i=5 then gB else if i=6 then gC else gD) (by as_aux_lemma=>kernel_rfl) (by as_aux_lemma=>kernel_rfl) (by intro _ _ d _ _ h;cases d<;>exact h) ?_
        refine⟨_,rfl,rfl,?_⟩
        refine QdK _ rfl (C0.nth 1 rfl) (by simp) rfl ?_
        simp only[Act.put,QCL,QCO,QCN]
        refine⟨_,rfl,rfl,?_⟩
        refine QdK _ rfl (C0.nth 0 rfl) (by intro b hb;simp at hb;subst hb;exact C0.ne 0 3 rfl rfl (by decide)) rfl ?_
        simp only[Act.put,QCL,QCO,QCN]
        refine⟨_,rfl,rfl,?_⟩
        refine QdK _ rfl (C0.nth 3 rfl) (by simp) rfl ?_
        simp only[Act.put,QCL,QCO,QCN]
        refine⟨_,rfl,rfl,?_⟩
        refine QdK _ rfl (C0.nth 2 rfl) (by simp) rfl ?_
        simp only[Act.put,QCL,QCO,QCN]
        simp only[Qij,Qf2,pick,QCD,QCE,QCG,QCI,QCH]
        refine Qau rfl rfl _ _ rfl (C0.drew.nth 3 rfl) rfl rfl (Qax _) ?_
        intro q1 hb1 ho1
        have Aa:=C0.drew.write 3 rfl ho1 hb1
        refine⟨ho1,?_⟩
        refine Qau rfl rfl _ _ rfl (Aa.nth 2 rfl) rfl rfl (Qax _) ?_
        intro q2 hb2 ho2
        have Ab:=Aa.write 2 rfl ho2 hb2
        refine⟨ho2,?_⟩
        refine Qau rfl rfl _ _ rfl (Ab.nth 1 rfl) rfl rfl (Qax _) ?_
        intro q3 hb3 ho3
        have Ac:=Ab.write 1 rfl ho3 hb3
        refine⟨ho3,?_⟩
        refine Qau rfl rfl _ _ rfl (Ac.nth 0 rfl) rfl rfl (Qax _) ?_
        intro q4 hb4 ho4
        have Ad:=Ac.write 0 rfl ho4 hb4
        refine⟨ho4,?_⟩
        have hok1:S.swap.Ok:=Lad.swap_ok hok
        have B0:Bag w q4 (bagL gD gC gB gA g8 g6 g0 x1 K S.swap):=Ad
        generalize hSw:S.swap=S1 at *
        replace hSw:=hid hSw
        replace hok:=hok1
        clear hb1 ho1 hb2 ho2 hb3 ho3 hb4 ho4 Aa Ab Ac Ad C0 hok1 hb
        have cA:=hid (addR S1.x2 S1.z2 hok.1 hok.2.1)
        have tA:=QeN S1.x2 S1.z2
        generalize hA:fadd S1.x2 S1.z2=Av at *
        replace hA:=hid hA
        have cB:=hid (subR S1.x2 S1.z2 hok.1 hok.2.1)
        have tB:=QeK S1.x2 S1.z2
        generalize hB:fsub S1.x2 S1.z2=Bv at *
        replace hB:=hid hB
        have cD:=hid (subR S1.x3 S1.z3 hok.2.2.1 hok.2.2.2)
        have tD:=QeK S1.x3 S1.z3
        generalize hD:fsub S1.x3 S1.z3=Dv at *
        replace hD:=hid hD
        have cDA:=hid (mulR Dv Av tD tA)
        have tDA:=QbC Dv Av
        generalize hDA:fmul Dv Av=DAv at *
        replace hDA:=hid hDA
        have cC:=hid (addR S1.x3 S1.z3 hok.2.2.1 hok.2.2.2)
        have tC:=QeN S1.x3 S1.z3
        generalize hC:fadd S1.x3 S1.z3=Cv at *
        replace hC:=hid hC
        have cCB:=hid (mulR Cv Bv tC tB)
        have tCB:=QbC Cv Bv
        generalize hCB:fmul Cv Bv=CBv at *
        replace hCB:=hid hCB
        have cAA:=hid (mulR Av Av tA tA)
        have tAA:=QbC Av Av
        generalize hAA:fmul Av Av=AAv at *
        replace hAA:=hid hAA
        have cBB:=hid (mulR Bv Bv tB tB)
        have tBB:=QbC Bv Bv
        generalize hBB:fmul Bv Bv=BBv at *
        replace hBB:=hid hBB
        have cEe:=hid (subR AAv BBv tAA tBB)
        have tEe:=QeK AAv BBv
        generalize hEe:fsub AAv BBv=Eev at *
        replace hEe:=hid hEe
        have cSs:=hid (addR DAv CBv tDA tCB)
        have tSs:=QeN DAv CBv
        generalize hSs:fadd DAv CBv=Ssv at *
        replace hSs:=hid hSs
        have cDd:=hid (subR DAv CBv tDA tCB)
        have tDd:=QeK DAv CBv
        generalize hDd:fsub DAv CBv=Ddv at *
        replace hDd:=hid hDd
        have cSS:=hid (mulR Ssv Ssv tSs tSs)
        have tSS:=QbC Ssv Ssv
        generalize hSS:fmul Ssv Ssv=SSv at *
        replace hSS:=hid hSS
        have cDD:=hid (mulR Ddv Ddv tDd tDd)
        have tDD:=QbC Ddv Ddv
        generalize hDD:fmul Ddv Ddv=DDv at *
        replace hDD:=hid hDD
        have cZZ:=hid (mulR x1 DDv hx tDD)
        have tZZ:=QbC x1 DDv
        generalize hZZ:fmul x1 DDv=ZZv at *
        replace hZZ:=hid hZZ
        have cXX:=hid (mulR AAv BBv tAA tBB)
        have tXX:=QbC AAv BBv
        generalize hXX:fmul AAv BBv=XXv at *
        replace hXX:=hid hXX
        have cFf:=hid (mulR 121665 Eev (show 121665<T256 by decide) tEe)
        have tFf:=QbC 121665 Eev
        generalize hFf:fmul 121665 Eev=Ffv at *
        replace hFf:=hid hFf
        have cGg:=hid (addR AAv Ffv tAA tFf)
        have tGg:=QeN AAv Ffv
        generalize hGg:fadd AAv Ffv=Ggv at *
        replace hGg:=hid hGg
        have cYY:=hid (mulR Eev Ggv tEe tGg)
        have tYY:=QbC Eev Ggv
        generalize hYY:fmul Eev Ggv=YYv at *
        replace hYY:=hid hYY
        go_wp2_with (first
        | (refine QaQ rfl _ rfl (B0.nth 3 rfl) rfl ?_)
        | (refine QaQ rfl _ rfl (B0.nth 2 rfl) rfl ?_)
        | (go_at_call 152;(with_reducible refine (cA.out _).mono ?_);rintro e v0 ⟨rfl,j0⟩)
        | (refine Qau rfl rfl _ _ rfl (Blk.new v0 _ (QCC 8 (.int .u32 0))) rfl rfl rfl ?_;intro u0 hb0 ho0
           have B1:=B0.push (j0.trans (Qaa v0 _)) j0.size ho0 hb0)
        | (refine QaQ rfl _ rfl (B1.nth 4 rfl) rfl ?_)
        | (refine QaQ rfl _ rfl (B1.nth 3 rfl) rfl ?_)
        | (go_at_call 153;(with_reducible refine (cB.out _).mono ?_);rintro e v1 ⟨rfl,j1⟩)
        | (refine Qau rfl rfl _ _ rfl (Blk.new v1 _ (QCC 8 (.int .u32 0))) rfl rfl rfl ?_;intro u1 hb1 ho1
           have B2:=B1.push (j1.trans (Qaa v1 _)) j1.size ho1 hb1)
        | fail)
        clear j0 hb0 ho0 B0 j1 hb1 ho1 B1
        refine Qay [0,1,3] [([],1,2),([],1,4),([],2,5)] [] [6] [5] (fun _=>(fun g=>.pointer (some ⟨g,0,none⟩),.cells (QCC 8 (Value.int .u32 0)).toArray 270)) (by as_aux_lemma=>kernel_rfl) (by as_aux_lemma=>kernel_rfl) (by intro _ _ d _ _ h;cases d<;>exact h) (by intro _ _ d _ _ h;cases d<;>exact h) ?_
        simp only[pick,QCD,QCE,QCG,QCI,QCH]
        repeat (first|go_big_quiet_skip|(go_big_quiet_want;(first|refine Qbq _ rfl (B2.drew.nth 3 rfl) rfl ?_|refine Qbq _ rfl (B2.drew.nth 2 rfl) rfl ?_|refine Qbq _ rfl (B2.drew.nth 1 rfl) rfl ?_);simp only[Act.put,QCL,QCO,QCN];go_big_quiet_on)|(go_big_quiet_step (fail)))
        refine wpQuiet_nil ?_
        refine⟨?mk,?_⟩
        case mk=>
         refine⟨fun o ho=>?_,trivial⟩
         simp only[QCD,QCE,Option.some.injEq]at ho
         subst ho
         exact Qc0 rfl rfl
        simp only[Qbi,pick,QCD,QCE,QCG,QCI,QCH,QD1]
        refine wpQuiet_nil ?_
        intro v2 j2
        go_wp2_with fail
        (with_reducible refine (cD.out _).mono ?_);rintro e v2a ⟨rfl,k2⟩
        go_wp2_with fail
        try refine⟨by first|assumption|exact Qab _|exact Qaa _ _|exact Later.refl _,?_⟩
        try simp only[Qah,pick,QCD,QCE,QCG,QCI,QCH]
        repeat (go_big_quiet_step (fail))
        refine wpQuiet_nil ?_
        intro v2b l2
        go_wp2_with fail
        (with_reducible refine (cDA.out _).mono ?_);rintro e v2c ⟨rfl,m2⟩
        go_wp2_with fail
        try refine⟨by first|assumption|exact Qab _|exact Qaa _ _|exact Later.refl _,?_⟩
        try simp only[Qah,pick,QCD,QCE,QCG,QCI,QCH]
        repeat (go_big_quiet_step (fail))
        refine wpQuiet_nil ?_
        intro v2d g2 n2 hg2 _ hb2
        refine wpQuiet_nil ?_
        intro v2e p2
        simp only[Act.put,QCL,QCO,QCN]
        have hB2:Blk v2e g2 270 (QCC 8 (Value.int .u32 0)):=Blk.later (show Blk v2d g2 _ _ from hb2) p2
        have jj:=((Qab _).trans j2).trans ((k2.trans l2).trans (m2.trans (n2.trans p2)))
        clear j2 k2 l2 m2 n2 p2 hb2
        refine Qau rfl rfl _ _ rfl hB2 rfl rfl rfl ?_
        intro u2 hb2 ho2
        have B3:=B2.push jj hg2 ho2 hb2
        clear jj hB2 hg2 ho2 hb2 B2
        go_wp2_with fail
        refine Qay [0,1,3] [([],1,2),([],1,4),([],2,5)] [] [6] [5] (fun _=>(fun g=>.pointer (some ⟨g,0,none⟩),.cells (QCC 8 (Value.int .u32 0)).toArray 270)) (by as_aux_lemma=>kernel_rfl) (by as_aux_lemma=>kernel_rfl) (by intro _ _ d _ _ h;cases d<;>exact h) (by intro _ _ d _ _ h;cases d<;>exact h) ?_
        simp only[pick,QCD,QCE,QCG,QCI,QCH]
        repeat (first|go_big_quiet_skip|(go_big_quiet_want;(first|refine Qbq _ rfl (B3.drew.nth 4 rfl) rfl ?_|refine Qbq _ rfl (B3.drew.nth 3 rfl) rfl ?_|refine Qbq _ rfl (B3.drew.nth 1 rfl) rfl ?_);simp only[Act.put,QCL,QCO,QCN];go_big_quiet_on)|(go_big_quiet_step (fail)))
        refine wpQuiet_nil ?_
        refine⟨?mk,?_⟩
        case mk=>
         refine⟨fun o ho=>?_,trivial⟩
         simp only[QCD,QCE,Option.some.injEq]at ho
         subst ho
         exact Qc0 rfl rfl
        simp only[Qbi,pick,QCD,QCE,QCG,QCI,QCH,QD1]
        refine wpQuiet_nil ?_
        intro v3 j3
        go_wp2_with fail
        (with_reducible refine (cC.out _).mono ?_);rintro e v3a ⟨rfl,k3⟩
        go_wp2_with fail
        try refine⟨by first|assumption|exact Qab _|exact Qaa _ _|exact Later.refl _,?_⟩
        try simp only[Qah,pick,QCD,QCE,QCG,QCI,QCH]
        repeat (go_big_quiet_step (fail))
        refine wpQuiet_nil ?_
        intro v3b l3
        go_wp2_with fail
        (with_reducible refine (cCB.out _).mono ?_);rintro e v3c ⟨rfl,m3⟩
        go_wp2_with fail
        try refine⟨by first|assumption|exact Qab _|exact Qaa _ _|exact Later.refl _,?_⟩
        try simp only[Qah,pick,QCD,QCE,QCG,QCI,QCH]
        repeat (go_big_quiet_step (fail))
        refine wpQuiet_nil ?_
        intro v3d g3 n3 hg3 _ hb3
        refine wpQuiet_nil ?_
        intro v3e p3
        simp only[Act.put,QCL,QCO,QCN]
        have hB3:Blk v3e g3 270 (QCC 8 (Value.int .u32 0)):=Blk.later (show Blk v3d g3 _ _ from hb3) p3
        have jj:=((Qab _).trans j3).trans ((k3.trans l3).trans (m3.trans (n3.trans p3)))
        clear j3 k3 l3 m3 n3 p3 hb3
        refine Qau rfl rfl _ _ rfl hB3 rfl rfl rfl ?_
        intro u3 hb3 ho3
        have B4:=B3.push jj hg3 ho3 hb3
        clear jj hB3 hg3 ho3 hb3 B3
        go_wp2_with (first
        | (refine QaQ rfl _ rfl (B4.nth 3 rfl) rfl ?_)
        | (go_at_call 154;(with_reducible refine (cAA.out _).mono ?_);rintro e v4 ⟨rfl,j4⟩)
        | (refine Qau rfl rfl _ _ rfl (Blk.new v4 _ (QCC 8 (.int .u32 0))) rfl rfl rfl ?_;intro u4 hb4 ho4
           have B5:=B4.push (j4.trans (Qaa v4 _)) j4.size ho4 hb4)
        | (refine QaQ rfl _ rfl (B5.nth 3 rfl) rfl ?_)
        | (go_at_call 154;(with_reducible refine (cBB.out _).mono ?_);rintro e v5 ⟨rfl,j5⟩)
        | (refine Qau rfl rfl _ _ rfl (Blk.new v5 _ (QCC 8 (.int .u32 0))) rfl rfl rfl ?_;intro u5 hb5 ho5
           have B6:=B5.push (j5.trans (Qaa v5 _)) j5.size ho5 hb5)
        | (refine QaQ rfl _ rfl (B6.nth 1 rfl) rfl ?_)
        | (refine QaQ rfl _ rfl (B6.nth 0 rfl) rfl ?_)
        | (go_at_call 153;(with_reducible refine (cEe.out _).mono ?_);rintro e v6 ⟨rfl,j6⟩)
        | (refine Qau rfl rfl _ _ rfl (Blk.new v6 _ (QCC 8 (.int .u32 0))) rfl rfl rfl ?_;intro u6 hb6 ho6
           have B7:=B6.push (j6.trans (Qaa v6 _)) j6.size ho6 hb6)
        | (refine QaQ rfl _ rfl (B7.nth 4 rfl) rfl ?_)
        | (refine QaQ rfl _ rfl (B7.nth 3 rfl) rfl ?_)
        | (go_at_call 152;(with_reducible refine (cSs.out _).mono ?_);rintro e v7 ⟨rfl,j7⟩)
        | (refine Qau rfl rfl _ _ rfl (Blk.new v7 _ (QCC 8 (.int .u32 0))) rfl rfl rfl ?_;intro u7 hb7 ho7
           have B8:=B7.push (j7.trans (Qaa v7 _)) j7.size ho7 hb7)
        | (refine QaQ rfl _ rfl (B8.nth 5 rfl) rfl ?_)
        | (refine QaQ rfl _ rfl (B8.nth 4 rfl) rfl ?_)
        | (go_at_call 153;(with_reducible refine (cDd.out _).mono ?_);rintro e v8 ⟨rfl,j8⟩)
        | (refine Qau rfl rfl _ _ rfl (Blk.new v8 _ (QCC 8 (.int .u32 0))) rfl rfl rfl ?_;intro u8 hb8 ho8
           have B9:=B8.push (j8.trans (Qaa v8 _)) j8.size ho8 hb8)
        | (refine QaQ rfl _ rfl (B9.nth 1 rfl) rfl ?_)
        | (go_at_call 154;(with_reducible refine (cSS.out _).mono ?_);rintro e v9 ⟨rfl,j9⟩)
        | (refine Qau rfl rfl _ _ rfl ((B9.later j9).nth 10 rfl) rfl rfl (Qax _) ?_;intro u9 hb9 ho9
           have B10:=(B9.later j9).write 10 rfl ho9 hb9)
        | fail)
        clear j4 hb4 ho4 B4 j5 hb5 ho5 B5 j6 hb6 ho6 B6 j7 hb7 ho7 B7 j8 hb8 ho8 B8 j9 hb9 ho9 B9
        refine Qag [([0,1,2],3)] [] [4,5] (by as_aux_lemma=>kernel_rfl) (by as_aux_lemma=>kernel_rfl) (by intro _ _ d _ _ h;cases d<;>exact h) ?_
        simp only[Qah,pick,QCD,QCE,QCG,QCI,QCH]
        repeat (first|go_big_quiet_skip|(go_big_quiet_want;(first|refine Qbq _ rfl (B10.drew.nth 13 rfl) rfl ?_|refine Qbq _ rfl (B10.drew.nth 0 rfl) rfl ?_);simp only[Act.put,QCL,QCO,QCN];go_big_quiet_on)|(go_big_quiet_step (fail)))
        refine wpQuiet_nil ?_
        go_wp2_with fail
        (with_reducible refine (cDD.out _).mono ?_);rintro e v10 ⟨rfl,j10⟩
        replace j10:=(Qab _).trans j10
        go_wp2_with fail
        try refine⟨by first|assumption|exact Qab _|exact Qaa _ _|exact Later.refl _,?_⟩
        try simp only[Qah,pick,QCD,QCE,QCG,QCI,QCH]
        repeat (go_big_quiet_step (fail))
        refine wpQuiet_nil ?_
        go_wp2_with fail
        (with_reducible refine (cZZ.out _).mono ?_);rintro e v10a ⟨rfl,k10⟩
        have B10a:=B10.later (j10.trans k10)
        clear j10 k10 B10
        go_wp2_with (first
        | (refine Qau rfl rfl _ _ rfl (B10a.nth 9 rfl) rfl rfl (Qax _) ?_;intro u10 hb10 ho10
           have B11:=B10a.write 9 rfl ho10 hb10)
        | (refine QaQ rfl _ rfl (B11.nth 4 rfl) rfl ?_)
        | (refine QaQ rfl _ rfl (B11.nth 3 rfl) rfl ?_)
        | (go_at_call 154;(with_reducible refine (cXX.out _).mono ?_);rintro e v11 ⟨rfl,j11⟩)
        | (refine Qau rfl rfl _ _ rfl ((B11.later j11).nth 12 rfl) rfl rfl (Qax _) ?_;intro u11 hb11 ho11
           have B12:=(B11.later j11).write 12 rfl ho11 hb11)
        | fail)
        clear hb10 ho10 B10a hb11 ho11 j11 B11
        refine Qag [([0,1,2,3],4),([],5)] [] [6,7] (by as_aux_lemma=>kernel_rfl) (by as_aux_lemma=>kernel_rfl) (by intro _ _ d _ _ h;cases d<;>exact h) ?_
        simp only[Qah,pick,QCD,QCE,QCG,QCI,QCH]
        repeat (first|go_big_quiet_skip|(go_big_quiet_want;(first|refine Qbq _ rfl (B12.drew.nth 2 rfl) rfl ?_|refine Qbq _ rfl (B12.drew.nth 4 rfl) rfl ?_|refine Qcc _ _ rfl (NL 121665) (by simp only[QCT,QC9,QC3];exact Qmh) ?_);simp only[Act.put,QCL,QCO,QCN];go_big_quiet_on)|(go_big_quiet_step (fail)))
        refine wpQuiet_nil ?_
        go_wp2_with fail
        (with_reducible refine (cFf.out _).mono ?_);rintro e v12 ⟨rfl,j12⟩
        replace j12:=(Qab _).trans j12
        go_wp2_with fail
        try refine⟨by first|assumption|exact Qab _|exact Qaa _ _|exact Later.refl _,?_⟩
        try simp only[Qah,pick,QCD,QCE,QCG,QCI,QCH]
        repeat (go_big_quiet_step (fail))
        refine wpQuiet_nil ?_
        go_wp2_with fail
        (with_reducible refine (cGg.out _).mono ?_);rintro e v12a ⟨rfl,k12⟩
        go_wp2_with fail
        try refine⟨by first|assumption|exact Qab _|exact Qaa _ _|exact Later.refl _,?_⟩
        try simp only[Qah,pick,QCD,QCE,QCG,QCI,QCH]
        repeat (go_big_quiet_step (fail))
        refine wpQuiet_nil ?_
        go_wp2_with fail
        (with_reducible refine (cYY.out _).mono ?_);rintro e v12b ⟨rfl,l12⟩
        have B12a:=B12.later (j12.trans (k12.trans l12))
        clear j12 k12 l12 B12
        go_wp2_with (first
        | (refine Qau rfl rfl _ _ rfl (B12a.nth 11 rfl) rfl rfl (Qax _) ?_;intro u12 hb12 ho12
           have B13:=B12a.write 11 rfl ho12 hb12)
        | fail)
        have D0:Bag w u12 (bagL gD gC gB gA g8 g6 g0 x1 K ⟨XXv,YYv,SSv,ZZv⟩):=B13.drop 9
        refine Qc4 [0,1,2,3] [4,5,6,7] (fun i=>if i=1 then [4] else []) (fun i=>if i=4 then gA else if i=5 then gB else if i=6 then gC else gD) (by as_aux_lemma=>kernel_rfl) (by as_aux_lemma=>kernel_rfl) (by intro _ _ d _ _ h;cases d<;>exact h) ?_
        refine⟨_,rfl,rfl,?_⟩
        refine QdK _ rfl (D0.nth 1 rfl) (by simp) rfl ?_
        simp only[Act.put,QCL,QCO,QCN]
        refine⟨_,rfl,rfl,?_⟩
        refine QdK _ rfl (D0.nth 0 rfl) (by intro b hb;simp at hb;subst hb;exact D0.ne 0 3 rfl rfl (by decide)) rfl ?_
        simp only[Act.put,QCL,QCO,QCN]
        refine⟨_,rfl,rfl,?_⟩
        refine QdK _ rfl (D0.nth 3 rfl) (by simp) rfl ?_
        simp only[Act.put,QCL,QCO,QCN]
        refine⟨_,rfl,rfl,?_⟩
        refine QdK _ rfl (D0.nth 2 rfl) (by simp) rfl ?_
        simp only[Act.put,QCL,QCO,QCN]
        simp only[Qij,Qf2,pick,QCD,QCE,QCG,QCI,QCH]
        refine Qau rfl rfl _ _ rfl (D0.drew.nth 3 rfl) rfl rfl (Qax _) ?_
        intro r1 hb1 ho1
        have Za:=D0.drew.write 3 rfl ho1 hb1
        refine⟨ho1,?_⟩
        refine Qau rfl rfl _ _ rfl (Za.nth 2 rfl) rfl rfl (Qax _) ?_
        intro r2 hb2 ho2
        have Zb:=Za.write 2 rfl ho2 hb2
        refine⟨ho2,?_⟩
        refine Qau rfl rfl _ _ rfl (Zb.nth 1 rfl) rfl rfl (Qax _) ?_
        intro r3 hb3 ho3
        have Zc:=Zb.write 1 rfl ho3 hb3
        refine⟨ho3,?_⟩
        refine Qau rfl rfl _ _ rfl (Zc.nth 0 rfl) rfl rfl (Qax _) ?_
        intro r4 hb4 ho4
        have Zd:=Zc.write 0 rfl ho4 hb4
        refine⟨ho4,?_⟩
        go_wp2_with fail
        go_roundw
        case rel=>
         refine⟨k,by omega,?hi,?hB⟩
         case hi=>rw[QeU]
         case hB=>
          have hstep:S1.step x1=⟨XXv,YYv,SSv,ZZv⟩:=by simp only[Lad.step,hA.out,hB.out,hD.out,hDA.out,hC.out,hCB.out,hAA.out,hBB.out,hEe.out,hSs.out,hDd.out,hSS.out,hDD.out,hZZ.out,hXX.out,hFf.out,hGg.out,hYY.out]
          rw[HST.out,Lad.round,if_pos rfl,hSw.out,hstep]
          exact Zd
        case measure=>simp[intOf]
  ·as_aux_lemma=>
   have eU:QbW us=2:=by rw[QbW,if_neg (by omega)]
   rw[eU]at cU
   have hMB:=hid (show Qbe ks us=QCC 32 0 by rw[Qbe,if_neg (by omega)])
   have hME:=hid (show Qbf ks us=2 by rw[Qbf,if_neg (by omega)])
   generalize QaL ks=K at *
   generalize Qco us=x1 at *
   go_enter Tryz.func91,Tryz.ntmps91
   go_wp2_with fail
   generalize hW:w.alloc _=w0
   replace L0:Later w w0:=by rw[←hW];exact Qaa _ _
   replace hb0:Blk w0 w.heap.size 25 (QCC 32 (Value.int .u8 0)):=by rw[←hW];exact Blk.new w 25 (QCC 32 (Value.int .u8 0))
   clear hW
   (with_reducible refine (cK.out _ (hk.later L0)).mono ?_);rintro e w1 ⟨rfl,hl1⟩
   replace hb0:=hb0.later hl1
   replace L0:=L0.trans hl1
   go_wp2_with (first
    | (refine QaG rfl rfl _ _ rfl (Blk.new w1 _ (QCC 32 (.int .u8 0))) rfl rfl hcl rfl ?_;intro w2 hb2 ho2)
    | fail)
   replace hb0:=(hb0.later (Qaa w1 (.cells (QCC 32 (.int .u8 0)).toArray 25))).only ho2 (by have:=hb0.lt;omega)
   replace L0:=(L0.trans (Qaa w1 (.cells (QCC 32 (.int .u8 0)).toArray 25))).only ho2 (by have:=L0.size;omega)
   clear ho2 hl1
   (with_reducible refine (cU.out _ (hu.later L0)).mono ?_);rintro e w3 ⟨rfl,hl3⟩
   replace hb0:=hb0.later hl3
   replace L0:=L0.trans hl3
   go_wp2_with (first
    | (refine Qau rfl rfl _ _ rfl (Blk.new w3 _ (QCC 8 (.int .u32 0))) rfl rfl rfl ?_;intro w4 hb4 ho4
       have hb04:=(hb0.later (Qaa w3 (.cells (QCC 8 (.int .u32 0)).toArray 270))).only ho4 (by have:=hb0.lt;omega)
       have L04:=(L0.trans (Qaa w3 (.cells (QCC 8 (.int .u32 0)).toArray 270))).only ho4 (by have:=L0.size;omega))
    | (refine Qam rfl 25 _ rfl (QCC 32 (W8 0)) ?hb ?_;(case hb=>kernel_rfl))
    | (refine QaG (bs:=QCC 32 0) rfl rfl _ _ rfl hb04 rfl (by kernel_rfl) rfl rfl ?_;intro w9 hb9 ho9)
    | fail)
   exact bodyPost_ret (Qai rfl _ _ _ _ _ _ hb9 rfl Tryz.underlying25 rfl (by rw[QCF,QCS];exact Qba)) rfl ⟨by rw[hMB.out,hME.out];rfl,L04.only ho9 (by omega)⟩
 ·as_aux_lemma=>
  have eK:QbW ks=2:=by rw[QbW,if_neg (by omega)]
  rw[eK]at cK
  have hMB:=hid (show Qbe ks us=QCC 32 0 by rw[Qbe,if_neg (by omega)])
  have hME:=hid (show Qbf ks us=2 by rw[Qbf,if_neg (by omega)])
  generalize QaL ks=K at *
  go_enter Tryz.func91,Tryz.ntmps91
  go_wp2_with fail
  generalize hW:w.alloc _=w0
  replace L0:Later w w0:=by rw[←hW];exact Qaa _ _
  replace hb0:Blk w0 w.heap.size 25 (QCC 32 (Value.int .u8 0)):=by rw[←hW];exact Blk.new w 25 (QCC 32 (Value.int .u8 0))
  clear hW
  (with_reducible refine (cK.out _ (hk.later L0)).mono ?_);rintro e w1 ⟨rfl,hl1⟩
  replace hb0:=hb0.later hl1
  replace L0:=L0.trans hl1
  go_wp2_with (first
   | (refine QaG rfl rfl _ _ rfl (Blk.new w1 _ (QCC 32 (.int .u8 0))) rfl rfl hcl rfl ?_;intro w2 hb2 ho2
      have hb02:=(hb0.later (Qaa w1 (.cells (QCC 32 (.int .u8 0)).toArray 25))).only ho2 (by have:=hb0.lt;omega)
      have L02:=(L0.trans (Qaa w1 (.cells (QCC 32 (.int .u8 0)).toArray 25))).only ho2 (by have:=L0.size;omega))
   | (refine Qam rfl 25 _ rfl (QCC 32 (W8 0)) ?hb ?_;(case hb=>kernel_rfl))
   | (refine QaG (bs:=QCC 32 0) rfl rfl _ _ rfl hb02 rfl (by kernel_rfl) rfl rfl ?_;intro w9 hb9 ho9)
   | fail)
  exact bodyPost_ret (Qai rfl _ _ _ _ _ _ hb9 rfl Tryz.underlying25 rfl (by rw[QCF,QCS];exact Qba)) rfl ⟨by rw[hMB.out,hME.out];rfl,L02.only ho9 (by omega)⟩
end Go.Proofs.YticcbmhcgmhohaaGreat
