/-
  Lemmas for the last text of this claim (part 18 of 20).
-/
import Derived.ArgAppend
import Derived.BigQuiet
import Derived.BigRegion
import Derived.ChangeOld
import Derived.Deep.RegionWith
import Derived.DeepKeys4
import Derived.JoinedCond
import Derived.LaidMore
import Derived.Laws.Append
import Derived.Laws.BytesArg
import Derived.Laws.CopyOwn
import Derived.Laws.Externs
import Derived.Laws.IdiomStrings
import Derived.Laws.Tables
import Derived.Lib.AppendStr
import Derived.Lib.AppendZerosOnto
import Derived.Lib.Mul64
import Derived.Lib.SlBytesConst
import Derived.LoopN
import Derived.Maps.OwnSet
import Derived.OpenShut
import Derived.OrdersHeld
import Derived.ProofKit
import Derived.Shelf.Spec.BitsCarry
import Derived.ShutString
import Derived.Test.YticcbmhcgmhohaaGreatProg
import Derived.Test.YticcbmhcgmhohaaGreatRows
import Derived.WalkKit
import Derived.WalkLawsBesides
import Derived.WalkSpells
import Derived.Test.YticcbmhcgmhohaaGreatPL
import Derived.Test.YticcbmhcgmhohaaGreatPM
import Derived.Test.YticcbmhcgmhohaaGreatPN
import Derived.Test.YticcbmhcgmhohaaGreatPQ
open Array renaming size_push → QEZ
open Bool renaming or_eq_true → QEH
open List renaming replicate → QCC, getElem?_cons_succ → QCD, getElem?_cons_zero → QCE, length_map → QCF, nil_append → QCH, cons_append → QCI, getElem?_eq_getElem → QCJ, getD_eq_getElem?_getD → QCK, setIfInBounds_toArray → QCL, length_append → QCM, set_cons_zero → QCN, set_cons_succ → QCO, take_of_length_le → QCQ, getElem?_append_right → QCR, length_replicate → QCS, map_toArray → QCT, append_assoc → QCU, getElem?_eq_some_iff → QCV, getElem?_append_left → QCW, getElem?_map → QCY, mem_cons → QCZ, map_nil → QC3, length_take → QC5, map_cons → QC9, set_append_right → QDc, take_succ_eq_append_getElem → QDd, append_nil → QDf, length_set → QDl, all_eq_true → QDn, map_append → QDq, mem_map → QDs, range → QDu, drop_of_length_le → QDM, replicate_succ → QDW, getElem_mem → QD0, mem_append → QD3, getElem?_range → QEs, length_reverse → QEG, mem_singleton → QEK, getElem_of_mem → QEQ, range_succ → QER
open Nat renaming le_refl → QCP, lt_of_lt_of_le → QCX, zero_add → QC4, lt_or_ge → QDJ, min_eq_left → QDK, sub_self → QDL, add_sub_cancel_left → QEk, sub_zero → QE0, le_of_eq → QE1
open Option renaming toList_some → QCG, map_eq_some_iff → QED
open UInt32 renaming ofInt → QEl
open UInt8 renaming ofInt → QDh
set_option linter.all false
namespace Go.Proofs.YticcbmhcgmhohaaGreat
open Go.RowKit
open Go.BigFrame
def lcG (kd:UInt8) (ma:Y16):Cmd:=⟨kd,0,0,0,ma⟩
theorem Qtt (kd:UInt8) (ma:Y16) (k2: ¬kd<2) (k4: ¬ 4<kd) (hsh:Qcs (lcG kd ma)=true) (hs:List Hp):Qd9 (lcG kd ma) hs=if hs.any badH=true then 1 else if hs.length<1∨5<hs.length then 2 else if (hs.drop 1).any (fun h=>h.nod.id==0)=true then 3 else 0:=by
 have h1: ¬Qrf (lcG kd ma)=true:=by
  rw[Qrf,QEH,decide_eq_true_eq,decide_eq_true_eq]
  rintro (h|h)
  ·exact k2 h
  ·exact k4 h
 have h2: ¬Qcs (lcG kd ma)=false:=by rw[hsh];decide
 rw[Qd9,if_neg h1,if_neg h2]
def QeP (kd:UInt8) (ma:Y16) (hs:List Hp) (k:Nat):List Cmd:=(QDu k).map (Qcu (lcG kd ma) hs)
theorem QcG (kd:UInt8) (ma:Y16) (hs:List Hp) (k:Nat):(QeP kd ma hs k).length=k:=by simp[QeP]
def QmN (kd:UInt8) (ma:Y16) (hs:List Hp):List Cmd:=if Qd9 (lcG kd ma) hs=0 then QeP kd ma hs hs.length else []
theorem Qmg (c:Cmd) (m:Y16):Qao (CC c) 4 (m.val.map W8)=CC { c with ma:=m }:=by
 have h:=c.ma.2
 rw[CC,Qao,QCF,m.2,QDM (by simp[h])]
 simp[CC]
theorem QhH (kd:UInt8) (ma:Y16) (hs:List Hp) (k:Nat) (h:k+1=hs.length):Qcu (lcG kd ma) hs k=⟨kd,QDh (hs.getD k hp0).flags,QEl (hs.getD k hp0).delay,0,ma⟩:=by
 rw[Qcu,if_neg (by omega)]
 rfl
theorem QjH (kd:UInt8) (ma:Y16) (hs:List Hp) (k:Nat) (h:k+1<hs.length):Qcu (lcG kd ma) hs k=⟨1,QDh (hs.getD k hp0).flags,QEl (hs.getD k hp0).delay,(hs.getD (k+1) hp0).nod.id,Qa3⟩:=by
 rw[Qcu,if_pos h]
def QhX (kd:UInt8) (ma:Y16) (hs:List Hp) (j:Nat):List Cmd:=QeP kd ma hs j++QCC (hs.length-j) cmd0
theorem Qpb (kd:UInt8) (ma:Y16) (hs:List Hp):QhX kd ma hs 0=QCC hs.length cmd0:=by
 rw[QhX,QE0]
 rfl
theorem Qsf (kd:UInt8) (ma:Y16) (hs:List Hp):QhX kd ma hs hs.length=QeP kd ma hs hs.length:=by rw[QhX,QDL,List.replicate_zero,QDf]
theorem QlH (kd:UInt8) (ma:Y16) (hs:List Hp) (j:Nat) (h:j≤hs.length):(QhX kd ma hs j).length=hs.length:=by
 rw[QhX,QCM,QcG,QCS]
 omega
theorem QpX (kd:UInt8) (ma:Y16) (hs:List Hp) (j:Nat) (h:j<hs.length):(QhX kd ma hs j).set j (Qcu (lcG kd ma) hs j)=QhX kd ma hs (j+1):=by
 have hc:QeP kd ma hs (j+1)=QeP kd ma hs j++[Qcu (lcG kd ma) hs j]:=by rw[QeP,QER,QDq];rfl
 rw[QhX,QhX,hc,QDc _ _ (by rw[QcG];omega),QcG,QDL,show hs.length-j=hs.length-(j+1)+1 by omega,QDW,QCN,QCU]
 rfl
set_option maxRecDepth 100000 in
set_option maxHeartbeats 4000000 in
theorem Qnw (kd:UInt8) (ma:Y16) (k2: ¬kd<2) (k4: ¬ 4<kd) (hsh:Qcs (lcG kd ma)=true) (A:Option Addr) (n cc:Nat) (hs:List Hp) (w:World) (hh:RdH w A n hs) (hn:n≤1048576):
 Calls Tryz.prog 92 #[.agg (CC (lcG kd ma)).toArray,.slice A n cc] w fun e w'=>e= .returned (.int .i64 (Qd9 (lcG kd ma) hs:Nat))∧Later w w':=by
 have hl:=hh.1
 have hE:=hid (Qtt kd ma k2 k4 hsh hs)
 have hSh:=hid (fun w=>Qjj (lcG kd ma) w)
 rw[hsh]at hSh
 clear hsh
 have B0:=QaW w 62 (CC (lcG kd ma))
 rw[hl]at hE
 generalize Qd9 (lcG kd ma) hs=E at *
 obtain⟨c0,c1,c2,c3,c4⟩:=QeI (B0.nth 0 rfl)
 change _=some (W8 kd)at c0
 go_enter Tryz.func92,Tryz.ntmps92
 go_wp2_with fail
 generalize hW:w.alloc _=w1
 replace B0:Bag w w1 [(w.heap.size,62,CC (lcG kd ma))]:=by rw[←hW];exact B0
 clear hW c0 c1 c2 c3 c4
 go_loopw [18] (fun i wr=>∃k:Nat,k≤n∧i= .int .i64 k∧Hid (∀ j,j<k→badH (hs.getD j hp0)=false)∧Later w1 wr) (fun i _=>n-(intOf i).toNat)
 case atStart=>exact⟨0,by omega,rfl,hid (fun j hj=>absurd hj (by omega)),Later.refl _⟩
 case round=>
  obtain⟨k,hk,rfl,hz,L⟩:=hrel
  by_cases hlt:k<n
  ·obtain⟨b,o,rfl,hbb,hc⟩:=(hh.later (B0.lat.trans L)).at_ hlt
   have c66:wr.cell? ⟨b,o+k*68+66,none⟩=some (.int .i64 (hs.getD k hp0).delay):=hc 66 _ (QjX _)
   have c67:wr.cell? ⟨b,o+k*68+67,none⟩=some (.int .i64 (hs.getD k hp0).flags):=hc 67 _ (Qkk _)
   have hno:=hid (fun h=>Qoa (hs:=hs) (p:=badH) (k:=k) (by omega) h)
   have hgo:=hid (fun h:badH (hs.getD k hp0)=false=>Qjb (p:=fun j=>badH (hs.getD j hp0)=false) hz.out h)
   have hbd:Hid (badH (hs.getD k hp0)=(decide ((hs.getD k hp0).delay<0)||decide (1000000<(hs.getD k hp0).delay)||decide ((hs.getD k hp0).flags<0)||decide (255<(hs.getD k hp0).flags))):=hid rfl
   clear hc
   generalize badH (hs.getD k hp0)=bb at *
   generalize (hs.getD k hp0).delay=dl at *
   generalize (hs.getD k hp0).flags=fl at *
   have hbad:=hid (fun h:bb=true=>show E=1 from hE.out.trans (if_pos (hno.out h)))
   clear hno
   by_cases a1:dl<0
   ·have hX:=hid (hbad.out (by rw[hbd.out];simp[a1]))
    go_wp2_with fail
    go_ret
    exact⟨by rw[hX.out];rfl,B0.lat.trans L⟩
   by_cases a2:1000000<dl
   ·have hX:=hid (hbad.out (by rw[hbd.out];simp[a2]))
    go_wp2_with fail
    go_ret
    exact⟨by rw[hX.out];rfl,B0.lat.trans L⟩
   by_cases a3:fl<0
   ·have hX:=hid (hbad.out (by rw[hbd.out];simp[a3]))
    go_wp2_with fail
    go_ret
    exact⟨by rw[hX.out];rfl,B0.lat.trans L⟩
   by_cases a4:255<fl
   ·have hX:=hid (hbad.out (by rw[hbd.out];simp[a4]))
    go_wp2_with fail
    go_ret
    exact⟨by rw[hX.out];rfl,B0.lat.trans L⟩
   have hG:=hid (hgo.out (by rw[hbd.out];simp[a1,a2,a3,a4]))
   clear hgo hbd hbad
   go_wp2_with fail
   exact⟨⟨k+1,by omega,by go_num,hG,L⟩,by simp[intOf];omega⟩
  ·obtain rfl:k=n:=by omega
   replace hE:=hid (hE.out.trans (if_neg (by rw[QqS (by rw[hl];exact hz.out)];decide)))
   by_cases h5:k<1∨5<k
   ·have e:=hid (hE.out.trans (if_pos h5))
    by_cases h1:k<1
    ·have f1:decide ((k:Int)<1)=true:=decide_eq_true (by omega)
     clear h1 h5
     go_wp2_with fail
     go_ret
     exact⟨by rw[e.out];rfl,B0.lat.trans L⟩
    ·have f1:decide ((k:Int)<1)=false:=decide_eq_false (by omega)
     have f2:decide ((5:Int)<(k:Int))=true:=decide_eq_true (by omega)
     clear h5
     go_wp2_with fail
     go_ret
     exact⟨by rw[e.out];rfl,B0.lat.trans L⟩
   ·have f1:decide ((k:Int)<1)=false:=decide_eq_false (by omega)
    have f2:decide ((5:Int)<(k:Int))=false:=decide_eq_false (by omega)
    replace hE:=hid (hE.out.trans (if_neg h5))
    have B1:=B0.later L
    go_wp2_with (first
     | (refine go_l rfl ?_;refine QcU rfl _ rfl (B1.nth 0 rfl) rfl ?_)
     | fail)
    refine (hSh.out wr).mono ?_
    rintro e w4 ⟨rfl,j4⟩
    have B4:=B1.later j4
    go_wp2_with fail
    go_loopw [64] (fun i wq=>∃j:Nat,j≤k∧i= .int .i64 j∧Hid (∀ i,i+1<j→((hs.getD (i+1) hp0).nod.id==0)=false)∧Later w4 wq) (fun i _=>k-(intOf i).toNat)
    case atStart=>exact⟨0,by omega,rfl,hid (fun i h=>by omega),Later.refl _⟩
    case round=>
     obtain⟨j,hj,rfl,hg,L4⟩:=hrel
     by_cases hjk:j<k
     ·obtain⟨b,o,rfl,hbb,hc⟩:=(hh.later (B4.lat.trans L4)).at_ hjk
      have d1:wr.cell? ⟨b,o+j*68+1,none⟩=some (W64 (hs.getD j hp0).nod.id):=hc 1 _ (Qq1 _)
      clear hc
      by_cases h0:0<j
      ·obtain⟨i,rfl⟩:∃i,j=i+1:=⟨j-1,by omega⟩
       have hno:=hid (fun h=>Qr7 (hs:=hs) (p:=fun h=>h.nod.id==0) (k:=i) (by omega) h)
       have hgo:Hid (((hs.getD (i+1) hp0).nod.id==0)=false→∀t,t+1<i+1+1→((hs.getD (t+1) hp0).nod.id==0)=false):=hid (fun h t h1=>by
        by_cases e:t=i
        ·rw[e];exact h
        ·exact hg.out t (by omega))
       generalize (hs.getD (i+1) hp0).nod.id=z at *
       have f0:decide ((0:Int)<(i:Int)+1)=true:=decide_eq_true (by omega)
       cases hzz:(z==0)
       ·have hG:=hid (hgo.out hzz)
        go_wp2_with fail
        exact⟨⟨i+1+1,by omega,by go_num,hG,L4⟩,by simp[intOf];omega⟩
       ·have e:=hid (hE.out.trans (if_pos (hno.out hzz)))
        go_wp2_with fail
        go_ret
        exact⟨by rw[e.out];rfl,B4.lat.trans L4⟩
      ·obtain rfl:j=0:=by omega
       go_wp2_with fail
       exact⟨⟨1,by omega,by go_num,hid (fun i h=>by omega),L4⟩,by simp[intOf];omega⟩
     ·obtain rfl:j=k:=by omega
      have e:=hid (hE.out.trans (if_neg (by rw[QuR (hs:=hs) (p:=fun h=>h.nod.id==0) (fun t ht=>hg.out t (by omega))];decide)))
      go_wp2_with fail
      go_ret
      exact⟨by rw[e.out];rfl,B4.lat.trans L4⟩
set_option maxRecDepth 100000 in
set_option maxHeartbeats 8000000 in
theorem Qp5 (kd:UInt8) (ma:Y16) (k2: ¬kd<2) (k4: ¬ 4<kd) (hsh:Qcs (lcG kd ma)=true) (A:Option Addr) (n cc:Nat) (hs:List Hp) (w:World) (hh:RdH w A n hs) (hn:n≤1048576):
 Calls Tryz.prog 41 #[.agg (CC (lcG kd ma)).toArray,.slice A n cc] w fun e w'=>∃A' c',e= .returned (.tuple #[.slice A' (QmN kd ma hs).length c',.int .i64 (Qd9 (lcG kd ma) hs:Nat)])∧
  RdF CC 20 cmd0 w' A' (QmN kd ma hs).length (QmN kd ma hs)∧Later w w':=by
 have hl:=hh.1
 have hPe:=hid (fun w h=>Qnw kd ma k2 k4 hsh A n cc hs w h hn)
 have hR:Hid (QmN kd ma hs=if Qd9 (lcG kd ma) hs=0 then QeP kd ma hs hs.length else []):=hid rfl
 have B0:=QaW w 62 (CC (lcG kd ma))
 have hst:=hid (QpX kd ma hs)
 have hp0':=hid (Qpb kd ma hs)
 have hpa:=hid (Qsf kd ma hs)
 have hpl:=hid (QlH kd ma hs)
 have hml:=hid (QhH kd ma hs)
 have hmm:=hid (QjH kd ma hs)
 have hbk:=hid QpF
 have hcl:=hid (QcG kd ma hs hs.length)
 generalize Qd9 (lcG kd ma) hs=E at *
 generalize QmN kd ma hs=R at *
 generalize QhX kd ma hs=CP at *
 generalize QeP kd ma hs hs.length=CA at *
 generalize Qcu (lcG kd ma) hs=PC0 at *
 clear hsh k2 k4
 rw[hl]at hst hp0' hpa hpl hml hmm hcl
 go_enter Tryz.func41,Tryz.ntmps41
 go_wp2_with (first
  | (refine go_l rfl ?_;refine QcU rfl _ rfl (B0.nth 0 rfl) rfl ?_)
  | fail)
 refine (hPe.out _ (hh.later B0.lat)).mono ?_
 rintro e w1 ⟨rfl,j1⟩
 have B1:=B0.later j1
 by_cases hE:E=0
 case neg=>
  have fE:((E:Int) != 0)=true:=bne_iff_ne.2 (by omega)
  have hX:=hid (hR.out.trans (if_neg hE))
  go_wp2_with fail
  go_ret2
  exact⟨none,0,by rw[hX.out];rfl,by rw[hX.out];exact QoU _,B1.lat⟩
 subst hE
 have hX:=hid (hR.out.trans (if_pos (by trivial)))
 clear hR B0 hPe
 go_wp2_with (first
  | (refine Qey Qar (by omega) cmd0 rfl _ _ _ rfl 62 32 Tryz.underlying157 Qz7 _ _ _ _ n rfl rfl rfl rfl (by omega) (by omega) ?_;intro w2 hb2 hl2)
  | fail)
 have own2:w2.ownsRow w1.heap.size 62 20 (.slice (some ⟨w1.heap.size,0,none⟩) n n) n ((CP 0).flatMap CC):=by
  rw[hp0'.out]
  exact QtQ hb2 (QCP _) (by rw[Qbk Qar,QCS]) (by unfold maxLen;omega)
 clear hb2
 generalize hg1:w1.heap.size=g1 at own2 ⊢
 go_loopw [21] (fun i wr=>∃j:Nat,j≤n∧i= .int .i64 j∧wr.ownsRow g1 62 20 (.slice (some ⟨g1,0,none⟩) n n) n ((CP j).flatMap CC)∧Later w1 wr) (fun i _=>n-(intOf i).toNat)
 case atStart=>exact⟨0,by omega,rfl,own2,hl2⟩
 case round=>
  clear own2
  obtain⟨j,hj,rfl,own,L⟩:=hrel
  have B:=B1.later L
  by_cases hjn:j<n
  ·obtain⟨b,o,rfl,hbb,hc⟩:=(hh.later B.lat).at_ hjn
   have hCl:=hpl.out j (by omega)
   have hsj:=hid (hst.out j hjn)
   have c66:wr.cell? ⟨b,o+j*68+66,none⟩=some (.int .i64 (hs.getD j hp0).delay):=hc 66 _ (QjX _)
   have c67:wr.cell? ⟨b,o+j*68+67,none⟩=some (.int .i64 (hs.getD j hp0).flags):=hc 67 _ (Qkk _)
   clear hc
   replace c66:=hid c66
   replace c67:=hid c67
   have tr:Hid (∀ (w':World),Later wr w'→w'.cell? ⟨b,o+j*68+66,none⟩=some (.int .i64 (hs.getD j hp0).delay)∧w'.cell? ⟨b,o+j*68+67,none⟩=some (.int .i64 (hs.getD j hp0).flags)∧b<w'.heap.size):=hid (fun w' l=>⟨(l.below.cell (p:=⟨b,o+j*68+66,none⟩) hbb).trans c66.out,(l.below.cell (p:=⟨b,o+j*68+67,none⟩) hbb).trans c67.out,QCX hbb l.size⟩)
   have hne:∀x,(Value.slice (some ⟨g1,0,none⟩) n n).ownBlock=some x→x≠wr.heap.size:=fun x hx=>by have:=(World.ownsRow.lt own x hx).2;omega
   by_cases hlast:j+1<n
   ·have f1:decide ((j:Int)+1<(n:Int))=true:=decide_eq_true (by omega)
    obtain⟨b2,o2,hbo,hbb2,hc2⟩:=(hh.later B.lat).at_ hlast
    obtain⟨rfl,rfl⟩:b=b2∧o=o2:=by simpa using hbo
    have d1:wr.cell? ⟨b,o+(j+1)*68+1,none⟩=some (W64 (hs.getD (j+1) hp0).nod.id):=hc2 1 _ (Qq1 _)
    have hpc:=hid (hmm.out j (by omega))
    have e2:((j:Int)+1).toNat=j+1:=by omega
    clear hc2 hbo hml hmm
    generalize (hs.getD (j+1) hp0).nod.id=nx at *
    generalize (hs.getD j hp0).delay=dl at *
    generalize (hs.getD j hp0).flags=fl at *
    replace d1:=hid d1
    go_wp2_with (first
     | (refine go_b rfl ?_;refine Qaj ?hw 62 _ rfl (CC ⟨1,0,0,0,Qa3⟩) (by simp only[QCT,QC9,QC3];exact hbk.out 1) ?_;(case hw=>rfl))
     | (refine QaZ rfl ?_;refine Qb1 rfl rfl _ _ rfl (Blk.new wr _ cz0) rfl rfl rfl ?_;intro w3 hb3 ho3
        have l3:Later wr w3:=(Qaa wr _).only ho3 (QCP _)
        have own3:=QcT (Qg0 own (Qaa wr (.cells cz0.toArray 62))) ho3 hne
        have d3:=(l3.below.cell (p:=⟨b,o+(j+1)*68+1,none⟩) hbb).trans d1.out
        have hbl:=QCX hbb l3.size)
     | (refine QaZ rfl ?_;refine Qad rfl rfl _ _ _ rfl wr.heap.size 3 _ _ hb3 rfl (by rw[Qar];omega) rfl (by kernel_rfl) ?_;intro v4 w4 hv4 hb4 ho4;simp[go_sem]at hv4;subst hv4
        have l4:=l3.only ho4 (QCP _)
        have own4:=QcT own3 ho4 hne
        obtain⟨f66,f67,hbl4⟩:=tr.out w4 l4)
     | (refine QaZ rfl ?_;refine Qad rfl rfl _ _ _ rfl wr.heap.size 2 _ _ hb4 rfl (by rw[QDl,Qar];omega) rfl (by kernel_rfl) ?_;intro v5 w5 hv5 hb5 ho5;simp[go_sem]at hv5;subst hv5
        have l5:=l4.only ho5 (QCP _)
        have own5:=QcT own4 ho5 hne
        obtain⟨f66',f67',hbl5⟩:=tr.out w5 l5)
     | (refine QaZ rfl ?_;refine Qad rfl rfl _ _ _ rfl wr.heap.size 1 _ _ hb5 rfl (by rw[QDl,QDl,Qar];omega) rfl (by kernel_rfl) ?_;intro v6 w6 hv6 hb6 ho6;simp[go_sem]at hv6;subst hv6
        have l6:=l5.only ho6 (QCP _)
        have own6:=QcT own5 ho6 hne
        replace hb6:Blk w6 wr.heap.size 62 (CC ⟨1,QDh fl,QEl dl,nx,Qa3⟩):=hb6)
     | (refine go_l rfl ?_;refine QcU rfl _ rfl hb6 rfl ?_)
     | (refine QaZ rfl ?_;refine Qea Qar QoS cmd0 rfl rfl _ _ _ rfl own6 hCl j hjn ⟨1,QDh fl,QEl dl,nx,Qa3⟩ rfl rfl Qed ?_;intro w7 own7 ho7)
     | fail)
    rw[←hpc.out,hsj.out]at own7
    exact⟨⟨j+1,by omega,by go_num,own7,(L.trans l6).only ho7 (QE1 hg1)⟩,by simp[intOf];omega⟩
   ·have f1:decide ((j:Int)+1<(n:Int))=false:=decide_eq_false (by omega)
    have hpc:=hid (hml.out j (by omega))
    clear hml hmm
    generalize (hs.getD j hp0).delay=dl at *
    generalize (hs.getD j hp0).flags=fl at *
    have tb:Hid (∀ (w':World),Later wr w'→w'.cell? ⟨w.heap.size,0,none⟩=some (W8 kd)∧(∀ q v,(ma.val.map W8)[q]?=some v→w'.cell? ⟨w.heap.size,4+q,none⟩=some v)∧w.heap.size<w'.heap.size):=hid (fun w' l=>by
     have h:=(B.later l).nth 0 rfl
     obtain⟨c0,_,_,_,c4⟩:=QeI h
     exact⟨c0,c4,h.lt⟩)
    go_wp2_with (first
     | (refine go_b rfl ?_;refine Qaj ?hw 62 _ rfl (CC ⟨1,0,0,0,Qa3⟩) (by simp only[QCT,QC9,QC3];exact hbk.out 1) ?_;(case hw=>rfl))
     | (refine QaZ rfl ?_;refine Qb1 rfl rfl _ _ rfl (Blk.new wr _ cz0) rfl rfl rfl ?_;intro w3 hb3 ho3
        have l3:Later wr w3:=(Qaa wr _).only ho3 (QCP _)
        have own3:=QcT (Qg0 own (Qaa wr (.cells cz0.toArray 62))) ho3 hne
        obtain⟨c0,c4,hlw⟩:=tb.out w3 l3)
     | (refine QaZ rfl ?_;refine Qad rfl rfl _ _ _ rfl wr.heap.size 0 _ _ hb3 rfl (by rw[Qar];omega) rfl (by kernel_rfl) ?_;intro v4 w4 hv4 hb4 ho4;simp[go_sem]at hv4;subst hv4
        have l4:=l3.only ho4 (QCP _)
        have own4:=QcT own3 ho4 hne
        replace hb4:Blk w4 wr.heap.size 62 (CC ⟨kd,0,0,0,Qa3⟩):=hb4
        obtain⟨c0',c4',hlw'⟩:=tb.out w4 l4)
     | (refine go_l rfl ?_;refine Qan rfl 24 _ rfl w.heap.size 4 (ma.val.map W8) c4' rfl _ Tryz.underlying24 rfl (by rw[QCF,ma.2];exact QsH) ?_)
     | (refine QaZ rfl ?_;refine Qaf rfl rfl _ _ _ rfl wr.heap.size 4 _ _ (ma.val.map W8) hb4 rfl rfl (by rw[QCF,ma.2];exact QsH) (by rw[Qar,QCF,ma.2];omega) (QaH _) ?_;intro w8 hb8 ho8
        rw[Qmg]at hb8
        have l8:=l4.only ho8 (QCP _)
        have own8:=QcT own4 ho8 hne
        obtain⟨f66,f67,hbl4⟩:=tr.out w8 l8)
     | (refine QaZ rfl ?_;refine Qad rfl rfl _ _ _ rfl wr.heap.size 2 _ _ hb8 rfl (by rw[Qar];omega) rfl (by kernel_rfl) ?_;intro v5 w5 hv5 hb5 ho5;simp[go_sem]at hv5;subst hv5
        have l5:=l8.only ho5 (QCP _)
        have own5:=QcT own8 ho5 hne
        obtain⟨f66',f67',hbl5⟩:=tr.out w5 l5)
     | (refine QaZ rfl ?_;refine Qad rfl rfl _ _ _ rfl wr.heap.size 1 _ _ hb5 rfl (by rw[QDl,Qar];omega) rfl (by kernel_rfl) ?_;intro v6 w6 hv6 hb6 ho6;simp[go_sem]at hv6;subst hv6
        have l6:=l5.only ho6 (QCP _)
        have own6:=QcT own5 ho6 hne
        replace hb6:Blk w6 wr.heap.size 62 (CC ⟨kd,QDh fl,QEl dl,0,ma⟩):=hb6)
     | (refine go_l rfl ?_;refine QcU rfl _ rfl hb6 rfl ?_)
     | (refine QaZ rfl ?_;refine Qea Qar QoS cmd0 rfl rfl _ _ _ rfl own6 hCl j hjn ⟨kd,QDh fl,QEl dl,0,ma⟩ rfl rfl Qed ?_;intro w7 own7 ho7)
     | fail)
    rw[←hpc.out,hsj.out]at own7
    exact⟨⟨j+1,by omega,by go_num,own7,(L.trans l6).only ho7 (QE1 hg1)⟩,by simp[intOf];omega⟩
  ·obtain rfl:j=n:=by omega
   rw[hpa.out]at own
   go_wp2_with fail
   go_ret2
   exact⟨some ⟨g1,0,none⟩,j,by rw[hX.out,hcl.out];rfl,by rw[hX.out,hcl.out];exact Qmo (d:=cmd0) Qar own hcl.out,B.lat⟩
theorem Qnk (x:List UInt8) (ps:List (List UInt8)) (n i:Nat) (h:i<n):(Qdk x ps n).getD i []=Qcv x ps i:=by
 rw[Qdk,QCK,QCY,QEs h]
 rfl
theorem Qjm (ks:List (List UInt8)) (j:Nat) (h:j<ks.length):ks.reverse.take (j+1)=ks.reverse.take j++[ks.getD (ks.length-1-j) []]:=by
 have hj:j<ks.reverse.length:=by rw[QEG];exact h
 rw[QDd hj,List.getElem_reverse,QCK,QCJ (show ks.length-1-j<ks.length by omega)]
 rfl
theorem Qqn (rs:List Int) (p b:List UInt8):QfV rs [p] b=Qdp p rs b:=rfl
theorem QlK {n:Nat} {st:Nat→List UInt8} {body:List UInt8} {ps:List (List UInt8)} (hn:ps.length=n) (hk:∀k,k<n→ps.getD k []=kPay (st k)) (hst:∀k,(st k).length=192) (hb:body.length=480):∀j,j≤n→QfV rsS (ps.reverse.take j) body=seaA n st body j
 | 0,_=>rfl
 | j+1,hj=>by
   have ih:=QlK hn hk hst hb j (by omega)
   have hl:=QeF (n:=n) hst hb j
   have hkl:(kPay (st (n-1-j))).length=32:=Qaq (by rw[hst];omega)
   rw[Qjm _ _ (by omega),Qg5,ih,hn,hk _ (by omega),Qqn,seaA]
   generalize seaA n st body j=X at *
   generalize kPay (st (n-1-j))=K at *
   exact (QmT okS hkl (by omega) (by omega)).2.symm
theorem Quj {n:Nat} {st:Nat→List UInt8} {body:List UInt8} {ps:List (List UInt8)} (hn:ps.length=n) (hk:∀k,k<n→ps.getD k []=kPay (st k)) (hst:∀k,(st k).length=192) (hb:body.length=480):allB rsS ps.reverse body=seaA n st body n∧allE ps.reverse body=0:=by
 have hok:Qkx body∧okK ps.reverse:=⟨⟨by omega,by omega⟩,fun p hp=>by
  obtain⟨k,hk',rfl⟩:=QEQ (List.mem_reverse.1 hp)
  have:=hk k (by omega)
  rw[QCK,QCJ hk']at this
  show ps[k].length=32
  have e:ps[k]=kPay (st k):=this
  rw[e]
  exact Qaq (by rw[hst];omega)⟩
 obtain⟨h1,h2⟩:= @QmB rsS _ _ hok
 have:=QlK hn hk hst hb n (QCP _)
 rw[QCQ (by rw[QEG];omega)]at this
 exact⟨h1.trans this,h2⟩
theorem QpP {w:World} {g n:Nat} {gs:List Nat} {hs:List Hp} (hl:hs.length=n) (hb:Blk w g 22 (gs.map S32)) (hg:gs.length=n) (hgs:∀(j b:Nat),gs[j]?=some b→g<b∧Blk w b 5 ((hs.getD j hp0).nod.pub.val.map W8)):Parts w (fun _=>False) (some ⟨g,0,none⟩) n (pubH hs):=by
 refine⟨gs.map S32,hb.rd (by rw[QCF,hg]),fun _ _ _ h=>h,by rw[QCF,hg,pubH,QCF,hl],fun j v p hv hp=>?_⟩
 rw[QCY,QED]at hv
 obtain⟨b,hbj,rfl⟩:=hv
 rw[pubH,QCY,QED]at hp
 obtain⟨x,hx,rfl⟩:=hp
 have:=(hgs j b hbj).2
 rw[QCK,hx]at this
 exact QaM (Qcr this x.nod.pub.2) (QCP _)
def BkC (h:List UInt8) (fi:UInt64) (ky:List UInt8):List Value:=h.map W8++W64 fi :: ky.map W8
theorem Qch {h ky:List UInt8} (fi:UInt64) (hh:h.length=288) (hk:ky.length=32):(BkC h fi ky).length=321:=by
 simp[BkC,hh,hk]
theorem QvM {h:List UInt8} (fi:UInt64) (ky:List UInt8):∀(j:Nat) (v:Value),(h.map W8)[j]?=some v→(BkC h fi ky)[j]?=some v:=fun j v hv=>by
 rw[BkC,QCW (QCV.1 hv).1]
 exact hv
theorem Qox {h:List UInt8} (fi:UInt64) (ky:List UInt8) (hh:h.length=288):(BkC h fi ky)[288]?=some (W64 fi):=by
 rw[BkC,QCR (by rw[QCF];omega),QCF,hh]
 rfl
theorem QvL {h:List UInt8} (fi:UInt64) (ky:List UInt8) (hh:h.length=288):∀j v,(ky.map W8)[j]?=some v→(BkC h fi ky)[289+j]?=some v:=fun j v hv=>by
 rw[BkC,QCR (by rw[QCF];omega),QCF,hh,show 289+j-288=j+1 by omega,QCD]
 exact hv
theorem QfW (h:List UInt8) (fi:UInt64) (ky:List UInt8):∀u∈BkC h fi ky,u.oneCell'=true:=by
 intro u hu
 simp only[BkC,QD3,QCZ,QDs]at hu
 rcases hu with ⟨b,_,rfl⟩|rfl|⟨b,_,rfl⟩<;>rfl
def bakP (msg:List UInt8):Prt:=⟨3,0,0,1,msg⟩
theorem QnM {msg:List UInt8} (h:msg.length≤450):prtE (bakP msg)=0∧(Qbr (bakP msg)).length=480:=by
 refine⟨?_,Qe9 _ h⟩
 unfold prtE bakP
 rw[if_neg (show ¬((3:UInt8)<1∨3<(3:UInt8)) by decide),if_neg (by show ¬ 450<msg.length;omega),if_neg (by show ¬((1:Int)<1∨16<(1:Int)∨(0:Int)<0∨(1:Int)≤0);omega),if_neg (by simp),if_neg (by simp)]
def useB (ky msg:List UInt8):List UInt8:=Qb9 ky (Qbr (bakP msg)) rsS
theorem QiD {ky msg:List UInt8} (hk:ky.length=32) (h:msg.length≤450):QdF ky (Qbr (bakP msg)) rsS=0∧(useB ky msg).length=480:=by
 have hf:=(QnM h).2
 have hfit:fitW ky (Qbr (bakP msg)):=⟨hk,by omega,by omega⟩
 refine⟨by rw[QdF,if_pos okS,if_pos hfit],?_⟩
 rw[useB,Qb9,if_pos okS,if_pos hfit,QbX _ _ _ (by omega),hf]
theorem Qqq (A:Option Addr) (n c:Nat) (msg:List UInt8):Tryz.prog.built 110 [(0,.int .u8 3),(3,.int .i64 1),(4,.slice A n c)]=some (PaC (bakP msg) (.slice A n c)).toArray:=by kernel_rfl
set_option maxRecDepth 100000 in
set_option maxHeartbeats 4000000 in
theorem Qvk (h:List UInt8) (hh:h.length=288) (fi:UInt64) (ky:List UInt8) (hk:ky.length=32) (A:Option Addr) (n c:Nat) (msg:List UInt8) (w:World) (hr:RdB w A n msg) (hn:n≤450):
 Calls Tryz.prog 14 #[.agg (BkC h fi ky).toArray,.slice A n c] w fun e w'=>e= .returned (.tuple #[.agg ((h++useB ky msg).map W8).toArray,.int .i64 0])∧Later w w':=by
 have hl:=hr.len
 have HZ:=hid zcP
 have C1:=QaW w 42 (BkC h fi ky)
 have C2:=C1.fresh (Qaa _ (.cells Tryz.zeroCells53 53)) (QCP _) ((Blk.new (w.alloc (.cells (BkC h fi ky).toArray 42)) _ Tryz.zeroCells53.toList).cast zcP)
 have hsz:(w.alloc (.cells (BkC h fi ky).toArray 42)).heap.size=w.heap.size+1:=by simp only[World.alloc,QEZ]
 rw[hsz]at C2
 obtain⟨f1,f2⟩:=QnM (msg:=msg) (by omega)
 obtain⟨u1,u2⟩:=QiD (ky:=ky) (msg:=msg) hk (by omega)
 have hbp:=hid Qqq
 have hb1:=hid (QpB h hh)
 have hFr:=hid (fun w h=>Qpz (bakP msg) A n c w h (by omega))
 have hfr:frmR (bakP msg)=Qbr (bakP msg):=by rw[frmR,if_pos f1]
 rw[hfr,f1,f2]at hFr
 have hSe:=hid (fun A2 c2 A3 c3 w h1 h2 h3 h4=>Qly A2 A3 32 c2 480 c3 ky (Qbr (bakP msg)) w h1 h3 h2 h4 (by omega) (by omega))
 rw[u1,show Qb9 ky (Qbr (bakP msg)) rsS=useB ky msg from rfl,u2]at hSe
 have l1:((QCC 768 (0:UInt8)).map W8).length=768:=by rw[QCF,QCS]
 have hpt:Hid (putB (h++QCC 480 (0:UInt8)) 288 (useB ky msg)=h++useB ky msg):=hid (Qe4 _ _ _ 288 hh (by rw[QCS,u2]))
 have lP:(h++QCC 480 (0:UInt8)).length=768:=by rw[QCM,hh,QCS]
 have hRl:(h++useB ky msg).length=768:=by rw[QCM,hh,u2]
 have g1:decide ((450:Int)<(n:Int))=false:=decide_eq_false (by omega)
 have g2:decide (450<n)=false:=decide_eq_false (by omega)
 have hhl:(h.map W8).length=288:=by rw[QCF,hh]
 clear f1 f2 u1 hfr hl C1 hsz
 replace hhl:=hid hhl
 generalize h++useB ky msg=R at *
 generalize h++QCC 480 (0:UInt8)=P1 at *
 generalize useB ky msg=SB at *
 generalize Qbr (bakP msg)=FB at *
 go_enter Tryz.func14,Tryz.ntmps14
 go_wp2_with (first
  | (refine go_b rfl ?_;refine Qaj ?hw 110 _ rfl (PaC (bakP msg) (.slice A n c)) (by simp only[QCT,QC9,QC3];exact hbp.out A n c msg) ?_;(case hw=>rfl))
  | fail)
 (refine (hFr.out _ (hr.later C2.lat)).mono ?_);rintro e w3 ⟨A3,c3,rfl,o3,j3⟩
 have C3:=C2.later j3
 go_wp2_with fail
 (refine (hSe.out (some ⟨w.heap.size,289,none⟩) 32 A3 c3 _ (Qdf (C3.nth 1 rfl).lt (fun j v hv=>(C3.nth 1 rfl).cellD _ (QvL fi ky hh j v hv)) hk) (OwnB.rd o3) (QCP _) (OwnB.cap o3)).mono ?_);rintro e w4 ⟨j4,A4,c4,rfl,o4⟩
 have C4:=C3.later j4
 clear C2 C3 hFr hSe o3
 go_wp2_with (first
  | (refine go_l rfl ?_;refine Qan ?hw 39 _ rfl w.heap.size 0 (h.map W8) (fun j v hv=>by rw[QC4];exact (C4.nth 1 rfl).cellD _ (QvM fi ky j v hv)) rfl _ Tryz.underlying39 rfl (by rw[hhl.out];exact Qb6) ?_;(case hw=>rfl))
  | (refine go_b rfl ?_;refine Qaj ?hw 53 _ rfl (P1.map W8) (by simp only[QCT,QC9,QC3];exact hb1.out) ?_;(case hw=>rfl))
  | (refine QaZ rfl ?_;refine QhB rfl rfl _ _ rfl ((Blk.new w4 _ Tryz.zeroCells53.toList).cast HZ.out) rfl rfl lP l1 ?_;intro wa hba hoa
     have Ba:=C4.push (Qaa _ _) (QCP _) hoa hba
     have oa:=o4.later ((Qaa w4 (.cells Tryz.zeroCells53 53)).only hoa (QCP _)))
  | (refine Qlc 288 480 rfl _ _ _ _ rfl 5 Tryz.underlying22 Qbt (Ba.nth 0 rfl) (OwnB.rd oa) rfl rfl (by omega) ?_;intro wb hbb hob
     rw[hpt.out]at hbb
     have Bb:=Ba.write 0 rfl hob hbb)
  | (refine QsS rfl _ rfl (Bb.nth 0 rfl) hRl rfl ?_)
  | (refine QhB rfl rfl _ _ rfl (Bb.nth 1 rfl) rfl rfl hRl l1 ?_;intro wc hbc' hoc)
  | fail)
 exact bodyPost_ret (Qai rfl _ _ _ _ _ _ hbc' rfl Tryz.underlying53 rfl (by rw[QCF,hRl];exact QgN)) rfl ⟨rfl,Bb.lat.only hoc (by omega)⟩
theorem Qfg:(Tryz.prog.info? 24).map (·.size)=some 16:=by kernel_rfl
set_option maxRecDepth 100000 in
set_option maxHeartbeats 2000000 in
theorem Qjx (mk:Y16) (A:Option Addr) (c:Nat) (w:World):
 Calls Tryz.prog 38 #[.agg (mk.val.map W8).toArray,.slice A 0 c] w fun e w'=>e= .returned (.tuple #[.int .i64 0,.bool false])∧Later w w':=by
 have B0:=QaW w 24 (mk.val.map W8)
 go_enter Tryz.func38,Tryz.ntmps38
 go_wp2_with fail
 go_loopw [9] (fun v9 wr=>v9= .int .i64 0∧Later w wr) (fun _ _=>0)
 case atStart=>exact⟨rfl,B0.lat⟩
 case round=>
  obtain⟨rfl,L⟩:=hrel
  go_wp2_with fail
  go_ret2
  exact⟨rfl,L⟩
set_option maxRecDepth 100000 in
set_option maxHeartbeats 2000000 in
theorem QmG (mk:Y16) (g o c:Nat) (w:World) (hg:g<w.heap.size) (hc:∀(j:Nat) (v:Value),(mk.val.map W8)[j]?=some v→w.cell? ⟨g,o+j,none⟩=some v):
 Calls Tryz.prog 38 #[.agg (mk.val.map W8).toArray,.slice (some ⟨g,o,none⟩) 1 c] w fun e w'=>e= .returned (.tuple #[.int .i64 0,.bool true])∧Later w w':=by
 have B0:=QaW w 24 (mk.val.map W8)
 have hl16:(mk.val.map W8).length=16:=by rw[QCF,mk.2]
 replace hl16:=hid hl16
 go_enter Tryz.func38,Tryz.ntmps38
 go_wp2_with fail
 go_loopw [9] (fun v9 wr=>v9= .int .i64 0∧Later w wr∧Bag w wr [(w.heap.size,24,mk.val.map W8)]) (fun _ _=>1)
 case atStart=>exact⟨rfl,B0.lat,B0⟩
 case round=>
  clear B0
  obtain⟨rfl,L,B⟩:=hrel
  have BD:=B.drew
  have hc':=hid (fun w' (l:Later wr w') (j:Nat) (v:Value) hv=>((L.trans l).below.cell (p:=⟨g,o+j,none⟩) hg).trans (hc j v hv))
  go_wp2_with fail
  refine Qag [] [0,1,2,3,4,5,6] [] (by as_aux_lemma=>kernel_rfl) (by as_aux_lemma=>kernel_rfl) (by intro _ _ d _ _ h;cases d<;>exact h) ?_
  simp only[Qah,pick,QCD,QCE,QCG,QCI,QCH]
  repeat (first|go_big_quiet_skip|(go_big_quiet_want;(first|refine Qav 24 _ rfl w.heap.size 0 (mk.val.map W8) (fun w' hw j v hv=>by obtain⟨y,rfl⟩:=hw;rw[QC4];exact ((BD.later ⟨y,rfl⟩).nth 0 rfl).cellD j hv) rfl _ Tryz.underlying24 rfl (by rw[hl16.out];exact Qfg) ?_|refine Qav 24 _ rfl g o (mk.val.map W8) (fun w' hw j v hv=>by obtain⟨y,rfl⟩:=hw;exact hc'.out _ ((Qab _).trans ⟨y,rfl⟩) j v hv) rfl _ Tryz.underlying24 rfl (by rw[hl16.out];exact Qfg) ?_);simp only[Act.put,QCL,QCO,QCN];go_big_quiet_on)|(go_big_quiet_step (fail)))
  refine wpQuiet_nil ?_
  go_wp2_with fail
  go_ret2
  exact⟨rfl,BD.lat⟩
theorem QlM (g:Nat) (t:TypeId) (l:List Value) (n:Int) (w:World) (hb:Blk w g t l) (hc:l[784]?=some (.int .i64 n)):
 Calls Tryz.prog 19 #[.pointer (some ⟨g,0,none⟩)] w fun e w'=>e= .returned (.int .i64 n)∧w'=w:=by
 have c0:=hb.cellD 784 hc
 have hg:=hb.lt
 go_enter Tryz.func19,Tryz.ntmps19
 go_wp2_with fail
 go_ret
 exact⟨rfl,rfl⟩
def StC (mk:Y16) (own:List UInt8) (v:Value):List Value:=mk.val.map W8++(own.map W8++[v])
theorem QcJ (mk:Y16) {own:List UInt8} (ho:own.length=32) (v:Value):(StC mk own v).length=49:=by
 have:=mk.2
 simp[StC,ho,this]
theorem QvX (mk:Y16) (own:List UInt8) (v:Value):∀(j:Nat) (u:Value),(mk.val.map W8)[j]?=some u→(StC mk own v)[j]?=some u:=fun j u hu=>by
 rw[StC,QCW (QCV.1 hu).1]
 exact hu
theorem Qxj (mk:Y16) (own:List UInt8) (v:Value):∀(j:Nat) (u:Value),(own.map W8)[j]?=some u→(StC mk own v)[16+j]?=some u:=fun j u hu=>by
 rw[StC,QCR (by rw[QCF,mk.2];omega),QCF,mk.2,QEk,QCW (QCV.1 hu).1]
 exact hu
theorem Qfj (mk:Y16) {own:List UInt8} (ho:own.length=32) (v:Value):(StC mk own v)[48]?=some v:=by
 rw[StC,QCR (by rw[QCF,mk.2];omega),QCF,mk.2,QCR (by rw[QCF,ho];omega),QCF,ho]
 rfl
theorem Qe5 (mk:Y16) (own:List UInt8) {v:Value} (hv:v.oneCell'=true):∀u∈StC mk own v,u.oneCell'=true:=by
 intro u hu
 simp only[StC,QD3,QDs,QEK]at hu
 rcases hu with ⟨b,_,rfl⟩|⟨b,_,rfl⟩|rfl
 ·rfl
 ·rfl
 ·exact hv
def decB (own:List UInt8) (PS:List (List UInt8)) (body:List UInt8):List UInt8:=Qb9 own (allB rsS PS.reverse body) rsO
theorem QxH {own body:List UInt8} {PS:List (List UInt8)} (ho:own.length=32) (hb:body.length=480) (hp:∀p∈PS,p.length=32):allE PS.reverse body=0∧(allB rsS PS.reverse body).length=480∧QdF own (allB rsS PS.reverse body) rsO=0∧(decB own PS body).length=480:=by
 have hok:Qkx body∧okK PS.reverse:=⟨⟨by omega,by omega⟩,fun p h=>hp p (List.mem_reverse.1 h)⟩
 obtain⟨h1,h2⟩:= @QmB rsS _ _ hok
 have hl:(allB rsS PS.reverse body).length=480:=by rw[h1,Qff _ _ _ (by omega),hb]
 obtain⟨h3,h4⟩:=QmT okO ho (X:=allB rsS PS.reverse body) (by omega) (by omega)
 refine⟨h2,hl,h3,?_⟩
 rw[decB,h4,QbX _ _ _ (by omega),hl]
set_option maxRecDepth 100000 in
set_option maxHeartbeats 8000000 in
theorem QmY (mk:Y16) (own body:List UInt8) (ho:own.length=32) (AP:Option Addr) (n cp:Nat) (PS:List (List UInt8)) (A:Option Addr) (c:Nat) (w:World) (hP:RdK 32 w AP n PS) (hPl:∀p∈PS,p.length=32) (hn:n≤5) (hr:RdB w A 480 body) (hc:480≤c)
 (hE:parE (decB own PS body)=0) (hkd:(parP (decB own PS body)).kd=3):
 Calls Tryz.prog 39 #[.agg (StC mk own (.slice AP n cp)).toArray,.slice A 480 c] w fun e w'=>∃A' c',e= .returned (.tuple #[.slice A' (parP (decB own PS body)).da.length c',.int .i64 0])∧OwnB w' w.heap.size A' (parP (decB own PS body)).da.length c' (parP (decB own PS body)).da∧Later w w':=by
 have hb:=hr.len
 have hpyl:PS.length=n:=hP.1
 obtain⟨d1,d2,d3,d4⟩:=QxH ho hb hPl
 have hSa:=hid (fun A2 B2 d2' e2 w h1 h2 h3=>Qno A2 B2 480 d2' n e2 PS.reverse body w h1 h2 h3 (by omega) (by omega))
 rw[d1,d2]at hSa
 have hOp:=hid (fun A2 B2 c2 d2' w h1 h2 h3 h4=>QkW A2 B2 32 c2 480 d2' own (allB rsS PS.reverse body) w h1 h2 h3 h4 (by omega) (by omega))
 rw[d3,show Qb9 own (allB rsS PS.reverse body) rsO=decB own PS body from rfl,d4]at hOp
 have hPa:=hid (fun A2 c2 w h1 h2=>Qo7 A2 c2 (decB own PS body) w h1 h2)
 rw[hE]at hPa
 have hRt:=hid (Qjm PS)
 clear d1 d2 d3 d4 hE
 generalize parP (decB own PS body)=PP at *
 generalize decB own PS body=DB at *
 generalize allB rsS PS.reverse body=SB at *
 obtain⟨kd,pid',ix,ct,da⟩:=PP
 simp only at hkd
 subst hkd
 have B0:=QaW w 28 (StC mk own (.slice AP n cp))
 have z48:=(B0.nth 0 rfl).cellD 48 (Qfj mk ho _)
 obtain⟨w0,hW⟩:∃w0,w.alloc (.cells (StC mk own (.slice AP n cp)).toArray 28)=w0:=⟨_,rfl⟩
 rw[hW]at B0 z48
 go_enter Tryz.func39,Tryz.ntmps39
 go_wp2_with (first
  | (refine Qcf rfl _ _ _ rfl 22 (.slice none 0 0) 24 Tryz.underlying74 Quz rfl _ _ _ _ 0 n rfl rfl ?hL ?hC (by omega) (by omega) (by omega) ?_;(case hL=>rfl);(case hC=>rfl);intro w1 hown1 hl1
     have z1:=((B0.later hl1).nth 0 rfl).cellD 48 (Qfj mk ho (.slice AP n cp)))
  | fail)
 clear z48 z1 hW
 go_loopw [6,7] (fun v i wr=>∃(j:Nat) (A':Option Addr) (c':Nat) (us:List Value),j≤n∧i= .int .i64 ((n:Int)-1-(j:Int))∧v= .slice A' j c'∧wr.ownsRow w0.heap.size 22 1 (.slice A' j c') j us∧us.length=j∧Hid (∀ (q:Nat) v p,us[q]?=some v→(PS.reverse.take j)[q]?=some p→Part w0 (fun _=>False) v p)∧Later w0 wr) (fun _ i _=>(intOf i+1).toNat)
 case atStart=>exact⟨0,_,_,[],by omega,by simp,rfl,hown1,rfl,hid (fun q v p h=>by simp at h),hl1⟩
 case round=>
  clear hown1 hl1
  obtain⟨j,A9,c9,us,hj,rfl,rfl,hown,hul,hu3,LB⟩:=hrel
  have Bw:=B0.later LB
  have zr:=(Bw.nth 0 rfl).cellD 48 (Qfj mk ho (.slice AP n cp))
  by_cases hjn:j<n
  ·obtain⟨i,hi⟩:∃i,i=n-1-j:=⟨_,rfl⟩
   have hcast:(n:Int)-1-(j:Int)=(i:Int):=by omega
   rw[hcast]
   have hik:i<n:=by omega
   obtain⟨b,o,rfl,hbb,hcl⟩:=(hP.later B0.lat).at_ hik
   have hpm:(PS.getD i []).length=32:=hPl _ (QdC PS i (by omega))
   have hpt:Part w0 (fun _=>False) (.slice (some ⟨b,o+i*32,none⟩) 32 32) (PS.getD i []):=QaM (Qdf hbb (fun q v hv=>hcl q v hv) hpm) (QCP _)
   have HS:=hid (hRt.out j (by rw[hpyl];exact hjn))
   rw[hpyl,←hi]at HS
   generalize PS.getD i []=q at *
   replace hcast:=hid hcast
   replace hi:=hid hi
   have hge:(0:Int)≤(i:Int):=by omega
   have hiI:(i:Int)<(n:Int):=by omega
   clear hcl
   go_wp2_with (first
    | (refine QbD rfl _ _ _ rfl 22 _ 24 Tryz.underlying74 Quz rfl w0 _ j us (Qa5 hown (Qaa _ _)) (LB.trans (Qaa _ _)) _ 1 1 [.slice (some ⟨b,o+i*32,none⟩) 32 32] (Qid (Qre wr _ [.slice (some ⟨b,o+i*32,none⟩) 32 32] (by simp))) ?h1 rfl rfl (by omega) (by omega) ?_;(case h1=>simp[QqK]);intro A2 c2 w2 hown2 hl2 hg2 _)
    | fail)
   exact⟨⟨j+1,A2,c2,us++[.slice (some ⟨b,o+i*32,none⟩) 32 32],by omega,by rw[show (n:Int)-1-((j+1:Nat):Int)=(i:Int)-1 by have:=hcast.out;omega],rfl,hown2,by rw[QCM,hul];rfl,hid (fun q' v p hv hp=>by
    rw[HS.out]at hp
    rcases QDJ q' j with h|h
    ·rw[QCW (by omega)]at hv
     rw[QCW (by rw[QC5,QEG];omega)]at hp
     exact hu3.out q' v p hv hp
    ·have hq:q'=j:=by
      have:=(QCV.1 hv).1
      simp[hul]at this
      omega
     subst hq
     rw[QCR (by omega),hul,QDL]at hv
     rw[QCR (by rw[QC5,QEG];omega),QC5,QEG,hpyl,QDK (by omega),QDL]at hp
     cases hv
     cases hp
     exact hpt),hl2⟩,by simp only[intOf];omega⟩
  ·obtain rfl:j=n:=by omega
   have hge: ¬(0:Int)≤(j:Int)-1-(j:Int):=by omega
   rw[QCQ (by rw[QEG];omega)]at hu3
   have hpr:Parts wr (fun _=>False) A9 j PS.reverse:=⟨us,Qid hown,fun _ _ _ h=>h,by rw[hul,QEG,hpyl],fun q v p hv hp=>(hu3.out q v p hv hp).later LB⟩
   clear hu3 hown B0
   go_wp2_with fail
   (refine (hSa.out _ _ _ _ _ (hr.later Bw.lat) hc hpr).mono ?_);rintro e w3 ⟨j3,A3,c3,rfl,o3⟩
   have B3:=Bw.later j3
   clear Bw hSa hpr zr
   go_wp2_with fail
   (refine (hOp.out (some ⟨w.heap.size,16,none⟩) A3 32 c3 _ (Qdf (B3.nth 0 rfl).lt (fun q v hv=>(B3.nth 0 rfl).cellD _ (Qxj mk own _ q v hv)) ho) (QCP _) (OwnB.rd o3) (OwnB.cap o3)).mono ?_);rintro e w4 ⟨j4,A4,c4,rfl,o4⟩
   have B4:=B3.later j4
   clear B3 hOp o3
   go_wp2_with fail
   (refine (hPa.out _ _ _ (OwnB.rd o4) (OwnB.cap o4)).mono ?_);rintro e w5 ⟨A5,c5,rfl,o5,j5⟩
   have B5:=B4.later j5
   have o5':=Qc3 o5 B4.lat.size
   clear B4 hPa o4 o5
   go_wp2_with (first
    | (refine QaZ rfl ?_;refine Qdq (p:=⟨3,pid',ix,ct,da⟩) (v:=.slice A5 da.length c5) rfl rfl _ _ rfl (Blk.new w5 _ pz0) rfl rfl rfl rfl ?_;intro w6 hb6 ho6
       have l6:Later w5 w6:=(Qaa w5 _).only ho6 (QCP _)
       obtain⟨k0,_,_,_,k4⟩:=QcP hb6)
    | fail)
   go_ret2
   exact⟨A5,c5,rfl,Qa5 o5' l6,B5.lat.trans l6⟩
def FY (s:Y32):List Value:=s.val.map W8
theorem Qb3 (s:Y32):(FY s).length=32:=by rw[FY,QCF,s.2]
theorem QvH (s:Y32):∀u∈FY s,u.oneCell'=true:=QaH _
theorem QAd:(Tryz.prog.info? 25).map (fun i=>(i.zero,i.size,i.bytes))=some (some (.agg (FY QbY).toArray),32,32):=by kernel_rfl
section
variable {P:Program} {ops:Array Oper} {rest:List Oper} {o:Oper} {a:Act} {w:World} {Q:Exit→Act→World→Prop} {α:Type} {F:α→List Value} {sz:Nat} {d:α}
theorem QpR (w:World) (dT sT ty elem:TypeId) (g o dLen dCap:Nat) (a:Addr) (sLen sCap:Nat) (cur:Array Value) (t:TypeId) (cs:List Value)
 (hu:P.underlying dT=some (.slice elem)) (hs:(P.info? elem).map (·.size)=some sz)
 (hg:w.heap[g]?=some (.cells cur t (0,0))) (hn:cs.length=Nat.min sLen dLen*sz)
 (hsrc:∀j v,cs[j]?=some v→w.cell? (a.add j)=some v) (hfit:o+cs.length≤cur.size) (h1:∀v∈cs,v.oneCell'=true):
 (Builtin.copy_ #[dT,sT] ty #[.slice (some ⟨g,o,none⟩) dLen dCap,.slice (some a) sLen sCap]).run P w=
   .ok (goInt (Nat.min sLen dLen)) (w.setRow g (cur.toList.take o++cs++cur.toList.drop (o+cs.length)).toArray):=by
 have hst:=run_storeCells_at P g o t cs 0 cur w hg (by simpa using hfit) h1
 have hf:=run_firstCells_some (P:=P) (w:=w) sz (Nat.min sLen dLen) a sLen sCap cs hn hsrc
 cases hq:P.info? elem with
 | none=>simp[hq]at hs
 | some i=>
   have hi:i.size=sz:=by simpa [hq] using hs
   simp[Builtin.copy_,run_underlying hu,Builtin.lenOf,sizeOf,typeInfo,hq,hi,hf,hst]
theorem Qj8 (hF:∀x,(F x).length=sz) (hF1:∀x,∀u∈F x,u.oneCell'=true) (h0:0<sz) (hgd:o.guard=none) (dd s:Operand) (dT sT:TypeId) (ho:o.op= .call { callee:=.builtin .copy,args:= #[dd,s],argTypes:= #[dT,sT] }) (elem:TypeId) (hu:P.underlying dT=some (.slice elem)) (hsz:(P.info? elem).map (·.size)=some sz)
 (g n dCap:Nat) (hn:0<n) (t:TypeId) (l:List Value) (hg:Blk w g t l) (hl:l.length=n*sz) (A:Option Addr) (c:Nat) (xs:List α) (hr:RdF F sz d w A n xs)
 (hd:a.eval dd= .slice (some ⟨g,0,none⟩) n dCap) (hs:a.eval s= .slice A n c)
 (h:∀w',Blk w' g t (xs.flatMap F)→Only g w w'→wpList P ops Q rest (a.put o.dst (.int .i64 (n:Int))) w'):wpList P ops Q (o :: rest) a w:=by
 have hlen:(xs.flatMap F).length=n*sz:=by rw[Qbk hF,hr.1]
 obtain⟨b,off,rfl,hb,_⟩:=hr.2 hn
 have hrun:=QpR (P:=P) w dT sT o.type elem g 0 n dCap ⟨b,off,none⟩ n c l.toArray t (xs.flatMap F) hu hsz hg (by rw[hlen,show Nat.min n n=n from Nat.min_self n]) (hr.cells hF h0) (by rw[hlen];simp[hl]) (fun v hv=>by
  obtain⟨x,_,hx⟩:=List.mem_flatMap.1 hv
  exact hF1 x v hx)
 have e:l.toArray.toList.take 0++xs.flatMap F++l.toArray.toList.drop (0+(xs.flatMap F).length)=xs.flatMap F:=by
  rw[hlen,QC4,←hl]
  simp
 rw[e,show Nat.min n n=n from Nat.min_self n]at hrun
 generalize xs.flatMap F=cs at *
 refine wpList_plain hgd fun K hK=>?_
 unfold Oper.wp
 simp[execOp,ho,resolve,invoke,builtin,hd,hs,hrun,Result.andThen]
 exact hK _ _ (h _ (setRow_heap w g l.toArray cs.toArray t _ hg) (QfT w g _))
end
theorem QzL {w:World} {A:Option Addr} {n:Nat} {PY:List Y32} (h:RdF FY 32 QbY w A n PY):RdK 32 w A n (PY.map (·.val)):=by
 refine⟨by rw[QCF];exact h.1,fun hn=>?_⟩
 obtain⟨b,o,hA,hb,hc⟩:=h.2 hn
 refine⟨b,o,hA,hb,fun j i v hj hv=>hc j i v hj ?_⟩
 have hl:=h.1
 have e1:(PY.map (·.val)).getD j []=(PY.getD j QbY).val:=by
  rw[QCK,QCY,QCJ (show j<PY.length by omega),QCK,QCJ (show j<PY.length by omega)]
  rfl
 rw[e1]at hv
 exact hv
noncomputable def Qgx (hs:List Hp):Bool:=hs.all fun h=>Qbe h.nod.priv.val (nb 9)==h.nod.pub.val
theorem QuN {hs:List Hp} {k:Nat} (hk:k<hs.length) (h:(Qbe (hs.getD k hp0).nod.priv.val (nb 9)==(hs.getD k hp0).nod.pub.val)=false):Qgx hs=false:=by
 rw[Qgx,List.all_eq_false]
 refine⟨hs[k],QD0 hk,?_⟩
 rw[QCK,QCJ hk]at h
 exact Bool.eq_false_iff.1 h
theorem Qrn {hs:List Hp} (h:∀j,j<hs.length→Qbe (hs.getD j hp0).nod.priv.val (nb 9)=(hs.getD j hp0).nod.pub.val):Qgx hs=true:=by
 rw[Qgx,QDn]
 intro x hx
 obtain⟨k,hk,rfl⟩:=QEQ hx
 have:=h k hk
 rw[QCK,QCJ hk]at this
 exact beq_iff_eq.2 this
theorem QsV {hs:List Hp} (h:Qgx hs=true):∀j,j<hs.length→Qbe (hs.getD j hp0).nod.priv.val (nb 9)=(hs.getD j hp0).nod.pub.val:=by
 intro j hj
 rw[Qgx,QDn]at h
 have:=h hs[j] (QD0 hj)
 rw[QCK,QCJ hj]
 exact beq_iff_eq.1 this
set_option maxRecDepth 100000 in
set_option maxHeartbeats 8000000 in
theorem Qpr (A:Option Addr) (n c:Nat) (hs:List Hp) (w:World) (hh:RdH w A n hs) (hn:n≤1048576):
 Calls Tryz.prog 8 #[.slice A n c] w fun e w'=>e= .returned (.bool (Qgx hs))∧Later w w':=by
 have hl:=hh.1
 have hno:=hid (fun k h1 h2=>QuN (hs:=hs) (k:=k) h1 h2)
 have hys:=hid (fun h=>Qrn (hs:=hs) h)
 rw[hl]at hno hys
 generalize Qgx hs=R at *
 go_enter Tryz.func8,Tryz.ntmps8
 go_wp2_with fail
 go_loopw [9] (fun i wr=>∃k:Nat,k≤n∧i= .int .i64 k∧Hid (∀ j,j<k→Qbe (hs.getD j hp0).nod.priv.val (nb 9)=(hs.getD j hp0).nod.pub.val)∧Later w wr) (fun i _=>n-(intOf i).toNat)
 case atStart=>exact⟨0,by omega,rfl,hid (fun j hj=>absurd hj (by omega)),Later.refl w⟩
 case round=>
  obtain⟨k,hk,rfl,hm,L⟩:=hrel
  by_cases hlt:k<n
  ·obtain⟨b,o,rfl,hbb,hc⟩:=(hh.later L).at_ hlt
   have hgo:=hid (fun h:Qbe (hs.getD k hp0).nod.priv.val (nb 9)=(hs.getD k hp0).nod.pub.val=>(fun j hj=>by
    by_cases e:j=k
    ·rw[e];exact h
    ·exact hm.out j (by omega):∀j,j<k+1→Qbe (hs.getD j hp0).nod.priv.val (nb 9)=(hs.getD j hp0).nod.pub.val))
   have hnk:=hid (hno.out k hlt)
   clear hm hno hys
   generalize hs.getD k hp0=z at *
   obtain⟨MY,hMY⟩:∃MY:Y32,MY.val=Qbe z.nod.priv.val (nb 9):=⟨⟨_,QaT _ _⟩,rfl⟩
   rw[←hMY]at hgo hnk
   have hPu:=hid (fun A w h=>QpD A 32 32 z.nod.priv.val w h (by omega))
   rw[←hMY]at hPu
   clear hMY
   replace hc:=hid hc
   have hzz:Tryz.zeroCells59.toList.length=68:=by kernel_rfl
   replace hzz:=hid hzz
   go_wp2_with (first
    | (refine go_l rfl ?_;refine Qan rfl 59 _ rfl b (o+k*68) (HC z) hc.out rfl _ Tryz.underlying59 rfl (by rw[Qa4];exact QgM) ?_)
    | (refine QaZ rfl ?_;refine QaC rfl rfl 59 _ _ rfl wr.heap.size _ _ (HC z) (Blk.new wr _ Tryz.zeroCells59.toList) rfl rfl 68 QgM (Qa4 _) hzz.out (QoI _) ?_;intro w3 hb3 ho3
       have B3:Bag w w3 [(wr.heap.size,59,HC z)]:=((Bag.none w).later L).push (Qaa _ _) (QCP _) ho3 hb3
       have hl3:=(B3.nth 0 rfl).lt)
    | fail)
   (refine (hPu.out _ _ (Qdf hl3 (fun j v hv=>(B3.nth 0 rfl).cellD _ (QjF z (Qsy _ hv))) z.nod.priv.2)).mono ?_);rintro e w4 ⟨rfl,j4⟩
   have B4:=B3.later j4
   have hcp:∀(w':World),Bag w w' [(w4.heap.size,25,MY.val.map W8),(wr.heap.size,59,HC z)]→∀j v,(z.nod.pub.val.map W8)[j]?=some v→w'.cell? ⟨wr.heap.size,34+j,none⟩=some v:=fun w' B j v hv=>(B.nth 1 rfl).cellD _ (QjF z (Qwd _ hv))
   replace hcp:=hid hcp
   cases heq:(MY.val==z.nod.pub.val)
   ·have hnq:(MY.val != z.nod.pub.val)=true:=by rw[bne,heq];rfl
    obtain rfl:=hnk.out heq
    go_wp2_with (first
     | (refine QaZ rfl ?_;refine QaG rfl rfl _ _ rfl (Blk.new w4 _ (QCC 32 (.int .u8 0))) rfl rfl MY.2 rfl ?_;intro w5 hb5 ho5
        have B5:=B4.push (Qaa _ _) (QCP _) ho5 hb5)
     | (refine go_l rfl ?_;refine QgW rfl _ rfl (fun j v hv=>by rw[QC4];exact (B5.nth 0 rfl).cellD j hv) MY.2 rfl ?_)
     | (refine go_l rfl ?_;refine QgW rfl _ rfl (hcp.out _ B5) z.nod.pub.2 rfl ?_)
     | fail)
    go_ret
    exact⟨rfl,B5.lat⟩
   ·have hgo':=hid (hgo.out (by simpa using heq))
    have hnq:(MY.val != z.nod.pub.val)=false:=by rw[bne,heq];rfl
    go_wp2_with (first
     | (refine QaZ rfl ?_;refine QaG rfl rfl _ _ rfl (Blk.new w4 _ (QCC 32 (.int .u8 0))) rfl rfl MY.2 rfl ?_;intro w5 hb5 ho5
        have B5:=B4.push (Qaa _ _) (QCP _) ho5 hb5)
     | (refine go_l rfl ?_;refine QgW rfl _ rfl (fun j v hv=>by rw[QC4];exact (B5.nth 0 rfl).cellD j hv) MY.2 rfl ?_)
     | (refine go_l rfl ?_;refine QgW rfl _ rfl (hcp.out _ B5) z.nod.pub.2 rfl ?_)
     | fail)
    exact⟨⟨k+1,by omega,by go_num,hgo',B5.lat⟩,by simp[intOf];omega⟩
  ·obtain rfl:k=n:=by omega
   obtain rfl:=hys.out hm.out
   go_wp2_with fail
   go_ret
   exact⟨rfl,L⟩
end Go.Proofs.YticcbmhcgmhohaaGreat
