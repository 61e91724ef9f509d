/-
  Lemmas for the last text of this claim (part 13 of 20).
-/
import Derived.ArgAppend
import Derived.BigQuiet
import Derived.BigRegion
import Derived.ChangeOld
import Derived.Deep.RegionWith
import Derived.DeepKeys4
import Derived.JoinedCond
import Derived.LaidMore
import Derived.Laws.CopyOwn
import Derived.Laws.Externs
import Derived.Laws.IdiomStrings
import Derived.Laws.Tables
import Derived.Lib.AppendStr
import Derived.Lib.AppendZerosOnto
import Derived.Lib.Mul64
import Derived.Lib.SlBytesConst
import Derived.LoopN
import Derived.Maps.OwnSet
import Derived.OpenShut
import Derived.OrdersHeld
import Derived.ProofKit
import Derived.Shelf.Spec.BitsCarry
import Derived.ShutString
import Derived.Test.YtcbdgnlcknllnaaGreatProg
import Derived.Test.YtcbdgnlcknllnaaGreatRows
import Derived.WalkKit
import Derived.WalkLawsBesides
import Derived.WalkSpells
import Derived.Test.YtcbdgnlcknllnaaGreatQC
import Derived.Test.YtcbdgnlcknllnaaGreatQK
import Derived.Test.YtcbdgnlcknllnaaGreatQL
open Bool renaming eq_iff_iff → Qy7, or_eq_true → QAn, false_or → QAq
open List renaming getElem?_cons_succ → Qym, getElem?_cons_zero → Qyn, length_map → Qyo, nil_append → Qyr, cons_append → Qys, map_toArray → Qyw, set_cons_zero → Qyx, set_cons_succ → Qyy, length_append → Qyz, getElem?_append_right → QyC, map_nil → QyD, getElem?_map → QyF, getElem?_append_left → QyG, mem_cons → QyI, map_cons → QyJ, not_mem_nil → QyN, append_nil → QyT, length_take → QyW, length_set → QyY, map_append → QyZ, range → Qy0, set_append_right → Qy3, mem_append → Qy8, getElem?_eq_none → Qzo, getElem?_take → QzO, getElem?_range → QzX, any_eq_true → Qz6, range_succ → QAf, flatMap_append → QAg
open Nat renaming le_refl → Qyv, le_trans → QyX, add_mul → QAr
open Option renaming toList_some → Qyp
open UInt64 renaming toNat_inj → Qz9
set_option linter.all false
namespace Go.Proofs.YtcbdgnlcknllnaaGreat
open Go.RowKit
open Go.BigFrame
def ctOf (ks:List Prt):Int:=(ks.getLast?.map (·.ct)).getD 0
def hvOf (ks:List Prt):List Bool:=(Qy0 16).map fun (i:Nat)=>ks.any (fun q=>q.ix==(i:Int))
def MsC (id:UInt64) (ks:List Prt) (pv:List Value):List Value:=W64 id :: .int .i64 (ctOf ks) :: .int .i64 (ks.length:Nat) :: ((hvOf ks).map Value.bool++pv)
theorem Qhu (id:UInt64) (ks:List Prt) (pv:List Value) (h:pv.length=16):(MsC id ks pv).length=35:=by simp[MsC,hvOf,h]
theorem QlP {ks:List Prt} (h:KeptOk ks) (hne:ks≠[]) (p:Prt):ks.any (fun q=>(pid q).ct != p.ct||(pid q).ix==p.ix)=((p.ct != ctOf ks)||ks.any (fun q=>q.ix==p.ix)):=by
 have hl:ks.getLast?=some (ks.getLast hne):=List.getLast?_eq_some_getLast hne
 have hm:=List.getLast_mem hne
 generalize ks.getLast hne=l at hl hm
 have hc:ctOf ks=l.ct:=by rw[ctOf,hl];rfl
 rw[hc]
 have hs:=fun q hq=>h.same q hq l hm
 by_cases hp:p.ct=l.ct
 ·have e:(p.ct != l.ct)=false:=by simp[hp]
  rw[e,QAq]
  apply Qy7.2
  rw[Qz6,Qz6]
  constructor
  ·rintro⟨q,hq,hb⟩
   refine⟨q,hq,?_⟩
   have:(q.ct != p.ct)=false:=by simp[hs q hq,hp]
   simpa [this] using hb
  ·rintro⟨q,hq,hb⟩
   exact⟨q,hq,by simp[hb]⟩
 ·have e:(p.ct != l.ct)=true:=by simp[hp]
  rw[e,Bool.true_or,Qz6]
  exact⟨l,hm,by simp only[QAn,bne_iff_ne];exact .inl (fun e=>hp (Eq.symm e))⟩
theorem QfX (ks:List Prt) {i:Nat} (h:i<16):((hvOf ks).map Value.bool)[i]?=some (.bool (ks.any (fun q=>q.ix==(i:Int)))):=by
 simp[hvOf,h]
theorem QoM (ks:List Prt) (p:Prt) {i:Nat} (h:i<16) (hp:p.ix=(i:Int)):((hvOf ks).map Value.bool).set i (.bool true)=(hvOf (ks++[p])).map Value.bool:=by
 apply List.ext_getElem?
 intro j
 rw[List.getElem?_set]
 by_cases hij:i=j
 ·subst hij
  rw[if_pos rfl,if_pos (by simp[hvOf,h]),QfX _ h]
  simp[hp]
 ·rw[if_neg hij]
  by_cases hj:j<16
  ·have hne:(p.ix==(j:Int))=false:=by
    rw[hp,beq_eq_false_iff_ne]
    omega
   rw[QfX _ hj,QfX _ hj,List.any_append]
   simp[hne]
  ·rw[Qzo (by simp[hvOf];omega),Qzo (by simp[hvOf];omega)]
theorem QiX (ks:List Prt) (p:Prt):ctOf (ks++[p])=p.ct:=by simp[ctOf]
theorem Qrd (id:UInt64) (ks:List Prt) (pv:List Value) (p:Prt) {i:Nat} (h:i<16) (hp:p.ix=(i:Int)) (v:Value):
 (((((MsC id ks pv).set 1 (.int .i64 p.ct)).set 2 (.int .i64 ((ks.length:Int)+1))).set (3+i) (.bool true)).set (19+i) v)=MsC id (ks++[p]) (pv.set i v):=by
 have hl:((hvOf ks).map Value.bool).length=16:=by simp[hvOf]
 have e1:3+i=i+1+1+1:=by omega
 have e2:19+i=(i+16)+1+1+1:=by omega
 rw[MsC,MsC,e1,e2]
 simp only[Qyy,Qyx]
 rw[List.set_append_left _ _ (by omega),Qy3 _ _ (by rw[QyY];omega),QyY,hl,QoM ks p h hp,QiX,Qyz,List.length_singleton]
 simp
theorem Qnv {ks:List Prt} {p:Prt} {i:Nat} (hp:p.ix=(i:Int)) (hn:∀q∈ks,q.ix≠p.ix) (j:Nat):daAt (ks++[p]) j=if j=i then p.da else daAt ks j:=by
 unfold daAt
 rw[List.find?_append]
 by_cases hij:j=i
 ·subst hij
  rw[if_pos rfl]
  have h1:ks.find? (fun q=>q.ix==(j:Int))=none:=by
   rw[List.find?_eq_none]
   intro q hq
   have:=hn q hq
   rw[hp]at this
   simpa using this
  rw[h1]
  simp[hp]
 ·rw[if_neg hij]
  have h1:[p].find? (fun q=>q.ix==(j:Int))=none:=by
   rw[List.find?_eq_none]
   intro q hq
   obtain rfl:q=p:=by simpa using hq
   simp[hp]
   omega
  rw[h1]
  cases ks.find? (fun q=>q.ix==(j:Int))<;>rfl
def PieceAt (w:World) (base:Nat) (v:Value) (da:List UInt8):Prop:=(v= .slice none 0 0∧da=[])∨∃gp,v= .slice (some ⟨gp,0,none⟩) da.length da.length∧base≤gp∧Blk w gp 5 (da.map W8)
structure MsgAt (w:World) (base g:Nat) (id:UInt64) (ks:List Prt) (pv:List Value):Prop where
 blk:Blk w g 133 (MsC id ks pv)
 low:base≤g
 len:pv.length=16
 pcs:∀i v,pv[i]?=some v→PieceAt w base v (daAt ks i)
section
variable {w w':World} {base g:Nat} {id:UInt64} {ks:List Prt} {pv:List Value}
theorem PieceAt.later {v:Value} {da:List UInt8} (h:PieceAt w base v da) (hl:Later w w'):PieceAt w' base v da:=
 h.imp (fun h=>h) fun ⟨gp,h1,h2,h3⟩=>⟨gp,h1,h2,h3.later hl⟩
theorem PieceAt.only {v:Value} {da:List UInt8} {t:TypeId} {l:List Value} (h:PieceAt w base v da) (hg:Blk w g t l) (hne:t≠5) (ho:Only g w w'):PieceAt w' base v da:=
 h.imp (fun h=>h) fun ⟨gp,h1,h2,h3⟩=>⟨gp,h1,h2,h3.only ho (fun e=>by
  subst e
  have:=hg.symm.trans h3
  simp only[Option.some.injEq,Obj.cells.injEq]at this
  exact hne this.2.1)⟩
theorem MsgAt.later (h:MsgAt w base g id ks pv) (hl:Later w w'):MsgAt w' base g id ks pv:=⟨h.blk.later hl,h.low,h.len,fun i v hv=>(h.pcs i v hv).later hl⟩
theorem MsgAt.cells (h:MsgAt w base g id ks pv):w.cell? ⟨g,0,none⟩=some (W64 id)∧w.cell? ⟨g,1,none⟩=some (.int .i64 (ctOf ks))∧w.cell? ⟨g,2,none⟩=some (.int .i64 (ks.length:Nat)):=
 ⟨h.blk.cellD 0 rfl,h.blk.cellD 1 rfl,h.blk.cellD 2 rfl⟩
theorem MsgAt.have_ (h:MsgAt w base g id ks pv) {i:Nat} (hi:i<16):w.cell? ⟨g,3+i,none⟩=some (.bool (ks.any (fun q=>q.ix==(i:Int)))):=by
 refine h.blk.cellD (3+i) ?_
 rw[MsC,show 3+i=i+1+1+1 by omega,Qym,Qym,Qym,QyG (by simp[hvOf,hi])]
 exact QfX ks hi
end
set_option maxRecDepth 100000 in
set_option maxHeartbeats 4000000 in
theorem Qkf (base g:Nat) (id:UInt64) (ks:List Prt) (pv:List Value) (p:Prt) (A:Option Addr) (n c:Nat) (w:World) (hm:MsgAt w base g id ks pv) (hk:KeptOk ks) (hr:RdB w A n p.da) (hav:Avoid (· =g) A n) (hb:base≤w.heap.size) (hkl:ks.length≤1048576):
 Calls Tryz.prog 69 #[.pointer (some ⟨g,0,none⟩),.agg (PaC p (.slice A n c)).toArray] w fun e w'=>e= .returned (.int .i64 (tkE pid id ks p:Nat))∧(∃ pv',MsgAt w' base g id (tkK pid id ks p) pv')∧Only g w w':=by
 have hlen:=hr.len
 have hck:=hid (fun w=>Qho p A n c hlen w)
 have hE:Hid (tkE pid id ks p=if p.kd≠1∨prtE p≠0 then 3 else if p.id≠id then 4 else if ks.any (fun q=>(pid q).ct != p.ct||(pid q).ix==p.ix) then 3 else 0):=hid rfl
 have hok:=hid (fun h=>QgM (p:=p) h)
 obtain⟨c0,c1,c2⟩:=hm.cells
 have hgl:=hm.blk.lt
 obtain⟨kd,id',ix,ct,da⟩:=p
 have HM:=hid hm
 have B1:=Qbh w 36 (PaC ⟨kd,id',ix,ct,da⟩ (.slice A n c))
 obtain⟨d0,d1,d2,d3,d4⟩:=Qde (B1.nth 0 rfl)
 have c0':=HM.out.later B1.lat |>.cells
 clear hm
 go_enter Tryz.func69,Tryz.ntmps69
 have fin:∀(w':World) (E:Nat),Bag w w' [(w.heap.size,36,PaC ⟨kd,id',ix,ct,da⟩ (.slice A n c))]→tkE pid id ks ⟨kd,id',ix,ct,da⟩=E→E≠0→tkE pid id ks ⟨kd,id',ix,ct,da⟩=E∧(∃ pv',MsgAt w' base g id (tkK pid id ks ⟨kd,id',ix,ct,da⟩) pv')∧Only g w w':=by
  intro w' E B hE h0
  refine⟨hE,⟨pv,?_⟩,B.lat.onlyAny g⟩
  rw[tkK,if_neg (by rw[show pid _=(_:Prt) from rfl,hE];exact h0)]
  exact HM.out.later B.lat
 have FIN:=hid fin
 clear fin
 by_cases hkd:kd=1
 ·subst hkd
  go_wp2_with (first
   | (refine QdI rfl _ rfl (B1.nth 0 rfl) rfl ?_)
   | fail)
  (refine (hck.out _).mono ?_);rintro e w2 ⟨rfl,j2⟩
  have B2:=B1.later j2
  clear d0 d1 d2 d3 d4 c0' c0 c1 c2 hck j2 B1
  by_cases hpe:prtE ⟨1,id',ix,ct,da⟩=0
  ·rw[hpe]
   obtain⟨k1,k2,k3,k4,k5⟩:=hok.out hpe
   obtain⟨i,rfl⟩:∃i:Nat,ix=i:=⟨ix.toNat,by omega⟩
   have M2:=HM.out.later B2.lat
   obtain⟨m0,m1,m2⟩:=M2.cells
   obtain⟨d0,d1,d2,d3,d4⟩:=Qde (B2.nth 0 rfl)
   have mh:=M2.have_ (i:=i) (by omega)
   go_wp2_with fail
   refine Qad [] [0,1,2,3,4,5,6] [] (by as_aux_lemma=>kernel_rfl) (by as_aux_lemma=>kernel_rfl) (by intro _ _ d _ _ h;cases d<;>exact h) ?_
   simp only[Qaj,pick,Qym,Qyn,Qyp,Qys,Qyr]
   repeat (go_big_quiet_step (fail))
   refine wpQuiet_nil ?_
   by_cases hid1:id'=id
   ·have hb0:(id' != id)=false:=by simpa using hid1
    rw[hb0]
    go_wp2_with fail
    have hi16:(i:Int)<16:=by omega
    by_cases hacc:ks.any (fun q=>(pid q).ct != ct||(pid q).ix==(i:Int))=true
    ·have h3:tkE pid id ks ⟨1,id',i,ct,da⟩=3:=by rw[hE.out,if_neg (by rintro (h|h)<;>first|exact h rfl|exact h hpe),if_neg (fun h=>h hid1),if_pos hacc]
     have hne:ks≠[]:=by
      rintro rfl
      simp at hacc
     have hpos:decide (0<ks.length)=true:=decide_eq_true (List.length_pos_iff.2 hne)
     have hor:=QlP hk hne ⟨1,id',i,ct,da⟩
     rw[hacc]at hor
     have H3:=hid (FIN.out _ 3 (B2.later ((Qab _).trans (Qab _))) h3 (by omega))
     clear FIN HM hE hok h3 hacc
     generalize ks.any (fun q=>q.ix==(i:Int))=HV at *
     generalize ctOf ks=CT at *
     by_cases hct:ct=CT
     ·have hb1:(ct != CT)=false:=by simp[hct]
      have hHV:HV=true:=by
       rw[hb1,QAq]at hor
       exact hor.symm
      subst hHV
      clear hor
      refine Qad [] [0,1,2,3,4,5,6,7,8,9,10,11,12,13,14,15,16,17,18,19,20,21,22] [] (by as_aux_lemma=>kernel_rfl) (by as_aux_lemma=>kernel_rfl) (by intro _ _ d _ _ h;cases d<;>exact h) ?_
      simp only[Qaj,pick,Qym,Qyn,Qyp,Qys,Qyr]
      repeat (go_big_quiet_step (fail))
      refine wpQuiet_nil ?_
      go_wp2_with fail
      go_ret
      exact⟨by rw[H3.out.1];rfl,H3.out.2⟩
     ·have hb1:(ct != CT)=true:=by simp[hct]
      clear hor
      refine Qad [] [0,1,2,3,4,5,6,7,8,9,10,11,12,13,14,15,16,17,18,19,20,21,22] [] (by as_aux_lemma=>kernel_rfl) (by as_aux_lemma=>kernel_rfl) (by intro _ _ d _ _ h;cases d<;>exact h) ?_
      simp only[Qaj,pick,Qym,Qyn,Qyp,Qys,Qyr]
      repeat (go_big_quiet_step (fail))
      refine wpQuiet_nil ?_
      go_wp2_with fail
      go_ret
      exact⟨by rw[H3.out.1];rfl,H3.out.2⟩
    ·have h0:tkE pid id ks ⟨1,id',i,ct,da⟩=0:=by rw[hE.out,if_neg (by rintro (h|h)<;>first|exact h rfl|exact h hpe),if_neg (fun h=>h hid1),if_neg hacc]
     obtain⟨_,_,_,hz⟩:=Qis h0
     have HZ:=hid hz
     have H0:=hid h0
     clear hz h0 FIN hE hok
     have hP:=B2.nth 0 rfl
     have hglt:w.heap.size≠g:=by omega
     have hML:=hid (Qhu id ks pv M2.len)
     have hM:=M2.blk
     have CP:=hid (fun (w:World)=>Qh4 A n c da w)
     have FIN:Hid (∀ (w6:World) (gp:Nat),Blk w6 g 133 (((((MsC id ks pv).set 1 (.int .i64 ct)).set 2 (.int .i64 ((ks.length:Int)+1))).set (3+i) (.bool true)).set (19+i) (.slice (some ⟨gp,0,none⟩) n n))→base≤gp→Blk w6 gp 5 (da.map W8)→Only g w w6→
      (∃ pv',MsgAt w6 base g id (tkK pid id ks ⟨1,id',i,ct,da⟩) pv')∧Only g w w6):=by
      refine hid fun w6 gp hB hgp hD ho=>⟨⟨pv.set i (.slice (some ⟨gp,0,none⟩) n n),?_⟩,ho⟩
      have hp:(⟨1,id',i,ct,da⟩:Prt).ix=(i:Int):=rfl
      have hq:∀q∈ks,q.ix≠(⟨1,id',i,ct,da⟩:Prt).ix:=fun q hq=>(HZ.out q hq).2
      rw[tkK,if_pos H0.out]
      refine⟨?_,HM.out.low,by rw[QyY];exact HM.out.len,fun j v hv=>?_⟩
      ·rw[←Qrd id ks pv ⟨1,id',i,ct,da⟩ (by omega) hp]
       exact hB
      ·rw[Qnv hp hq]
       rw[List.getElem?_set]at hv
       by_cases hij:i=j
       ·subst hij
        rw[if_pos rfl,if_pos (by rw[HM.out.len];omega)]at hv
        rw[if_pos rfl,←Option.some.inj hv,←hlen]
        exact .inr ⟨gp,rfl,hgp,hD⟩
       ·rw[if_neg hij]at hv
        rw[if_neg (fun e=>hij e.symm)]
        exact (HM.out.pcs j v hv).only HM.out.blk (by decide) ho
     have hac2:(decide (0<ks.length)=true∧(ct != ctOf ks)=false∧ks.any (fun q=>q.ix==(i:Int))=false)∨decide (0<ks.length)=false:=by
      by_cases hne:ks=[]
      ·exact .inr (by simp[hne])
      ·have hor:=QlP hk hne ⟨1,id',i,ct,da⟩
       have hf:ks.any (fun q=>(pid q).ct != ct||(pid q).ix==(i:Int))=false:=by simpa using hacc
       rw[hf]at hor
       have hor':=hor.symm
       rw[Bool.or_eq_false_iff]at hor'
       exact .inl ⟨decide_eq_true (List.length_pos_iff.2 hne),hor'.1,hor'.2⟩
     generalize ks.any (fun q=>q.ix==(i:Int))=HV at *
     have kl:=hkl
     clear hacc
     have HC2:=hid (show ∀v:Value,((MsC id ks pv).set 1 v)[2]?=some (.int .i64 (ks.length:Nat)) from fun v=>rfl)
     generalize hMC:MsC id ks pv=MC at *
     generalize ks.length=KL at *
     generalize ctOf ks=CT at *
     rcases hac2 with ⟨hpos,h2,h3⟩|hpos
     case' inl=>subst h3
     all_goals
      refine Qad [] [0,1,2,3,4,5,6,7,8,9,10,11,12,13,14,15,16,17,18,19,20,21,22] [] (by as_aux_lemma=>kernel_rfl) (by as_aux_lemma=>kernel_rfl) (by intro _ _ d _ _ h;cases d<;>exact h) ?_
      simp only[Qaj,pick,Qym,Qyn,Qyp,Qys,Qyr]
      repeat (go_big_quiet_step (fail))
      refine wpQuiet_nil ?_
      go_wp2_with (first
       | (refine Qag rfl rfl _ _ _ rfl g 1 _ _ hM.drew.drew rfl ?hl rfl (by kernel_rfl) ?_;(case hl=>rw[hML.out];omega);intro v3 w3 hv3 hb3 ho3;simp[go_sem]at hv3;subst hv3
          have q3:=hP.drew.drew.only ho3 hglt
          obtain⟨e0,e1,e2,e3,e4⟩:=Qde q3
          have f2:w3.cell? ⟨g,2,none⟩=some (.int .i64 (KL:Nat)):=hb3.cellD 2 (HC2.out _))
       | (refine Qag rfl rfl _ _ _ rfl g 2 _ _ hb3 rfl ?hl rfl (by kernel_rfl) ?_;(case hl=>rw[QyY,hML.out];omega);intro v4 w4 hv4 hb4 ho4;simp[go_sem]at hv4;subst hv4
          have q4:=q3.only ho4 hglt
          obtain⟨g0,g1,g2,g3,g4⟩:=Qde q4)
       | fail)
      clear e0 e1 e2 e3 e4 f2
      refine Qad [] [0,1,2,3,4,5] [6] (by as_aux_lemma=>kernel_rfl) (by as_aux_lemma=>kernel_rfl) (by intro _ _ d _ _ h;cases d<;>exact h) ?_
      simp only[Qaj,pick,Qym,Qyn,Qyp,Qys,Qyr]
      repeat (go_big_quiet_step (fail))
      refine wpQuiet_nil ?_
      clear g0 g1 g2 g3 g4
      go_wp2_with (first
       | (refine Qag rfl rfl _ _ _ rfl g (3+i) _ _ hb4.drew rfl ?hl rfl (by kernel_rfl) ?_;(case hl=>rw[QyY,QyY,hML.out];omega);intro v6 w6 hv6 hb6 ho6;simp[go_sem]at hv6;subst hv6
          have q6:=q4.drew.only ho6 hglt
          obtain⟨d0,d1,d2,d3,d4⟩:=Qde q6)
       | fail)
      have O6:Only g w w6:=(((((B2.lat.trans ((Qab _).trans (Qab _))).thenOnly ho3).trans ho4).later (Qab _)).trans ho6)
      have hr6:RdB w6 A n da:=Rd.onlyAvoid (Rd.later (Rd.onlyAvoid (Rd.onlyAvoid (hr.later (B2.lat.trans ((Qab _).trans (Qab _)))) hav ho3 rfl) hav ho4 rfl) (Qab _)) hav ho6 rfl
      clear ho3 ho4 ho6 hb3 hb4 q3 q4 q6 hM hP
      refine Qad [([0,1,2,3,4,6,7],5)] [8] [9] (by as_aux_lemma=>kernel_rfl) (by as_aux_lemma=>kernel_rfl) (by intro _ _ d _ _ h;cases d<;>exact h) ?_
      simp only[Qaj,pick,Qym,Qyn,Qyp,Qys,Qyr]
      repeat (go_big_quiet_step (fail))
      refine wpQuiet_nil ?_
      go_wp2_with fail
      (refine (CP.out _ (hr6.later (Qab _)) (by omega)).mono ?_);rintro e w8 ⟨rfl,hD8,j8⟩
      go_wp2_with fail
      try refine⟨by first|assumption|exact Qab _|exact Qaa _ _|exact Later.refl _,?_⟩
      try simp only[Qaj,pick,Qym,Qyn,Qyp,Qys,Qyr]
      repeat (go_big_quiet_step (fail))
      refine wpQuiet_nil ?_
      have j68:=(Qab _).trans j8
      have hb8:=hb6.later j68
      have O8w:w.heap.size≤w6.drew.heap.size:=O6.size
      have O8:Only g w w8:=O6.later j68
      have hg8:base≤w6.drew.heap.size:=by
       have:=O6.size
       have e:w6.drew.heap.size=w6.heap.size:=rfl
       omega
      clear d0 d1 d2 d3 d4 O6 hb6
      go_wp2_with (first
       | (refine Qag rfl rfl _ _ _ rfl g (19+i) _ _ hb8 rfl ?hl rfl (by kernel_rfl) ?_;(case hl=>rw[QyY,QyY,QyY,hML.out];omega);intro v9 w9 hv9 hb9 ho9;simp[go_sem]at hv9;subst hv9)
       | fail)
      have hD9:=hD8.only ho9 (fun e=>by
       have:w.heap.size≤w6.drew.heap.size:=O8w
       omega)
      have FF:=FIN.out w9 w6.drew.heap.size hb9 hg8 hD9 (O8.trans ho9)
      clear FIN
      go_ret
      exact⟨by rw[H0.out];rfl,FF⟩
   ·have hb0:(id' != id)=true:=by simpa using hid1
    have h4:tkE pid id ks ⟨1,id',i,ct,da⟩=4:=by rw[hE.out,if_neg (by rintro (h|h)<;>first|exact h rfl|exact h hpe),if_pos hid1]
    have H4:=hid (FIN.out _ 4 (B2.later (Qab _)) h4 (by omega))
    clear FIN HM hE hok h4
    rw[hb0]
    go_wp2_with fail
    go_ret
    exact⟨by rw[H4.out.1];rfl,H4.out.2⟩
  ·have hb1:((prtE ⟨1,id',ix,ct,da⟩:Nat):Int)≠0:=by omega
   have h3:tkE pid id ks ⟨1,id',ix,ct,da⟩=3:=by rw[hE.out,if_pos (.inr hpe)]
   generalize prtE ⟨1,id',ix,ct,da⟩=E0 at *
   have hb2:((E0:Int) != 0)=true:=by simpa using hb1
   have H3:=hid (FIN.out w2 3 B2 h3 (by omega))
   clear FIN HM hE hok h3
   go_wp2_with fail
   go_ret
   exact⟨by rw[H3.out.1];rfl,H3.out.2⟩
 ·have hb1:(kd != 1)=true:=by simpa using hkd
  have h3:tkE pid id ks ⟨kd,id',ix,ct,da⟩=3:=by rw[hE.out,if_pos (.inl hkd)]
  have H3:=hid (FIN.out _ 3 B1 h3 (by omega))
  clear FIN HM hE hok hck h3
  go_wp2_with fail
  go_ret
  exact⟨by rw[H3.out.1];rfl,H3.out.2⟩
theorem KeptOk.ct {ks:List Prt} (h:KeptOk ks) (hne:ks≠[]):1≤ctOf ks∧ctOf ks≤16∧(ks.length:Int)≤ctOf ks∧∀q∈ks,q.ct=ctOf ks:=by
 have hl:ks.getLast?=some (ks.getLast hne):=List.getLast?_eq_some_getLast hne
 have hm:=List.getLast_mem hne
 generalize ks.getLast hne=l at hl hm
 have hc:ctOf ks=l.ct:=by rw[ctOf,hl];rfl
 obtain⟨h1,h2,_⟩:=QgM (h.good l hm).2
 have hs:∀q∈ks,q.ct=l.ct:=fun q hq=>h.same q hq l hm
 rw[hc]
 exact⟨h1,h2,h.le hs (by omega),hs⟩
theorem Qup {ks:List Prt} (h:KeptOk ks) (i:Nat):(daAt ks i).length≤450:=by
 unfold daAt
 cases hf:ks.find? (fun q=>q.ix==(i:Int)) with
 | none=>simp
 | some r=>exact (QgM (h.good r (List.mem_of_find?_eq_some hf)).2).2.2.2.2
theorem QpT {f:Nat→List UInt8} {c:Nat} (h:∀i,(f i).length≤c):∀n,((Qy0 n).map f).flatten.length≤n*c
 | 0=>by simp
 | n+1=>by
   have:=QpT h n
   have:=h n
   rw[QAf,QyZ,List.flatten_append,Qyz,QAr]
   simp only[QyJ,QyD,List.flatten_cons,List.flatten_nil,QyT]
   omega
set_option maxRecDepth 100000 in
set_option maxHeartbeats 4000000 in
theorem Qow (base g:Nat) (id:UInt64) (ks:List Prt) (pv:List Value) (p:Prt) (A:Option Addr) (n c:Nat) (bt:Nat) (t:TypeId) (w:World) (hm:MsgAt w base g id ks pv) (hk:KeptOk ks) (hr:RdB w A n p.da) (hav:Avoid (· =g) A n) (hb:base≤w.heap.size) (hkl:ks.length≤1048576)
 (hbt:Blk w bt t (PaC p (.slice A n c))):
 Calls Tryz.prog 43 #[.pointer (some ⟨g,0,none⟩),.slice (some ⟨bt,0,none⟩) 1 1] w fun e w'=>e= .returned (.int .i64 (tkE pid id ks p:Nat))∧(∃ pv',MsgAt w' base g id (tkK pid id ks p) pv')∧Only g w w':=by
 have H:=hid (fun (w':World) (l:Later w w')=>Qkf base g id ks pv p A n c w' (hm.later l) hk (hr.later l) hav (QyX hb l.size) hkl)
 generalize tkE pid id ks p=E at *
 generalize tkK pid id ks p=K at *
 clear hm hk hr hav
 go_enter Tryz.func43,Tryz.ntmps43
 go_wp2
 go_loopw [5,11] (fun f i wr=>(i= .int .i64 0∧f= .int .i64 0∧Later w wr)∨(i= .int .i64 1∧f= .int .i64 (E:Nat)∧(∃ pv',MsgAt wr base g id K pv')∧Only g w wr)) (fun _ i _=>1-(intOf i).toNat)
 case atStart=>exact .inl ⟨rfl,rfl,Later.refl w⟩
 case round=>
  rcases hrel with ⟨rfl,rfl,L⟩|⟨rfl,rfl,h2,h3⟩
  ·have hbt':=hbt.later L
   have hbl:=hbt'.lt
   have B1:=Qbh wr 36 pz0
   go_wp2_with (first
    | (refine QdI rfl _ rfl hbt' rfl ?_)
    | (refine Qbm rfl rfl _ _ rfl (B1.nth 0 rfl) rfl rfl rfl rfl ?_;intro w2 hb2 ho2
       have l2:Later wr w2:=B1.lat.only ho2 (Qyv _))
    | (refine QdI rfl _ rfl hb2 rfl ?_)
    | fail)
   (refine (H.out _ (L.trans l2)).mono ?_);rintro e w3 ⟨rfl,hM3,o3⟩
   have O3:Only g w w3:=(L.trans l2).thenOnly o3
   clear H hbt' B1 hb2 ho2 l2 o3 L
   by_cases hE:E=0
   ·subst hE
    go_wp2_with fail
    exact⟨.inr ⟨by go_num,rfl,hM3,O3⟩,by simp[intOf]⟩
   ·have hE1:((E:Int) != 0)=true:=by
     rw[bne_iff_ne]
     omega
    go_wp2_with fail
    exact⟨.inr ⟨by go_num,rfl,hM3,O3⟩,by simp[intOf]⟩
  ·go_wp2_with fail
   go_ret
   exact⟨rfl,h2,h3⟩
set_option maxRecDepth 100000 in
theorem QgV (base g:Nat) (id:UInt64) (ks:List Prt) (pv:List Value) (w:World) (hm:MsgAt w base g id ks pv) (hk:KeptOk ks) (hne:ks≠[]):
 Calls Tryz.prog 44 #[.pointer (some ⟨g,0,none⟩)] w fun e w'=>e= .returned (.int .i64 (ctOf ks-(ks.length:Int)))∧Later w w':=by
 obtain⟨c0,c1,c2⟩:=hm.cells
 obtain⟨h1,h2,h3,_⟩:=hk.ct hne
 have hpos:=List.length_pos_iff.2 hne
 generalize ctOf ks=CT at *
 generalize ks.length=KL at *
 have h0:decide ((KL:Int)=0)=false:=decide_eq_false (by omega)
 go_enter Tryz.func44,Tryz.ntmps44
 go_wp2_with fail
 refine Qad [] [0,1,2,3,4,5,6,7,8,9] [] (by as_aux_lemma=>kernel_rfl) (by as_aux_lemma=>kernel_rfl) (by intro _ _ d _ _ h;cases d<;>exact h) ?_
 simp only[Qaj,pick,Qym,Qyn,Qyp,Qys,Qyr]
 repeat (go_big_quiet_step (fail))
 refine wpQuiet_nil ?_
 go_wp2_with fail
 go_ret
 exact⟨rfl,Qab w⟩
set_option maxRecDepth 100000 in
set_option maxHeartbeats 1000000 in
theorem QmR (base g:Nat) (id:UInt64) (ks:List Prt) (pv:List Value) (w:World) (hm:MsgAt w base g id ks pv) (hk:KeptOk ks) (hne:ks≠[]) (hf:(ks.length:Int)=ctOf ks):
 Calls Tryz.prog 45 #[.pointer (some ⟨g,0,none⟩)] w fun e w'=>∃A n c,e= .returned (.tuple #[.slice A n c,.int .i64 0])∧OwnB w' w.heap.size A n c (Qir ks)∧Later w w':=by
 have HM:=hid (fun (w':World) (l:Later w w')=>QgV base g id ks pv w' (hm.later l) hk hne)
 obtain⟨h1,h2,h3,_⟩:=hk.ct hne
 have hw:=Qra hk
 have hfl:(Qy0 ks.length).flatMap (daAt ks)=((Qy0 ks.length).map (daAt ks)).flatten:=by rw[List.flatMap_def]
 rw[hfl]at hw
 have hle:=QpT (Qup hk) ks.length
 have hP:Hid (∀ w',Later w w'→Parts w' (fun _=>False) (some ⟨g,19,none⟩) ks.length ((Qy0 ks.length).map (daAt ks))):=by
  refine hid fun w' l=>⟨pv.take ks.length,?_,fun _ _ _ h=>h,by rw[QyW,hm.len,Qyo,List.length_range];omega,fun j v p hv hp=>?_⟩
  ·refine⟨by rw[QyW,hm.len];omega,fun _=>⟨g,19,rfl,(hm.blk.later l).lt,fun j u hu=>?_⟩⟩
   rw[QzO]at hu
   split at hu
   ·refine (hm.blk.later l).cellD (19+j) ?_
    have hl:((hvOf ks).map Value.bool).length=16:=by simp[hvOf]
    rw[MsC,show 19+j=(16+j)+1+1+1 by omega,Qym,Qym,Qym,QyC (by omega),hl,show 16+j-16=j by omega]
    exact hu
   ·cases hu
  ·rw[QzO]at hv
   split at hv
   ·rename_i hj
    rw[QyF,QzX hj]at hp
    obtain rfl:daAt ks j=p:=Option.some.inj hp
    rcases (hm.later l).pcs j v hv with ⟨rfl,e⟩|⟨gp,rfl,_,hb⟩
    ·exact⟨none,0,0,rfl,Qyv _,by rw[e];exact QiL w',fun _ _ h=>by cases h⟩
    ·exact⟨_,_,_,rfl,Qyv _,hb.rd (by simp),fun _ _ _ h=>h⟩
   ·cases hv
 obtain⟨c0,c1,c2⟩:=hm.cells
 have HJ:=hid (fun (w':World) (l:Later w w')=>QeK (some ⟨g,19,none⟩) ks.length 16 _ w' (hP.out w' l) (by omega) (by omega))
 rw[←hf]at h2 HM c1
 rw[Int.sub_self]at HM
 rw[←hw]at HJ
 generalize Qir ks=W at *
 generalize ks.length=KL at *
 clear hP hw hfl hle hf
 go_enter Tryz.func45,Tryz.ntmps45
 go_wp2_with fail
 (refine (HM.out _ (Later.refl w)).mono ?_);rintro e w2 ⟨rfl,j2⟩
 have hb2:=hm.blk.later j2
 have d1:w2.cell? ⟨g,1,none⟩=some (.int .i64 (KL:Nat)):=(j2.below.cell (p:=⟨g,1,none⟩) hm.blk.lt).trans c1
 go_wp2_with fail
 refine Qad [([0,1,2,3,4,5,6,7],8)] [9,10] [] (by as_aux_lemma=>kernel_rfl) (by as_aux_lemma=>kernel_rfl) (by intro _ _ d _ _ h;cases d<;>exact h) ?_
 simp only[Qaj,pick,Qym,Qyn,Qyp,Qys,Qyr]
 repeat (go_big_quiet_step (fail))
 refine wpQuiet_nil ?_
 go_wp2_with fail
 (refine (HJ.out _ (j2.trans (Qab _))).mono ?_);rintro e w3 ⟨A',c',rfl,hown,j3⟩
 go_wp2_with fail
 try refine⟨by first|assumption|exact Qab _|exact Qaa _ _|exact Later.refl _,?_⟩
 try simp only[Qaj,pick,Qym,Qyn,Qyp,Qys,Qyr]
 repeat (go_big_quiet_step (fail))
 refine wpQuiet_nil ?_
 go_wp2_with fail
 go_ret2
 exact⟨_,_,_,rfl,QbR hown (j2.trans (Qab _)).size,(j2.trans (Qab _)).trans j3⟩
end Go.Proofs.YtcbdgnlcknllnaaGreat
namespace Go.Proofs.YtcbdgnlcknllnaaGreat
open Go.RowKit Go.Maps
def ptrV:Option Nat→Value
 | none=>.pointer none
 | some b=>.pointer (some ⟨b,0,none⟩)
def ptrD:Option Nat→DataW Unit
 | none=>.lit (.bool false)
 | some b=>.lit (.int .i64 b)
def ptrR (v:Value):Option (DataW Unit×List MemPlace):=
 match v with
 | .pointer none=>some (ptrD none,[])
 | .pointer (some ⟨b,0,none⟩)=>some (ptrD (some b),[])
 | _=>none
theorem Qqg (x:Option Nat):ptrR (ptrV x)=some (ptrD x,[]):=by cases x<;>rfl
theorem Ql2 {x y:Option Nat} (h:ptrD x=ptrD y):x=y:=by
 cases x<;>cases y<;>simp[ptrD]at h<;>first|rfl|(subst h;rfl)|(have:(_:Int)=_:=h;congr 1;omega)
theorem Qrp {v:Value} {x:Option Nat} {ps:List MemPlace} (h:ptrR v=some (ptrD x,ps)):v=ptrV x:=by
 unfold ptrR at h
 split at h
 ·simp only[Option.some.injEq,Prod.mk.injEq]at h
  rw[←Ql2 h.1]
  rfl
 ·simp only[Option.some.injEq,Prod.mk.injEq]at h
  rw[←Ql2 h.1]
  rfl
 ·cases h
structure PKey (P:Program) (k:TypeId) (α:Type) where
 kv:α→Value
 kl:α→Lit
 ok:∀x,keyOf P k (kv x)=some (kl x)
 inj:∀x y,kv x=kv y→x=y
 law:Keyed P k
def PMap {P:Program} {k:TypeId} {α:Type} (w:World) (K:PKey P k α) (b n:Nat) (f:α→Option Nat):Prop:=
 ∃D:DataW Unit,w.ownsMap P k ptrR b n D∧∀x,D.atKey (K.kl x) (ptrD none)=ptrD (f x)
section
variable {P:Program} {k t e:TypeId} {α:Type} {w w':World} {K:PKey P k α} {b n:Nat} {f:α→Option Nat}
theorem PKey.kl_inj (K:PKey P k α) {x y:α} (h:K.kl x=K.kl y):x=y:=K.inj x y (K.law.inj (K.ok x) (h ▸ K.ok y))
theorem PMap.made (w:World) (K:PKey P k α):PMap (w.alloc (.map #[] 0)) K w.heap.size 0 (fun _=>none):=⟨_,World.ownsMap_made w P k ptrR,fun _=>rfl⟩
theorem PMap.only (h:PMap w K b n f) {g:Nat} (ho:Only g w w') (hne:b≠g):PMap w' K b n f:=by
 obtain⟨D,h1,h2⟩:=h
 exact⟨D,h1.kept ho (by simpa using hne),h2⟩
theorem PMap.grown (h:PMap w K b n f) {row:Option Nat} (ho:w.grownBy w' row) (hne:some b≠row):PMap w' K b n f:=by
 obtain⟨D,h1,h2⟩:=h
 exact⟨D,h1.kept ho hne,h2⟩
theorem PMap.lt (h:PMap w K b n f):b<w.heap.size:=let ⟨_,h1,_⟩:=h;h1.lt
theorem PMap.later (h:PMap w K b n f) (hl:Later w w'):PMap w' K b n f:=by
 refine h.only (hl.onlyAny (b+1)) (by omega)
theorem PMap.look (h:PMap w K b n f) (ht:P.underlying t=some (.map k e)) (hz:(zeroValue e).run P w= .ok (.pointer none) w) (x:α):
 (Instr.lookup t (.map (some b)) (K.kv x) false).run P w= .ok (ptrV (f x)) w:=by
 obtain⟨D,h1,h2⟩:=h
 obtain⟨v,ps,hrun,hv⟩:=h1.lookup K.law ht hz (Qqg none) (K.ok x)
 rw[h2]at hv
 rw[hrun,Qrp hv]
theorem PMap.put [DecidableEq α] (h:PMap w K b n f) (ht:P.underlying t=some (.map k e)) (hn:n<maxLen) (x:α) (g:Nat):
 ∃w',(Instr.mapUpdate t (.map (some b)) (K.kv x) (.pointer (some ⟨g,0,none⟩))).run P w= .ok () w'∧PMap w' K b (n+1) (fun y=>if y=x then some g else f y)∧Only b w w':=by
 obtain⟨D,h1,h2⟩:=h
 obtain⟨w',hrun,h3,h4⟩:=h1.update K.law ht hn (K.ok x) (Qqg (some g))
 refine⟨w',hrun,⟨_,h3,fun y=>?_⟩,h4⟩
 by_cases hyx:y=x
 ·subst hyx
  simp only[if_true]
  exact atKey_put_same h1.isMap (K.law.key (K.ok y)) _ _
 ·simp only[hyx,if_false]
  rw[atKey_put_other (fun hc=>hyx (K.kl_inj hc))]
  exact h2 y
variable {ops:Array Oper} {rest:List Oper} {o:Oper} {a:Act} {Q:Exit→Act→World→Prop}
theorem QgN (hg:o.guard=none) (m x:Operand) (hop:o.op=Op.lookup t m x false) (ht:P.underlying t=some (.map k e)) (hz:(zeroValue e).run P w= .ok (.pointer none) w)
 (hm:a.eval m= .map (some b)) (h:PMap w K b n f) (y:α) (hx:a.eval x=K.kv y) (hK:wpList P ops Q rest (a.put o.dst (ptrV (f y))) w):wpList P ops Q (o :: rest) a w:=by
 refine wpList_plain hg fun K' hK'=>?_
 unfold Oper.wp
 simp[execOp,hop,hm,hx,h.look ht hz y,Result.andThen]
 exact hK' _ _ hK
theorem Qnk [DecidableEq α] (hg:o.guard=none) (m x v:Operand) (hop:o.op=Op.mapUpdate t m x v) (ht:P.underlying t=some (.map k e)) (hm:a.eval m= .map (some b)) (h:PMap w K b n f) (hn:n<maxLen) (y:α) (g:Nat)
 (hx:a.eval x=K.kv y) (hv:a.eval v= .pointer (some ⟨g,0,none⟩)) (hK:∀w',PMap w' K b (n+1) (fun z=>if z=y then some g else f z)→Only b w w'→wpList P ops Q rest (a.put o.dst undef) w'):wpList P ops Q (o :: rest) a w:=by
 refine wpList_plain hg fun K' hK'=>?_
 obtain⟨w',hrun,r1,r2⟩:=h.put ht hn y g
 unfold Oper.wp
 simp[execOp,hop,hm,hx,hv,hrun,Result.andThen]
 exact hK' _ _ (hK w' r1 r2)
end
theorem Qu4:(128:Nat)<Tryz.prog.types.size:=of_decide_eq_true (by kernel_rfl)
theorem QuS:Tryz.prog.keyTypeAt (Tryz.prog.types.size+1) 128=true:=by kernel_rfl
theorem Qvo:(match Tryz.prog.underlying 128 with|some (.array _ _)|some (.struct _)=>true|_=>false)=true:=by kernel_rfl
theorem Qu6:laidOutB Tryz.prog=true:=by kernel_rfl
set_option maxRecDepth 100000 in
theorem Qxs:Keyed Tryz.prog 128:=Keyed.of_law (deep_law_laid Qu6 (m:=3) (by omega) Qu4 (by kernel_rfl) Qvo)
theorem QoO:Tryz.prog.cellsOf 128=2:=by kernel_rfl
theorem Qtb:Tryz.prog.cellsOf 24=1:=by kernel_rfl
theorem wf64 (x:UInt64):(Lit.int .u64 (x.toNat:Int)).wf=true:=by
 have:=x.toNat_lt
 simp[Lit.wf,IntKind.min,IntKind.max,IntKind.signed,IntKind.bits]
 omega
theorem Qpx (d:Nat) (x:UInt64):Tryz.prog.keyLits (d+1) 24 [W64 x]=some [.int .u64 (x.toNat:Int)]:=by
 unfold Program.keyLits
 rw[Tryz.underlying24]
 simp[W64,wf64]
theorem QnC (d:Nat) (x y:UInt64):Tryz.prog.keyLits (d+2) 128 [W64 x,W64 y]=some [.int .u64 (x.toNat:Int),.int .u64 (y.toNat:Int)]:=by
 unfold Program.keyLits
 rw[Tryz.underlying128]
 simp[QoO,Qtb,Qpx]
def Qtd:PKey Tryz.prog 128 (UInt64×UInt64) where
 kv x:=.agg #[W64 x.1,W64 x.2]
 kl x:=.string (keyBytes [.int .u64 (x.1.toNat:Int),.int .u64 (x.2.toNat:Int)])
 ok x:=by
  have hf:(Value.agg #[W64 x.1,W64 x.2]).formed Tryz.prog 128=true:=by
   simp[Value.formed,Tryz.underlying128,QoO]
  unfold keyOf
  rw[Tryz.underlying128]
  have hk:Tryz.prog.keyType 128=true:=QuS
  obtain⟨d,hd⟩:∃d,Tryz.prog.types.size+1=d+2:=⟨Tryz.prog.types.size-1,by have:=Qu4;omega⟩
  simp only[hk,hf,Bool.and_self,if_true,hd]
  show (Tryz.prog.keyLits (d+2) 128 [W64 x.1,W64 x.2]).map _=_
  rw[QnC]
  rfl
 inj x y h:=by
  have h1:[W64 x.1,W64 x.2]=[W64 y.1,W64 y.2]:=congrArg Array.toList (Value.agg.inj h)
  have h2:W64 x.1=W64 y.1:=(List.cons.inj h1).1
  have h3:W64 x.2=W64 y.2:=(List.cons.inj (List.cons.inj h1).2).1
  have e:∀a b:UInt64,W64 a=W64 b→a=b:=fun a b h=>by
   have:(a.toNat:Int)=b.toNat:=by simpa [W64] using h
   exact Qz9.1 (by omega)
  exact Prod.ext (e _ _ h2) (e _ _ h3)
 law:=Qxs
end Go.Proofs.YtcbdgnlcknllnaaGreat
namespace Go.Proofs.YtcbdgnlcknllnaaGreat
open Go.RowKit
section
variable {P:Program} {ops:Array Oper} {rest:List Oper} {o:Oper} {a:Act} {w:World} {Q:Exit→Act→World→Prop}
theorem Qdm (hw:Region.wanted o (yielded ops a.tmps)=true) (t:TypeId) (x:Operand) (ho:o.op= .buildSlice t 1 #[(0,x)]) (e:TypeId) (sz:Nat) (z:Value) (vs:List Value) (ht:P.underlying t=some (.slice e)) (hz:(P.info? e).map (fun i=>(i.zero,i.size))=some (some z,sz)) (hs0:0<sz) (hsm:sz≤65536)
 (hbl:vs.length=sz) (hx:a.eval x= .agg vs.toArray)
 (h:wpList P ops Q rest (a.put o.dst (.slice (some ⟨w.heap.size,0,none⟩) 1 1)) (w.alloc (.cells vs.toArray e))):wpList P ops Q (o :: rest) a w:=
 BigFrame.wpList_want hw fun K hK=>by
  have hr:=QhT (v:=.agg vs.toArray) ht hz hs0 hsm rfl hbl w
  unfold Oper.wp
  simp only[execOp,ho,Qyw,QyJ,QyD,hx,Sem.run_bind,hr,Result.andThen_ok,Sem.run_pure]
  exact hK _ _ h
end
end Go.Proofs.YtcbdgnlcknllnaaGreat
namespace Go.Proofs.YtcbdgnlcknllnaaGreat
open Go.RowKit
open Go.BigFrame
theorem KeptOk.small {ks:List Prt} (h:KeptOk ks):ks.length≤16:=by
 by_cases hne:ks=[]
 ·simp[hne]
 ·have:=h.ct hne
  omega
structure Ltv where
 lt:Ltr
 va:Option Addr
 vn:Nat
 vc:Nat
def LtC (y:Ltv):List Value:=[W64 y.lt.to,W64 y.lt.id,.int .i64 y.lt.tk,.slice y.va y.vn y.vc]
def lv0:Ltv:=⟨⟨0,0,0,[]⟩,none,0,0⟩
theorem Quz (y:Ltv):∀u∈LtC y,u.oneCell'=true:=by
 intro u hu
 simp only[LtC,QyI,QyN,or_false]at hu
 rcases hu with rfl|rfl|rfl|rfl<;>rfl
theorem Qfu (y:Ltv):(LtC y).length=4:=rfl
section
variable {w w':World} {base sz n:Nat} {e:TypeId} {v:Value} {vs:List Value}
theorem QjQ {k:Nat} {es:Array MapEntry} {ck:Nat} (h:w.ownsRow base e sz v n vs) (hb:w.heap[k]?=some (.map es ck)) (ho:Only k w w'):w'.ownsRow base e sz v n vs:=by
 refine h.kept ho ?_
 rcases h.2 with ⟨rfl,_⟩|⟨g2,c2,cur2,rfl,_,hh2,_⟩
 ·exact .inl rfl
 ·refine .inr ?_
  intro hc
  have:k=g2:=by simpa [Value.ownBlock] using hc.symm
  subst this
  rw[hb]at hh2
  cases hh2
theorem Qgd {k g:Nat} {t:TypeId} {l:List Value} {es:Array MapEntry} {ck:Nat} (h:Blk w g t l) (hb:w.heap[k]?=some (.map es ck)) (ho:Only k w w'):Blk w' g t l:=by
 refine h.only ho fun e=>?_
 subst e
 rw[Blk,hb]at h
 cases h
end
structure LSt (w wr:World) (bm n:Nat) (f:UInt64×UInt64→Option Nat) (K:UInt64×UInt64→List Prt) (v3:Value) (ys:List Ltv):Prop where
 lat:Later w wr
 map:PMap wr Qtd bm n f
 low:w.heap.size≤bm
 msg:∀x g,f x=some g→∃pv,MsgAt wr w.heap.size g x.2 (K x) pv
 non:∀x,f x=none→K x=[]
 inj:∀x y g,f x=some g→f y=some g→x=y
 own:wr.ownsRow w.heap.size 83 4 v3 ys.length (ys.flatMap LtC)
 txt:∀y∈ys,OwnB wr w.heap.size y.va y.vn y.vc y.lt.tx
section
variable {w wr w':World} {bm n:Nat} {f:UInt64×UInt64→Option Nat} {K:UInt64×UInt64→List Prt} {v3:Value} {ys:List Ltv}
theorem PMap.obj {P:Program} {k:TypeId} {α:Type} {w:World} {M:PKey P k α} {b n:Nat} {f:α→Option Nat} (h:PMap w M b n f):∃es ck,w.heap[b]?=some (.map es ck):=by
 obtain⟨_,⟨es,ck,h1,_⟩,_⟩:=h
 exact⟨es,ck,h1⟩
theorem LSt.later (h:LSt w wr bm n f K v3 ys) (hl:Later wr w'):LSt w w' bm n f K v3 ys:=
 ⟨h.lat.trans hl,h.map.later hl,h.low,fun x g hx=>(h.msg x g hx).imp fun _ hm=>hm.later hl,h.non,h.inj,QaF h.own hl,fun y hy=>Qay (h.txt y hy) hl⟩
theorem MsgAt.onlyM {base g k:Nat} {id:UInt64} {ks:List Prt} {pv:List Value} {es:Array MapEntry} {ck:Nat} (h:MsgAt wr base g id ks pv) (hb:wr.heap[k]?=some (.map es ck)) (ho:Only k wr w'):MsgAt w' base g id ks pv:=
 ⟨Qgd h.blk hb ho,h.low,h.len,fun i v hv=>(h.pcs i v hv).imp (fun h=>h) fun ⟨gp,h1,h2,h3⟩=>⟨gp,h1,h2,Qgd h3 hb ho⟩⟩
theorem MsgAt.onlyO {base g k:Nat} {id:UInt64} {ks:List Prt} {pv:List Value} {l:List Value} (h:MsgAt wr base g id ks pv) (hb:Blk wr k 133 l) (hne:g≠k) (ho:Only k wr w'):MsgAt w' base g id ks pv:=
 ⟨h.blk.only ho hne,h.low,h.len,fun i v hv=>(h.pcs i v hv).only hb (by decide) ho⟩
theorem MsgAt.grown {base g b sz m:Nat} {e:TypeId} {v:Value} {vs:List Value} {id:UInt64} {ks:List Prt} {pv:List Value} (h:MsgAt wr base g id ks pv) (hr:wr.ownsRow b e sz v m vs) (h1:(133:TypeId)≠e) (h2:(5:TypeId)≠e) (hg:wr.grownBy w' v.ownBlock):MsgAt w' base g id ks pv:=
 ⟨Qd7 h.blk hr h1 hg,h.low,h.len,fun i v hv=>(h.pcs i v hv).imp (fun h=>h) fun ⟨gp,k1,k2,k3⟩=>⟨gp,k1,k2,Qd7 k3 hr h2 hg⟩⟩
theorem LSt.put (h:LSt w wr bm n f K v3 ys) {x0:UInt64×UInt64} {g:Nat} {pv:List Value} (hx:f x0=none) (hm:MsgAt wr w.heap.size g x0.2 [] pv) (hf:∀x,f x≠some g) (hp:PMap w' Qtd bm (n+1) (fun x=>if x=x0 then some g else f x)) (ho:Only bm wr w'):
 LSt w w' bm (n+1) (fun x=>if x=x0 then some g else f x) K v3 ys:=by
 obtain⟨es,ck,hb⟩:=h.map.obj
 refine⟨h.lat.only ho h.low,hp,h.low,fun x g' hx'=>?_,fun x hx'=>?_,fun x y g' hx' hy'=>?_,QjQ h.own hb ho,fun y hy=>?_⟩
 ·by_cases hxx:x=x0
  ·subst hxx
   simp only[if_true,Option.some.injEq]at hx'
   subst hx'
   exact⟨pv,by rw[h.non x hx];exact hm.onlyM hb ho⟩
  ·simp only[hxx,if_false]at hx'
   exact (h.msg x g' hx').imp fun _ hm=>hm.onlyM hb ho
 ·by_cases hxx:x=x0
  ·subst hxx
   simp at hx'
  ·simp only[hxx,if_false]at hx'
   exact h.non x hx'
 ·by_cases hxx:x=x0<;>by_cases hyy:y=x0
  ·exact hxx.trans hyy.symm
  ·simp only[hxx,hyy,if_true,if_false,Option.some.injEq]at hx' hy'
   subst hx'
   exact absurd hy' (hf y)
  ·simp only[hxx,hyy,if_true,if_false,Option.some.injEq]at hx' hy'
   subst hy'
   exact absurd hx' (hf x)
  ·simp only[hxx,hyy,if_false]at hx' hy'
   exact h.inj x y g' hx' hy'
 ·exact QjQ (h.txt y hy) hb ho
theorem LSt.took (h:LSt w wr bm n f K v3 ys) {x0:UInt64×UInt64} {g:Nat} {pv:List Value} {k':List Prt} (hx:f x0=some g) (hm:MsgAt w' w.heap.size g x0.2 k' pv) (ho:Only g wr w'):LSt w w' bm n f (fun x=>if x=x0 then k' else K x) v3 ys:=by
 obtain⟨pv0,hm0⟩:=h.msg x0 g hx
 obtain⟨es,ck,hb⟩:=h.map.obj
 have hgb:bm≠g:=fun e=>by
  subst e
  have:=hm0.blk
  rw[Blk,hb]at this
  cases this
 refine⟨h.lat.only ho hm0.low,h.map.only ho hgb,h.low,fun x g' hx'=>?_,fun x hx'=>?_,h.inj,QaM h.own hm0.blk (by decide) ho,fun y hy=>?_⟩
 ·by_cases hxx:x=x0
  ·subst hxx
   obtain rfl:g=g':=Option.some.inj (hx.symm.trans hx')
   simp only[if_true]
   exact⟨pv,hm⟩
  ·simp only[hxx,if_false]
   refine (h.msg x g' hx').imp fun _ hm=>hm.onlyO hm0.blk (fun e=>hxx (h.inj x x0 g' hx' (by rw[e];exact hx))) ho
 ·by_cases hxx:x=x0
  ·subst hxx
   rw[hx]at hx'
   cases hx'
  ·simp only[hxx,if_false]
   exact h.non x hx'
 ·exact QaM (h.txt y hy) hm0.blk (by decide) ho
theorem LSt.wrote (h:LSt w wr bm n f K v3 ys) {y:Ltv} {v3':Value} (hown:w'.ownsRow w.heap.size 83 4 v3' (ys.length+1) (ys.flatMap LtC++LtC y)) (hg:wr.grownBy w' v3.ownBlock) (hl:Later w w')
 (ht:OwnB wr w.heap.size y.va y.vn y.vc y.lt.tx):LSt w w' bm n f K v3' (ys++[y]):=by
 obtain⟨es,ck,hb⟩:=h.map.obj
 have hbm:some bm≠v3.ownBlock:=by
  rcases h.own.2 with ⟨rfl,_⟩|⟨g2,c2,cur2,rfl,_,hh2,_⟩
  ·simp[Value.ownBlock]
  ·intro e
   have:bm=g2:=by simpa [Value.ownBlock] using e
   subst this
   rw[hb]at hh2
   cases hh2
 have txt:∀y:Ltv,OwnB wr w.heap.size y.va y.vn y.vc y.lt.tx→OwnB w' w.heap.size y.va y.vn y.vc y.lt.tx:=fun y h2=>Qcx h2 h.own (by decide) hg
 refine⟨hl,h.map.grown hg hbm,h.low,fun x g hx=>(h.msg x g hx).imp fun _ hm=>hm.grown h.own (by decide) (by decide) hg,h.non,h.inj,?_,fun z hz=>?_⟩
 ·rw[Qyz,List.length_singleton,QAg]
  simpa using hown
 ·rcases Qy8.1 hz with hz|hz
  ·exact txt z (h.txt z hz)
  ·obtain rfl:z=y:=by simpa using hz
   exact txt z ht
end
end Go.Proofs.YtcbdgnlcknllnaaGreat
