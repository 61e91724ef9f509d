/-
  Lemmas for the last text of this claim (part 15 of 20).
-/
import Derived.ArgAppend
import Derived.BigQuiet
import Derived.BigRegion
import Derived.ChangeOld
import Derived.Deep.RegionWith
import Derived.DeepKeys4
import Derived.JoinedCond
import Derived.LaidMore
import Derived.Laws.CopyOwn
import Derived.Laws.Externs
import Derived.Laws.IdiomStrings
import Derived.Laws.Tables
import Derived.Lib.AppendStr
import Derived.Lib.AppendZerosOnto
import Derived.Lib.Mul64
import Derived.Lib.SlBytesConst
import Derived.LoopN
import Derived.Maps.OwnSet
import Derived.OpenShut
import Derived.OrdersHeld
import Derived.ProofKit
import Derived.Shelf.Spec.BitsCarry
import Derived.ShutString
import Derived.Test.YtdkpcdgckgaklaaGreatProg
import Derived.Test.YtdkpcdgckgaklaaGreatRows
import Derived.WalkKit
import Derived.WalkLawsBesides
import Derived.WalkSpells
import Derived.Test.YtdkpcdgckgaklaaGreatPB
import Derived.Test.YtdkpcdgckgaklaaGreatPG
import Derived.Test.YtdkpcdgckgaklaaGreatPH
import Derived.Test.YtdkpcdgckgaklaaGreatPI
import Derived.Test.YtdkpcdgckgaklaaGreatPJ
import Derived.Test.YtdkpcdgckgaklaaGreatPK
import Derived.Test.YtdkpcdgckgaklaaGreatPN
open Bool renaming and_eq_true → QCG, eq_iff_iff → QDb, not_eq_true' → QDE, or_eq_true → QEe, false_or → QEC
open List renaming replicate → QCn, getElem?_cons_succ → QCo, getElem?_cons_zero → QCp, cons_append → QCr, nil_append → QCs, length_map → QCt, getD_eq_getElem?_getD → QCu, getElem?_eq_getElem → QCv, set_cons_zero → QCy, set_cons_succ → QCz, map_toArray → QCA, length_append → QCB, map_nil → QCC, getElem?_append_left → QCD, take_of_length_le → QCE, getElem?_append_right → QCF, getElem?_map → QCH, getElem?_eq_some_iff → QCK, length_take → QCP, mem_cons → QCQ, map_cons → QCR, not_mem_nil → QCT, set_append_right → QCX, length_set → QCZ, eq_nil_of_length_eq_zero → QC0, append_nil → QC1, take_append_drop → QC3, range → QC5, map_append → QC6, mem_map → QC7, map_replicate → QC8, all_eq_true → QDa, mem_append → QDc, drop_left' → QDg, getElem_mem → QDn, drop_eq_getElem_cons → QDp, getElem?_eq_none → QDr, getElem?_take → QDt, mem_range → QDC, set_append_left → QDD, flatMap_append → QDZ, drop_succ_cons → QD0, drop_drop → QD8, take_left' → QD9, getElem?_range → QEc, length_singleton → QEd, range_succ → QEp, any_eq_true → QEq
open Nat renaming le_refl → QCx, mod_eq_of_lt → QCO, le_trans → QC4, lt_or_ge → QDq, eq_zero_or_pos → QD6, add_mul → QEA
open Option renaming toList_some → QCq
open UInt64 renaming ofNat → QCN, toNat_ofNat' → QCV, toNat_inj → QD2
open UInt8 renaming ofNat → QC2, ofInt → QC9, toNat_inj → QDl, toNat_ofNat' → QDM
set_option linter.all false
namespace Go.Proofs.YtdkpcdgckgaklaaGreat
open Go.RowKit
open Go.BigFrame
def Qb3 (b:List UInt8):Nat:=beN (subB b 28 2) 0
def Qdn (b:List UInt8):Prt:=⟨b.getD 16 0,QCN (beN (subB b 20 8) 0),((b.getD 17 0).toNat:Int),((b.getD 18 0).toNat:Int),subB b 30 (Qb3 b)⟩
def parE (b:List UInt8):Nat:=
 if b.length≠480 then 2 else if b.take 16≠QCn 16 0 then 7 else if b.getD 16 0<1∨3<b.getD 16 0 then 1
 else if b.getD 19 0≠0∨450<Qb3 b then 3 else if prtE (Qdn b)≠0∨b.drop (30+Qb3 b)≠QCn (450-Qb3 b) 0 then 3 else 0
def parP (b:List UInt8):Prt:=if parE b=0 then Qdn b else prt0
end Go.Proofs.YtdkpcdgckgaklaaGreat
namespace Go.Proofs.YtdkpcdgckgaklaaGreat
open Go.RowKit
structure Arv where
 ar:Arr
 va:Value
def av0:Arv:=⟨⟨prt0,0,0,0,QaV⟩,.slice none 0 0⟩
def AvC (x:Arv):List Value:=PaC x.ar.pt x.va++(W8 x.ar.kd :: W64 x.ar.to :: .int .i64 x.ar.tk :: x.ar.ma.val.map W8)
theorem Qak (x:Arv):(AvC x).length=24:=by simp[AvC,PaC,x.ar.ma.2]
def AvOk (w:World) (x:Arv):Prop:=∃A n c,x.va= .slice A n c∧n≤c∧RdB w A n x.ar.pt.da
theorem AvOk.later {w w':World} {x:Arv} (h:AvOk w x) (hl:Later w w'):AvOk w' x:=by
 obtain⟨A,n,c,h1,h2,h3⟩:=h
 exact⟨A,n,c,h1,h2,h3.later hl⟩
structure Vst where
 cm:Cmd
 id:UInt64
 tk:Int
def vst0:Vst:=⟨cmd0,0,0⟩
def VC (x:Vst):List Value:=CC x.cm++[W64 x.id,.int .i64 x.tk]
theorem Qat (x:Vst):(VC x).length=22:=by simp[VC,Qam]
def QcG (vs:List Vst):Vst:=vs.getD (vs.length-1) vst0
def arr0:Arr:=⟨prt0,0,0,0,QaV⟩
def arvE (vs:List Vst) (b:List UInt8):Nat:=
 if vs.length=0∨b.length≠480 then 2 else if (QcG vs).cm.kd=4 then 0 else if (QcG vs).cm.kd≠2∧(QcG vs).cm.kd≠3 then 3
 else if parE b≠0 then parE b else if (parP b).kd≠(if (QcG vs).cm.kd=3 then 2 else 1) then 10 else 0
def arvA (vs:List Vst) (b:List UInt8) (tk:Int):Arr:=
 if arvE vs b≠0 then arr0 else if (QcG vs).cm.kd=4 then ⟨prt0,4,(QcG vs).id,tk,(QcG vs).cm.ma⟩ else ⟨parP b,(QcG vs).cm.kd,(QcG vs).id,tk,QaV⟩
theorem QhT {vs:List Vst} {b:List UInt8} {tk:Int} (h:arvE vs b≠0):arvA vs b tk=arr0:=if_pos h
section
variable {vs:List Vst} {b:List UInt8} (tk:Int)
theorem QhH (h:vs.length=0∨b.length≠480):arvE vs b=2∧arvA vs b tk=arr0:=by
 have e:arvE vs b=2:=if_pos h
 exact⟨e,QhT (by rw[e];decide)⟩
theorem Ql1 (h: ¬(vs.length=0∨b.length≠480)) (hk:(QcG vs).cm.kd=4):arvE vs b=0∧arvA vs b tk=⟨prt0,(QcG vs).cm.kd,(QcG vs).id,tk,(QcG vs).cm.ma⟩:=by
 have e:arvE vs b=0:=by rw[arvE,if_neg h,if_pos hk]
 exact⟨e,by rw[arvA,if_neg (by rw[e];decide),if_pos hk,hk]⟩
theorem QnY (h: ¬(vs.length=0∨b.length≠480)) (h4:(QcG vs).cm.kd≠4) (h2:(QcG vs).cm.kd≠2) (h3:(QcG vs).cm.kd≠3):arvE vs b=3∧arvA vs b tk=arr0:=by
 have e:arvE vs b=3:=by rw[arvE,if_neg h,if_neg h4,if_pos ⟨h2,h3⟩]
 exact⟨e,QhT (by rw[e];decide)⟩
theorem QrB (h: ¬(vs.length=0∨b.length≠480)) (h23:(QcG vs).cm.kd=2∨(QcG vs).cm.kd=3) (hp:parE b≠0):arvE vs b=parE b∧arvA vs b tk=arr0:=by
 have e:arvE vs b=parE b:=by
  rw[arvE,if_neg h,if_neg (by rcases h23 with h|h<;>rw[h]<;>decide),if_neg (by rcases h23 with h|h<;>rw[h]<;>decide),if_pos hp]
 exact⟨e,QhT (by rw[e];exact hp)⟩
theorem Qoz (h: ¬(vs.length=0∨b.length≠480)) (h23:(QcG vs).cm.kd=2∨(QcG vs).cm.kd=3) (hp:parE b=0) (ht:(parP b).kd≠(if (QcG vs).cm.kd=3 then 2 else 1)):arvE vs b=10∧arvA vs b tk=arr0:=by
 have e:arvE vs b=10:=by
  rw[arvE,if_neg h,if_neg (by rcases h23 with h|h<;>rw[h]<;>decide),if_neg (by rcases h23 with h|h<;>rw[h]<;>decide),if_neg (not_not_intro hp),if_pos ht]
 exact⟨e,QhT (by rw[e];decide)⟩
theorem Qo0 (h: ¬(vs.length=0∨b.length≠480)) (h23:(QcG vs).cm.kd=2∨(QcG vs).cm.kd=3) (hp:parE b=0) (ht:(parP b).kd=(if (QcG vs).cm.kd=3 then 2 else 1)):arvE vs b=0∧arvA vs b tk=⟨parP b,(QcG vs).cm.kd,(QcG vs).id,tk,QaV⟩:=by
 have e:arvE vs b=0:=by
  rw[arvE,if_neg h,if_neg (by rcases h23 with h|h<;>rw[h]<;>decide),if_neg (by rcases h23 with h|h<;>rw[h]<;>decide),if_neg (not_not_intro hp),if_neg (not_not_intro ht)]
 exact⟨e,by rw[arvA,if_neg (by rw[e];decide),if_neg (by rcases h23 with h|h<;>rw[h]<;>decide)]⟩
end
theorem QbD {w:World} {g:Nat} {t:TypeId} {v:Vst} (h:Blk w g t (VC v)):w.cell? ⟨g,0,none⟩=some (W8 v.cm.kd)∧w.cell? ⟨g,20,none⟩=some (W64 v.id)∧∀j u,(v.cm.ma.val.map W8)[j]?=some u→w.cell? ⟨g,4+j,none⟩=some u:=by
 have hc:=Qam v.cm
 refine⟨h.cellD 0 rfl,h.cellD 20 ?_,fun j u hu=>h.cellD (4+j) ?_⟩
 ·rw[VC,QCF (by omega),hc]
  rfl
 ·have hj:=(QCK.1 hu).1
  rw[QCt,v.cm.ma.2]at hj
  rw[VC,QCD (by omega),show (4+j)=j+1+1+1+1 by omega]
  exact hu
theorem Qlp (p:Prt) (kd:UInt8) (to:UInt64) (tk:Int) (m m':Y16) (v:Value):Qau (AvC ⟨⟨p,kd,to,tk,m⟩,v⟩) 8 (m'.val.map W8)=AvC ⟨⟨p,kd,to,tk,m'⟩,v⟩:=by
 simp[AvC,PaC,Qau,m.2,m'.2]
theorem QhL (p p':Prt) (kd:UInt8) (to:UInt64) (tk:Int) (m:Y16) (v v':Value):Qau (AvC ⟨⟨p,kd,to,tk,m⟩,v⟩) 0 (PaC p' v')=AvC ⟨⟨p',kd,to,tk,m⟩,v'⟩:=by
 simp[AvC,PaC,Qau]
section
variable {P:Program} {ops:Array Oper} {rest:List Oper} {o:Oper} {a:Act} {w:World} {Q:Exit→Act→World→Prop}
theorem Qcj (hw:Region.wanted o (yielded ops a.tmps)=true) (t:TypeId) (x:Operand) (ho:o.op= .buildSlice t 1 #[(0,x)]) (e:TypeId) (sz:Nat) (z:Value) (vs:List Value) (ht:P.underlying t=some (.slice e)) (hz:(P.info? e).map (fun i=>(i.zero,i.size))=some (some z,sz)) (hs0:0<sz) (hsm:sz≤65536)
 (hbl:vs.length=sz) (hx:a.eval x= .agg vs.toArray)
 (h:wpList P ops Q rest (a.put o.dst (.slice (some ⟨w.heap.size,0,none⟩) 1 1)) (w.alloc (.cells vs.toArray e))):wpList P ops Q (o :: rest) a w:=
 BigFrame.wpList_want hw fun K hK=>by
  have hr:=QpY (v:=.agg vs.toArray) ht hz hs0 hsm rfl hbl w
  unfold Oper.wp
  simp only[execOp,ho,QCA,QCR,QCC,hx,Sem.run_bind,hr,Result.andThen_ok,Sem.run_pure]
  exact hK _ _ h
end
end Go.Proofs.YtdkpcdgckgaklaaGreat
namespace Go.Proofs.YtdkpcdgckgaklaaGreat
open Go.RowKit
open Go.BigFrame
def okAt (s:ByteArray) (k:Nat):Bool:=
 if h:k<s.size then (decide (97≤s[k].toNat)&&decide (s[k].toNat≤122))||(decide (48≤s[k].toNat)&&decide (s[k].toNat≤57)&&decide (0<k)) else true
def QeW (s:ByteArray):Bool:=decide (1≤s.size)&&decide (s.size≤16)&&(QC5 s.size).all (okAt s)
theorem Qot (s:ByteArray) (k:Nat) (h:k<s.size):okAt s k=true↔(97≤(s[k].toNat:Int)∧(s[k].toNat:Int)≤122)∨(48≤(s[k].toNat:Int)∧(s[k].toNat:Int)≤57∧0<k):=by
 rw[okAt,dif_pos h]
 simp only[QEe,QCG,decide_eq_true_eq]
 omega
theorem QgS (s:ByteArray):QeW s=true↔1≤s.size∧s.size≤16∧∀j,j<s.size→okAt s j=true:=by
 rw[QeW]
 simp only[QCG,decide_eq_true_eq,QDa,QDC,and_assoc]
theorem Qj2 {s:ByteArray} (h: ¬(s.size<1∨16<s.size)) (hj:∀j,j<s.size→okAt s j=true):QeW s=true:=(QgS s).2 ⟨by omega,by omega,hj⟩
theorem QjI {s:ByteArray} (h:s.size<1∨16<s.size):QeW s=false:=by
 rcases Bool.eq_false_or_eq_true (QeW s) with e|e
 ·have:=(QgS s).1 e
  omega
 ·exact e
theorem Qg7 {s:ByteArray} {k:Nat} (h:k<s.size) (hn: ¬((97≤(s[k].toNat:Int)∧(s[k].toNat:Int)≤122)∨(48≤(s[k].toNat:Int)∧(s[k].toNat:Int)≤57∧0<k))):QeW s=false:=by
 rcases Bool.eq_false_or_eq_true (QeW s) with e|e
 ·exact absurd ((Qot s k h).1 (((QgS s).1 e).2.2 k h)) hn
 ·exact e
theorem QiN {s:ByteArray} {k:Nat} (h:k<s.size) (hp:∀j,j<k→okAt s j=true) (hn:(97≤(s[k].toNat:Int)∧(s[k].toNat:Int)≤122)∨(48≤(s[k].toNat:Int)∧(s[k].toNat:Int)≤57∧0<k)):∀j,j<k+1→okAt s j=true:=by
 intro j hj
 rcases QDq j k with h1|h1
 ·exact hp j h1
 ·obtain rfl:j=k:=by omega
  exact (Qot s j h).2 hn
set_option maxRecDepth 100000 in
theorem Qjb (s:ByteArray) (w:World) (hs:s.size≤140737488355328):
 Calls Tryz.prog 40 #[.string s] w fun e w'=>e= .returned (.bool (QeW s))∧Later w w':=by
 go_enter Tryz.func40,Tryz.ntmps40
 by_cases hb:s.size<1∨16<s.size
 ·have hbb:(decide ((s.size:Int)<1)||decide (16<(s.size:Int)))=true:=by simp;omega
  rw[QjI hb]
  go_wp2
  all_goals
   go_ret
   exact⟨rfl,Later.refl w⟩
 ·go_wp2
  go_loopw [3,4,5,6] (fun i _ _ _ wr=>∃k:Nat,i= .int .i64 k∧k≤s.size∧(∀ j,j<k→okAt s j=true)∧Later w wr) (fun i _ _ _ _=>s.size-(intOf i).toNat)
  case atStart=>exact⟨0,rfl,by omega,fun j hj=>absurd hj (by omega),Later.refl w⟩
  case round=>
   obtain⟨k,rfl,hk,hp,hl⟩:=hrel
   by_cases hlt:k<s.size
   ·go_wp2
    all_goals
     try simp only[QDE,Bool.not_eq_false',decide_eq_true_eq,decide_eq_false_iff_not]at *
     first
      | exact⟨⟨k+1,rfl,by omega,QiN hlt hp (by omega),hl⟩,by simp[intOf];omega⟩
      | (go_ret;refine⟨?_,hl⟩;rw[Qg7 hlt (by omega)];rfl)
   ·obtain rfl:k=s.size:=by omega
    go_wp2
    go_ret
    refine⟨?_,hl⟩
    rw[Qj2 hb hp]
    rfl
set_option maxRecDepth 100000 in
theorem QsM (s:ByteArray) (w:World) (hs:s.size≤140737488355328):
 Calls Tryz.prog 50 #[.string s] w fun e w'=>e= .returned (.bool (QeW s))∧Later w w':=by
 go_enter Tryz.func50,Tryz.ntmps50
 by_cases hb:s.size<1∨16<s.size
 ·have hbb:(decide ((s.size:Int)<1)||decide (16<(s.size:Int)))=true:=by simp;omega
  rw[QjI hb]
  go_wp2
  all_goals
   go_ret
   exact⟨rfl,Later.refl w⟩
 ·go_wp2
  go_loopw [3,4,5] (fun i _ _ wr=>∃k:Nat,i= .int .i64 k∧k≤s.size∧(∀ j,j<k→okAt s j=true)∧Later w wr) (fun i _ _ _=>s.size-(intOf i).toNat)
  case atStart=>exact⟨0,rfl,by omega,fun j hj=>absurd hj (by omega),Later.refl w⟩
  case round=>
   obtain⟨k,rfl,hk,hp,hl⟩:=hrel
   by_cases hlt:k<s.size
   ·rcases QD6 k with rfl|hk0
    ·go_wp2
     all_goals
      try simp only[QDE,Bool.not_eq_false',decide_eq_true_eq,decide_eq_false_iff_not]at *
      first
       | exact⟨⟨0+1,rfl,by omega,QiN hlt hp (by omega),hl⟩,by simp[intOf];omega⟩
       | (go_ret;refine⟨?_,hl⟩;rw[Qg7 hlt (by omega)];rfl)
    ·have hkb:((k:Int)==0)=false:=by simp;omega
     go_wp2
     all_goals
      try simp only[QDE,Bool.not_eq_false',decide_eq_true_eq,decide_eq_false_iff_not,hkb]at *
      first
       | exact⟨⟨k+1,rfl,by omega,QiN hlt hp (by omega),hl⟩,by simp[intOf];omega⟩
       | (go_ret;refine⟨?_,hl⟩;rw[Qg7 hlt (by omega)];rfl)
   ·obtain rfl:k=s.size:=by omega
    go_wp2
    go_ret
    refine⟨?_,hl⟩
    rw[Qj2 hb hp]
    rfl
structure Nod where
 nm:ByteArray
 id:UInt64
 priv:Y32
 pub:Y32
def Qwr:Y32:=⟨QCn 32 0,by simp⟩
def nod0:Nod:=⟨.empty,0,Qwr,Qwr⟩
def NC (x:Nod):List Value:=.string x.nm :: W64 x.id :: (x.priv.val.map W8++x.pub.val.map W8)
theorem QaR (x:Nod):(NC x).length=66:=by simp[NC,x.priv.2,x.pub.2]
theorem Qzi (x:Nod):∀u∈NC x,u.oneCell'=true:=by
 intro u hu
 simp only[NC,QCQ,QDc,QC7]at hu
 rcases hu with rfl|rfl|⟨b,_,rfl⟩|⟨b,_,rfl⟩<;>rfl
abbrev RdN:World→Option Addr→Nat→List Nod→Prop:=RdF NC 66 nod0
theorem QjF {w:World} {A:Option Addr} {n:Nat} {xs:List Nod} (h:RdN w A n xs) {k:Nat} (hk:k<n):
 ∃b o,A=some ⟨b,o,none⟩∧b<w.heap.size∧w.cell? ⟨b,o+k*66,none⟩=some (.string (xs.getD k nod0).nm)∧w.cell? ⟨b,o+k*66+1,none⟩=some (W64 (xs.getD k nod0).id):=by
 obtain⟨b,o,hA,hb,hc⟩:=h.at_ hk
 exact⟨b,o,hA,hb,hc 0 _ rfl,hc 1 _ rfl⟩
theorem Qsm (x:Nod) {j:Nat} {v:Value} (h:(x.priv.val.map W8)[j]?=some v):(NC x)[2+j]?=some v:=by
 have hj:j<(x.priv.val.map W8).length:=(QCK.1 h).1
 rw[NC,show 2+j=j+1+1 by omega,QCo,QCo,QCD hj]
 exact h
def badN (x:Nod):Bool:=x.id==0|| !QeW x.nm
def QfN (x y:Nod):Bool:=x.nm.toList==y.nm.toList||x.id==y.id
def Qll (xs:List Nod) (i:Nat):Bool:=(QC5 i).any fun j=>QfN (xs.getD i nod0) (xs.getD j nod0)
def QbE (xs:List Nod):Nat:=if 64<xs.length then 2 else if xs.any badN then 3 else if (QC5 xs.length).any (Qll xs) then 4 else 0
theorem QtU {xs:List Nod} {p:Nod→Bool} {k:Nat} (hk:k<xs.length) (h:p (xs.getD k nod0)=true):xs.any p=true:=by
 rw[QEq]
 refine⟨_,QDn hk,?_⟩
 rwa [QCu,QCv hk]at h
theorem Qln {xs:List Nod} {p:Nod→Bool} (h:∀k,k<xs.length→p (xs.getD k nod0)=false):xs.any p=false:=by
 rw[List.any_eq_false]
 intro x hx
 obtain⟨k,hk,rfl⟩:=List.getElem_of_mem hx
 have:=h k hk
 rw[QCu,QCv hk]at this
 simpa using this
theorem QfZ {n:Nat} {p:Nat→Bool} (h:∀k,k<n→p k=false):(QC5 n).any p=false:=by
 rw[List.any_eq_false]
 intro k hk
 rw[h k (QDC.1 hk)]
 decide
theorem Qji {n k:Nat} {p:Nat→Bool} (hk:k<n) (h:p k=true):(QC5 n).any p=true:=QEq.2 ⟨k,QDC.2 hk,h⟩
theorem Qjg {xs:List Nod} (h:64<xs.length):QbE xs=2:=by rw[QbE,if_pos h]
theorem Qjj {xs:List Nod} {k:Nat} (h: ¬ 64<xs.length) (hk:k<xs.length) (hb:badN (xs.getD k nod0)=true):QbE xs=3:=by rw[QbE,if_neg h,if_pos (QtU hk hb)]
theorem QjG {xs:List Nod} {i j:Nat} (h: ¬ 64<xs.length) (hf:∀k,k<xs.length→badN (xs.getD k nod0)=false) (hi:i<xs.length) (hj:j<i) (hs:QfN (xs.getD i nod0) (xs.getD j nod0)=true):QbE xs=4:=by
 rw[QbE,if_neg h,if_neg (by rw[Qln hf];decide),if_pos (Qji hi (Qji hj hs))]
theorem QnZ {xs:List Nod} (h: ¬ 64<xs.length) (hf:∀k,k<xs.length→badN (xs.getD k nod0)=false) (hd:∀k,k<xs.length→Qll xs k=false):QbE xs=0:=by
 rw[QbE,if_neg h,if_neg (by rw[Qln hf];decide),if_neg (by rw[QfZ hd];decide)]
theorem Qta {xs:List Nod} {k:Nat} (hk:k<xs.length):xs.getD k nod0∈xs:=by
 rw[QCu,QCv hk]
 exact QDn hk
set_option maxRecDepth 100000 in
theorem Qjy (A:Option Addr) (n c:Nat) (xs:List Nod) (w:World) (hx:RdN w A n xs) (hn:n≤1099511627776) (hs:∀x∈xs,x.nm.size≤140737488355328):
 Calls Tryz.prog 24 #[.slice A n c] w fun e w'=>e= .returned (.int .i64 (QbE xs:Nat))∧Later w w':=by
 have hl0:=hx.1
 go_enter Tryz.func24,Tryz.ntmps24
 by_cases h64:64<n
 ·go_wp2
  go_ret
  exact⟨by rw[Qjg (by omega)];rfl,Later.refl w⟩
 ·go_wp2
  go_loopw [3,11] (fun _ i wr=>∃k:Nat,i= .int .i64 k∧k≤n∧(∀ j,j<k→badN (xs.getD j nod0)=false)∧Later w wr) (fun _ i _=>n-(intOf i).toNat)
  case atStart=>exact⟨0,rfl,by omega,fun j hj=>absurd hj (by omega),Later.refl w⟩
  case round=>
   obtain⟨k,rfl,hk,hp,hl⟩:=hrel
   by_cases hlt:k<n
   ·obtain⟨b,o,rfl,hb,hc0,hc1⟩:=QjF (hx.later hl) hlt
    have hwf:=hid (Qjb (xs.getD k nod0).nm wr (hs _ (Qta (by omega))))
    have hbad:=hid (fun (h:badN (xs.getD k nod0)=true)=>Qjj (xs:=xs) (by omega) (by omega) h)
    have hgood:=hid (fun (h:badN (xs.getD k nod0)=false)=>Qcl (p:=fun j=>badN (xs.getD j nod0)=false) hp h)
    generalize xs.getD k nod0=x at *
    clear hp
    by_cases hid0:x.id=0
    ·go_wp2
     go_ret
     exact⟨by rw[hbad.out (by rw[badN,hid0];rfl)];rfl,hl⟩
    ·have hid1:(x.id==0)=false:=by simpa using hid0
     go_wp2_with fail
     refine (hwf.out).mono ?_
     rintro e w1 ⟨rfl,hl1⟩
     cases hok:QeW x.nm
     ·go_wp2
      go_ret
      exact⟨by rw[hbad.out (by rw[badN,hok,Bool.not_false,Bool.or_true])];rfl,hl.trans hl1⟩
     ·go_wp2
      exact⟨⟨k+1,rfl,by omega,hgood.out (by rw[badN,hid1,hok];rfl),hl.trans hl1⟩,by simp[intOf];omega⟩
   ·obtain rfl:k=n:=by omega
    replace hp:=hid (show ∀j,j<xs.length→badN (xs.getD j nod0)=false by rw[hl0];exact hp)
    go_wp2
    go_loopw [4,5,32] (fun _ _ i wr=>∃m:Nat,i= .int .i64 m∧m≤k∧Hid (∀ j,j<m→Qll xs j=false)∧Later w wr) (fun _ _ i _=>k-(intOf i).toNat)
    case atStart=>exact⟨0,rfl,by omega,hid (fun j hj=>absurd hj (by omega)),hl⟩
    case round=>
     clear hl
     obtain⟨i,rfl,hi,hq,hl⟩:=hrel
     by_cases hik:i<k
     ·go_wp2
      go_loopw [5] (fun j wr=>∃m:Nat,j= .int .i64 m∧m≤i∧Hid (∀ j,j<m→QfN (xs.getD i nod0) (xs.getD j nod0)=false)∧Later w wr) (fun j _=>i-(intOf j).toNat)
      case atStart=>exact⟨0,rfl,by omega,hid (fun j hj=>absurd hj (by omega)),hl⟩
      case round=>
       clear hl
       obtain⟨m,rfl,hm,hr,hl⟩:=hrel
       by_cases hmi:m<i
       ·obtain⟨b,o,rfl,hb,hi0,hi1⟩:=QjF (hx.later hl) hik
        obtain⟨b',o',he,hb',hm0,hm1⟩:=QjF (hx.later hl) (show m<k by omega)
        simp only[Option.some.injEq,Addr.mk.injEq,and_true]at he
        obtain⟨rfl,rfl⟩:=he
        have hdup:=hid (fun (h:QfN (xs.getD i nod0) (xs.getD m nod0)=true)=>QjG (xs:=xs) (by omega) hp.out (by omega) hmi h)
        have hgood:=hid (fun (h:QfN (xs.getD i nod0) (xs.getD m nod0)=false)=>Qcl (p:=fun j=>QfN (xs.getD i nod0) (xs.getD j nod0)=false) hr.out h)
        generalize xs.getD i nod0=x at *
        generalize xs.getD m nod0=y at *
        cases hnm:(x.nm.toList==y.nm.toList)
        ·go_wp2_with fail
         refine Qad [] [0,1,2,3,4,5,6,7,8,9,10,11,12,13,14,15,16,17,18,19,20,21,22,23] [] (by as_aux_lemma=>kernel_rfl) (by as_aux_lemma=>kernel_rfl) (by intro _ _ d _ _ h;cases d<;>exact h) ?_
         simp only[Qai,pick,QCo,QCp,QCq,QCr,QCs]
         repeat (go_big_quiet_step (fail))
         refine wpQuiet_nil ?_
         cases hie:(x.id==y.id)
         ·go_wp2
          exact⟨⟨m+1,rfl,by omega,hid (hgood.out (by rw[QfN,hnm,hie];rfl)),hl.trans (Qab _)⟩,by simp[intOf];omega⟩
         ·go_wp2
          go_ret
          exact⟨by rw[hdup.out (by rw[QfN,hnm,hie];rfl)];rfl,hl.trans (Qab _)⟩
        ·go_wp2_with fail
         refine Qad [] [0,1,2,3,4,5,6,7,8,9,10,11,12,13,14,15,16,17,18,19,20,21,22,23] [] (by as_aux_lemma=>kernel_rfl) (by as_aux_lemma=>kernel_rfl) (by intro _ _ d _ _ h;cases d<;>exact h) ?_
         simp only[Qai,pick,QCo,QCp,QCq,QCr,QCs]
         repeat (go_big_quiet_step (fail))
         refine wpQuiet_nil ?_
         go_wp2
         go_ret
         exact⟨by rw[hdup.out (by rw[QfN,hnm];rfl)];rfl,hl.trans (Qab _)⟩
       ·obtain rfl:m=i:=by omega
        have hnext:Hid (∀ j,j<m+1→Qll xs j=false):=hid (Qcl (p:=fun j=>Qll xs j=false) hq.out (QfZ hr.out))
        go_wp2
        exact⟨⟨m+1,rfl,by omega,hnext,hl⟩,by simp[intOf];omega⟩
     ·obtain rfl:i=k:=by omega
      go_wp2
      go_ret
      refine⟨?_,hl⟩
      rw[QnZ (by omega) hp.out (by rw[hl0];exact hq.out)]
      rfl
set_option maxRecDepth 100000 in
theorem QjW (A:Option Addr) (n c:Nat) (xs:List Nod) (w:World) (hx:RdN w A n xs) (hn:n≤1099511627776) (hs:∀x∈xs,x.nm.size≤140737488355328):
 Calls Tryz.prog 33 #[.slice A n c] w fun e w'=>e= .returned (.int .i64 (QbE xs:Nat))∧Later w w':=by
 have hl0:=hx.1
 go_enter Tryz.func33,Tryz.ntmps33
 by_cases h64:64<n
 ·go_wp2
  go_ret
  exact⟨by rw[Qjg (by omega)];rfl,Later.refl w⟩
 ·go_wp2
  go_loopw [3] (fun i wr=>∃k:Nat,i= .int .i64 k∧k≤n∧(∀ j,j<k→badN (xs.getD j nod0)=false)∧Later w wr) (fun i _=>n-(intOf i).toNat)
  case atStart=>exact⟨0,rfl,by omega,fun j hj=>absurd hj (by omega),Later.refl w⟩
  case round=>
   obtain⟨k,rfl,hk,hp,hl⟩:=hrel
   by_cases hlt:k<n
   ·obtain⟨b,o,rfl,hb,hc0,hc1⟩:=QjF (hx.later hl) hlt
    have hwf:=hid (QsM (xs.getD k nod0).nm wr (hs _ (Qta (by omega))))
    have hbad:=hid (fun (h:badN (xs.getD k nod0)=true)=>Qjj (xs:=xs) (by omega) (by omega) h)
    have hgood:=hid (fun (h:badN (xs.getD k nod0)=false)=>Qcl (p:=fun j=>badN (xs.getD j nod0)=false) hp h)
    generalize xs.getD k nod0=x at *
    clear hp
    go_wp2_with fail
    refine (hwf.out).mono ?_
    rintro e w1 ⟨rfl,hl1⟩
    replace hc1:=(hl1.below.cell (p:=⟨b,o+k*66+1,none⟩) hb).trans hc1
    cases hok:QeW x.nm
    ·go_wp2
     go_ret
     exact⟨by rw[hbad.out (by rw[badN,hok,Bool.not_false,Bool.or_true])];rfl,hl.trans hl1⟩
    ·by_cases hid0:x.id=0
     ·go_wp2
      go_ret
      exact⟨by rw[hbad.out (by rw[badN,hid0];rfl)];rfl,hl.trans hl1⟩
     ·have hid1:(x.id==0)=false:=by simpa using hid0
      go_wp2
      exact⟨⟨k+1,by go_num,by omega,hgood.out (by rw[badN,hid1,hok];rfl),hl.trans hl1⟩,by simp[intOf];omega⟩
   ·obtain rfl:k=n:=by omega
    replace hp:=hid (show ∀j,j<xs.length→badN (xs.getD j nod0)=false by rw[hl0];exact hp)
    go_wp2
    go_loopw [4,5] (fun i _ wr=>∃m:Nat,i= .int .i64 m∧m≤k∧Hid (∀ j,j<m→Qll xs j=false)∧Later w wr) (fun i _ _=>k-(intOf i).toNat)
    case atStart=>exact⟨0,rfl,by omega,hid (fun j hj=>absurd hj (by omega)),hl⟩
    case round=>
     clear hl
     obtain⟨i,rfl,hi,hq,hl⟩:=hrel
     by_cases hik:i<k
     ·go_wp2
      go_loopw [5] (fun j wr=>∃m:Nat,j= .int .i64 m∧m≤i∧Hid (∀ j,j<m→QfN (xs.getD i nod0) (xs.getD j nod0)=false)∧Later w wr) (fun j _=>i-(intOf j).toNat)
      case atStart=>exact⟨0,rfl,by omega,hid (fun j hj=>absurd hj (by omega)),hl⟩
      case round=>
       clear hl
       obtain⟨m,rfl,hm,hr,hl⟩:=hrel
       by_cases hmi:m<i
       ·obtain⟨b,o,rfl,hb,hi0,hi1⟩:=QjF (hx.later hl) hik
        obtain⟨b',o',he,hb',hm0,hm1⟩:=QjF (hx.later hl) (show m<k by omega)
        simp only[Option.some.injEq,Addr.mk.injEq,and_true]at he
        obtain⟨rfl,rfl⟩:=he
        have hdup:=hid (fun (h:QfN (xs.getD i nod0) (xs.getD m nod0)=true)=>QjG (xs:=xs) (by omega) hp.out (by omega) hmi h)
        have hgood:=hid (fun (h:QfN (xs.getD i nod0) (xs.getD m nod0)=false)=>Qcl (p:=fun j=>QfN (xs.getD i nod0) (xs.getD j nod0)=false) hr.out h)
        generalize xs.getD i nod0=x at *
        generalize xs.getD m nod0=y at *
        cases hnm:(x.nm.toList==y.nm.toList)
        ·go_wp2_with fail
         refine Qad [] [0,1,2,3,4,5,6,7,8,9,10,11,12,13,14,15,16,17,18,19,20,21,22,23] [] (by as_aux_lemma=>kernel_rfl) (by as_aux_lemma=>kernel_rfl) (by intro _ _ d _ _ h;cases d<;>exact h) ?_
         simp only[Qai,pick,QCo,QCp,QCq,QCr,QCs]
         repeat (go_big_quiet_step (fail))
         refine wpQuiet_nil ?_
         cases hie:(x.id==y.id)
         ·go_wp2
          exact⟨⟨m+1,rfl,by omega,hid (hgood.out (by rw[QfN,hnm,hie];rfl)),hl.trans (Qab _)⟩,by simp[intOf];omega⟩
         ·go_wp2
          go_ret
          exact⟨by rw[hdup.out (by rw[QfN,hnm,hie];rfl)];rfl,hl.trans (Qab _)⟩
        ·go_wp2_with fail
         refine Qad [] [0,1,2,3,4,5,6,7,8,9,10,11,12,13,14,15,16,17,18,19,20,21,22,23] [] (by as_aux_lemma=>kernel_rfl) (by as_aux_lemma=>kernel_rfl) (by intro _ _ d _ _ h;cases d<;>exact h) ?_
         simp only[Qai,pick,QCo,QCp,QCq,QCr,QCs]
         repeat (go_big_quiet_step (fail))
         refine wpQuiet_nil ?_
         go_wp2
         go_ret
         exact⟨by rw[hdup.out (by rw[QfN,hnm];rfl)];rfl,hl.trans (Qab _)⟩
       ·obtain rfl:m=i:=by omega
        have hnext:Hid (∀ j,j<m+1→Qll xs j=false):=hid (Qcl (p:=fun j=>Qll xs j=false) hq.out (QfZ hr.out))
        go_wp2
        exact⟨⟨m+1,rfl,by omega,hnext,hl⟩,by simp[intOf];omega⟩
     ·obtain rfl:i=k:=by omega
      go_wp2
      go_ret
      refine⟨?_,hl⟩
      rw[QnZ (by omega) hp.out (by rw[hl0];exact hq.out)]
      rfl
set_option maxRecDepth 100000 in
theorem QmT (K:List UInt8) (hK:K.length=32) (w:World):
 Calls Tryz.prog 43 #[.agg (K.map W8).toArray] w fun e w'=>∃g,e= .returned (.slice (some ⟨g,0,none⟩) 32 32)∧w.heap.size≤g∧Blk w' g 5 (K.map W8)∧Later w w':=by
 have hb0:Blk (w.alloc (.cells (K.map W8).toArray 79)) w.heap.size 79 (K.map W8):=Blk.new _ _ _
 go_enter Tryz.func43,Tryz.ntmps43
 go_wp2_with (first
  | (refine QaH rfl _ _ 32 rfl 5 (.int .u8 0) 1 Tryz.underlying32 QbW rfl _ _ _ _ 32 rfl rfl rfl rfl (by omega) (by omega) ?_;intro w2 hb2 hl2;rw[show (w.alloc (.cells (K.map W8).toArray 79)).heap.size=w.heap.size+1 by simp]at hb2)
  | (refine Qsk 0 32 rfl _ _ _ _ rfl 5 Tryz.underlying32 QbR (show Blk w2 (w.heap.size+1) 5 ((QCn 32 0).map W8) by (rw [QC8];exact hb2)) (Qen (hb0.later hl2) hK) rfl rfl (by simp) ?_;intro w3 hb3 ho3;rw[Qod _ _ (by simpa using hK)]at hb3)
  | fail)
 go_ret
 exact⟨w.heap.size+1,rfl,by omega,hb3,((Qaa _ _).trans hl2).only ho3 (by omega)⟩
section
variable {ops:Array Oper} {rest:List Oper} {o:Oper} {a:Act} {w:World} {Q:Exit→Act→World→Prop}
theorem QwZ (hgd:Region.wanted o (yielded ops a.tmps)=true) (x:Operand) (ho:o.op= .load 79 x) {g off:Nat} {K:List UInt8} (hc:∀j v,(K.map W8)[j]?=some v→w.cell? ⟨g,off+j,none⟩=some v) (hl:K.length=32) (hx:a.eval x= .pointer (some ⟨g,off,none⟩))
 (h:wpList Tryz.prog ops Q rest (a.put o.dst (.agg (K.map W8).toArray)) w):wpList Tryz.prog ops Q (o :: rest) a w:=
 Qal hgd _ x ho g off _ hc hx _ Tryz.underlying79 rfl (by rw[QCt,hl];exact Qbn) h
end
theorem QqQ {w:World} {b off n:Nat} {K:List UInt8} (hb:b<w.heap.size) (hc:∀j v,(K.map W8)[j]?=some v→w.cell? ⟨b,off+j,none⟩=some v) (hn:K.length=n):RdB w (some ⟨b,off,none⟩) n K:=
 ⟨by rw[QCt,hn],fun _=>⟨b,off,rfl,hb,hc⟩⟩
def pubK (K:List UInt8):List UInt8:=QcQ K (nb 9)
theorem QmN (K:List UInt8):(pubK K).length=32:=QbF _ _
def QBi:List UInt8:=[110,111,100,101]
def keyK (seed:List UInt8) (s:ByteArray):List UInt8:=expB (Qbm QBi seed) (strB s) 32
theorem Qnl (seed:List UInt8) (s:ByteArray):(keyK seed s).length=32:=Qh3 _ _ _
def keyY (seed:List UInt8) (s:ByteArray):Y32:=⟨keyK seed s,Qnl seed s⟩
def pubY (K:List UInt8):Y32:=⟨pubK K,QmN K⟩
def keyed (seed:List UInt8) (i:Nat) (s:ByteArray):Nod:=⟨s,QCN (i+1),keyY seed s,pubY (keyK seed s)⟩
theorem Qd8 {P:Program} {t:TypeId} {d:TypeDesc} {k:Nat} {v:Value} (hu:P.underlying t=some d) (hd:QbH d=false) {zs:List Value} (hz:zs[k]?=some v) (w:World):(part t zs.toArray k).run P w= .ok v w:=by
 have ha:(isAgg t).run P w= .ok false w:=by
  unfold isAgg
  simp only[Sem.run_bind,run_underlying hu]
  cases d<;>simp_all [QbH]
 unfold part
 simp[Sem.run_bind,ha,Result.andThen_ok,hz]
theorem QlJ {P:Program} {d k:Nat} {t:TypeId} {f:Field} {fs:List Field} (hf:f.type=t) (hu:P.underlying t=some .string) (hn:f.name≠ "_") {xs ys:List Value} {p q:ByteArray} (ho:f.offset=k) (hp:xs[k]?=some (.string p)) (hq:ys[k]?=some (.string q)) (w:World):
 (Op.eqFields (d+1) xs.toArray ys.toArray (f :: fs)).run P w=if p.toList==q.toList then (Op.eqFields (d+1) xs.toArray ys.toArray fs).run P w else .ok false w:=by
 rw[Op.eqFields,if_pos hn]
 simp only[Sem.run_bind,hf,ho,Qd8 hu rfl hp,Qd8 hu rfl hq,Result.andThen_ok,run_equalIn_string w d t p q hu]
 cases p.toList==q.toList<;>simp
theorem Qkd {P:Program} {d k:Nat} {t:TypeId} {f:Field} {fs:List Field} (hf:f.type=t) (hu:P.underlying t=some (.int .u64)) (hn:f.name≠ "_") {xs ys:List Value} {p q:UInt64} (ho:f.offset=k) (hp:xs[k]?=some (W64 p)) (hq:ys[k]?=some (W64 q)) (w:World):
 (Op.eqFields (d+1) xs.toArray ys.toArray (f :: fs)).run P w=if p==q then (Op.eqFields (d+1) xs.toArray ys.toArray fs).run P w else .ok false w:=by
 rw[Op.eqFields,if_pos hn]
 simp only[Sem.run_bind,hf,ho,Qd8 hu rfl hp,Qd8 hu rfl hq,Result.andThen_ok,Qit t _ hu d p q w]
 cases p==q<;>simp
def Qpw (x y:Nod):Bool:=x.nm.toList==y.nm.toList&&(x.id==y.id&&(x.priv.val==y.priv.val&&x.pub.val==y.pub.val))
@[go_sem] theorem QyA (x:Nod):Qpw x x=true:=by simp[Qpw]
theorem Qly (x:Nod):((NC x).drop 2).take 32=x.priv.val.map W8:=by
 have h1:(x.priv.val.map W8).length=32:=by rw[QCt,x.priv.2]
 rw[NC,QD0,QD0,List.drop_zero,QD9 h1]
theorem Qol (x:Nod):((NC x).drop 34).take 32=x.pub.val.map W8:=by
 have h1:(x.priv.val.map W8).length=32:=by rw[QCt,x.priv.2]
 rw[NC,show (34:Nat)=32+1+1 from rfl,QD0,QD0,QDg h1,QCE (by rw[QCt,x.pub.2];omega)]
set_option maxRecDepth 100000 in
theorem Qij (x y:Nod) (w:World) {fs:Array Field} (hu:Tryz.prog.underlying 91=some (.struct fs)):(Op.eqFields 9999 (NC x).toArray (NC y).toArray fs.toList).run Tryz.prog w= .ok (Qpw x y) w:=by
 rw[Tryz.underlying91]at hu
 cases hu
 rw[QlJ (d:=9998) (k:=0) rfl Tryz.underlying9 (by decide) rfl rfl rfl,Qkd (d:=9998) (k:=1) rfl Tryz.underlying31 (by decide) rfl rfl rfl,
  Qcd (d:=9997) (k:=2) rfl (by decide) rfl (Qly x) (Qly y) x.priv.2 y.priv.2,Qcd (d:=9997) (k:=34) rfl (by decide) rfl (Qol x) (Qol y) x.pub.2 y.pub.2,Qdf]
 rw[Qpw]
 cases x.nm.toList==y.nm.toList<;>cases x.id==y.id<;>cases x.priv.val==y.priv.val<;>cases x.pub.val==y.pub.val<;>rfl
theorem Qxa:Tryz.prog.eqGuardType Tryz.prog.depth 91=false:=by kernel_rfl
@[go_sem high] theorem QxX (op:BinOp) (x y:Operand) (xs ys:Array Value) (w:World):(eqGuard op 91 x y (.agg xs) (.agg ys)).run Tryz.prog w= .ok () w:=run_eqGuard_agg w op _ x y xs ys Qxa
set_option maxRecDepth 100000 in
@[go_sem high] theorem Qxk (x y:Nod) (w:World):(binOp .eql 91 (.agg (NC x).toArray) (.agg (NC y).toArray)).run Tryz.prog w= .ok (.bool (Qpw x y)) w:=by
  rw[QgR Tryz.underlying91 (by kernel_rfl),Qij x y w Tryz.underlying91]
  rfl
set_option maxRecDepth 100000 in
@[go_sem high] theorem Qye (x y:Nod) (w:World):(binOp .neq 91 (.agg (NC x).toArray) (.agg (NC y).toArray)).run Tryz.prog w= .ok (.bool (!Qpw x y)) w:=by
  rw[QiT Tryz.underlying91 (by kernel_rfl),Qij x y w Tryz.underlying91]
  rfl
theorem QBL:(Tryz.prog.info? 91).bind (·.zero)=some (.agg (NC nod0).toArray):=by kernel_rfl
theorem QjL:Tryz.prog.built 91 []=some (NC nod0).toArray:=by
 rw[QaO (pl:=[(0,1),(1,1),(2,32),(34,32)]) Tryz.underlying91 QBL (by kernel_rfl),QbM]
theorem Qiv:(Tryz.prog.info? 91).map (·.size)=some 66:=by kernel_rfl
section
variable {ops:Array Oper} {rest:List Oper} {o:Oper} {a:Act} {w:World} {Q:Exit→Act→World→Prop}
theorem QoB (hgd:Region.wanted o (yielded ops a.tmps)=true) (x:Operand) (ho:o.op= .load 91 x) {g off:Nat} {y:Nod} (hc:∀i v,(NC y)[i]?=some v→w.cell? ⟨g,off+i,none⟩=some v) (hx:a.eval x= .pointer (some ⟨g,off,none⟩))
 (h:wpList Tryz.prog ops Q rest (a.put o.dst (.agg (NC y).toArray)) w):wpList Tryz.prog ops Q (o :: rest) a w:=
 Qal hgd _ x ho g off _ hc hx _ Tryz.underlying91 rfl (by rw[QaR];exact Qiv) h
end
theorem QzL:(Tryz.prog.info? 93).bind (·.zero)=some (.agg (NC nod0).toArray):=by kernel_rfl
theorem Qey:(Tryz.prog.info? 93).map (·.size)=some 66:=by kernel_rfl
theorem QpD (l:List Value) (x:Nod) (h:l.length=66):Qau l 0 (NC x)=NC x:=Qao _ _ (by rw[QaR,h])
theorem QmD (x:Nod):Tryz.prog.built 93 [(0,.agg (NC x).toArray)]=some (NC x).toArray:=by
 rw[QaO (pl:=[(0,66)]) Tryz.underlying93 QzL (by kernel_rfl),QaS (vs:=NC x) (off:=0) rfl (by rw[QaR];rfl) (by rw[QaR,QaR];omega),QbM,QpD _ _ (QaR _)]
theorem Qhk:Tryz.prog.built 93 []=some (NC nod0).toArray:=by
 rw[QaO (pl:=[(0,66)]) Tryz.underlying93 QzL (by kernel_rfl),QbM]
section
variable {ops:Array Oper} {rest:List Oper} {o:Oper} {a:Act} {w:World} {Q:Exit→Act→World→Prop}
theorem QcE {ty:TypeId} (hi:(Tryz.prog.info? ty).map (·.size)=some 66) (hgd:o.guard=none) (hd:o.dst=none) (x y:Operand) (ho:o.op= .store ty x y) {g:Nat} {t:TypeId} {l:List Value} {z:Nod} (hg:Blk w g t l) (hx:a.eval x= .pointer (some ⟨g,0,none⟩)) (hy:a.eval y= .agg (NC z).toArray) (hl:l.length=66)
 (h:∀w',Blk w' g t (NC z)→Only g w w'→wpList Tryz.prog ops Q rest a w'):wpList Tryz.prog ops Q (o :: rest) a w:=
 Qaf hgd hd _ x y ho g t l _ hg hx hy 66 hi (QaR _) hl (Qzi _) h
theorem QnH {J:Act→Prop} (x:Operand) (ho:o.op= .load 93 x) {w0:World} {g off:Nat} {y:Nod} (hc:∀i v,(NC y)[i]?=some v→w0.cell? ⟨g,off+i,none⟩=some v) (hg:g<w0.heap.size) (hx:a.eval x= .pointer (some ⟨g,off,none⟩)) (h:J (a.put o.dst (.agg (NC y).toArray))):
 o.quiet Tryz.prog a (fun w'=>∃x,w'=grow w0 x) J:=
 QaN _ x ho g off (NC y) (fun w' hw j v hv=>by obtain⟨y,rfl⟩:=hw;exact ((Later.below ⟨y,rfl⟩).cell (p:=⟨g,off+j,none⟩) hg).trans (hc j v hv)) hx _ Tryz.underlying93 rfl (by rw[QaR];exact Qey) h
end
def QiU (p:Nod→Bool) (xs:List Nod):Nod×Nat:=match xs.find? p with|some x=>(x,0)|none=>(nod0,4)
theorem QoL {xs:List Nod} {p:Nod→Bool} {k:Nat} (hk:k<xs.length) (hp:∀j,j<k→p (xs.getD j nod0)=false) (h:p (xs.getD k nod0)=true):QiU p xs=(xs.getD k nod0,0):=by
 have:xs.find? p=some (xs.getD k nod0):=by
  rw[List.find?_eq_some_iff_getElem]
  refine⟨h,k,hk,by rw[QCu,QCv hk];rfl,fun j hj=>?_⟩
  have:=hp j hj
  rw[QCu,QCv (by omega)]at this
  simpa using this
 rw[QiU,this]
theorem QoY {xs:List Nod} {p:Nod→Bool} (hp:∀j,j<xs.length→p (xs.getD j nod0)=false):QiU p xs=(nod0,4):=by
 have:xs.find? p=none:=by
  rw[List.find?_eq_none]
  intro x hx
  obtain⟨k,hk,rfl⟩:=List.getElem_of_mem hx
  have:=hp k hk
  rw[QCu,QCv hk]at this
  simpa using this
 rw[QiU,this]
def QyK (s:ByteArray) (x:Nod):Bool:=x.nm.toList==s.toList
def byId (i:UInt64) (x:Nod):Bool:=x.id==i
def QbN (p:Nod→Bool) (xs:List Nod):Nod×Nat:=if QbE xs=0 then QiU p xs else (nod0,QbE xs)
set_option maxRecDepth 100000 in
theorem Qxy (A:Option Addr) (n c:Nat) (xs:List Nod) (i:UInt64) (w:World) (hx:RdN w A n xs) (hn:n≤1099511627776) (hs:∀x∈xs,x.nm.size≤140737488355328):
 Calls Tryz.prog 25 #[.slice A n c,W64 i] w fun e w'=>e= .returned (.tuple #[.agg (NC (QbN (byId i) xs).1).toArray,.int .i64 (QbN (byId i) xs).2])∧Later w w':=by
 have hl0:=hx.1
 have hb0:Blk (w.alloc (.cells (NC nod0).toArray 93)) w.heap.size 93 (NC nod0):=Blk.new _ _ _
 have hC:=hid (fun w h=>Qjy A n c xs w h hn hs)
 go_enter Tryz.func25,Tryz.ntmps25
 go_wp2_with fail
 refine (hC.out _ (hx.later (Qaa _ _))).mono ?_
 rintro e w1 ⟨rfl,l1⟩
 replace hb0:=hb0.later l1
 have L:=(Qaa w (.cells (NC nod0).toArray 93)).trans l1
 by_cases h0:QbE xs=0
 ·have hres:=hid (show QbN (byId i) xs=QiU (byId i) xs by rw[QbN,if_pos h0])
  rw[h0]
  clear h0
  go_wp2
  go_loopw [16] (fun j wr=>∃k:Nat,j= .int .i64 k∧k≤n∧Hid (∀ j,j<k→byId i (xs.getD j nod0)=false)∧Blk wr w.heap.size 93 (NC nod0)∧Later w wr) (fun j _=>n-(intOf j).toNat)
  case atStart=>exact⟨0,rfl,by omega,hid (fun j hj=>absurd hj (by omega)),hb0,L⟩
  case round=>
   clear hb0 L
   obtain⟨k,rfl,hk,hp,hb0,L⟩:=hrel
   by_cases hlt:k<n
   ·obtain⟨b,o,rfl,hb,hc⟩:=(hx.later L).at_ hlt
    have hhit:=hid (fun h:byId i (xs.getD k nod0)=true=>QoL (p:=byId i) (by omega) hp.out h)
    have hnext:=hid (fun h:byId i (xs.getD k nod0)=false=>Qcl (p:=fun j=>byId i (xs.getD j nod0)=false) hp.out h)
    generalize xs.getD k nod0=x at *
    have c1:wr.cell? ⟨b,o+k*66+1,none⟩=some (W64 x.id):=hc 1 _ rfl
    cases hie:(x.id==i)
    ·go_wp2
     exact⟨⟨k+1,rfl,by omega,hid (hnext.out hie),hb0,L⟩,by simp[intOf];omega⟩
    ·have hres2:=hid (hres.out.trans (hhit.out hie))
     go_wp2_with (first
      | (refine QoB rfl _ rfl hc rfl ?_)
      | (refine Qah rfl _ _ rfl (NC x) (by simp only[QCA,QCR,QCC];exact QmD x) ?_)
      | (refine QcE Qey rfl rfl _ _ rfl hb0 rfl rfl (QaR _) ?_;intro w9 hb9 ho9)
      | fail)
     exact bodyPost_ret (Qae rfl _ _ _ _ _ _ hb9 rfl Tryz.underlying93 rfl (by rw[QaR];exact Qey)) rfl ⟨by rw[hres2.out];rfl,L.only ho9 (QCx _)⟩
   ·obtain rfl:k=n:=by omega
    have hres2:=hid (hres.out.trans (QoY (p:=byId i) (xs:=xs) (by rw[hl0];exact hp.out)))
    go_wp2_with (first
     | (refine Qah rfl _ _ rfl (NC nod0) (by simp only[QCA,QCC];exact Qhk) ?_)
     | (refine QcE Qey rfl rfl _ _ rfl hb0 rfl rfl (QaR _) ?_;intro w9 hb9 ho9)
     | fail)
    exact bodyPost_ret (Qae rfl _ _ _ _ _ _ hb9 rfl Tryz.underlying93 rfl (by rw[QaR];exact Qey)) rfl ⟨by rw[hres2.out];rfl,L.only ho9 (QCx _)⟩
 ·have hres:=hid (show QbN (byId i) xs=(nod0,QbE xs) by rw[QbN,if_neg h0])
  have hne:((QbE xs:Int) != 0)=true:=by simpa using h0
  clear h0
  go_wp2_with (first
   | (refine Qah rfl _ _ rfl (NC nod0) (by simp only[QCA,QCC];exact Qhk) ?_)
   | (refine QcE Qey rfl rfl _ _ rfl hb0 rfl rfl (QaR _) ?_;intro w9 hb9 ho9)
   | fail)
  exact bodyPost_ret (Qae rfl _ _ _ _ _ _ hb9 rfl Tryz.underlying93 rfl (by rw[QaR];exact Qey)) rfl ⟨by rw[hres.out];rfl,L.only ho9 (QCx _)⟩
def Qco (s:ByteArray) (i:UInt64) (x:Nod):Bool:=if s.toList.isEmpty=true then byId i x else QyK s x
set_option maxRecDepth 100000 in
set_option maxHeartbeats 4000000 in
theorem Qrw (A:Option Addr) (n c:Nat) (xs:List Nod) (s:ByteArray) (i:UInt64) (w:World) (hx:RdN w A n xs) (hn:n≤1099511627776) (hs:∀x∈xs,x.nm.size≤140737488355328):
 Calls Tryz.prog 34 #[.slice A n c,.string s,W64 i] w fun e w'=>e= .returned (.tuple #[.agg (NC (QbN (Qco s i) xs).1).toArray,.int .i64 (QbN (Qco s i) xs).2])∧Later w w':=by
 have hl0:=hx.1
 have hb0:Blk (w.alloc (.cells (NC nod0).toArray 91)) w.heap.size 91 (NC nod0):=Blk.new _ _ _
 have hC:=hid (fun w h=>QjW A n c xs w h hn hs)
 go_enter Tryz.func34,Tryz.ntmps34
 go_wp2_with fail
 refine (hC.out _ (hx.later (Qaa _ _))).mono ?_
 rintro e w1 ⟨rfl,l1⟩
 replace hb0:=hb0.later l1
 have L:=(Qaa w (.cells (NC nod0).toArray 91)).trans l1
 by_cases h0:QbE xs=0
 ·have hres:=hid (show QbN (Qco s i) xs=QiU (Qco s i) xs by rw[QbN,if_pos h0])
  rw[h0]
  clear h0
  go_wp2
  go_loopw [9] (fun j wr=>∃k:Nat,j= .int .i64 k∧k≤n∧Hid (∀ j,j<k→Qco s i (xs.getD j nod0)=false)∧Blk wr w.heap.size 91 (NC nod0)∧Later w wr) (fun j _=>n-(intOf j).toNat)
  case atStart=>exact⟨0,rfl,by omega,hid (fun j hj=>absurd hj (by omega)),hb0,L⟩
  case round=>
   clear hb0 L
   obtain⟨k,rfl,hk,hp,hb0,L⟩:=hrel
   by_cases hlt:k<n
   ·obtain⟨b,o,rfl,hb,hc⟩:=(hx.later L).at_ hlt
    have hhit:=hid (fun h:Qco s i (xs.getD k nod0)=true=>QoL (p:=Qco s i) (by omega) hp.out h)
    have hnext:=hid (fun h:Qco s i (xs.getD k nod0)=false=>Qcl (p:=fun j=>Qco s i (xs.getD j nod0)=false) hp.out h)
    generalize xs.getD k nod0=x at *
    have c0:wr.cell? ⟨b,o+k*66,none⟩=some (.string x.nm):=hc 0 _ rfl
    have c1:wr.cell? ⟨b,o+k*66+1,none⟩=some (W64 x.id):=hc 1 _ rfl
    have hE:=hid (show Qco s i x=if s.toList.isEmpty=true then x.id==i else x.nm.toList==s.toList from rfl)
    cases he:s.toList.isEmpty
    all_goals (cases hnm:(x.nm.toList==s.toList)<;>cases hie:(x.id==i))
    all_goals
     go_wp2_with (first
      | (refine QoB rfl _ rfl hc rfl ?_)
      | (refine QcE Qiv rfl rfl _ _ rfl hb0 rfl rfl (QaR _) ?_;intro w9 hb9 ho9)
      | fail)
     first
      | exact⟨⟨k+1,by go_num,by omega,hid (hnext.out (by rw[hE.out,he,hnm,hie];rfl)),hb0,L⟩,by simp[intOf];omega⟩
      | exact bodyPost_ret (Qae rfl _ _ _ _ _ _ hb9 rfl Tryz.underlying91 rfl (by rw[QaR];exact Qiv)) rfl ⟨by rw[hres.out.trans (hhit.out (by rw[hE.out,he,hnm,hie];rfl))];rfl,L.only ho9 (QCx _)⟩
   ·obtain rfl:k=n:=by omega
    have hres2:=hid (hres.out.trans (QoY (p:=Qco s i) (xs:=xs) (by rw[hl0];exact hp.out)))
    go_wp2_with (first
     | (refine Qah rfl _ _ rfl (NC nod0) (by simp only[QCA,QCC];exact QjL) ?_)
     | (refine QcE Qiv rfl rfl _ _ rfl hb0 rfl rfl (QaR _) ?_;intro w9 hb9 ho9)
     | fail)
    exact bodyPost_ret (Qae rfl _ _ _ _ _ _ hb9 rfl Tryz.underlying91 rfl (by rw[QaR];exact Qiv)) rfl ⟨by rw[hres2.out];rfl,L.only ho9 (QCx _)⟩
 ·have hres:=hid (show QbN (Qco s i) xs=(nod0,QbE xs) by rw[QbN,if_neg h0])
  have hne:((QbE xs:Int) != 0)=true:=by simpa using h0
  clear h0
  go_wp2_with (first
   | (refine Qah rfl _ _ rfl (NC nod0) (by simp only[QCA,QCC];exact QjL) ?_)
   | (refine QcE Qiv rfl rfl _ _ rfl hb0 rfl rfl (QaR _) ?_;intro w9 hb9 ho9)
   | fail)
  exact bodyPost_ret (Qae rfl _ _ _ _ _ _ hb9 rfl Tryz.underlying91 rfl (by rw[QaR];exact Qiv)) rfl ⟨by rw[hres.out];rfl,L.only ho9 (QCx _)⟩
def bigB:Nat→Nat→List UInt8
 | 0,_=>[]
 | w+1,n=>bigB w (n/256)++[QC2 n]
theorem Qcb:∀w n,(bigB w n).length=w
 | 0,_=>rfl
 | w+1,n=>by rw[bigB,QCB,Qcb w];rfl
section
variable {n:Nat} {sl st:Nat→List UInt8} (hn1:1≤n) (hn5:n≤5) (hsl:∀k,(sl k).length=32)
include hn1 hn5 hsl
end
theorem QlO (d:Int) (h0:0≤d) (h1:d<256):((QC9 d).toNat:Int)=d:=by
 rw[QoM]
 omega
def QhB (p:Prt):List UInt8:=QCn 16 0++([p.kd,QC9 p.ix,QC9 p.ct,0]++(bigB 8 p.id.toNat++(bigB 2 p.da.length++(p.da++QCn (450-p.da.length) 0))))
theorem Qho (p:Prt) (h:p.da.length≤450):(QhB p).length=480:=by
 simp[QhB,Qcb]
 omega
theorem Qn0:∀(l:List UInt8) (k:Nat),l.length=k→bigB k (beN l 0)=l:=by
 intro l k h
 induction k generalizing l with
 | zero=>rw[QC0 h];rfl
 | succ k ih=>
   have hne:l≠[]:=by rintro rfl;cases h
   obtain⟨q,b,rfl⟩:∃q b,l=q++[b]:=⟨l.dropLast,l.getLast hne,(List.dropLast_concat_getLast hne).symm⟩
   have hq:q.length=k:=by simpa using h
   have hb:=b.toNat_lt
   have e:beN (q++[b]) 0=beN q 0*256+b.toNat:=by rw[Qg3];rfl
   rw[bigB,e,show (beN q 0*256+b.toNat)/256=beN q 0 by omega,ih q hq]
   congr 2
   apply QDl.1
   rw[QDM]
   show (beN q 0*256+b.toNat)%256=_
   omega
theorem Qth (b:List UInt8) (hb:b.length=480) (n:Nat) (_hn:n≤450):
 b=b.take 16++([b.getD 16 0,b.getD 17 0,b.getD 18 0,b.getD 19 0]++(subB b 20 8++(subB b 28 2++(subB b 30 n++b.drop (30+n))))):=by
 have h1:subB b 30 n++b.drop (30+n)=b.drop 30:=by rw[subB,←QD8,QC3]
 have h2:subB b 28 2++b.drop 30=b.drop 28:=by rw[subB,show b.drop 30=(b.drop 28).drop 2 by rw[QD8],QC3]
 have h3:subB b 20 8++b.drop 28=b.drop 20:=by rw[subB,show b.drop 28=(b.drop 20).drop 8 by rw[QD8],QC3]
 have g:∀i (h:i<b.length),b.getD i 0=b[i]:=fun i h=>by rw[QCu,QCv h];rfl
 have h4:[b.getD 16 0,b.getD 17 0,b.getD 18 0,b.getD 19 0]++b.drop 20=b.drop 16:=by
  rw[g 16 (by omega),g 17 (by omega),g 18 (by omega),g 19 (by omega),QDp (i:=16) (by omega),QDp (i:=17) (by omega),QDp (i:=18) (by omega),QDp (i:=19) (by omega)]
  rfl
 rw[h1,h2,h3,h4,QC3]
theorem Qof (b:List UInt8) (hb:b.length=480):Qb3 b<65536:=by
 have:=QqK (subB b 28 2) 0 1 (by omega)
 rw[Qav (by omega)]at this
 unfold Qb3
 omega
theorem Qjl (b:UInt8):QC9 (b.toNat:Int)=b:=by
 apply QDl.1
 have:=b.toNat_lt
 have:=QlO (b.toNat:Int) (by omega) (by omega)
 omega
theorem QhY (b:List UInt8) (hb:b.length=480) (hs:Qb3 b≤450):(Qdn b).da.length=Qb3 b:=Qav (by omega)
theorem Qnt (b:List UInt8) (hb:b.length=480) (h16:b.take 16=QCn 16 0) (hs:Qb3 b≤450):
 QhB (Qdn b)=b↔b.getD 19 0=0∧b.drop (30+Qb3 b)=QCn (450-Qb3 b) 0:=by
 have hc:=Qth b hb (Qb3 b) hs
 have hl:=QhY b hb hs
 have e1:bigB 8 (Qdn b).id.toNat=subB b 20 8:=by
  show bigB 8 (QCN (beN (subB b 20 8) 0)).toNat=_
  have h8:(subB b 20 8).length=8:=Qav (by omega)
  have:=QqK (subB b 20 8) 0 1 (by omega)
  rw[h8]at this
  rw[QCV,QCO (by omega)]
  exact Qn0 _ _ h8
 have e2:bigB 2 (Qdn b).da.length=subB b 28 2:=by
  rw[hl]
  exact Qn0 _ _ (Qav (by omega))
 have e3:QhB (Qdn b)=b.take 16++([b.getD 16 0,b.getD 17 0,b.getD 18 0,0]++(subB b 20 8++(subB b 28 2++(subB b 30 (Qb3 b)++QCn (450-Qb3 b) 0)))):=by
  rw[QhB,e1,e2,hl,h16]
  show _++([b.getD 16 0,QC9 ((b.getD 17 0).toNat:Int),QC9 ((b.getD 18 0).toNat:Int),0]++_)=_
  rw[Qjl,Qjl]
  rfl
 constructor
 ·intro h
  have h':QhB (Qdn b)=b.take 16++([b.getD 16 0,b.getD 17 0,b.getD 18 0,b.getD 19 0]++(subB b 20 8++(subB b 28 2++(subB b 30 (Qb3 b)++b.drop (30+Qb3 b))))):=h.trans hc
  rw[e3]at h'
  have h2:=List.append_cancel_left h'
  have h3:=List.append_inj h2 rfl
  have h4:=List.append_cancel_left h3.2
  have h5:=List.append_cancel_left (List.append_cancel_left h4)
  refine⟨?_,h5.symm⟩
  have:=h3.1
  simp only[List.cons.injEq,and_true,true_and]at this
  exact this.symm
 ·rintro⟨h1,h2⟩
  rw[e3]
  conv=>rhs;rw[hc]
  rw[h1,h2]
theorem Qle {p:Prt} (h:prtE p=0): ¬(p.kd<1∨3<p.kd)∧p.da.length≤450∧1≤p.ct∧p.ct≤16∧0≤p.ix∧p.ix<p.ct:=by
 unfold prtE at h
 split at h
 ·cases h
 ·rename_i h1
  split at h
  ·cases h
  ·rename_i h2
   split at h
   ·cases h
   ·rename_i h3
    exact⟨h1,by omega,by omega,by omega,by omega,by omega⟩
def ctOf (ks:List Prt):Int:=(ks.getLast?.map (·.ct)).getD 0
def hvOf (ks:List Prt):List Bool:=(QC5 16).map fun (i:Nat)=>ks.any (fun q=>q.ix==(i:Int))
def MsC (id:UInt64) (ks:List Prt) (pv:List Value):List Value:=W64 id :: .int .i64 (ctOf ks) :: .int .i64 (ks.length:Nat) :: ((hvOf ks).map Value.bool++pv)
theorem QjV (id:UInt64) (ks:List Prt) (pv:List Value) (h:pv.length=16):(MsC id ks pv).length=35:=by simp[MsC,hvOf,h]
theorem QoG {ks:List Prt} (h:KeptOk ks) (hne:ks≠[]) (p:Prt):ks.any (fun q=>(pid q).ct != p.ct||(pid q).ix==p.ix)=((p.ct != ctOf ks)||ks.any (fun q=>q.ix==p.ix)):=by
 have hl:ks.getLast?=some (ks.getLast hne):=List.getLast?_eq_some_getLast hne
 have hm:=List.getLast_mem hne
 generalize ks.getLast hne=l at hl hm
 have hc:ctOf ks=l.ct:=by rw[ctOf,hl];rfl
 rw[hc]
 have hs:=fun q hq=>h.same q hq l hm
 by_cases hp:p.ct=l.ct
 ·have e:(p.ct != l.ct)=false:=by simp[hp]
  rw[e,QEC]
  apply QDb.2
  rw[QEq,QEq]
  constructor
  ·rintro⟨q,hq,hb⟩
   refine⟨q,hq,?_⟩
   have:(q.ct != p.ct)=false:=by simp[hs q hq,hp]
   simpa [this] using hb
  ·rintro⟨q,hq,hb⟩
   exact⟨q,hq,by simp[hb]⟩
 ·have e:(p.ct != l.ct)=true:=by simp[hp]
  rw[e,Bool.true_or,QEq]
  exact⟨l,hm,by simp only[QEe,bne_iff_ne];exact .inl (fun e=>hp (Eq.symm e))⟩
theorem QhQ (ks:List Prt) {i:Nat} (h:i<16):((hvOf ks).map Value.bool)[i]?=some (.bool (ks.any (fun q=>q.ix==(i:Int)))):=by
 simp[hvOf,h]
theorem Qs6 (ks:List Prt) (p:Prt) {i:Nat} (h:i<16) (hp:p.ix=(i:Int)):((hvOf ks).map Value.bool).set i (.bool true)=(hvOf (ks++[p])).map Value.bool:=by
 apply List.ext_getElem?
 intro j
 rw[List.getElem?_set]
 by_cases hij:i=j
 ·subst hij
  rw[if_pos rfl,if_pos (by simp[hvOf,h]),QhQ _ h]
  simp[hp]
 ·rw[if_neg hij]
  by_cases hj:j<16
  ·have hne:(p.ix==(j:Int))=false:=by
    rw[hp,beq_eq_false_iff_ne]
    omega
   rw[QhQ _ hj,QhQ _ hj,List.any_append]
   simp[hne]
  ·rw[QDr (by simp[hvOf];omega),QDr (by simp[hvOf];omega)]
theorem Qk2 (ks:List Prt) (p:Prt):ctOf (ks++[p])=p.ct:=by simp[ctOf]
theorem Quu (id:UInt64) (ks:List Prt) (pv:List Value) (p:Prt) {i:Nat} (h:i<16) (hp:p.ix=(i:Int)) (v:Value):
 (((((MsC id ks pv).set 1 (.int .i64 p.ct)).set 2 (.int .i64 ((ks.length:Int)+1))).set (3+i) (.bool true)).set (19+i) v)=MsC id (ks++[p]) (pv.set i v):=by
 have hl:((hvOf ks).map Value.bool).length=16:=by simp[hvOf]
 have e1:3+i=i+1+1+1:=by omega
 have e2:19+i=(i+16)+1+1+1:=by omega
 rw[MsC,MsC,e1,e2]
 simp only[QCz,QCy]
 rw[QDD _ _ (by omega),QCX _ _ (by rw[QCZ];omega),QCZ,hl,Qs6 ks p h hp,Qk2,QCB,QEd]
 simp
theorem QqD {ks:List Prt} {p:Prt} {i:Nat} (hp:p.ix=(i:Int)) (hn:∀q∈ks,q.ix≠p.ix) (j:Nat):daAt (ks++[p]) j=if j=i then p.da else daAt ks j:=by
 unfold daAt
 rw[List.find?_append]
 by_cases hij:j=i
 ·subst hij
  rw[if_pos rfl]
  have h1:ks.find? (fun q=>q.ix==(j:Int))=none:=by
   rw[List.find?_eq_none]
   intro q hq
   have:=hn q hq
   rw[hp]at this
   simpa using this
  rw[h1]
  simp[hp]
 ·rw[if_neg hij]
  have h1:[p].find? (fun q=>q.ix==(j:Int))=none:=by
   rw[List.find?_eq_none]
   intro q hq
   obtain rfl:q=p:=by simpa using hq
   simp[hp]
   omega
  rw[h1]
  cases ks.find? (fun q=>q.ix==(j:Int))<;>rfl
def PieceAt (w:World) (base:Nat) (v:Value) (da:List UInt8):Prop:=(v= .slice none 0 0∧da=[])∨∃gp,v= .slice (some ⟨gp,0,none⟩) da.length da.length∧base≤gp∧Blk w gp 5 (da.map W8)
structure MsgAt (w:World) (base g:Nat) (id:UInt64) (ks:List Prt) (pv:List Value):Prop where
 blk:Blk w g 74 (MsC id ks pv)
 low:base≤g
 len:pv.length=16
 pcs:∀i v,pv[i]?=some v→PieceAt w base v (daAt ks i)
section
variable {w w':World} {base g:Nat} {id:UInt64} {ks:List Prt} {pv:List Value}
theorem PieceAt.later {v:Value} {da:List UInt8} (h:PieceAt w base v da) (hl:Later w w'):PieceAt w' base v da:=
 h.imp (fun h=>h) fun ⟨gp,h1,h2,h3⟩=>⟨gp,h1,h2,h3.later hl⟩
theorem PieceAt.only {v:Value} {da:List UInt8} {t:TypeId} {l:List Value} (h:PieceAt w base v da) (hg:Blk w g t l) (hne:t≠5) (ho:Only g w w'):PieceAt w' base v da:=
 h.imp (fun h=>h) fun ⟨gp,h1,h2,h3⟩=>⟨gp,h1,h2,h3.only ho (fun e=>by
  subst e
  have:=hg.symm.trans h3
  simp only[Option.some.injEq,Obj.cells.injEq]at this
  exact hne this.2.1)⟩
theorem MsgAt.later (h:MsgAt w base g id ks pv) (hl:Later w w'):MsgAt w' base g id ks pv:=⟨h.blk.later hl,h.low,h.len,fun i v hv=>(h.pcs i v hv).later hl⟩
theorem MsgAt.cells (h:MsgAt w base g id ks pv):w.cell? ⟨g,0,none⟩=some (W64 id)∧w.cell? ⟨g,1,none⟩=some (.int .i64 (ctOf ks))∧w.cell? ⟨g,2,none⟩=some (.int .i64 (ks.length:Nat)):=
 ⟨h.blk.cellD 0 rfl,h.blk.cellD 1 rfl,h.blk.cellD 2 rfl⟩
theorem MsgAt.have_ (h:MsgAt w base g id ks pv) {i:Nat} (hi:i<16):w.cell? ⟨g,3+i,none⟩=some (.bool (ks.any (fun q=>q.ix==(i:Int)))):=by
 refine h.blk.cellD (3+i) ?_
 rw[MsC,show 3+i=i+1+1+1 by omega,QCo,QCo,QCo,QCD (by simp[hvOf,hi])]
 exact QhQ ks hi
end
set_option maxRecDepth 100000 in
set_option maxHeartbeats 4000000 in
theorem QnM (base g:Nat) (id:UInt64) (ks:List Prt) (pv:List Value) (p:Prt) (A:Option Addr) (n c:Nat) (w:World) (hm:MsgAt w base g id ks pv) (hk:KeptOk ks) (hr:RdB w A n p.da) (hav:Avoid (· =g) A n) (hb:base≤w.heap.size) (hkl:ks.length≤1048576):
 Calls Tryz.prog 37 #[.pointer (some ⟨g,0,none⟩),.agg (PaC p (.slice A n c)).toArray] w fun e w'=>e= .returned (.int .i64 (tkE pid id ks p:Nat))∧(∃ pv',MsgAt w' base g id (tkK pid id ks p) pv')∧Only g w w':=by
 have hlen:=hr.len
 have hck:=hid (fun w=>QjD p A n c hlen w)
 have hE:Hid (tkE pid id ks p=if p.kd≠1∨prtE p≠0 then 3 else if p.id≠id then 4 else if ks.any (fun q=>(pid q).ct != p.ct||(pid q).ix==p.ix) then 3 else 0):=hid rfl
 have hok:=hid (fun h=>Qig (p:=p) h)
 obtain⟨c0,c1,c2⟩:=hm.cells
 have hgl:=hm.blk.lt
 obtain⟨kd,id',ix,ct,da⟩:=p
 have HM:=hid hm
 have B1:=Qa8 w 34 (PaC ⟨kd,id',ix,ct,da⟩ (.slice A n c))
 obtain⟨d0,d1,d2,d3,d4⟩:=Qba (B1.nth 0 rfl)
 have c0':=HM.out.later B1.lat |>.cells
 clear hm
 go_enter Tryz.func37,Tryz.ntmps37
 have fin:∀(w':World) (E:Nat),Bag w w' [(w.heap.size,34,PaC ⟨kd,id',ix,ct,da⟩ (.slice A n c))]→tkE pid id ks ⟨kd,id',ix,ct,da⟩=E→E≠0→tkE pid id ks ⟨kd,id',ix,ct,da⟩=E∧(∃ pv',MsgAt w' base g id (tkK pid id ks ⟨kd,id',ix,ct,da⟩) pv')∧Only g w w':=by
  intro w' E B hE h0
  refine⟨hE,⟨pv,?_⟩,B.lat.onlyAny g⟩
  rw[tkK,if_neg (by rw[show pid _=(_:Prt) from rfl,hE];exact h0)]
  exact HM.out.later B.lat
 have FIN:=hid fin
 clear fin
 by_cases hkd:kd=1
 ·subst hkd
  go_wp2_with (first
   | (refine Qdb rfl _ rfl (B1.nth 0 rfl) rfl ?_)
   | fail)
  (refine (hck.out _).mono ?_);rintro e w2 ⟨rfl,j2⟩
  have B2:=B1.later j2
  clear d0 d1 d2 d3 d4 c0' c0 c1 c2 hck j2 B1
  by_cases hpe:prtE ⟨1,id',ix,ct,da⟩=0
  ·rw[hpe]
   obtain⟨k1,k2,k3,k4,k5⟩:=hok.out hpe
   obtain⟨i,rfl⟩:∃i:Nat,ix=i:=⟨ix.toNat,by omega⟩
   have M2:=HM.out.later B2.lat
   obtain⟨m0,m1,m2⟩:=M2.cells
   obtain⟨d0,d1,d2,d3,d4⟩:=Qba (B2.nth 0 rfl)
   have mh:=M2.have_ (i:=i) (by omega)
   go_wp2_with fail
   refine Qad [] [0,1,2,3,4,5,6] [] (by as_aux_lemma=>kernel_rfl) (by as_aux_lemma=>kernel_rfl) (by intro _ _ d _ _ h;cases d<;>exact h) ?_
   simp only[Qai,pick,QCo,QCp,QCq,QCr,QCs]
   repeat (go_big_quiet_step (fail))
   refine wpQuiet_nil ?_
   by_cases hid1:id'=id
   ·have hb0:(id' != id)=false:=by simpa using hid1
    rw[hb0]
    go_wp2_with fail
    have hi16:(i:Int)<16:=by omega
    by_cases hacc:ks.any (fun q=>(pid q).ct != ct||(pid q).ix==(i:Int))=true
    ·have h3:tkE pid id ks ⟨1,id',i,ct,da⟩=3:=by rw[hE.out,if_neg (by rintro (h|h)<;>first|exact h rfl|exact h hpe),if_neg (fun h=>h hid1),if_pos hacc]
     have hne:ks≠[]:=by
      rintro rfl
      simp at hacc
     have hpos:decide (0<ks.length)=true:=decide_eq_true (List.length_pos_iff.2 hne)
     have hor:=QoG hk hne ⟨1,id',i,ct,da⟩
     rw[hacc]at hor
     have H3:=hid (FIN.out _ 3 (B2.later ((Qab _).trans (Qab _))) h3 (by omega))
     clear FIN HM hE hok h3 hacc
     generalize ks.any (fun q=>q.ix==(i:Int))=HV at *
     generalize ctOf ks=CT at *
     by_cases hct:ct=CT
     ·have hb1:(ct != CT)=false:=by simp[hct]
      have hHV:HV=true:=by
       rw[hb1,QEC]at hor
       exact hor.symm
      subst hHV
      clear hor
      refine Qad [] [0,1,2,3,4,5,6,7,8,9,10,11,12,13,14,15,16,17,18,19,20,21,22] [] (by as_aux_lemma=>kernel_rfl) (by as_aux_lemma=>kernel_rfl) (by intro _ _ d _ _ h;cases d<;>exact h) ?_
      simp only[Qai,pick,QCo,QCp,QCq,QCr,QCs]
      repeat (go_big_quiet_step (fail))
      refine wpQuiet_nil ?_
      go_wp2_with fail
      go_ret
      exact⟨by rw[H3.out.1];rfl,H3.out.2⟩
     ·have hb1:(ct != CT)=true:=by simp[hct]
      clear hor
      refine Qad [] [0,1,2,3,4,5,6,7,8,9,10,11,12,13,14,15,16,17,18,19,20,21,22] [] (by as_aux_lemma=>kernel_rfl) (by as_aux_lemma=>kernel_rfl) (by intro _ _ d _ _ h;cases d<;>exact h) ?_
      simp only[Qai,pick,QCo,QCp,QCq,QCr,QCs]
      repeat (go_big_quiet_step (fail))
      refine wpQuiet_nil ?_
      go_wp2_with fail
      go_ret
      exact⟨by rw[H3.out.1];rfl,H3.out.2⟩
    ·have h0:tkE pid id ks ⟨1,id',i,ct,da⟩=0:=by rw[hE.out,if_neg (by rintro (h|h)<;>first|exact h rfl|exact h hpe),if_neg (fun h=>h hid1),if_neg hacc]
     obtain⟨_,_,_,hz⟩:=Qkl h0
     have HZ:=hid hz
     have H0:=hid h0
     clear hz h0 FIN hE hok
     have hP:=B2.nth 0 rfl
     have hglt:w.heap.size≠g:=by omega
     have hML:=hid (QjV id ks pv M2.len)
     have hM:=M2.blk
     have CP:=hid (fun (w:World)=>Qjv A n c da w)
     have FIN:Hid (∀ (w6:World) (gp:Nat),Blk w6 g 74 (((((MsC id ks pv).set 1 (.int .i64 ct)).set 2 (.int .i64 ((ks.length:Int)+1))).set (3+i) (.bool true)).set (19+i) (.slice (some ⟨gp,0,none⟩) n n))→base≤gp→Blk w6 gp 5 (da.map W8)→Only g w w6→
      (∃ pv',MsgAt w6 base g id (tkK pid id ks ⟨1,id',i,ct,da⟩) pv')∧Only g w w6):=by
      refine hid fun w6 gp hB hgp hD ho=>⟨⟨pv.set i (.slice (some ⟨gp,0,none⟩) n n),?_⟩,ho⟩
      have hp:(⟨1,id',i,ct,da⟩:Prt).ix=(i:Int):=rfl
      have hq:∀q∈ks,q.ix≠(⟨1,id',i,ct,da⟩:Prt).ix:=fun q hq=>(HZ.out q hq).2
      rw[tkK,if_pos H0.out]
      refine⟨?_,HM.out.low,by rw[QCZ];exact HM.out.len,fun j v hv=>?_⟩
      ·rw[←Quu id ks pv ⟨1,id',i,ct,da⟩ (by omega) hp]
       exact hB
      ·rw[QqD hp hq]
       rw[List.getElem?_set]at hv
       by_cases hij:i=j
       ·subst hij
        rw[if_pos rfl,if_pos (by rw[HM.out.len];omega)]at hv
        rw[if_pos rfl,←Option.some.inj hv,←hlen]
        exact .inr ⟨gp,rfl,hgp,hD⟩
       ·rw[if_neg hij]at hv
        rw[if_neg (fun e=>hij e.symm)]
        exact (HM.out.pcs j v hv).only HM.out.blk (by decide) ho
     have hac2:(decide (0<ks.length)=true∧(ct != ctOf ks)=false∧ks.any (fun q=>q.ix==(i:Int))=false)∨decide (0<ks.length)=false:=by
      by_cases hne:ks=[]
      ·exact .inr (by simp[hne])
      ·have hor:=QoG hk hne ⟨1,id',i,ct,da⟩
       have hf:ks.any (fun q=>(pid q).ct != ct||(pid q).ix==(i:Int))=false:=by simpa using hacc
       rw[hf]at hor
       have hor':=hor.symm
       rw[Bool.or_eq_false_iff]at hor'
       exact .inl ⟨decide_eq_true (List.length_pos_iff.2 hne),hor'.1,hor'.2⟩
     generalize ks.any (fun q=>q.ix==(i:Int))=HV at *
     have kl:=hkl
     clear hacc
     have HC2:=hid (show ∀v:Value,((MsC id ks pv).set 1 v)[2]?=some (.int .i64 (ks.length:Nat)) from fun v=>rfl)
     generalize hMC:MsC id ks pv=MC at *
     generalize ks.length=KL at *
     generalize ctOf ks=CT at *
     rcases hac2 with ⟨hpos,h2,h3⟩|hpos
     case' inl=>subst h3
     all_goals
      refine Qad [] [0,1,2,3,4,5,6,7,8,9,10,11,12,13,14,15,16,17,18,19,20,21,22] [] (by as_aux_lemma=>kernel_rfl) (by as_aux_lemma=>kernel_rfl) (by intro _ _ d _ _ h;cases d<;>exact h) ?_
      simp only[Qai,pick,QCo,QCp,QCq,QCr,QCs]
      repeat (go_big_quiet_step (fail))
      refine wpQuiet_nil ?_
      go_wp2_with (first
       | (refine Qac rfl rfl _ _ _ rfl g 1 _ _ hM.drew.drew rfl ?hl rfl (by kernel_rfl) ?_;(case hl=>rw[hML.out];omega);intro v3 w3 hv3 hb3 ho3;simp[go_sem]at hv3;subst hv3
          have q3:=hP.drew.drew.only ho3 hglt
          obtain⟨e0,e1,e2,e3,e4⟩:=Qba q3
          have f2:w3.cell? ⟨g,2,none⟩=some (.int .i64 (KL:Nat)):=hb3.cellD 2 (HC2.out _))
       | (refine Qac rfl rfl _ _ _ rfl g 2 _ _ hb3 rfl ?hl rfl (by kernel_rfl) ?_;(case hl=>rw[QCZ,hML.out];omega);intro v4 w4 hv4 hb4 ho4;simp[go_sem]at hv4;subst hv4
          have q4:=q3.only ho4 hglt
          obtain⟨g0,g1,g2,g3,g4⟩:=Qba q4)
       | fail)
      clear e0 e1 e2 e3 e4 f2
      refine Qad [] [0,1,2,3,4,5] [6] (by as_aux_lemma=>kernel_rfl) (by as_aux_lemma=>kernel_rfl) (by intro _ _ d _ _ h;cases d<;>exact h) ?_
      simp only[Qai,pick,QCo,QCp,QCq,QCr,QCs]
      repeat (go_big_quiet_step (fail))
      refine wpQuiet_nil ?_
      clear g0 g1 g2 g3 g4
      go_wp2_with (first
       | (refine Qac rfl rfl _ _ _ rfl g (3+i) _ _ hb4.drew rfl ?hl rfl (by kernel_rfl) ?_;(case hl=>rw[QCZ,QCZ,hML.out];omega);intro v6 w6 hv6 hb6 ho6;simp[go_sem]at hv6;subst hv6
          have q6:=q4.drew.only ho6 hglt
          obtain⟨d0,d1,d2,d3,d4⟩:=Qba q6)
       | fail)
      have O6:Only g w w6:=(((((B2.lat.trans ((Qab _).trans (Qab _))).thenOnly ho3).trans ho4).later (Qab _)).trans ho6)
      have hr6:RdB w6 A n da:=Rd.onlyAvoid (Rd.later (Rd.onlyAvoid (Rd.onlyAvoid (hr.later (B2.lat.trans ((Qab _).trans (Qab _)))) hav ho3 rfl) hav ho4 rfl) (Qab _)) hav ho6 rfl
      clear ho3 ho4 ho6 hb3 hb4 q3 q4 q6 hM hP
      refine Qad [([0,1,2,3,4,6,7],5)] [8] [9] (by as_aux_lemma=>kernel_rfl) (by as_aux_lemma=>kernel_rfl) (by intro _ _ d _ _ h;cases d<;>exact h) ?_
      simp only[Qai,pick,QCo,QCp,QCq,QCr,QCs]
      repeat (go_big_quiet_step (fail))
      refine wpQuiet_nil ?_
      go_wp2_with fail
      (refine (CP.out _ (hr6.later (Qab _)) (by omega)).mono ?_);rintro e w8 ⟨rfl,hD8,j8⟩
      go_wp2_with fail
      try refine⟨by first|assumption|exact Qab _|exact Qaa _ _|exact Later.refl _,?_⟩
      try simp only[Qai,pick,QCo,QCp,QCq,QCr,QCs]
      repeat (go_big_quiet_step (fail))
      refine wpQuiet_nil ?_
      have j68:=(Qab _).trans j8
      have hb8:=hb6.later j68
      have O8w:w.heap.size≤w6.drew.heap.size:=O6.size
      have O8:Only g w w8:=O6.later j68
      have hg8:base≤w6.drew.heap.size:=by
       have:=O6.size
       have e:w6.drew.heap.size=w6.heap.size:=rfl
       omega
      clear d0 d1 d2 d3 d4 O6 hb6
      go_wp2_with (first
       | (refine Qac rfl rfl _ _ _ rfl g (19+i) _ _ hb8 rfl ?hl rfl (by kernel_rfl) ?_;(case hl=>rw[QCZ,QCZ,QCZ,hML.out];omega);intro v9 w9 hv9 hb9 ho9;simp[go_sem]at hv9;subst hv9)
       | fail)
      have hD9:=hD8.only ho9 (fun e=>by
       have:w.heap.size≤w6.drew.heap.size:=O8w
       omega)
      have FF:=FIN.out w9 w6.drew.heap.size hb9 hg8 hD9 (O8.trans ho9)
      clear FIN
      go_ret
      exact⟨by rw[H0.out];rfl,FF⟩
   ·have hb0:(id' != id)=true:=by simpa using hid1
    have h4:tkE pid id ks ⟨1,id',i,ct,da⟩=4:=by rw[hE.out,if_neg (by rintro (h|h)<;>first|exact h rfl|exact h hpe),if_pos hid1]
    have H4:=hid (FIN.out _ 4 (B2.later (Qab _)) h4 (by omega))
    clear FIN HM hE hok h4
    rw[hb0]
    go_wp2_with fail
    go_ret
    exact⟨by rw[H4.out.1];rfl,H4.out.2⟩
  ·have hb1:((prtE ⟨1,id',ix,ct,da⟩:Nat):Int)≠0:=by omega
   have h3:tkE pid id ks ⟨1,id',ix,ct,da⟩=3:=by rw[hE.out,if_pos (.inr hpe)]
   generalize prtE ⟨1,id',ix,ct,da⟩=E0 at *
   have hb2:((E0:Int) != 0)=true:=by simpa using hb1
   have H3:=hid (FIN.out w2 3 B2 h3 (by omega))
   clear FIN HM hE hok h3
   go_wp2_with fail
   go_ret
   exact⟨by rw[H3.out.1];rfl,H3.out.2⟩
 ·have hb1:(kd != 1)=true:=by simpa using hkd
  have h3:tkE pid id ks ⟨kd,id',ix,ct,da⟩=3:=by rw[hE.out,if_pos (.inl hkd)]
  have H3:=hid (FIN.out _ 3 B1 h3 (by omega))
  clear FIN HM hE hok hck h3
  go_wp2_with fail
  go_ret
  exact⟨by rw[H3.out.1];rfl,H3.out.2⟩
theorem KeptOk.ct {ks:List Prt} (h:KeptOk ks) (hne:ks≠[]):1≤ctOf ks∧ctOf ks≤16∧(ks.length:Int)≤ctOf ks∧∀q∈ks,q.ct=ctOf ks:=by
 have hl:ks.getLast?=some (ks.getLast hne):=List.getLast?_eq_some_getLast hne
 have hm:=List.getLast_mem hne
 generalize ks.getLast hne=l at hl hm
 have hc:ctOf ks=l.ct:=by rw[ctOf,hl];rfl
 obtain⟨h1,h2,_⟩:=Qig (h.good l hm).2
 have hs:∀q∈ks,q.ct=l.ct:=fun q hq=>h.same q hq l hm
 rw[hc]
 exact⟨h1,h2,h.le hs (by omega),hs⟩
theorem QxF {ks:List Prt} (h:KeptOk ks) (i:Nat):(daAt ks i).length≤450:=by
 unfold daAt
 cases hf:ks.find? (fun q=>q.ix==(i:Int)) with
 | none=>simp
 | some r=>exact (Qig (h.good r (List.mem_of_find?_eq_some hf)).2).2.2.2.2
theorem QrL {f:Nat→List UInt8} {c:Nat} (h:∀i,(f i).length≤c):∀n,((QC5 n).map f).flatten.length≤n*c
 | 0=>by simp
 | n+1=>by
   have:=QrL h n
   have:=h n
   rw[QEp,QC6,List.flatten_append,QCB,QEA]
   simp only[QCR,QCC,List.flatten_cons,List.flatten_nil,QC1]
   omega
set_option maxRecDepth 100000 in
set_option maxHeartbeats 4000000 in
theorem Qtd (base g:Nat) (id:UInt64) (ks:List Prt) (pv:List Value) (p:Prt) (A:Option Addr) (n c:Nat) (bt:Nat) (t:TypeId) (w:World) (hm:MsgAt w base g id ks pv) (hk:KeptOk ks) (hr:RdB w A n p.da) (hav:Avoid (· =g) A n) (hb:base≤w.heap.size) (hkl:ks.length≤1048576)
 (hbt:Blk w bt t (PaC p (.slice A n c))):
 Calls Tryz.prog 19 #[.pointer (some ⟨g,0,none⟩),.slice (some ⟨bt,0,none⟩) 1 1] w fun e w'=>e= .returned (.int .i64 (tkE pid id ks p:Nat))∧(∃ pv',MsgAt w' base g id (tkK pid id ks p) pv')∧Only g w w':=by
 have H:=hid (fun (w':World) (l:Later w w')=>QnM base g id ks pv p A n c w' (hm.later l) hk (hr.later l) hav (QC4 hb l.size) hkl)
 generalize tkE pid id ks p=E at *
 generalize tkK pid id ks p=K at *
 clear hm hk hr hav
 go_enter Tryz.func19,Tryz.ntmps19
 go_wp2
 go_loopw [5,11] (fun f i wr=>(i= .int .i64 0∧f= .int .i64 0∧Later w wr)∨(i= .int .i64 1∧f= .int .i64 (E:Nat)∧(∃ pv',MsgAt wr base g id K pv')∧Only g w wr)) (fun _ i _=>1-(intOf i).toNat)
 case atStart=>exact .inl ⟨rfl,rfl,Later.refl w⟩
 case round=>
  rcases hrel with ⟨rfl,rfl,L⟩|⟨rfl,rfl,h2,h3⟩
  ·have hbt':=hbt.later L
   have hbl:=hbt'.lt
   have B1:=Qa8 wr 34 pz0
   go_wp2_with (first
    | (refine Qdb rfl _ rfl hbt' rfl ?_)
    | (refine QaZ rfl rfl _ _ rfl (B1.nth 0 rfl) rfl rfl rfl rfl ?_;intro w2 hb2 ho2
       have l2:Later wr w2:=B1.lat.only ho2 (QCx _))
    | (refine Qdb rfl _ rfl hb2 rfl ?_)
    | fail)
   (refine (H.out _ (L.trans l2)).mono ?_);rintro e w3 ⟨rfl,hM3,o3⟩
   have O3:Only g w w3:=(L.trans l2).thenOnly o3
   clear H hbt' B1 hb2 ho2 l2 o3 L
   by_cases hE:E=0
   ·subst hE
    go_wp2_with fail
    exact⟨.inr ⟨by go_num,rfl,hM3,O3⟩,by simp[intOf]⟩
   ·have hE1:((E:Int) != 0)=true:=by
     rw[bne_iff_ne]
     omega
    go_wp2_with fail
    exact⟨.inr ⟨by go_num,rfl,hM3,O3⟩,by simp[intOf]⟩
  ·go_wp2_with fail
   go_ret
   exact⟨rfl,h2,h3⟩
set_option maxRecDepth 100000 in
theorem QiZ (base g:Nat) (id:UInt64) (ks:List Prt) (pv:List Value) (w:World) (hm:MsgAt w base g id ks pv) (hk:KeptOk ks) (hne:ks≠[]):
 Calls Tryz.prog 20 #[.pointer (some ⟨g,0,none⟩)] w fun e w'=>e= .returned (.int .i64 (ctOf ks-(ks.length:Int)))∧Later w w':=by
 obtain⟨c0,c1,c2⟩:=hm.cells
 obtain⟨h1,h2,h3,_⟩:=hk.ct hne
 have hpos:=List.length_pos_iff.2 hne
 generalize ctOf ks=CT at *
 generalize ks.length=KL at *
 have h0:decide ((KL:Int)=0)=false:=decide_eq_false (by omega)
 go_enter Tryz.func20,Tryz.ntmps20
 go_wp2_with fail
 refine Qad [] [0,1,2,3,4,5,6,7,8,9] [] (by as_aux_lemma=>kernel_rfl) (by as_aux_lemma=>kernel_rfl) (by intro _ _ d _ _ h;cases d<;>exact h) ?_
 simp only[Qai,pick,QCo,QCp,QCq,QCr,QCs]
 repeat (go_big_quiet_step (fail))
 refine wpQuiet_nil ?_
 go_wp2_with fail
 go_ret
 exact⟨rfl,Qab w⟩
set_option maxRecDepth 100000 in
set_option maxHeartbeats 1000000 in
theorem Qqy (base g:Nat) (id:UInt64) (ks:List Prt) (pv:List Value) (w:World) (hm:MsgAt w base g id ks pv) (hk:KeptOk ks) (hne:ks≠[]) (hf:(ks.length:Int)=ctOf ks):
 Calls Tryz.prog 21 #[.pointer (some ⟨g,0,none⟩)] w fun e w'=>∃A n c,e= .returned (.tuple #[.slice A n c,.int .i64 0])∧OwnB w' w.heap.size A n c (Qnn ks)∧Later w w':=by
 have HM:=hid (fun (w':World) (l:Later w w')=>QiZ base g id ks pv w' (hm.later l) hk hne)
 obtain⟨h1,h2,h3,_⟩:=hk.ct hne
 have hw:=Qvc hk
 have hfl:(QC5 ks.length).flatMap (daAt ks)=((QC5 ks.length).map (daAt ks)).flatten:=by rw[List.flatMap_def]
 rw[hfl]at hw
 have hle:=QrL (QxF hk) ks.length
 have hP:Hid (∀ w',Later w w'→Parts w' (fun _=>False) (some ⟨g,19,none⟩) ks.length ((QC5 ks.length).map (daAt ks))):=by
  refine hid fun w' l=>⟨pv.take ks.length,?_,fun _ _ _ h=>h,by rw[QCP,hm.len,QCt,List.length_range];omega,fun j v p hv hp=>?_⟩
  ·refine⟨by rw[QCP,hm.len];omega,fun _=>⟨g,19,rfl,(hm.blk.later l).lt,fun j u hu=>?_⟩⟩
   rw[QDt]at hu
   split at hu
   ·refine (hm.blk.later l).cellD (19+j) ?_
    have hl:((hvOf ks).map Value.bool).length=16:=by simp[hvOf]
    rw[MsC,show 19+j=(16+j)+1+1+1 by omega,QCo,QCo,QCo,QCF (by omega),hl,show 16+j-16=j by omega]
    exact hu
   ·cases hu
  ·rw[QDt]at hv
   split at hv
   ·rename_i hj
    rw[QCH,QEc hj]at hp
    obtain rfl:daAt ks j=p:=Option.some.inj hp
    rcases (hm.later l).pcs j v hv with ⟨rfl,e⟩|⟨gp,rfl,_,hb⟩
    ·exact⟨none,0,0,rfl,QCx _,by rw[e];exact QkJ w',fun _ _ h=>by cases h⟩
    ·exact⟨_,_,_,rfl,QCx _,hb.rd (by simp),fun _ _ _ h=>h⟩
   ·cases hv
 obtain⟨c0,c1,c2⟩:=hm.cells
 have HJ:=hid (fun (w':World) (l:Later w w')=>QgF (some ⟨g,19,none⟩) ks.length 16 _ w' (hP.out w' l) (by omega) (by omega))
 rw[←hf]at h2 HM c1
 rw[Int.sub_self]at HM
 rw[←hw]at HJ
 generalize Qnn ks=W at *
 generalize ks.length=KL at *
 clear hP hw hfl hle hf
 go_enter Tryz.func21,Tryz.ntmps21
 go_wp2_with fail
 (refine (HM.out _ (Later.refl w)).mono ?_);rintro e w2 ⟨rfl,j2⟩
 have hb2:=hm.blk.later j2
 have d1:w2.cell? ⟨g,1,none⟩=some (.int .i64 (KL:Nat)):=(j2.below.cell (p:=⟨g,1,none⟩) hm.blk.lt).trans c1
 go_wp2_with fail
 refine Qad [([0,1,2,3,4,5,6,7],8)] [9,10] [] (by as_aux_lemma=>kernel_rfl) (by as_aux_lemma=>kernel_rfl) (by intro _ _ d _ _ h;cases d<;>exact h) ?_
 simp only[Qai,pick,QCo,QCp,QCq,QCr,QCs]
 repeat (go_big_quiet_step (fail))
 refine wpQuiet_nil ?_
 go_wp2_with fail
 (refine (HJ.out _ (j2.trans (Qab _))).mono ?_);rintro e w3 ⟨A',c',rfl,hown,j3⟩
 go_wp2_with fail
 try refine⟨by first|assumption|exact Qab _|exact Qaa _ _|exact Later.refl _,?_⟩
 try simp only[Qai,pick,QCo,QCp,QCq,QCr,QCs]
 repeat (go_big_quiet_step (fail))
 refine wpQuiet_nil ?_
 go_wp2_with fail
 go_ret2
 exact⟨_,_,_,rfl,Qbb hown (j2.trans (Qab _)).size,(j2.trans (Qab _)).trans j3⟩
end Go.Proofs.YtdkpcdgckgaklaaGreat
namespace Go.Proofs.YtdkpcdgckgaklaaGreat
open Go.RowKit Go.Maps
def ptrV:Option Nat→Value
 | none=>.pointer none
 | some b=>.pointer (some ⟨b,0,none⟩)
def ptrD:Option Nat→DataW Unit
 | none=>.lit (.bool false)
 | some b=>.lit (.int .i64 b)
def ptrR (v:Value):Option (DataW Unit×List MemPlace):=
 match v with
 | .pointer none=>some (ptrD none,[])
 | .pointer (some ⟨b,0,none⟩)=>some (ptrD (some b),[])
 | _=>none
theorem Qry (x:Option Nat):ptrR (ptrV x)=some (ptrD x,[]):=by cases x<;>rfl
theorem Qo3 {x y:Option Nat} (h:ptrD x=ptrD y):x=y:=by
 cases x<;>cases y<;>simp[ptrD]at h<;>first|rfl|(subst h;rfl)|(have:(_:Int)=_:=h;congr 1;omega)
theorem QtN {v:Value} {x:Option Nat} {ps:List MemPlace} (h:ptrR v=some (ptrD x,ps)):v=ptrV x:=by
 unfold ptrR at h
 split at h
 ·simp only[Option.some.injEq,Prod.mk.injEq]at h
  rw[←Qo3 h.1]
  rfl
 ·simp only[Option.some.injEq,Prod.mk.injEq]at h
  rw[←Qo3 h.1]
  rfl
 ·cases h
structure PKey (P:Program) (k:TypeId) (α:Type) where
 kv:α→Value
 kl:α→Lit
 ok:∀x,keyOf P k (kv x)=some (kl x)
 inj:∀x y,kv x=kv y→x=y
 law:Keyed P k
def PMap {P:Program} {k:TypeId} {α:Type} (w:World) (K:PKey P k α) (b n:Nat) (f:α→Option Nat):Prop:=
 ∃D:DataW Unit,w.ownsMap P k ptrR b n D∧∀x,D.atKey (K.kl x) (ptrD none)=ptrD (f x)
section
variable {P:Program} {k t e:TypeId} {α:Type} {w w':World} {K:PKey P k α} {b n:Nat} {f:α→Option Nat}
theorem PKey.kl_inj (K:PKey P k α) {x y:α} (h:K.kl x=K.kl y):x=y:=K.inj x y (K.law.inj (K.ok x) (h ▸ K.ok y))
theorem PMap.made (w:World) (K:PKey P k α):PMap (w.alloc (.map #[] 0)) K w.heap.size 0 (fun _=>none):=⟨_,World.ownsMap_made w P k ptrR,fun _=>rfl⟩
theorem PMap.only (h:PMap w K b n f) {g:Nat} (ho:Only g w w') (hne:b≠g):PMap w' K b n f:=by
 obtain⟨D,h1,h2⟩:=h
 exact⟨D,h1.kept ho (by simpa using hne),h2⟩
theorem PMap.grown (h:PMap w K b n f) {row:Option Nat} (ho:w.grownBy w' row) (hne:some b≠row):PMap w' K b n f:=by
 obtain⟨D,h1,h2⟩:=h
 exact⟨D,h1.kept ho hne,h2⟩
theorem PMap.lt (h:PMap w K b n f):b<w.heap.size:=let ⟨_,h1,_⟩:=h;h1.lt
theorem PMap.later (h:PMap w K b n f) (hl:Later w w'):PMap w' K b n f:=by
 refine h.only (hl.onlyAny (b+1)) (by omega)
theorem PMap.look (h:PMap w K b n f) (ht:P.underlying t=some (.map k e)) (hz:(zeroValue e).run P w= .ok (.pointer none) w) (x:α):
 (Instr.lookup t (.map (some b)) (K.kv x) false).run P w= .ok (ptrV (f x)) w:=by
 obtain⟨D,h1,h2⟩:=h
 obtain⟨v,ps,hrun,hv⟩:=h1.lookup K.law ht hz (Qry none) (K.ok x)
 rw[h2]at hv
 rw[hrun,QtN hv]
theorem PMap.put [DecidableEq α] (h:PMap w K b n f) (ht:P.underlying t=some (.map k e)) (hn:n<maxLen) (x:α) (g:Nat):
 ∃w',(Instr.mapUpdate t (.map (some b)) (K.kv x) (.pointer (some ⟨g,0,none⟩))).run P w= .ok () w'∧PMap w' K b (n+1) (fun y=>if y=x then some g else f y)∧Only b w w':=by
 obtain⟨D,h1,h2⟩:=h
 obtain⟨w',hrun,h3,h4⟩:=h1.update K.law ht hn (K.ok x) (Qry (some g))
 refine⟨w',hrun,⟨_,h3,fun y=>?_⟩,h4⟩
 by_cases hyx:y=x
 ·subst hyx
  simp only[if_true]
  exact atKey_put_same h1.isMap (K.law.key (K.ok y)) _ _
 ·simp only[hyx,if_false]
  rw[atKey_put_other (fun hc=>hyx (K.kl_inj hc))]
  exact h2 y
variable {ops:Array Oper} {rest:List Oper} {o:Oper} {a:Act} {Q:Exit→Act→World→Prop}
theorem QiO (hg:o.guard=none) (m x:Operand) (hop:o.op=Op.lookup t m x false) (ht:P.underlying t=some (.map k e)) (hz:(zeroValue e).run P w= .ok (.pointer none) w)
 (hm:a.eval m= .map (some b)) (h:PMap w K b n f) (y:α) (hx:a.eval x=K.kv y) (hK:wpList P ops Q rest (a.put o.dst (ptrV (f y))) w):wpList P ops Q (o :: rest) a w:=by
 refine wpList_plain hg fun K' hK'=>?_
 unfold Oper.wp
 simp[execOp,hop,hm,hx,h.look ht hz y,Result.andThen]
 exact hK' _ _ hK
theorem Qpp [DecidableEq α] (hg:o.guard=none) (m x v:Operand) (hop:o.op=Op.mapUpdate t m x v) (ht:P.underlying t=some (.map k e)) (hm:a.eval m= .map (some b)) (h:PMap w K b n f) (hn:n<maxLen) (y:α) (g:Nat)
 (hx:a.eval x=K.kv y) (hv:a.eval v= .pointer (some ⟨g,0,none⟩)) (hK:∀w',PMap w' K b (n+1) (fun z=>if z=y then some g else f z)→Only b w w'→wpList P ops Q rest (a.put o.dst undef) w'):wpList P ops Q (o :: rest) a w:=by
 refine wpList_plain hg fun K' hK'=>?_
 obtain⟨w',hrun,r1,r2⟩:=h.put ht hn y g
 unfold Oper.wp
 simp[execOp,hop,hm,hx,hv,hrun,Result.andThen]
 exact hK' _ _ (hK w' r1 r2)
end
theorem QzN:(69:Nat)<Tryz.prog.types.size:=of_decide_eq_true (by kernel_rfl)
theorem Qzm:Tryz.prog.keyTypeAt (Tryz.prog.types.size+1) 69=true:=by kernel_rfl
theorem Qzp:(match Tryz.prog.underlying 69 with|some (.array _ _)|some (.struct _)=>true|_=>false)=true:=by kernel_rfl
theorem QyV:laidOutB Tryz.prog=true:=by kernel_rfl
set_option maxRecDepth 100000 in
theorem QBB:Keyed Tryz.prog 69:=Keyed.of_law (deep_law_laid QyV (m:=3) (by omega) QzN (by kernel_rfl) Qzp)
theorem Qre:Tryz.prog.cellsOf 69=2:=by kernel_rfl
theorem QwT:Tryz.prog.cellsOf 31=1:=by kernel_rfl
theorem wf64 (x:UInt64):(Lit.int .u64 (x.toNat:Int)).wf=true:=by
 have:=x.toNat_lt
 simp[Lit.wf,IntKind.min,IntKind.max,IntKind.signed,IntKind.bits]
 omega
theorem Qtk (d:Nat) (x:UInt64):Tryz.prog.keyLits (d+1) 31 [W64 x]=some [.int .u64 (x.toNat:Int)]:=by
 unfold Program.keyLits
 rw[Tryz.underlying31]
 simp[W64,wf64]
theorem Qr6 (d:Nat) (x y:UInt64):Tryz.prog.keyLits (d+2) 69 [W64 x,W64 y]=some [.int .u64 (x.toNat:Int),.int .u64 (y.toNat:Int)]:=by
 unfold Program.keyLits
 rw[Tryz.underlying69]
 simp[Qre,QwT,Qtk]
def QwC:PKey Tryz.prog 69 (UInt64×UInt64) where
 kv x:=.agg #[W64 x.1,W64 x.2]
 kl x:=.string (keyBytes [.int .u64 (x.1.toNat:Int),.int .u64 (x.2.toNat:Int)])
 ok x:=by
  have hf:(Value.agg #[W64 x.1,W64 x.2]).formed Tryz.prog 69=true:=by
   simp[Value.formed,Tryz.underlying69,Qre]
  unfold keyOf
  rw[Tryz.underlying69]
  have hk:Tryz.prog.keyType 69=true:=Qzm
  obtain⟨d,hd⟩:∃d,Tryz.prog.types.size+1=d+2:=⟨Tryz.prog.types.size-1,by have:=QzN;omega⟩
  simp only[hk,hf,Bool.and_self,if_true,hd]
  show (Tryz.prog.keyLits (d+2) 69 [W64 x.1,W64 x.2]).map _=_
  rw[Qr6]
  rfl
 inj x y h:=by
  have h1:[W64 x.1,W64 x.2]=[W64 y.1,W64 y.2]:=congrArg Array.toList (Value.agg.inj h)
  have h2:W64 x.1=W64 y.1:=(List.cons.inj h1).1
  have h3:W64 x.2=W64 y.2:=(List.cons.inj (List.cons.inj h1).2).1
  have e:∀a b:UInt64,W64 a=W64 b→a=b:=fun a b h=>by
   have:(a.toNat:Int)=b.toNat:=by simpa [W64] using h
   exact QD2.1 (by omega)
  exact Prod.ext (e _ _ h2) (e _ _ h3)
 law:=QBB
end Go.Proofs.YtdkpcdgckgaklaaGreat
namespace Go.Proofs.YtdkpcdgckgaklaaGreat
open Go.RowKit
open Go.BigFrame
theorem KeptOk.small {ks:List Prt} (h:KeptOk ks):ks.length≤16:=by
 by_cases hne:ks=[]
 ·simp[hne]
 ·have:=h.ct hne
  omega
structure Ltv where
 lt:Ltr
 va:Option Addr
 vn:Nat
 vc:Nat
def LtC (y:Ltv):List Value:=[W64 y.lt.to,W64 y.lt.id,.int .i64 y.lt.tk,.slice y.va y.vn y.vc]
def lv0:Ltv:=⟨⟨0,0,0,[]⟩,none,0,0⟩
theorem Qxo (y:Ltv):∀u∈LtC y,u.oneCell'=true:=by
 intro u hu
 simp only[LtC,QCQ,QCT,or_false]at hu
 rcases hu with rfl|rfl|rfl|rfl<;>rfl
theorem Qjt (y:Ltv):(LtC y).length=4:=rfl
section
variable {w w':World} {base sz n:Nat} {e:TypeId} {v:Value} {vs:List Value}
theorem Qlz {k:Nat} {es:Array MapEntry} {ck:Nat} (h:w.ownsRow base e sz v n vs) (hb:w.heap[k]?=some (.map es ck)) (ho:Only k w w'):w'.ownsRow base e sz v n vs:=by
 refine h.kept ho ?_
 rcases h.2 with ⟨rfl,_⟩|⟨g2,c2,cur2,rfl,_,hh2,_⟩
 ·exact .inl rfl
 ·refine .inr ?_
  intro hc
  have:k=g2:=by simpa [Value.ownBlock] using hc.symm
  subst this
  rw[hb]at hh2
  cases hh2
theorem Qio {k g:Nat} {t:TypeId} {l:List Value} {es:Array MapEntry} {ck:Nat} (h:Blk w g t l) (hb:w.heap[k]?=some (.map es ck)) (ho:Only k w w'):Blk w' g t l:=by
 refine h.only ho fun e=>?_
 subst e
 rw[Blk,hb]at h
 cases h
end
structure LSt (w wr:World) (bm n:Nat) (f:UInt64×UInt64→Option Nat) (K:UInt64×UInt64→List Prt) (v3:Value) (ys:List Ltv):Prop where
 lat:Later w wr
 map:PMap wr QwC bm n f
 low:w.heap.size≤bm
 msg:∀x g,f x=some g→∃pv,MsgAt wr w.heap.size g x.2 (K x) pv
 non:∀x,f x=none→K x=[]
 inj:∀x y g,f x=some g→f y=some g→x=y
 own:wr.ownsRow w.heap.size 52 4 v3 ys.length (ys.flatMap LtC)
 txt:∀y∈ys,OwnB wr w.heap.size y.va y.vn y.vc y.lt.tx
section
variable {w wr w':World} {bm n:Nat} {f:UInt64×UInt64→Option Nat} {K:UInt64×UInt64→List Prt} {v3:Value} {ys:List Ltv}
theorem PMap.obj {P:Program} {k:TypeId} {α:Type} {w:World} {M:PKey P k α} {b n:Nat} {f:α→Option Nat} (h:PMap w M b n f):∃es ck,w.heap[b]?=some (.map es ck):=by
 obtain⟨_,⟨es,ck,h1,_⟩,_⟩:=h
 exact⟨es,ck,h1⟩
theorem LSt.later (h:LSt w wr bm n f K v3 ys) (hl:Later wr w'):LSt w w' bm n f K v3 ys:=
 ⟨h.lat.trans hl,h.map.later hl,h.low,fun x g hx=>(h.msg x g hx).imp fun _ hm=>hm.later hl,h.non,h.inj,QaC h.own hl,fun y hy=>Qap (h.txt y hy) hl⟩
theorem MsgAt.onlyM {base g k:Nat} {id:UInt64} {ks:List Prt} {pv:List Value} {es:Array MapEntry} {ck:Nat} (h:MsgAt wr base g id ks pv) (hb:wr.heap[k]?=some (.map es ck)) (ho:Only k wr w'):MsgAt w' base g id ks pv:=
 ⟨Qio h.blk hb ho,h.low,h.len,fun i v hv=>(h.pcs i v hv).imp (fun h=>h) fun ⟨gp,h1,h2,h3⟩=>⟨gp,h1,h2,Qio h3 hb ho⟩⟩
theorem MsgAt.onlyO {base g k:Nat} {id:UInt64} {ks:List Prt} {pv:List Value} {l:List Value} (h:MsgAt wr base g id ks pv) (hb:Blk wr k 74 l) (hne:g≠k) (ho:Only k wr w'):MsgAt w' base g id ks pv:=
 ⟨h.blk.only ho hne,h.low,h.len,fun i v hv=>(h.pcs i v hv).only hb (by decide) ho⟩
theorem MsgAt.grown {base g b sz m:Nat} {e:TypeId} {v:Value} {vs:List Value} {id:UInt64} {ks:List Prt} {pv:List Value} (h:MsgAt wr base g id ks pv) (hr:wr.ownsRow b e sz v m vs) (h1:(74:TypeId)≠e) (h2:(5:TypeId)≠e) (hg:wr.grownBy w' v.ownBlock):MsgAt w' base g id ks pv:=
 ⟨QfH h.blk hr h1 hg,h.low,h.len,fun i v hv=>(h.pcs i v hv).imp (fun h=>h) fun ⟨gp,k1,k2,k3⟩=>⟨gp,k1,k2,QfH k3 hr h2 hg⟩⟩
theorem LSt.put (h:LSt w wr bm n f K v3 ys) {x0:UInt64×UInt64} {g:Nat} {pv:List Value} (hx:f x0=none) (hm:MsgAt wr w.heap.size g x0.2 [] pv) (hf:∀x,f x≠some g) (hp:PMap w' QwC bm (n+1) (fun x=>if x=x0 then some g else f x)) (ho:Only bm wr w'):
 LSt w w' bm (n+1) (fun x=>if x=x0 then some g else f x) K v3 ys:=by
 obtain⟨es,ck,hb⟩:=h.map.obj
 refine⟨h.lat.only ho h.low,hp,h.low,fun x g' hx'=>?_,fun x hx'=>?_,fun x y g' hx' hy'=>?_,Qlz h.own hb ho,fun y hy=>?_⟩
 ·by_cases hxx:x=x0
  ·subst hxx
   simp only[if_true,Option.some.injEq]at hx'
   subst hx'
   exact⟨pv,by rw[h.non x hx];exact hm.onlyM hb ho⟩
  ·simp only[hxx,if_false]at hx'
   exact (h.msg x g' hx').imp fun _ hm=>hm.onlyM hb ho
 ·by_cases hxx:x=x0
  ·subst hxx
   simp at hx'
  ·simp only[hxx,if_false]at hx'
   exact h.non x hx'
 ·by_cases hxx:x=x0<;>by_cases hyy:y=x0
  ·exact hxx.trans hyy.symm
  ·simp only[hxx,hyy,if_true,if_false,Option.some.injEq]at hx' hy'
   subst hx'
   exact absurd hy' (hf y)
  ·simp only[hxx,hyy,if_true,if_false,Option.some.injEq]at hx' hy'
   subst hy'
   exact absurd hx' (hf x)
  ·simp only[hxx,hyy,if_false]at hx' hy'
   exact h.inj x y g' hx' hy'
 ·exact Qlz (h.txt y hy) hb ho
theorem LSt.took (h:LSt w wr bm n f K v3 ys) {x0:UInt64×UInt64} {g:Nat} {pv:List Value} {k':List Prt} (hx:f x0=some g) (hm:MsgAt w' w.heap.size g x0.2 k' pv) (ho:Only g wr w'):LSt w w' bm n f (fun x=>if x=x0 then k' else K x) v3 ys:=by
 obtain⟨pv0,hm0⟩:=h.msg x0 g hx
 obtain⟨es,ck,hb⟩:=h.map.obj
 have hgb:bm≠g:=fun e=>by
  subst e
  have:=hm0.blk
  rw[Blk,hb]at this
  cases this
 refine⟨h.lat.only ho hm0.low,h.map.only ho hgb,h.low,fun x g' hx'=>?_,fun x hx'=>?_,h.inj,Qar h.own hm0.blk (by decide) ho,fun y hy=>?_⟩
 ·by_cases hxx:x=x0
  ·subst hxx
   obtain rfl:g=g':=Option.some.inj (hx.symm.trans hx')
   simp only[if_true]
   exact⟨pv,hm⟩
  ·simp only[hxx,if_false]
   refine (h.msg x g' hx').imp fun _ hm=>hm.onlyO hm0.blk (fun e=>hxx (h.inj x x0 g' hx' (by rw[e];exact hx))) ho
 ·by_cases hxx:x=x0
  ·subst hxx
   rw[hx]at hx'
   cases hx'
  ·simp only[hxx,if_false]
   exact h.non x hx'
 ·exact Qar (h.txt y hy) hm0.blk (by decide) ho
theorem LSt.wrote (h:LSt w wr bm n f K v3 ys) {y:Ltv} {v3':Value} (hown:w'.ownsRow w.heap.size 52 4 v3' (ys.length+1) (ys.flatMap LtC++LtC y)) (hg:wr.grownBy w' v3.ownBlock) (hl:Later w w')
 (ht:OwnB wr w.heap.size y.va y.vn y.vc y.lt.tx):LSt w w' bm n f K v3' (ys++[y]):=by
 obtain⟨es,ck,hb⟩:=h.map.obj
 have hbm:some bm≠v3.ownBlock:=by
  rcases h.own.2 with ⟨rfl,_⟩|⟨g2,c2,cur2,rfl,_,hh2,_⟩
  ·simp[Value.ownBlock]
  ·intro e
   have:bm=g2:=by simpa [Value.ownBlock] using e
   subst this
   rw[hb]at hh2
   cases hh2
 have txt:∀y:Ltv,OwnB wr w.heap.size y.va y.vn y.vc y.lt.tx→OwnB w' w.heap.size y.va y.vn y.vc y.lt.tx:=fun y h2=>QbT h2 h.own (by decide) hg
 refine⟨hl,h.map.grown hg hbm,h.low,fun x g hx=>(h.msg x g hx).imp fun _ hm=>hm.grown h.own (by decide) (by decide) hg,h.non,h.inj,?_,fun z hz=>?_⟩
 ·rw[QCB,QEd,QDZ]
  simpa using hown
 ·rcases QDc.1 hz with hz|hz
  ·exact txt z (h.txt z hz)
  ·obtain rfl:z=y:=by simpa using hz
   exact txt z ht
end
end Go.Proofs.YtdkpcdgckgaklaaGreat
