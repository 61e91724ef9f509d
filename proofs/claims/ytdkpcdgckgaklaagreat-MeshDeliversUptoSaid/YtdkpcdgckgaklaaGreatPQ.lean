/-
  Lemmas for the last text of this claim (part 17 of 20).
-/
import Derived.ArgAppend
import Derived.BigQuiet
import Derived.BigRegion
import Derived.ChangeOld
import Derived.Deep.RegionWith
import Derived.DeepKeys4
import Derived.JoinedCond
import Derived.LaidMore
import Derived.Laws.CopyOwn
import Derived.Laws.Externs
import Derived.Laws.IdiomStrings
import Derived.Laws.Tables
import Derived.Lib.AppendStr
import Derived.Lib.AppendZerosOnto
import Derived.Lib.Mul64
import Derived.Lib.SlBytesConst
import Derived.LoopN
import Derived.Maps.OwnSet
import Derived.OpenShut
import Derived.OrdersHeld
import Derived.ProofKit
import Derived.Shelf.Spec.BitsCarry
import Derived.ShutString
import Derived.Test.YtdkpcdgckgaklaaGreatProg
import Derived.Test.YtdkpcdgckgaklaaGreatRows
import Derived.WalkKit
import Derived.WalkLawsBesides
import Derived.WalkSpells
import Derived.Test.YtdkpcdgckgaklaaGreatPG
import Derived.Test.YtdkpcdgckgaklaaGreatPI
import Derived.Test.YtdkpcdgckgaklaaGreatPJ
import Derived.Test.YtdkpcdgckgaklaaGreatPN
import Derived.Test.YtdkpcdgckgaklaaGreatPO
import Derived.Test.YtdkpcdgckgaklaaGreatPP
open BitVec renaming toNat_ushiftRight → QDs
open List renaming replicate → QCn, getElem?_cons_succ → QCo, getElem?_cons_zero → QCp, cons_append → QCr, nil_append → QCs, length_map → QCt, getD_eq_getElem?_getD → QCu, getElem?_eq_getElem → QCv, setIfInBounds_toArray → QCw, set_cons_zero → QCy, set_cons_succ → QCz, map_toArray → QCA, length_append → QCB, map_nil → QCC, getElem?_append_left → QCD, take_of_length_le → QCE, getElem?_append_right → QCF, getElem?_map → QCH, length_replicate → QCJ, getElem?_eq_some_iff → QCK, append_assoc → QCL, length_take → QCP, mem_cons → QCQ, map_cons → QCR, length_drop → QCS, set_append_right → QCX, take_succ_eq_append_getElem → QCY, length_set → QCZ, map_replicate → QC8, drop_eq_getElem_cons → QDp, getElem?_take → QDt, replicate_append_replicate → QDz, length_singleton → QEd
open Nat renaming le_refl → QCx, lt_of_lt_of_le → QCM, mod_eq_of_lt → QCO, le_trans → QC4, div_div_eq_div_mul → QDe, shiftRight_eq_div_pow → QDo, pow_succ → QDv, min_eq_left → QDG, mul_comm → QDK, mod_mod → QDY, pow_mul → QD5, sub_self → QEB, pow_zero → QEE
open Option renaming toList_some → QCq, map_some → QD7
open UInt64 renaming ofNat → QCN, toNat_ofNat' → QCV, toNat_toUInt8 → QEv
open UInt8 renaming ofNat → QC2, ofInt → QC9, toNat_inj → QDl, toNat_ofNat' → QDM
set_option linter.all false
namespace Go.Proofs.YtdkpcdgckgaklaaGreat
open Go.RowKit
open Go.BigFrame
open Classical in
def ScP (w0:World) (g8:Nat) (w:World) (v:Value) (p:List UInt8):Prop:=
 (∃ A c,v= .slice A 32 c∧32≤c∧RdB w0 A 32 p)∨(∃ b,v= .slice (some ⟨b,0,none⟩) 32 32∧b≠g8∧p.length=32∧Blk w b 79 (p.map W8))∨(∃ A c base,v= .slice A 32 c∧OwnB w base A 32 c p)
structure ScRow (w0:World) (g8:Nat) (w:World) (v:Value) (sc:List (List UInt8)) (vs:List Value):Prop where
 own:w.ownsRow w0.heap.size 32 1 v sc.length vs
 len:vs.length=sc.length
 each:∀(j:Nat) u p,vs[j]?=some u→sc[j]?=some p→ScP w0 g8 w u p
theorem Qx8:(79:TypeId)≠32:=by decide
theorem ne8L:(5:TypeId)≠32:=by decide
theorem QBG:(5:TypeId)≠79:=by decide
theorem ScP.later {w0 w w':World} {g8:Nat} {v:Value} {p:List UInt8} (h:ScP w0 g8 w v p) (j:Later w w'):ScP w0 g8 w' v p:=by
 rcases h with h|⟨b,h1,h2,h3,h4⟩|⟨A,c,base,h1,h2⟩
 ·exact .inl h
 ·exact .inr (.inl ⟨b,h1,h2,h3,h4.later j⟩)
 ·exact .inr (.inr ⟨A,c,base,h1,Qap h2 j⟩)
theorem ScP.part {w0 w:World} {g8:Nat} {v:Value} {p:List UInt8} (h:ScP w0 g8 w v p) (j:Later w0 w):Part w (fun _=>False) v p:=by
 rcases h with ⟨A,c,rfl,hc,h⟩|⟨b,rfl,_,h3,h4⟩|⟨A,c,base,rfl,h2⟩
 ·exact QeL (h.later j) hc
 ·exact QeL (Qen h4 h3) (QCx _)
 ·exact QeL h2.rd h2.cap
theorem ScP.only {w0 w w':World} {g8:Nat} {v:Value} {p:List UInt8} {l:List Value} (h:ScP w0 g8 w v p) (hg:Blk w g8 79 l) (ho:Only g8 w w'):ScP w0 g8 w' v p:=by
 rcases h with h|⟨b,h1,h2,h3,h4⟩|⟨A,c,base,h1,h2⟩
 ·exact .inl h
 ·exact .inr (.inl ⟨b,h1,h2,h3,h4.only ho h2⟩)
 ·exact .inr (.inr ⟨A,c,base,h1,Qar h2 hg (fun e=>QBG e.symm) ho⟩)
theorem ScP.grown {w0 w w':World} {g8 base sz:Nat} {v v2:Value} {p:List UInt8} {e:TypeId} {n:Nat} {vs:List Value} (h:ScP w0 g8 w v p) (hown:w.ownsRow base e sz v2 n vs) (h1:79≠e) (h2:5≠e) (hg:w.grownBy w' v2.ownBlock):ScP w0 g8 w' v p:=by
 rcases h with h|⟨b,k1,k2,k3,k4⟩|⟨A,c,base',k1,k2⟩
 ·exact .inl h
 ·exact .inr (.inl ⟨b,k1,k2,k3,QfH k4 hown h1 hg⟩)
 ·exact .inr (.inr ⟨A,c,base',k1,QbT k2 hown h2 hg⟩)
theorem ScRow.later {w0 w w':World} {g8:Nat} {v:Value} {sc:List (List UInt8)} {vs:List Value} (h:ScRow w0 g8 w v sc vs) (j:Later w w'):ScRow w0 g8 w' v sc vs:=
 ⟨Qap h.own j,h.len,fun k u p hu hp=>(h.each k u p hu hp).later j⟩
theorem ScRow.only {w0 w w':World} {g8:Nat} {v:Value} {sc:List (List UInt8)} {vs:List Value} {l:List Value} (h:ScRow w0 g8 w v sc vs) (hg:Blk w g8 79 l) (ho:Only g8 w w'):ScRow w0 g8 w' v sc vs:=
 ⟨Qar h.own hg Qx8 ho,h.len,fun k u p hu hp=>(h.each k u p hu hp).only hg ho⟩
theorem ScRow.grown {w0 w w':World} {g8 base sz:Nat} {v v2:Value} {sc:List (List UInt8)} {us vs:List Value} {e:TypeId} {n:Nat} (h:ScRow w0 g8 w v sc us) (hown:w.ownsRow base e sz v2 n vs) (h0:32≠e) (h1:79≠e) (h2:5≠e) (hg:w.grownBy w' v2.ownBlock):ScRow w0 g8 w' v sc us:=
 ⟨QbT h.own hown h0 hg,h.len,fun k u p hu hp=>(h.each k u p hu hp).grown hown h1 h2 hg⟩
theorem ScRow.snoc {w0 w w':World} {g8:Nat} {v v' u:Value} {sc:List (List UInt8)} {vs:List Value} {p:List UInt8} (h:ScRow w0 g8 w v sc vs) (hu:ScP w0 g8 w u p) (hg:w.grownBy w' v.ownBlock) (hown:w'.ownsRow w0.heap.size 32 1 v' (sc.length+1) (vs++[u])):ScRow w0 g8 w' v' (sc++[p]) (vs++[u]):=by
 refine⟨by rw[QCB];exact hown,by simp[h.len],fun j x q hx hq=>?_⟩
 by_cases hj:j<vs.length
 ·rw[QCD hj]at hx
  rw[QCD (by rw[←h.len];exact hj)]at hq
  exact (h.each j x q hx hq).grown h.own Qx8 ne8L hg
 ·rw[QCF (by omega)]at hx
  rw[QCF (by rw[←h.len];omega),←h.len]at hq
  have h0:j-vs.length=0:=by
   have:=(QCK.1 hx).1
   simp at this
   omega
  rw[h0]at hx hq
  cases hx
  cases hq
  exact hu.grown h.own Qx8 ne8L hg
theorem ScRow.parts {w0 w:World} {g8:Nat} {A:Option Addr} {n c:Nat} {sc:List (List UInt8)} {vs:List Value} (h:ScRow w0 g8 w (.slice A n c) sc vs) (hn:sc.length=n) (j:Later w0 w):Parts w (fun _=>False) A n sc:=by
 have ho:=h.own
 rw[hn]at ho
 exact⟨vs,QfV ho,fun _ _ _ h=>h,h.len,fun k u p hu hp=>(h.each k u p hu hp).part j⟩
section
variable {P:Program} {ops:Array Oper} {rest:List Oper} {o:Oper} {a:Act} {w:World} {Q:Exit→Act→World→Prop}
end
end Go.Proofs.YtdkpcdgckgaklaaGreat
namespace Go.Proofs.YtdkpcdgckgaklaaGreat
open Go.RowKit
section
variable {P:Program} {ops:Array Oper} {rest:List Oper} {o:Oper} {a:Act} {w:World} {Q:Exit→Act→World→Prop}
end
end Go.Proofs.YtdkpcdgckgaklaaGreat
namespace Go.Proofs.YtdkpcdgckgaklaaGreat
open Go.RowKit
open Go.BigFrame
end Go.Proofs.YtdkpcdgckgaklaaGreat
namespace Go.Proofs.YtdkpcdgckgaklaaGreat
open Go.RowKit
structure Hp where
 nod:Nod
 delay:Int
 flags:Int
def HC (x:Hp):List Value:=NC x.nod++[.int .i64 x.delay,.int .i64 x.flags]
end Go.Proofs.YtdkpcdgckgaklaaGreat
namespace Go.Proofs.YtdkpcdgckgaklaaGreat
open Go.RowKit
open Go.BigFrame
section
variable {n:Nat} {sl st:Nat→List UInt8} (hn1:1≤n) (hn5:n≤5) (hsl:∀k,(sl k).length=32) (hst:∀k,(st k).length=192) {body:List UInt8} (hb:body.length=480)
include hn1 hn5 hsl hst hb
end
def QcU (l:List Nat):Nat:=l.foldl (fun a e=>if e≠0∧(a=0∨e<a) then e else a) 0
theorem Qfs:∀(l:List Nat) (a:Nat),l.foldl (fun a e=>if e≠0∧(a=0∨e<a) then e else a) a=0↔a=0∧∀e∈l,e=0
 | [],a=>by simp
 | e :: l,a=>by
   rw[List.foldl_cons,Qfs l]
   constructor
   ·rintro⟨h1,h2⟩
    split at h1
    ·rename_i h
     exact absurd h1 h.1
    ·rename_i h
     refine⟨h1,?_⟩
     intro e' he
     rcases QCQ.1 he with rfl|he
     ·by_cases hz:e'=0
      ·exact hz
      ·exact absurd ⟨hz,.inl h1⟩ h
     ·exact h2 _ he
   ·rintro⟨rfl,h2⟩
    have he:=h2 e (by simp)
    exact⟨by rw[if_neg (fun h=>h.1 he)],fun e' h'=>h2 _ (by simp[h'])⟩
theorem Qmu (l:List Nat):QcU l=0↔∀e∈l,e=0:=by
 rw[QcU,Qfs]
 simp
end Go.Proofs.YtdkpcdgckgaklaaGreat
namespace Go.Proofs.YtdkpcdgckgaklaaGreat
open Go.RowKit
structure Car where
 vs:List Vst
 bd:List UInt8
 tk:Int
 er:Nat
def QeK (xs:List Nod):Nat→UInt64→Int→List UInt8→List Vst→Car
 | 0,_,_,_,vs=>⟨vs,[],0,11⟩
 | k+1,id,tk,p,vs=>
   if (QbN (byId id) xs).2≠0 then ⟨vs,[],0,(QbN (byId id) xs).2⟩
   else if unwE (QbN (byId id) xs).1.priv.val p≠0 then ⟨vs,[],0,unwE (QbN (byId id) xs).1.priv.val p⟩
   else if (unwC (QbN (byId id) xs).1.priv.val p).kd≠1 then ⟨vs++[⟨unwC (QbN (byId id) xs).1.priv.val p,id,tk⟩],unwB (QbN (byId id) xs).1.priv.val p,tk+((unwC (QbN (byId id) xs).1.priv.val p).dl.toNat:Nat),0⟩
   else QeK xs k (unwC (QbN (byId id) xs).1.priv.val p).nx (tk+((unwC (QbN (byId id) xs).1.priv.val p).dl.toNat:Nat)) (unwP (QbN (byId id) xs).1.priv.val p) (vs++[⟨unwC (QbN (byId id) xs).1.priv.val p,id,tk⟩])
def Qex (tk:Int) (b:List UInt8) (xs:List Nod):Nat:=if tk<0∨1099511627776<tk then 1 else QcU [if b.length=768 then 0 else 2,QbE xs]
def Qa3 (xs:List Nod) (tk:Int) (id:UInt64) (b:List UInt8):Car:=if Qex tk b xs≠0 then ⟨[],[],0,Qex tk b xs⟩ else QeK xs 16 id tk b []
section
variable {xs:List Nod} {k:Nat} {id:UInt64} {tk:Int} {p:List UInt8} {vs:List Vst}
theorem Qj1 (h:(QbN (byId id) xs).2≠0):QeK xs (k+1) id tk p vs=⟨vs,[],0,(QbN (byId id) xs).2⟩:=by rw[QeK,if_pos h]
theorem QjY (h: ¬(QbN (byId id) xs).2≠0) (h1:unwE (QbN (byId id) xs).1.priv.val p≠0):QeK xs (k+1) id tk p vs=⟨vs,[],0,unwE (QbN (byId id) xs).1.priv.val p⟩:=by rw[QeK,if_neg h,if_pos h1]
theorem QlZ (h: ¬(QbN (byId id) xs).2≠0) (h1: ¬unwE (QbN (byId id) xs).1.priv.val p≠0) (h2:(unwC (QbN (byId id) xs).1.priv.val p).kd≠1):
 QeK xs (k+1) id tk p vs=⟨vs++[⟨unwC (QbN (byId id) xs).1.priv.val p,id,tk⟩],unwB (QbN (byId id) xs).1.priv.val p,tk+((unwC (QbN (byId id) xs).1.priv.val p).dl.toNat:Nat),0⟩:=by rw[QeK,if_neg h,if_neg h1,if_pos h2]
theorem QoD (h: ¬(QbN (byId id) xs).2≠0) (h1: ¬unwE (QbN (byId id) xs).1.priv.val p≠0) (h2: ¬(unwC (QbN (byId id) xs).1.priv.val p).kd≠1):
 QeK xs (k+1) id tk p vs=QeK xs k (unwC (QbN (byId id) xs).1.priv.val p).nx (tk+((unwC (QbN (byId id) xs).1.priv.val p).dl.toNat:Nat)) (unwP (QbN (byId id) xs).1.priv.val p) (vs++[⟨unwC (QbN (byId id) xs).1.priv.val p,id,tk⟩]):=by rw[QeK,if_neg h,if_neg h1,if_neg h2]
end
theorem Qlt (xs:List Nod):∀(k:Nat) (id:UInt64) (tk:Int) (p:List UInt8) (vs:List Vst),(QeK xs k id tk p vs).vs.length≤vs.length+k
 | 0,_,_,_,vs=>QCx _
 | k+1,id,tk,p,vs=>by
   rw[QeK]
   split
   ·show vs.length≤_
    omega
   split
   ·show vs.length≤_
    omega
   split
   ·show (vs++[_]).length≤_
    rw[QCB,QEd]
    omega
   ·refine QC4 (Qlt xs k _ _ _ _) ?_
    rw[QCB,QEd]
    omega
theorem Qjw (xs:List Nod) (tk:Int) (id:UInt64) (b:List UInt8):(Qa3 xs tk id b).vs.length≤16:=by
 unfold Qa3
 split
 ·show ([]:List Vst).length≤16
  rw[List.length_nil]
  omega
 ·have:=Qlt xs 16 id tk b []
  rw[List.length_nil]at this
  omega
end Go.Proofs.YtdkpcdgckgaklaaGreat
namespace Go.Proofs.YtdkpcdgckgaklaaGreat
open Go.RowKit
open Go.BigFrame
def leM (a e:Nat):Nat:=if e≠0∧(a=0∨e<a) then e else a
theorem Qnv (es:List Nat) (k:Nat) (h:k<es.length):QcU (es.take (k+1))=leM (QcU (es.take k)) (es.getD k 0):=by
 rw[QcU,QcU,QCY h,List.foldl_append,QCu,QCv h]
 rfl
def eVM (e:Nat):Value:=.int .i64 (e:Int)
set_option maxRecDepth 100000 in
theorem QpN (A:Option Addr) (n c:Nat) (es:List Nat) (w:World) (hr:Rd w A n (es.map eVM)) (hn:n≤1048576):
 Calls Tryz.prog 23 #[.slice A n c] w fun e w'=>e= .returned (.int .i64 (QcU es:Nat))∧Later w w':=by
 have hl:es.length=n:=by have:=hr.1;rwa [QCt]at this
 have hst:=hid (Qnv es)
 have h0:Hid (QcU (es.take 0)=0):=hid rfl
 have hn':Hid (QcU (es.take n)=QcU es):=hid (by rw[QCE (by omega)])
 go_enter Tryz.func23,Tryz.ntmps23
 go_wp2_with fail
 go_loopw [3,8] (fun s i wr=>∃k:Nat,k≤n∧i= .int .i64 k∧s= .int .i64 (QcU (es.take k):Nat)∧Later w wr) (fun _ i _=>n-(intOf i).toNat)
 case atStart=>exact⟨0,by omega,rfl,by rw[h0.out];rfl,Later.refl w⟩
 case round=>
  obtain⟨k,hk,rfl,rfl,L⟩:=hrel
  by_cases hlt:k<n
  ·obtain⟨b,o,rfl,hb,hc⟩:=(hr.later L).2 (by omega)
   have c1:wr.cell? ⟨b,o+k,none⟩=some (eVM (es.getD k 0)):=hc k _ (by rw[QCH,QCu,QCv (by omega)];rfl)
   have hS:=hst.out k (by omega)
   rw[eVM]at c1
   clear hc
   generalize es.getD k 0=x at *
   generalize QcU (es.take k)=y at *
   replace hS:=hid hS
   by_cases e0:x=0
   ·have f1:((x:Int) != 0)=false:=by simp[e0]
    have hz:=hid (hS.out.trans (by rw[leM,if_neg (by simp[e0])]))
    clear e0
    go_wp2_with fail
    exact⟨⟨k+1,by omega,by go_num,by rw[hz.out],L⟩,by simp[intOf];omega⟩
   have f1:((x:Int) != 0)=true:=by simp[e0]
   by_cases e1:y=0
   ·have f2:((y:Int)==0)=true:=by simp[e1]
    have hz:=hid (hS.out.trans (by rw[leM,if_pos ⟨e0,.inl e1⟩]))
    clear e0 e1
    go_wp2_with fail
    exact⟨⟨k+1,by omega,by go_num,by rw[hz.out],L⟩,by simp[intOf];omega⟩
   have f2:((y:Int)==0)=false:=by simp[e1]
   by_cases e2:x<y
   ·have f3:decide ((x:Int)<(y:Int))=true:=decide_eq_true (by omega)
    have hz:=hid (hS.out.trans (by rw[leM,if_pos ⟨e0,.inr e2⟩]))
    clear e0 e1
    go_wp2_with fail
    exact⟨⟨k+1,by omega,by go_num,by rw[hz.out],L⟩,by simp[intOf];omega⟩
   ·have f3:decide ((x:Int)<(y:Int))=false:=decide_eq_false (by omega)
    have hz:=hid (hS.out.trans (by rw[leM,if_neg (fun h=>h.2.elim e1 e2)]))
    clear e0 e1
    go_wp2_with fail
    exact⟨⟨k+1,by omega,by go_num,by rw[hz.out],L⟩,by simp[intOf];omega⟩
  ·obtain rfl:k=n:=by omega
   rw[hn'.out]
   go_wp2_with fail
   go_ret
   exact⟨rfl,L⟩
set_option maxRecDepth 100000 in
theorem Qqk (A:Option Addr) (n c:Nat) (w:World) (hn:n≠768):
 Calls Tryz.prog 22 #[.slice A n c] w fun e w'=>e= .returned (.tuple #[.agg ((QCn 768 (0:UInt8)).map W8).toArray,.int .i64 2])∧Later w w':=by
 have HZ:=hid zcP
 have hz0:=hid QpP
 have B0:Bag w (w.alloc (.cells Tryz.zeroCells85 85)) [(w.heap.size,85,(QCn 768 (0:UInt8)).map W8)]:=(Bag.none w).add (Qaa _ _) (by simp) (QCx _) ((Blk.new w _ Tryz.zeroCells85.toList).cast HZ.out)
 have l0:(QCn 768 (0:UInt8)).length=768:=QCJ
 have l1:((QCn 768 (0:UInt8)).map W8).length=768:=by rw[QCt,l0]
 have hn2:((n:Int) != 768)=true:=bne_iff_ne.2 (by omega)
 generalize QCn 768 (0:UInt8)=Z at *
 go_enter Tryz.func22,Tryz.ntmps22
 go_wp2_with (first
  | (refine Qah ?hw 85 _ rfl (Z.map W8) (by simp only[QCA,QCC];exact hz0.out) ?_;(case hw=>rfl))
  | (refine QgG rfl rfl _ _ rfl (B0.nth 0 rfl) rfl rfl l0 l1 ?_;intro w1 hb1 ho1)
  | fail)
 exact bodyPost_ret (Qae rfl _ _ _ _ _ _ hb1 rfl Tryz.underlying85 rfl (by rw[l1];exact Qhg)) rfl ⟨rfl,B0.lat.only ho1 (QCx _)⟩
theorem Qmg {P:Program} {d n k:Nat} {t:TypeId} {f:Field} {fs:List Field} {fs':Array Field} (hf:f.type=t) (hu:P.underlying t=some (.struct fs')) (hst:P.stoodInHeld t=false) (hs:(P.info? t).map (·.size)=some n) (hn:f.name≠ "_")
 {xs ys ps qs:List Value} (ho:f.offset=k) (hp:(xs.drop k).take n=ps) (hq:(ys.drop k).take n=qs) (b:Bool) (w:World) (hb:(Op.eqFields (d+1) ps.toArray qs.toArray fs'.toList).run P w= .ok b w):
 (Op.eqFields (d+2) xs.toArray ys.toArray (f :: fs)).run P w=if b then (Op.eqFields (d+2) xs.toArray ys.toArray fs).run P w else .ok false w:=by
 have e:P.fieldsOf t=fs':=by unfold Program.fieldsOf;rw[hu]
 rw[Op.eqFields,if_pos hn]
 simp only[Sem.run_bind,hf,ho,Qd0 hu rfl hs xs _ hp,Qd0 hu rfl hs ys _ hq,Result.andThen_ok]
 rw[run_equalIn_struct w (d+1) t ps.toArray qs.toArray (by rw[e];exact hu) hst,e,hb]
 simp only[Result.andThen_ok]
 cases b<;>simp
theorem Qxx:(Tryz.prog.info? 83).map (·.size)=some 480:=by kernel_rfl
set_option maxRecDepth 100000 in
theorem Qw8 (d:Nat) (x y:List UInt8) (hx:x.length=288) (hy:y.length=288) (w:World) {fs:Array Field} (hu:Tryz.prog.underlying 82=some (.struct fs)):
 (Op.eqFields (d+2) (x.map W8).toArray (y.map W8).toArray fs.toList).run Tryz.prog w= .ok (x==y) w:=by
 rw[Tryz.underlying82]at hu
 cases hu
 have l1:∀off n,off+n≤288→(subB x off n).length=n:=fun off n h=>Qav (by omega)
 have l2:∀off n,off+n≤288→(subB y off n).length=n:=fun off n h=>Qav (by omega)
 rw[Qcd (k:=0) rfl (by decide) rfl (QbL x 0 32) (QbL y 0 32) (l1 _ _ (by omega)) (l2 _ _ (by omega)),
  Qdi (k:=32) rfl Tryz.underlying35 QnA QbR Tryz.underlying5 (by decide) rfl (QbL x 32 16) (QbL y 32 16) (l1 _ _ (by omega)) (l2 _ _ (by omega)),
  Qdi (k:=48) rfl Tryz.underlying80 QxC QbR Tryz.underlying5 (by decide) rfl (QbL x 48 240) (QbL y 48 240) (l1 _ _ (by omega)) (l2 _ _ (by omega)),Qdf]
 have h:(x==y)=(subB x 0 32==subB y 0 32&&(subB x 32 16==subB y 32 16&&subB x 48 240==subB y 48 240)):=by
  rw[QmJ x y 48 240 (by omega) (by omega),Qj5 x y 32 16,Qj5 x y 0 32]
  rfl
 rw[h]
 cases subB x 0 32==subB y 0 32<;>cases subB x 32 16==subB y 32 16<;>cases subB x 48 240==subB y 48 240<;>rfl
abbrev Y768:={l:List UInt8 // l.length=768}
theorem Qxg:Tryz.prog.eqGuardType Tryz.prog.depth 85=false:=by kernel_rfl
@[go_sem high] theorem Qxs (op:BinOp) (x y:Operand) (xs ys:Array Value) (w:World):(eqGuard op 85 x y (.agg xs) (.agg ys)).run Tryz.prog w= .ok () w:=run_eqGuard_agg w op _ x y xs ys Qxg
set_option maxRecDepth 100000 in
theorem QhZ (x y:List UInt8) (hx:x.length=768) (hy:y.length=768) (w:World) {fs:Array Field} (hu:Tryz.prog.underlying 85=some (.struct fs)):
 (Op.eqFields 9999 (x.map W8).toArray (y.map W8).toArray fs.toList).run Tryz.prog w= .ok (x==y) w:=by
 rw[Tryz.underlying85]at hu
 cases hu
 have l1:(subB x 0 288).length=288:=Qav (by omega)
 have l2:(subB y 0 288).length=288:=Qav (by omega)
 have l3:(subB x 288 480).length=480:=Qav (by omega)
 have l4:(subB y 288 480).length=480:=Qav (by omega)
 rw[Qmg (d:=9997) (k:=0) rfl Tryz.underlying82 (by kernel_rfl) Qdu (by decide) rfl (QbL x 0 288) (QbL y 0 288) _ w (Qw8 9996 _ _ l1 l2 w Tryz.underlying82),
  Qdi (d:=9997) (k:=288) rfl Tryz.underlying83 Qxx QbR Tryz.underlying5 (by decide) rfl (QbL x 288 480) (QbL y 288 480) l3 l4,Qdf]
 have h:(x==y)=(subB x 0 288==subB y 0 288&&subB x 288 480==subB y 288 480):=by
  rw[QmJ x y 288 480 (by omega) (by omega),Qj5 x y 0 288]
  rfl
 rw[h]
 cases subB x 0 288==subB y 0 288<;>cases subB x 288 480==subB y 288 480<;>rfl
@[go_sem high] theorem Qxz (x y:Y768) (w:World):(binOp .eql 85 (.agg (x.val.map W8).toArray) (.agg (y.val.map W8).toArray)).run Tryz.prog w= .ok (.bool (x.val==y.val)) w:=by
  rw[QgR Tryz.underlying85 (by kernel_rfl),QhZ _ _ x.2 y.2 w Tryz.underlying85]
  rfl
@[go_sem high] theorem QwN (x y:Y768) (w:World):(binOp .neq 85 (.agg (x.val.map W8).toArray) (.agg (y.val.map W8).toArray)).run Tryz.prog w= .ok (.bool (!(x.val==y.val))) w:=by
  rw[QiT Tryz.underlying85 (by kernel_rfl),QhZ _ _ x.2 y.2 w Tryz.underlying85]
  rfl
section
variable {ops:Array Oper} {rest:List Oper} {o:Oper} {a:Act} {w:World} {Q:Exit→Act→World→Prop}
end
theorem Qgj (k p:List UInt8) (hp:p.length=768):(unwP k p).length=768:=by
 unfold unwP
 split
 ·exact QhW _ _ hp (Qcs _ _)
 ·exact QCJ
theorem QpR (k p:List UInt8) (hp:p.length=768):(unwB k p).length≤480:=by
 unfold unwB
 split
 ·unfold relB
  split
  ·rw[Qeo _ _ hp (Qcs _ _)]
   omega
  ·simp
 ·simp
section
variable {ops:Array Oper} {rest:List Oper} {o:Oper} {a:Act}
end
theorem QlG (b:List UInt8) (hb:b.length=480):parE b=if allZ (b.take 16)=false then 7 else if b.getD 16 0<1∨3<b.getD 16 0 then 1 else if b.getD 19 0≠0∨450<Qb3 b then 3 else if prtE (Qdn b)≠0∨allZ (b.drop (30+Qb3 b))=false then 3 else 0:=by
 have h1:(b.take 16≠QCn 16 0)=(allZ (b.take 16)=false):=by
  have:=QgO (b.take 16)
  rw[show (b.take 16).length=16 by rw[QCP];omega]at this
  rw[Ne,←this,Bool.not_eq_true]
 rw[parE,if_neg (by omega)]
 simp only[h1]
 by_cases hs:450<Qb3 b
 ·rw[if_pos (show b.getD 19 0≠0∨450<Qb3 b from .inr hs),if_pos (show b.getD 19 0≠0∨450<Qb3 b from .inr hs)]
 ·have h2:(b.drop (30+Qb3 b)≠QCn (450-Qb3 b) 0)=(allZ (b.drop (30+Qb3 b))=false):=by
   have:=QgO (b.drop (30+Qb3 b))
   rw[show (b.drop (30+Qb3 b)).length=450-Qb3 b by rw[QCS];omega]at this
   rw[Ne,←this,Bool.not_eq_true]
  simp only[h2]
set_option maxRecDepth 100000 in
set_option maxHeartbeats 4000000 in
theorem Qqp (A:Option Addr) (c:Nat) (b:List UInt8) (w:World) (hb:RdB w A 480 b) (hc:480≤c):
 Calls Tryz.prog 30 #[.slice A 480 c] w fun e w'=>∃A' c',e= .returned (.tuple #[.agg (PaC (parP b) (.slice A' (parP b).da.length c')).toArray,.int .i64 (parE b:Nat)])∧OwnB w' w.heap.size A' (parP b).da.length c' (parP b).da∧Later w w':=by
 have hbl:=hb.len
 obtain⟨b0,o,rfl,hb00,_⟩:=hb.2 (by omega)
 have hE:=hid (QlG b hbl)
 have hP:Hid (parP b=if parE b=0 then Qdn b else prt0):=hid rfl
 have hOf:Hid (Qdn b=⟨b.getD 16 0,QCN (beN (subB b 20 8) 0),((b.getD 17 0).toNat:Int),((b.getD 18 0).toNat:Int),subB b 30 (Qb3 b)⟩):=hid rfl
 have hsp:Hid (Qb3 b=beN (subB b 28 2) 0):=hid rfl
 have hs6:=Qof b hbl
 have hZ1:=hid (fun (w:World) (h:RdB w (some ⟨b0,o,none⟩) 480 b)=>Qn9 (some ⟨b0,o,none⟩) 16 c (b.take 16) w (h.take (by omega)) (by omega))
 have hG1:=hid (fun (w:World) (h:RdB w (some ⟨b0,o,none⟩) 480 b)=>QhI (some ⟨b0,o,none⟩) 480 c 20 8 b w h (by omega) (by omega) (by omega) (by omega))
 have hG2:=hid (fun (w:World) (h:RdB w (some ⟨b0,o,none⟩) 480 b)=>QhI (some ⟨b0,o,none⟩) 480 c 28 2 b w h (by omega) (by omega) (by omega) (by omega))
 rw[←hsp.out]at hG2
 have hcl:=hid (fun (w:World) (h:RdB w (some ⟨b0,o,none⟩) 480 b)=>(⟨Qa6 h 16 (by omega),Qa6 h 17 (by omega),Qa6 h 18 (by omega),Qa6 h 19 (by omega)⟩:w.cell? ⟨b0,o+16,none⟩=some (W8 (b.getD 16 0))∧w.cell? ⟨b0,o+17,none⟩=some (W8 (b.getD 17 0))∧w.cell? ⟨b0,o+18,none⟩=some (W8 (b.getD 18 0))∧w.cell? ⟨b0,o+19,none⟩=some (W8 (b.getD 19 0))))
 have hsl:=hid (fun hs=>QhY b hbl hs)
 generalize parE b=E at *
 generalize parP b=PP at *
 generalize Qdn b=P at *
 generalize hS:Qb3 b=S at *
 generalize QCN (beN (subB b 20 8) 0)=ID at *
 generalize b.getD 16 0=x16 at *
 generalize b.getD 17 0=x17 at *
 generalize b.getD 18 0=x18 at *
 generalize b.getD 19 0=x19 at *
 clear hsp hS
 have C1:=Qa8 w 34 pz0
 have hb0:=QlF
 generalize allZ (b.take 16)=F1 at *
 go_enter Tryz.func30,Tryz.ntmps30
 go_wp2_with fail
 (refine (hZ1.out _ (hb.later C1.lat)).mono ?_);rintro e w2 ⟨rfl,j2⟩
 have C2:=C1.later j2
 clear hZ1 j2 C1
 cases F1
 ·have HE:E=7:=hE.out.trans (if_pos rfl)
  have HP:PP=prt0:=by rw[hP.out,if_neg (by rw[HE];decide)]
  replace HE:=hid HE
  replace HP:=hid HP
  clear hP hE hcl hG1 hG2
  go_wp2_with (first
   | (refine Qah rfl 34 _ rfl (PaC prt0 (.slice none 0 0)) (by simp only[QCA,QCC];exact hb0) ?_)
   | (refine QaZ rfl rfl _ _ rfl (C2.nth 0 rfl) rfl rfl rfl rfl ?_;intro e7 eb7 eo7
      have E7:=C2.write 0 rfl eo7 eb7)
   | fail)
  exact bodyPost_ret (Qae rfl _ _ _ _ _ _ (E7.nth 0 rfl) rfl Tryz.underlying34 rfl (by rw[QaD];exact Qcz)) rfl ⟨none,0,by rw[HE.out,HP.out];rfl,by rw[HP.out];exact Qay _ _ _,E7.lat⟩
 replace hE:=hid (hE.out.trans (if_neg (by decide)))
 obtain⟨k16,k17,k18,k19⟩:=hcl.out _ (hb.later C2.lat)
 have hb0lt:b0<w2.heap.size:=QCM hb00 C2.lat.size
 by_cases h1:x16<1∨3<x16
 ·have h13:(decide (x16<1)||decide (3<x16))=true:=by simpa using h1
  by_cases h11:x16<1
  all_goals
   have h33:x16<1∨3<x16:=h1
   simp only[h11,true_or,false_or]at h33
   have HE:E=1:=hE.out.trans (if_pos h1)
   have HP:PP=prt0:=by rw[hP.out,if_neg (by rw[HE];decide)]
   replace HE:=hid HE
   replace HP:=hid HP
   clear hP hE hcl hG1 hG2
   go_wp2_with (first
    | (refine Qah rfl 34 _ rfl (PaC prt0 (.slice none 0 0)) (by simp only[QCA,QCC];exact hb0) ?_)
    | (refine QaZ rfl rfl _ _ rfl (C2.nth 0 rfl) rfl rfl rfl rfl ?_;intro e7 eb7 eo7
       have E7:=C2.write 0 rfl eo7 eb7)
    | fail)
   exact bodyPost_ret (Qae rfl _ _ _ _ _ _ (E7.nth 0 rfl) rfl Tryz.underlying34 rfl (by rw[QaD];exact Qcz)) rfl ⟨none,0,by rw[HE.out,HP.out];rfl,by rw[HP.out];exact Qay _ _ _,E7.lat⟩
 have h11: ¬x16<1:=fun h=>h1 (.inl h)
 have h13: ¬ 3<x16:=fun h=>h1 (.inr h)
 replace hE:=hid (hE.out.trans (if_neg h1))
 clear h1
 go_wp2_with fail
 (refine (hG1.out _ (hb.later C2.lat)).mono ?_);rintro e w3 ⟨rfl,j3⟩
 go_wp2_with fail
 (refine (hG2.out _ (hb.later (C2.lat.trans j3))).mono ?_);rintro e w4 ⟨rfl,j4⟩
 have C4:=(C2.later j3).later j4
 clear k16 k17 k18 k19 j3 j4 C2 hb0lt
 obtain⟨k16,k17,k18,k19⟩:=hcl.out _ (hb.later C4.lat)
 have hb0lt:b0<w4.heap.size:=QCM hb00 C4.lat.size
 obtain⟨z,hz⟩:∃z,z=QCN S:=⟨_,rfl⟩
 have hzS:z.toNat=S:=by rw[hz,QCV,QCO (by omega)]
 rw[←hz]
 clear hz
 have hlt450:(450:UInt64)<z↔450<S:=by rw[UInt64.lt_iff_toNat_lt,hzS];rfl
 by_cases hx:x19≠0∨450<S
 ·by_cases h19:x19=0
  ·have n1:(x19 != 0)=false:=by simpa using h19
   have n2:(450:UInt64)<z:=hlt450.2 (hx.resolve_left (fun f=>f h19))
   clear h19 hlt450
   have HE:E=3:=hE.out.trans (if_pos hx)
   have HP:PP=prt0:=by rw[hP.out,if_neg (by rw[HE];decide)]
   replace HE:=hid HE
   replace HP:=hid HP
   clear hP hE hcl hG1 hG2
   go_wp2_with (first
    | (refine Qah rfl 34 _ rfl (PaC prt0 (.slice none 0 0)) (by simp only[QCA,QCC];exact hb0) ?_)
    | (refine QaZ rfl rfl _ _ rfl (C4.nth 0 rfl) rfl rfl rfl rfl ?_;intro e7 eb7 eo7
       have E7:=C4.write 0 rfl eo7 eb7)
    | fail)
   exact bodyPost_ret (Qae rfl _ _ _ _ _ _ (E7.nth 0 rfl) rfl Tryz.underlying34 rfl (by rw[QaD];exact Qcz)) rfl ⟨none,0,by rw[HE.out,HP.out];rfl,by rw[HP.out];exact Qay _ _ _,E7.lat⟩
  ·have n1:(x19 != 0)=true:=by simpa using h19
   clear h19 hlt450
   have HE:E=3:=hE.out.trans (if_pos hx)
   have HP:PP=prt0:=by rw[hP.out,if_neg (by rw[HE];decide)]
   replace HE:=hid HE
   replace HP:=hid HP
   clear hP hE hcl hG1 hG2
   go_wp2_with (first
    | (refine Qah rfl 34 _ rfl (PaC prt0 (.slice none 0 0)) (by simp only[QCA,QCC];exact hb0) ?_)
    | (refine QaZ rfl rfl _ _ rfl (C4.nth 0 rfl) rfl rfl rfl rfl ?_;intro e7 eb7 eo7
       have E7:=C4.write 0 rfl eo7 eb7)
    | fail)
   exact bodyPost_ret (Qae rfl _ _ _ _ _ _ (E7.nth 0 rfl) rfl Tryz.underlying34 rfl (by rw[QaD];exact Qcz)) rfl ⟨none,0,by rw[HE.out,HP.out];rfl,by rw[HP.out];exact Qay _ _ _,E7.lat⟩
 have n1:(x19 != 0)=false:=by
  cases e:(x19 != 0)
  ·rfl
  ·exact absurd (.inl (by simpa using e)) hx
 have hS4:S≤450:=by omega
 have n2: ¬(450:UInt64)<z:=fun h=>by have:=hlt450.1 h;omega
 replace hE:=hid (hE.out.trans (if_neg hx))
 clear hx hlt450
 have w17:IntKind.i64.wrap (x17.toNat:Int)=(x17.toNat:Int):=by have:=x17.toNat_lt;rw[IntKind.wrap_i64];omega
 have w18:IntKind.i64.wrap (x18.toNat:Int)=(x18.toNat:Int):=by have:=x18.toNat_lt;rw[IntKind.wrap_i64];omega
 have wz:IntKind.i64.wrap (z.toNat:Int)=(S:Int):=by rw[hzS,IntKind.wrap_i64];omega
 clear hzS
 have hP0:P=⟨x16,ID,(x17.toNat:Int),(x18.toNat:Int),subB b 30 S⟩:=hOf.out
 have hdl:=hsl.out hS4
 have hCk:=hid (fun (w:World) A' c'=>QjD P A' S c' hdl w)
 have hZ2:=hid (fun (w:World) A' c' (h:RdB w A' (480-(30+S)) (b.drop (30+S)))=>Qn9 A' (480-(30+S)) c' (b.drop (30+S)) w h (by omega))
 have hR2:=hid (fun (w:World) (h:RdB w (some ⟨b0,o,none⟩) 480 b)=>(⟨fun hne:c≠30+S=>by
  have:=h.cut (k:=30+S) (c:=c) (by omega) hc
  rw[cutA,if_neg hne]at this
  rw[show some (⟨b0,o+(30+S),none⟩:Addr)=(some (⟨b0,o,none⟩:Addr)).map (·.add (30+S)) by rw[QD7,Qdl]]
  exact this,fun he:c=30+S=>⟨by rw[QCt,QCS];omega,fun h=>absurd h (by omega)⟩⟩:(c≠30+S→RdB w (some ⟨b0,o+(30+S),none⟩) (480-(30+S)) (b.drop (30+S)))∧(c=30+S→RdB w (some ⟨b0,o,none⟩) (480-(30+S)) (b.drop (30+S)))))
 have hCp:=hid (fun (w:World) (h:RdB w (some ⟨b0,o,none⟩) 480 b)=>Qjv (some ⟨b0,o+30,none⟩) S (c-30) (subB b 30 S) w (by
  by_cases h0:S=0
  ·rw[h0]
   exact⟨rfl,fun h=>absurd h (by omega)⟩
  ·exact Qga h 30 S (by omega) (by omega)) (by omega))
 have hda:Hid (P.da=subB b 30 S):=hid (by rw[hP0])
 generalize hD:subB b 30 S=D at *
 clear hOf hD
 generalize allZ (b.drop (30+S))=F2 at *
 generalize prtE P=CE at *
 have f0:(0:Int)≤(S:Int):=by omega
 have f1:(S:Int)≤450:=by omega
 have f2:((30:Int)+(S:Int)).toNat=30+S:=by omega
 go_wp2_with fail
 have C5:=C4.drew
 have m0:=hb.later C5.lat
 refine Qad [([0,1,2,3,4,5,6,7,8,9,10,11,12],13)] [] [14] (by as_aux_lemma=>kernel_rfl) (by as_aux_lemma=>kernel_rfl) (by intro _ _ d _ _ h;cases d<;>exact h) ?_
 simp only[Qai,pick,QCo,QCp,QCq,QCr,QCs]
 repeat (first|go_big_quiet_skip|(go_big_quiet_want;(refine Qb0 _ _ rfl (PaC ⟨x16,ID,(x17.toNat:Int),(x18.toNat:Int),[]⟩ (.slice none 0 0)) (by simp only[QCA,QCR,QCC];exact Qss _ _ _ _) ?_);simp only[Act.put,QCw,QCz,QCy];go_big_quiet_on)|(go_big_quiet_step (fail)))
 refine wpQuiet_nil ?_
 go_wp2_with fail
 try refine⟨by first|assumption|exact Qab _|exact Qaa _ _|exact Later.refl _,?_⟩
 try simp only[Qai,pick,QCo,QCp,QCq,QCr,QCs]
 repeat (go_big_quiet_step (fail))
 refine wpQuiet_nil ?_
 go_wp2_with (first
  | (refine QaZ rfl rfl _ _ rfl (Blk.new w4.drew _ pz0) rfl rfl rfl rfl ?_;intro w6 hb6 ho6
     have C6:=C5.push (Qaa _ _) (QCx _) ho6 hb6)
  | fail)
 (refine (hCp.out _ (hb.later C6.lat)).mono ?_);rintro e w7 ⟨rfl,hb7,j7⟩
 have C7:=C6.fresh j7 (QCx _) hb7
 have hset:Hid ((PaC ⟨x16,ID,(x17.toNat:Int),(x18.toNat:Int),[]⟩ (.slice none 0 0)).set 4 (.slice (some ⟨w6.heap.size,0,none⟩) S S)=PaC P (.slice (some ⟨w6.heap.size,0,none⟩) S S)):=hid (by rw[hP0];rfl)
 clear hb7 j7 hb6 ho6 C4 C5 hCp m0 hP0
 by_cases hc0:CE=0
 ·subst hc0
  go_wp2_with (first
   | (refine Qac rfl rfl _ _ _ rfl w4.drew.heap.size 4 _ _ (C7.nth 1 rfl) rfl (by rw[QaD];omega) rfl (by kernel_rfl) ?_;intro v8 w8 hv8 hb8 ho8;simp[go_sem]at hv8;subst hv8;rw[hset.out]at hb8
      have C8:=C7.write 1 rfl ho8 hb8)
   | (refine Qdb rfl _ rfl (C8.nth 1 rfl) rfl ?_)
   | fail)
  (refine (hCk.out _ _ _).mono ?_);rintro e w9 ⟨rfl,j9⟩
  have C9:=C8.later j9
  have hR9:=hid (hR2.out _ (hb.later C9.lat))
  by_cases hcs:c=30+S
  all_goals
   have hR10:=hid (by first|exact hR9.out.2 hcs|exact hR9.out.1 hcs)
   go_wp2_with fail
   (with_reducible refine (hZ2.out _ _ _ hR10.out).mono ?_);rintro e w10 ⟨rfl,j10⟩
   have C10:=C9.later j10
   cases F2
   ·replace hE:=hid (hE.out.trans (if_pos (.inr rfl)))
    have HE:E=3:=hE.out
    have HP:PP=prt0:=by rw[hP.out,if_neg (by rw[HE];decide)]
    replace HE:=hid HE
    replace HP:=hid HP
    clear hP hE
    go_wp2_with (first
     | (refine Qah rfl 34 _ rfl (PaC prt0 (.slice none 0 0)) (by simp only[QCA,QCC];exact hb0) ?_)
     | (refine QaZ rfl rfl _ _ rfl (C10.nth 2 rfl) rfl rfl rfl rfl ?_;intro e7 eb7 eo7
        have E7:=C10.write 2 rfl eo7 eb7)
     | fail)
    exact bodyPost_ret (Qae rfl _ _ _ _ _ _ eb7 rfl Tryz.underlying34 rfl (by rw[QaD];exact Qcz)) rfl ⟨none,0,by rw[HE.out,HP.out];rfl,by rw[HP.out];exact Qay _ _ _,E7.lat⟩
   ·replace hE:=hid (hE.out.trans (if_neg (by simp)))
    have HP:PP=P:=by rw[hP.out,if_pos hE.out]
    replace HP:=hid HP
    go_wp2_with (first
     | (refine Qdb rfl _ rfl (C10.nth 1 rfl) rfl ?_)
     | (refine QaZ rfl rfl _ _ rfl (C10.nth 2 rfl) rfl rfl rfl rfl ?_;intro e7 eb7 eo7
        have E7:=C10.write 2 rfl eo7 eb7)
     | fail)
    refine bodyPost_ret (Qae rfl _ _ _ _ _ _ eb7 rfl Tryz.underlying34 rfl (by rw[QaD];exact Qcz)) rfl ⟨some ⟨w6.heap.size,0,none⟩,S,by rw[hE.out,HP.out,hdl];rfl,?_,E7.lat⟩
    rw[HP.out,hda.out]
    have hDl:D.length=S:=by rw[←hda.out];exact hdl
    have:=Qck (E7.nth 0 rfl) (E7.at_low 0 rfl) (by rw[QCt,hDl];omega)
    rw[QCt,hDl]at this
    rw[hDl]
    exact this
 ·have hne:((CE:Int) != 0)=true:=by simp;omega
  replace hE:=hid (hE.out.trans (if_pos (.inl hc0)))
  clear hc0
  have HE:E=3:=hE.out
  have HP:PP=prt0:=by rw[hP.out,if_neg (by rw[HE];decide)]
  replace HE:=hid HE
  replace HP:=hid HP
  clear hP hE
  go_wp2_with (first
   | (refine Qac rfl rfl _ _ _ rfl w4.drew.heap.size 4 _ _ (C7.nth 1 rfl) rfl (by rw[QaD];omega) rfl (by kernel_rfl) ?_;intro v8 w8 hv8 hb8 ho8;simp[go_sem]at hv8;subst hv8;rw[hset.out]at hb8
      have C8:=C7.write 1 rfl ho8 hb8)
   | (refine Qdb rfl _ rfl (C8.nth 1 rfl) rfl ?_)
   | fail)
  (refine (hCk.out _ _ _).mono ?_);rintro e w9 ⟨rfl,j9⟩
  have C9:=C8.later j9
  go_wp2_with (first
   | (refine Qah rfl 34 _ rfl (PaC prt0 (.slice none 0 0)) (by simp only[QCA,QCC];exact hb0) ?_)
   | (refine QaZ rfl rfl _ _ rfl (C9.nth 2 rfl) rfl rfl rfl rfl ?_;intro e7 eb7 eo7
      have E7:=C9.write 2 rfl eo7 eb7)
   | fail)
  exact bodyPost_ret (Qae rfl _ _ _ _ _ _ eb7 rfl Tryz.underlying34 rfl (by rw[QaD];exact Qcz)) rfl ⟨none,0,by rw[HE.out,HP.out];rfl,by rw[HP.out];exact Qay _ _ _,E7.lat⟩
def fr3 (p:Prt):List UInt8:=QCn 16 0++([p.kd,QC9 p.ix,QC9 p.ct,0]++QCn 460 0)
def frK (p:Prt) (k:Nat):List UInt8:=putB (fr3 p) 20 ((bigB 8 p.id.toNat).take k)
theorem Qj4 (n:Nat):QC9 (n:Int)=QC2 n:=by
 apply QDl.1
 rw[QDM]
 show ((n:Int)%(2:Int)^8).toNat%2^8=n%2^8
 omega
theorem QoU (p:Prt):(((QCn 480 (0:UInt8)).set 16 p.kd).set 17 (QC9 p.ix)).set 18 (QC9 p.ct)=fr3 p:=by
 rw[show QCn 480 (0:UInt8)=QCn 16 0++([0,0,0,0]++QCn 460 0) by rw[show ([0,0,0,0]:List UInt8)=QCn 4 0 from rfl,QDz,QDz]]
 rw[QCX _ _ (by simp),QCX _ _ (by simp),QCX _ _ (by simp),QCJ]
 rfl
theorem Qg4 (p:Prt):(fr3 p).length=480:=by
 rw[fr3,QCB,QCB,QCJ,QCJ]
 show 16+(4+460)=480
 omega
theorem Qoe:∀(w n k:Nat),k<w→(bigB w n)[k]?=some (QC2 (n/256^(w-1-k)))
 | 0,_,_,h=>by omega
 | w+1,n,k,h=>by
   rw[bigB]
   by_cases hk:k<w
   ·rw[QCD (by rw[Qcb];exact hk),Qoe w _ k hk,QDe,show w+1-1-k=(w-1-k)+1 by omega,QDv,QDK]
   ·obtain rfl:k=w:=by omega
    rw[QCF (by rw[Qcb];omega),Qcb,QEB,show k+1-1-k=0 by omega,QEE,Nat.div_one]
    rfl
theorem Qvs (x:UInt64) (k:Nat) (h:k<8):(Qgt x (56-8*k)).toUInt8=QC2 (x.toNat/256^(8-1-k)):=by
 apply QDl.1
 have e:(Qgt x (56-8*k)).toNat=x.toNat/2^(56-8*k):=by
  show (x.toBitVec >>> (56-8*k)).toNat=_
  rw[QDs,QDo]
  rfl
 rw[QEv,e,QDM,show (2:Nat)^(56-8*k)=256^(8-1-k) by rw[show (256:Nat)=2^8 from rfl,←QD5];congr 1;omega]
theorem QtR (p:Prt):frK p 0=fr3 p:=by simp[frK,putB]
theorem QjZ (p:Prt) (k:Nat):(frK p k).length=480:=by
 rw[frK,Qca (by rw[Qg4,QCP,Qcb];omega),Qg4]
theorem Qvf (p:Prt) (k:Nat) (h:k<8):(frK p k).set (20+k) (Qgt p.id (56-8*k)).toUInt8=frK p (k+1):=by
 have hb:(bigB 8 p.id.toNat).take (k+1)=(bigB 8 p.id.toNat).take k++[(Qgt p.id (56-8*k)).toUInt8]:=by
  rw[List.take_add_one,Qoe 8 _ k h,Qvs _ _ h]
  rfl
 have hl:((bigB 8 p.id.toNat).take k).length=k:=by rw[QCP,Qcb];omega
 have h3:=Qg4 p
 rw[frK,frK,hb]
 generalize (Qgt p.id (56-8*k)).toUInt8=x
 generalize (bigB 8 p.id.toNat).take k=q at *
 generalize fr3 p=L at *
 rw[putB,putB,QCX _ _ (by simp;omega),QCB,QCP,h3,hl,show 20+k-(min 20 480+k)=0 by omega,QCB,hl,QEd,QDp (i:=20+k) (by omega),QCy]
 simp[Nat.add_assoc]
theorem Qyp (p:Prt) (h:p.da.length≤450):putB (((frK p 8).set 28 (QC9 ((p.da.length:Int)/256))).set 29 (QC9 ((p.da.length:Int)%256))) 30 p.da=QhB p:=by
 have h8:(bigB 8 p.id.toNat).take 8=bigB 8 p.id.toNat:=QCE (by rw[Qcb];omega)
 have e1:QC9 ((p.da.length:Int)/256)=QC2 (p.da.length/256):=by
  rw[show ((p.da.length:Int)/256)=((p.da.length/256:Nat):Int) by omega,Qj4]
 have e2:QC9 ((p.da.length:Int)%256)=QC2 p.da.length:=by
  rw[show ((p.da.length:Int)%256)=((p.da.length%256:Nat):Int) by omega,Qj4]
  apply QDl.1
  rw[QDM,QDM,QDY]
 have hb2:bigB 2 p.da.length=[QC2 (p.da.length/256),QC2 p.da.length]:=rfl
 rw[e1,e2,frK,h8,QhB,hb2,fr3]
 generalize QC2 (p.da.length/256)=x
 generalize QC2 p.da.length=y
 have hI:=Qcb 8 p.id.toNat
 generalize bigB 8 p.id.toNat=I at *
 have hH:(QCn 16 0++[p.kd,QC9 p.ix,QC9 p.ct,0]:List UInt8).length=20:=by simp
 rw[←QCL,←QCL]
 generalize (QCn 16 0++[p.kd,QC9 p.ix,QC9 p.ct,0]:List UInt8)=H at *
 rw[show QCn 460 (0:UInt8)=QCn 8 0++([0,0]++(QCn p.da.length 0++QCn (450-p.da.length) 0)) by
  rw[show ([0,0]:List UInt8)=QCn 2 0 from rfl,QDz,QDz,QDz]
  congr 1
  omega,Qcw _ _ _ _ 20 hH (by rw[hI,QCJ])]
 rw[←QCL,QCX _ _ (by simp;omega),QCX _ _ (by simp;omega),QCB,hH,hI]
 show putB ((H++I)++([x,y]++(QCn p.da.length 0++QCn (450-p.da.length) 0))) 30 p.da=_
 rw[←QCL,Qcw _ _ _ _ 30 (by simp;omega) (by rw[QCJ])]
 simp only[QCL]
def frmR (p:Prt):List UInt8:=if prtE p=0 then QhB p else []
theorem Qqa (p:Prt):(frmR p).length≤480:=by
 unfold frmR
 split
 ·rename_i h
  rw[Qho p (Qle h).2.1]
  omega
 ·simp
theorem Qvp (p:Prt):(((QCn 480 (Value.int .u8 0)).set 16 (W8 p.kd)).set 17 (W8 (QC9 p.ix))).set 18 (W8 (QC9 p.ct))=(frK p 0).map W8:=by
 rw[QtR,←QoU,←Qby,←Qby,←Qby,QC8]
 rfl
set_option maxRecDepth 100000 in
set_option maxHeartbeats 4000000 in
theorem Qqx (p:Prt) (A:Option Addr) (n c:Nat) (w:World) (hr:RdB w A n p.da) (hn:n≤1048576):
 Calls Tryz.prog 54 #[.agg (PaC p (.slice A n c)).toArray] w fun e w'=>∃A' c',e= .returned (.tuple #[.slice A' (frmR p).length c',.int .i64 (prtE p:Nat)])∧OwnB w' w.heap.size A' (frmR p).length c' (frmR p)∧Later w w':=by
 have hl:=hr.len
 have hCk:=hid (fun w=>Qp8 p A n c hl w)
 have hz:=hid (fun h=>Qle (p:=p) h)
 have hR:Hid (frmR p=if prtE p=0 then QhB p else []):=hid rfl
 have C1:=Qa8 w 34 (PaC p (.slice A n c))
 generalize frmR p=R at *
 generalize prtE p=E at *
 go_enter Tryz.func54,Tryz.ntmps54
 go_wp2_with (first
  | (refine Qdb rfl _ rfl (C1.nth 0 rfl) rfl ?_)
  | fail)
 (refine (hCk.out _).mono ?_);rintro e w2 ⟨rfl,j2⟩
 have C2:=C1.later j2
 clear C1 j2
 by_cases h0:E=0
 ·subst h0
  have hz':=hid (hz.out (by trivial))
  have hR':=hid (hR.out.trans (if_pos (by trivial)))
  have hn450:n≤450:=by have:=hz'.out.2.1;omega
  have hend:=Qyp p (by omega)
  rw[hl]at hend
  replace hend:=hid hend
  have hlb:=Qho p (by omega)
  have l0:(QCn 480 (Value.int .u8 0)).length=480:=by rw[QCJ]
  have e3:=hid (QoU p)
  obtain⟨c0,c1,c2,c3,c4⟩:=Qba (C2.nth 0 rfl)
  go_wp2_with (first
   | (refine QaH rfl _ _ _ rfl 5 _ 1 Tryz.underlying32 QbW rfl _ _ _ _ 480 rfl rfl rfl rfl (by omega) (by omega) ?_;intro w3 hb3 hl3
      have C3:=C2.fresh hl3 (QCx _) hb3
      obtain⟨c0,c1,c2,c3,c4⟩:=Qba (C3.nth 1 rfl))
   | (refine Qac rfl rfl _ _ _ rfl w2.heap.size 16 _ _ (C3.nth 0 rfl) rfl (by rw[l0];omega) rfl (by kernel_rfl) ?_;intro v4 w4 hv4 hb4 ho4;simp[go_sem]at hv4;subst hv4
      have C4:=C3.write 0 rfl ho4 hb4
      obtain⟨c0,c1,c2,c3,c4⟩:=Qba (C4.nth 1 rfl))
   | (refine Qac rfl rfl _ _ _ rfl w2.heap.size 17 _ _ (C4.nth 0 rfl) rfl (by rw[QCZ,l0];omega) rfl (by kernel_rfl) ?_;intro v5 w5 hv5 hb5 ho5;simp[go_sem]at hv5;subst hv5
      have C5:=C4.write 0 rfl ho5 hb5
      obtain⟨c0,c1,c2,c3,c4⟩:=Qba (C5.nth 1 rfl))
   | (refine Qac rfl rfl _ _ _ rfl w2.heap.size 18 _ _ (C5.nth 0 rfl) rfl (by rw[QCZ,QCZ,l0];omega) rfl (by kernel_rfl) ?_;intro v6 w6 hv6 hb6 ho6;simp[go_sem]at hv6;subst hv6
      have C6:=C5.write 0 rfl ho6 hb6)
   | fail)
  have fv:=hid (Qvp p)
  have hC6:Bag w w6 [(w2.heap.size,5,(frK p 0).map W8),(w.heap.size,34,PaC p (.slice A n c))]:=by
   rw[←fv.out]
   exact C6
  clear C6 C5 C4 C3 C2 hb3 hb4 hb5 hb6 ho4 ho5 ho6 hl3 c0 c1 c2 c3 c4 fv e3
  generalize w2.heap.size=g at *
  go_loopw [6] (fun i wr=>∃k:Nat,k≤8∧i= .int .i64 k∧Bag w wr [(g,5,(frK p k).map W8),(w.heap.size,34,PaC p (.slice A n c))]) (fun i _=>8-(intOf i).toNat)
  case atStart=>exact⟨0,by omega,rfl,hC6⟩
  case round=>
   clear hC6
   obtain⟨k,hk,rfl,B1⟩:=hrel
   by_cases hlt:k<8
   ·have hlen:=QjZ p k
    have c1:=(Qba (B1.nth 1 rfl)).2.1
    have hlg:=(B1.nth 1 rfl).lt
    have hst:=hid (Qvf p k hlt)
    have e20:((20:Int)+(k:Int)).toNat=20+k:=by omega
    have e56:((56:Int)-8*(k:Int)).toNat=56-8*k:=by omega
    go_wp2_with (first
     | (refine Qac rfl rfl _ _ _ rfl g (20+k) _ _ (B1.nth 0 rfl) rfl (by rw[QCt,hlen];omega) rfl (by kernel_rfl) ?_;intro v6 w6 hv6 hb6 ho6;simp[go_sem]at hv6;subst hv6;rw[Qby,hst.out]at hb6
        have B2:=B1.write 0 rfl ho6 hb6)
     | fail)
    go_roundw
    case rel=>exact⟨k+1,by omega,by go_num,B2⟩
    case measure=>simp[intOf];omega
   ·obtain rfl:k=8:=by omega
    have hlen:=QjZ p 8
    obtain⟨c0,c1,c2,c3,c4⟩:=Qba (B1.nth 1 rfl)
    have hlg:=(B1.nth 1 rfl).lt
    go_wp2_with (first
     | (refine Qac rfl rfl _ _ _ rfl g 28 _ _ (B1.nth 0 rfl) rfl (by rw[QCt,hlen];omega) rfl (by kernel_rfl) ?_;intro v6 w6 hv6 hb6 ho6;simp[go_sem]at hv6;subst hv6
        have B2:=B1.write 0 rfl ho6 hb6
        obtain⟨c0,c1,c2,c3,c4⟩:=Qba (B2.nth 1 rfl)
        have hlg:=(B2.nth 1 rfl).lt)
     | (refine Qac rfl rfl _ _ _ rfl g 29 _ _ (B2.nth 0 rfl) rfl (by rw[QCZ,QCt,hlen];omega) rfl (by kernel_rfl) ?_;intro v7 w7 hv7 hb7 ho7;simp[go_sem]at hv7;subst hv7
        have B3:=(B2.write 0 rfl ho7 hb7).drew
        obtain⟨c0,c1,c2,c3,c4⟩:=Qba (B3.nth 1 rfl)
        have hlg:=(B3.nth 1 rfl).lt)
     | fail)
    refine Qad [] [0,1,2,3] [4] (by as_aux_lemma=>kernel_rfl) (by as_aux_lemma=>kernel_rfl) (by intro _ _ d _ _ h;cases d<;>exact h) ?_
    simp only[Qai,pick,QCo,QCp,QCq,QCr,QCs]
    repeat (go_big_quiet_step (fail))
    refine wpQuiet_nil ?_
    go_wp2_with (first
     | (refine Qax rfl _ _ _ _ rfl 5 Tryz.underlying32 QbR g 30 450 450 _ _ (B3.nth 0 rfl) A n c (p.da.map W8) (Rd.later hr B3.lat) (QaE _) rfl rfl (by rw[QCZ,QCZ,QCt,hlen];omega) ?_;intro w8 hb8 ho8
        have B4:=B3.write 0 rfl ho8 hb8)
     | fail)
    rw[Qby,Qby,QCE (by rw[QCt];omega),QcS,hend.out]at hb8
    go_ret2
    have ho:=Qck hb8 (B3.at_low 0 rfl) (by rw[QCt,hlb];omega)
    rw[QCt,hlb]at ho
    exact⟨some ⟨g,0,none⟩,480,by rw[hR'.out,hlb];rfl,by rw[hR'.out,hlb];exact ho,B4.lat⟩
 ·have hne:((E:Int) != 0)=true:=by simp;omega
  have hR':=hid (hR.out.trans (if_neg h0))
  go_wp2
  go_ret2
  exact⟨none,0,by rw[hR'.out];rfl,by rw[hR'.out];exact Qay _ _ _,C2.lat⟩
theorem QxI (b:List UInt8) (hb:b.length=480) (k:Nat) (h2:20≤k) (h6:k<28):QCN (beN (subB b 20 (k+1-20)) 0)=QCN (beN (subB b 20 (k-20)) 0)*256+(b.getD k 0).toUInt64:=by
 rw[show k+1-20=(k-20)+1 by omega,QcL _ _ _ (by omega),QvE,show 20+(k-20)=k by omega]
theorem QxH (b:List UInt8):QCN (beN (subB b 20 0) 0)=0:=rfl
theorem Qq3 (b:List UInt8) (hb:b.length=480):Qb3 b=(b.getD 28 0).toNat*256+(b.getD 29 0).toNat:=by
 rw[Qb3,QcL b 28 1 (by omega),QcL b 28 0 (by omega)]
 show (0*256+(b.getD 28 0).toNat)*256+(b.getD 29 0).toNat=_
 omega
theorem Qsi (p:Prt) (v:Value) (x:UInt64):(PaC p v).set 1 (W64 x)=PaC { p with id:=x } v:=rfl
theorem QtS (b:List UInt8) (hb:b.length=480):parE b=if allZ (b.take 16)=false then 7 else if b.getD 16 0<1∨3<b.getD 16 0 then 1 else if 450<Qb3 b then 3 else if prtE (Qdn b)≠0 then 3 else if decide (frmR (Qdn b)=b)=false then 3 else 0:=by
 rw[QlG b hb]
 by_cases h1:allZ (b.take 16)=false
 ·rw[if_pos h1,if_pos h1]
 rw[if_neg h1,if_neg h1]
 by_cases h2:b.getD 16 0<1∨3<b.getD 16 0
 ·rw[if_pos h2,if_pos h2]
 rw[if_neg h2,if_neg h2]
 by_cases h3:450<Qb3 b
 ·rw[if_pos (.inr h3),if_pos h3]
 rw[if_neg h3]
 have h16:b.take 16=QCn 16 0:=by
  have:=(QgO (b.take 16)).1 (by simpa using h1)
  rwa [QCP,QDG (by omega)]at this
 have ha:=Qnt b hb h16 (by omega)
 have hd:(allZ (b.drop (30+Qb3 b))=false)↔ ¬b.drop (30+Qb3 b)=QCn (450-Qb3 b) 0:=by
  have:=QgO (b.drop (30+Qb3 b))
  rw[QCS,show b.length-(30+Qb3 b)=450-Qb3 b by omega]at this
  rw[←this,Bool.not_eq_true]
 by_cases h4:prtE (Qdn b)≠0
 ·rw[if_pos h4]
  split
  ·rfl
  ·rw[if_pos (.inl h4)]
 have h40:prtE (Qdn b)=0:=by omega
 rw[if_neg h4,frmR,if_pos h40]
 by_cases h5:QhB (Qdn b)=b
 ·obtain⟨k1,k2⟩:=ha.1 h5
  rw[if_neg (by rw[k1];simp;omega),if_neg (by rw[hd];simp[k2,h40]),if_neg (by simp[h5])]
 ·rw[if_pos (show decide (QhB (Qdn b)=b)=false from decide_eq_false h5)]
  by_cases h6:b.getD 19 0=0
  ·rw[if_neg (by rw[h6];simp;omega),if_pos (.inr (hd.2 (fun h=>h5 (ha.2 ⟨h6,h⟩))))]
  ·rw[if_pos (.inl h6)]
set_option maxRecDepth 100000 in
set_option maxHeartbeats 8000000 in
theorem Qpm (A:Option Addr) (c:Nat) (b:List UInt8) (w:World) (hb:RdB w A 480 b) (hc:480≤c):
 Calls Tryz.prog 36 #[.slice A 480 c] w fun e w'=>∃A' c',e= .returned (.tuple #[.agg (PaC (parP b) (.slice A' (parP b).da.length c')).toArray,.int .i64 (parE b:Nat)])∧OwnB w' w.heap.size A' (parP b).da.length c' (parP b).da∧Later w w':=by
 have hbl:=hb.len
 obtain⟨b0,o,rfl,hb00,_⟩:=hb.2 (by omega)
 have C1:=Qa8 w 34 pz0
 have hE:=hid (QtS b hbl)
 have hP:Hid (parP b=if parE b=0 then Qdn b else prt0):=hid rfl
 have hOf:Hid (Qdn b=⟨b.getD 16 0,QCN (beN (subB b 20 (28-20)) 0),((b.getD 17 0).toNat:Int),((b.getD 18 0).toNat:Int),subB b 30 (Qb3 b)⟩):=hid rfl
 have hs6:=Qof b hbl
 have hs2:=Qq3 b hbl
 have hi0:=hid (QxH b)
 have hin:=hid (fun k h1 h2=>QxI b hbl k h1 h2)
 have hsl:=hid (fun hs=>QhY b hbl hs)
 have hF:=hid (fun (w:World) A' n c' (h:RdB w A' n (Qdn b).da) hn=>Qqx (Qdn b) A' n c' w h hn)
 have hFs:=Qqa (Qdn b)
 have hbz:=QlF
 generalize parE b=E at *
 generalize parP b=PP at *
 generalize Qb3 b=S at *
 generalize Qdn b=P at *
 generalize prtE P=PE at *
 generalize frmR P=PR at *
 generalize hF1:allZ (b.take 16)=F1 at *
 replace hF1:=hid hF1
 go_enter Tryz.func36,Tryz.ntmps36
 go_wp2_with fail
 go_loopw [4] (fun i wr=>∃k:Nat,k≤16∧i= .int .i64 k∧Hid (∀ j,j<k→b.getD j 0=0)∧Bag w wr [(w.heap.size,34,pz0)]) (fun i _=>16-(intOf i).toNat)
 case atStart=>exact⟨0,by omega,rfl,hid (fun j hj=>absurd hj (by omega)),C1⟩
 case round=>
  clear C1
  obtain⟨k,hk,rfl,hz,C1⟩:=hrel
  by_cases hlt:k<16
  ·have hcz:=Qa6 (hb.later C1.lat) k (by omega)
   have hlb:b0<wr.heap.size:=QCM hb00 C1.lat.size
   have hno:=hid (fun (h:b.getD k 0≠0)=>QqP (bs:=b.take 16) (k:=k) (by rw[QCP];omega) (by rw[QCu,QDt,if_pos hlt,←QCu];exact h))
   have hgo:=hid (fun h:b.getD k 0=0=>Qcl (p:=fun j=>b.getD j 0=0) hz.out h)
   generalize b.getD k 0=x at *
   cases hx:(x==0)
   ·have n1:(x != 0)=true:=by rw[bne,hx];rfl
    have hFF:F1=false:=hF1.out.symm.trans (hno.out (by simpa using hx))
    have HE:E=7:=hE.out.trans (if_pos hFF)
    have HP:PP=prt0:=by rw[hP.out,if_neg (by rw[HE];decide)]
    replace HE:=hid HE
    replace HP:=hid HP
    clear hE hP hFF hno hgo hF hin hOf hsl
    go_wp2_with (first
     | (refine Qah rfl 34 _ rfl (PaC prt0 (.slice none 0 0)) (by simp only[QCA,QCC];exact hbz) ?_)
     | (refine QaZ rfl rfl _ _ rfl (C1.nth 0 rfl) rfl rfl rfl rfl ?_;intro e7 eb7 eo7
        have E7:=C1.write 0 rfl eo7 eb7)
     | fail)
    exact bodyPost_ret (Qae rfl _ _ _ _ _ _ (E7.nth 0 rfl) rfl Tryz.underlying34 rfl (by rw[QaD];exact Qcz)) rfl ⟨none,0,by rw[HE.out,HP.out];rfl,by rw[HP.out];exact Qay _ _ _,E7.lat⟩
   ·have n1:(x != 0)=false:=by rw[bne,hx];rfl
    have hG:=hid (hgo.out (by simpa using hx))
    clear hno hgo
    go_wp2_with fail
    exact⟨⟨k+1,by omega,by go_num,hG,C1⟩,by simp[intOf];omega⟩
  ·obtain rfl:k=16:=by omega
   have hFF:F1=true:=hF1.out.symm.trans (QoN (bs:=b.take 16) (by
    intro j hj
    rw[QCP]at hj
    rw[QCu,QDt,if_pos (by omega),←QCu]
    exact hz.out j (by omega)))
   replace hE:=hid (hE.out.trans (if_neg (by rw[hFF];decide)))
   clear hFF hF1 hz
   have C2:=C1.drew
   have r1:=hb.later C2.lat
   have c16:=Qa6 r1 16 (by omega)
   have c17:=Qa6 r1 17 (by omega)
   have c18:=Qa6 r1 18 (by omega)
   have hlb:b0<wr.drew.heap.size:=QCM hb00 C2.lat.size
   have hcl:=hid (fun (w:World) (h:RdB w (some ⟨b0,o,none⟩) 480 b)=>(⟨Qa6 h 28 (by omega),Qa6 h 29 (by omega)⟩:w.cell? ⟨b0,o+28,none⟩=some (W8 (b.getD 28 0))∧w.cell? ⟨b0,o+29,none⟩=some (W8 (b.getD 29 0))))
   generalize b.getD 16 0=x16 at *
   generalize b.getD 17 0=x17 at *
   generalize b.getD 18 0=x18 at *
   generalize b.getD 28 0=x28 at *
   generalize b.getD 29 0=x29 at *
   have w17:IntKind.i64.wrap (x17.toNat:Int)=(x17.toNat:Int):=by have:=x17.toNat_lt;rw[IntKind.wrap_i64];omega
   have w18:IntKind.i64.wrap (x18.toNat:Int)=(x18.toNat:Int):=by have:=x18.toNat_lt;rw[IntKind.wrap_i64];omega
   have hbc:=QqH x16 (x17.toNat:Int) (x18.toNat:Int)
   go_wp2_with fail
   refine Qad [([0,1,2,3,4,5,6,7,8,9,10,11],12)] [] [13] (by as_aux_lemma=>kernel_rfl) (by as_aux_lemma=>kernel_rfl) (by intro _ _ d _ _ h;cases d<;>exact h) ?_
   simp only[Qai,pick,QCo,QCp,QCq,QCr,QCs]
   repeat (first|go_big_quiet_skip|(go_big_quiet_want;(refine Qb0 _ _ rfl (PaC ⟨x16,0,(x17.toNat:Int),(x18.toNat:Int),[]⟩ (.slice none 0 0)) (by simp only[QCA,QCR,QCC];exact hbc) ?_);simp only[Act.put,QCw,QCz,QCy];go_big_quiet_on)|(go_big_quiet_step (fail)))
   refine wpQuiet_nil ?_
   go_wp2_with fail
   try refine⟨by first|assumption|exact Qab _|exact Qaa _ _|exact Later.refl _,?_⟩
   try simp only[Qai,pick,QCo,QCp,QCq,QCr,QCs]
   repeat (go_big_quiet_step (fail))
   refine wpQuiet_nil ?_
   clear r1 c16 c17 c18 hbc
   by_cases h1:x16<1∨3<x16
   ·by_cases h11:x16<1
    all_goals
     have h33:x16<1∨3<x16:=h1
     simp only[h11,true_or,false_or]at h33
     have HE:E=1:=hE.out.trans (if_pos h1)
     have HP:PP=prt0:=by rw[hP.out,if_neg (by rw[HE];decide)]
     replace HE:=hid HE
     replace HP:=hid HP
     clear hE hP h1 hF hin hOf hsl
     go_wp2_with (first
      | (refine QaZ rfl rfl _ _ rfl (Blk.new wr.drew _ pz0) rfl rfl rfl rfl ?_;intro w3 hb3 ho3
         have C3:Bag w w3 [(wr.heap.size,34,PaC ⟨x16,0,(x17.toNat:Int),(x18.toNat:Int),[]⟩ (.slice none 0 0)),(w.heap.size,34,pz0)]:=C2.push (Qaa _ _) (QCx _) ho3 hb3
         obtain⟨k0,k1,k2,k3,k4⟩:=Qba (C3.nth 0 rfl)
         have hlg:=(C3.nth 0 rfl).lt)
      | (refine Qah rfl 34 _ rfl (PaC prt0 (.slice none 0 0)) (by simp only[QCA,QCC];exact hbz) ?_)
      | (refine QaZ rfl rfl _ _ rfl (C3.nth 1 rfl) rfl rfl rfl rfl ?_;intro e7 eb7 eo7
         have E7:=C3.write 1 rfl eo7 eb7)
      | fail)
     exact bodyPost_ret (Qae rfl _ _ _ _ _ _ (E7.nth 1 rfl) rfl Tryz.underlying34 rfl (by rw[QaD];exact Qcz)) rfl ⟨none,0,by rw[HE.out,HP.out];rfl,by rw[HP.out];exact Qay _ _ _,E7.lat⟩
   have h11: ¬x16<1:=fun h=>h1 (.inl h)
   have h13: ¬ 3<x16:=fun h=>h1 (.inr h)
   replace hE:=hid (hE.out.trans (if_neg h1))
   clear h1
   go_wp2_with (first
    | (refine QaZ rfl rfl _ _ rfl (Blk.new wr.drew _ pz0) rfl rfl rfl rfl ?_;intro w3 hb3 ho3
       have C3:Bag w w3 [(wr.heap.size,34,PaC ⟨x16,0,(x17.toNat:Int),(x18.toNat:Int),[]⟩ (.slice none 0 0)),(w.heap.size,34,pz0)]:=C2.push (Qaa _ _) (QCx _) ho3 hb3
       obtain⟨k0,k1,k2,k3,k4⟩:=Qba (C3.nth 0 rfl)
       have hlg:=(C3.nth 0 rfl).lt)
    | fail)
   generalize wr.heap.size=g3 at *
   clear k0 k1 k2 k3 k4 hlg hb3 ho3 C1 C2 hlb
   go_loopw [6] (fun i wr=>∃k:Nat,20≤k∧k≤28∧i= .int .i64 k∧Bag w wr [(g3,34,PaC ⟨x16,QCN (beN (subB b 20 (k-20)) 0),(x17.toNat:Int),(x18.toNat:Int),[]⟩ (.slice none 0 0)),(w.heap.size,34,pz0)]) (fun i _=>28-(intOf i).toNat)
   case atStart=>exact⟨20,by omega,by omega,rfl,by rw[show 20-20=0 from rfl,hi0.out];exact C3⟩
   case round=>
    clear C3
    obtain⟨k,hk2,hk6,rfl,B1⟩:=hrel
    by_cases hlt:k<28
    ·have B2:=B1.drew
     have hcz:=Qa6 (hb.later B2.lat) k (by omega)
     have hlb:b0<wr.drew.heap.size:=QCM hb00 B2.lat.size
     have hlg:g3<wr.drew.heap.size:=(B2.nth 0 rfl).lt
     have hx:=hin.out k hk2 hlt
     generalize QCN (beN (subB b 20 (k-20)) 0)=x at *
     generalize b.getD k 0=z at *
     replace hx:=hid hx
     have hc3:=(Qba (B2.nth 0 rfl)).2.1
     go_wp2_with fail
     refine Qad [] [0,1,2,3,4,5,6,7,8,9] [10] (by as_aux_lemma=>kernel_rfl) (by as_aux_lemma=>kernel_rfl) (by intro _ _ d _ _ h;cases d<;>exact h) ?_
     simp only[Qai,pick,QCo,QCp,QCq,QCr,QCs]
     repeat (go_big_quiet_step (fail))
     refine wpQuiet_nil ?_
     go_wp2_with (first
      | (refine Qac rfl rfl _ _ _ rfl g3 1 _ _ (B2.nth 0 rfl) rfl (by rw[QaD];omega) rfl (by kernel_rfl) ?_;intro v6 w6 hv6 hb6 ho6;simp[go_sem]at hv6;subst hv6
         have B3:=B2.write 0 rfl ho6 hb6)
      | fail)
     rw[Qsi]at B3
     go_roundw
     case rel=>exact⟨k+1,by omega,by omega,by go_num,by rw[hx.out];exact B3⟩
     case measure=>simp[intOf];omega
    ·obtain rfl:k=28:=by omega
     have B2:=B1.drew
     obtain⟨c28,c29⟩:=hcl.out _ (hb.later B2.lat)
     have hlb:b0<wr.drew.heap.size:=QCM hb00 B2.lat.size
     have w28:IntKind.i64.wrap (x28.toNat:Int)=(x28.toNat:Int):=by have:=x28.toNat_lt;rw[IntKind.wrap_i64];omega
     have w29:IntKind.i64.wrap (x29.toNat:Int)=(x29.toNat:Int):=by have:=x29.toNat_lt;rw[IntKind.wrap_i64];omega
     have wm:IntKind.i64.wrap ((x28.toNat:Int)*256)=(x28.toNat:Int)*256:=by have:=x28.toNat_lt;rw[IntKind.wrap_i64];omega
     have wS:IntKind.i64.wrap ((x28.toNat:Int)*256+(x29.toNat:Int))=(S:Int):=by have:=x28.toNat_lt;have:=x29.toNat_lt;rw[IntKind.wrap_i64];omega
     generalize QCN (beN (subB b 20 (28-20)) 0)=ID at *
     have wS':(x28.toNat:Int)*256+(x29.toNat:Int)=(S:Int):=by omega
     clear hs2
     go_wp2_with fail
     refine Qad [] [0,1,2,3,4,5,6,7,8,9,10] [] (by as_aux_lemma=>kernel_rfl) (by as_aux_lemma=>kernel_rfl) (by intro _ _ d _ _ h;cases d<;>exact h) ?_
     simp only[Qai,pick,QCo,QCp,QCq,QCr,QCs]
     repeat (go_big_quiet_step (fail))
     refine wpQuiet_nil ?_
     by_cases h3:450<S
     ·have d3:decide ((450:Int)<(S:Int))=true:=decide_eq_true (by omega)
      have HE:E=3:=hE.out.trans (if_pos h3)
      have HP:PP=prt0:=by rw[hP.out,if_neg (by rw[HE];decide)]
      replace HE:=hid HE
      replace HP:=hid HP
      clear hE hP hF hOf hsl
      go_wp2_with (first
       | (refine Qah rfl 34 _ rfl (PaC prt0 (.slice none 0 0)) (by simp only[QCA,QCC];exact hbz) ?_)
       | (refine QaZ rfl rfl _ _ rfl (B2.nth 1 rfl) rfl rfl rfl rfl ?_;intro e7 eb7 eo7
          have E7:=B2.write 1 rfl eo7 eb7)
       | fail)
      exact bodyPost_ret (Qae rfl _ _ _ _ _ _ (E7.nth 1 rfl) rfl Tryz.underlying34 rfl (by rw[QaD];exact Qcz)) rfl ⟨none,0,by rw[HE.out,HP.out];rfl,by rw[HP.out];exact Qay _ _ _,E7.lat⟩
     have d3:decide ((450:Int)<(S:Int))=false:=decide_eq_false (by omega)
     replace hE:=hid (hE.out.trans (if_neg h3))
     have hP0:P=⟨x16,ID,(x17.toNat:Int),(x18.toNat:Int),subB b 30 S⟩:=hOf.out
     have hdl:=hsl.out (by omega)
     have f2:((30:Int)+(S:Int)).toNat=30+S:=by omega
     have hCp:=hid (fun (w:World) (h:RdB w (some ⟨b0,o,none⟩) 480 b)=>Qcf (some ⟨b0,o+30,none⟩) S (c-30) (subB b 30 S) w (by
      by_cases h0:S=0
      ·rw[h0]
       exact⟨rfl,fun h=>absurd h (by omega)⟩
      ·exact Qga h 30 S (by omega) (by omega)) (by omega))
     have hda:Hid (P.da=subB b 30 S):=hid (by rw[hP0])
     generalize subB b 30 S=D at *
     clear hOf hsl
     go_wp2_with fail
     (refine (hCp.out _ (hb.later B2.lat)).mono ?_);rintro e w7 ⟨A7,c7,rfl,o7,j7⟩
     have C7:=B2.later j7
     have hset:Hid ((PaC ⟨x16,ID,(x17.toNat:Int),(x18.toNat:Int),[]⟩ (.slice none 0 0)).set 4 (.slice A7 S c7)=PaC P (.slice A7 S c7)):=hid (by rw[hP0];rfl)
     have hB2l:w.heap.size≤wr.drew.heap.size:=B2.lat.size
     clear hP0 hCp j7 B1
     go_wp2_with (first
      | (refine Qac rfl rfl _ _ _ rfl g3 4 _ _ (C7.nth 0 rfl) rfl (by rw[QaD];omega) rfl (by kernel_rfl) ?_;intro v8 w8 hv8 hb8 ho8;simp[go_sem]at hv8;subst hv8;rw[hset.out]at hb8
         have C8:=C7.write 0 rfl ho8 hb8
         have o8:=Qar o7 (C7.nth 0 rfl) (by decide) ho8)
      | (refine Qdb rfl _ rfl (C8.nth 0 rfl) rfl ?_)
      | fail)
     (refine (hF.out _ A7 S c7 (by rw[hda.out];exact OwnB.rd o8) (by omega)).mono ?_);rintro e w9 ⟨A9,c9,rfl,o9,j9⟩
     have C9:=C8.later j9
     have o10:=Qap o8 j9
     clear hF o7 o8 j9 hb8 ho8 C7 B2 hset
     by_cases hPE:PE=0
     ·subst hPE
      replace hE:=hid (hE.out.trans (if_neg (by simp)))
      go_wp2_with fail
      (refine (Qgs A9 (some ⟨b0,o,none⟩) PR.length 480 c9 c PR b _ (OwnB.rd o9) (hb.later C9.lat) (by omega) (by omega)).mono ?_);rintro e w10 ⟨rfl,j10⟩
      have C10:=C9.later j10
      have o11:=Qap o10 j10
      clear o9 o10 j10 C9 C8
      generalize decide (PR=b)=F2 at *
      cases F2
      ·have HE:E=3:=hE.out.trans (if_pos rfl)
       have HP:PP=prt0:=by rw[hP.out,if_neg (by rw[HE];decide)]
       replace HE:=hid HE
       replace HP:=hid HP
       clear hE hP
       go_wp2_with (first
        | (refine Qah rfl 34 _ rfl (PaC prt0 (.slice none 0 0)) (by simp only[QCA,QCC];exact hbz) ?_)
        | (refine QaZ rfl rfl _ _ rfl (C10.nth 1 rfl) rfl rfl rfl rfl ?_;intro e7 eb7 eo7
           have E7:=C10.write 1 rfl eo7 eb7)
        | fail)
       exact bodyPost_ret (Qae rfl _ _ _ _ _ _ (E7.nth 1 rfl) rfl Tryz.underlying34 rfl (by rw[QaD];exact Qcz)) rfl ⟨none,0,by rw[HE.out,HP.out];rfl,by rw[HP.out];exact Qay _ _ _,E7.lat⟩
      ·have HE:E=0:=hE.out.trans (if_neg (by simp))
       have HP:PP=P:=by rw[hP.out,if_pos HE]
       replace HE:=hid HE
       replace HP:=hid HP
       clear hE hP
       go_wp2_with (first
        | (refine Qdb rfl _ rfl (C10.nth 0 rfl) rfl ?_)
        | (refine QaZ rfl rfl _ _ rfl (C10.nth 1 rfl) rfl rfl rfl rfl ?_;intro e7 eb7 eo7
           have E7:=C10.write 1 rfl eo7 eb7
           have o12:=Qar o11 (C10.nth 1 rfl) (by decide) eo7)
        | fail)
       exact bodyPost_ret (Qae rfl _ _ _ _ _ _ (E7.nth 1 rfl) rfl Tryz.underlying34 rfl (by rw[QaD];exact Qcz)) rfl ⟨A7,c7,by rw[HE.out,HP.out,hdl];rfl,by rw[HP.out,hdl,hda.out];exact Qbb o12 (show w.heap.size≤_ from hB2l),E7.lat⟩
     ·have hne:((PE:Int) != 0)=true:=by simp;omega
      have HE:E=3:=hE.out.trans (if_pos hPE)
      have HP:PP=prt0:=by rw[hP.out,if_neg (by rw[HE];decide)]
      replace HE:=hid HE
      replace HP:=hid HP
      clear hE hP
      go_wp2_with (first
       | (refine Qah rfl 34 _ rfl (PaC prt0 (.slice none 0 0)) (by simp only[QCA,QCC];exact hbz) ?_)
       | (refine QaZ rfl rfl _ _ rfl (C9.nth 1 rfl) rfl rfl rfl rfl ?_;intro e7 eb7 eo7
          have E7:=C9.write 1 rfl eo7 eb7)
       | fail)
      exact bodyPost_ret (Qae rfl _ _ _ _ _ _ (E7.nth 1 rfl) rfl Tryz.underlying34 rfl (by rw[QaD];exact Qcz)) rfl ⟨none,0,by rw[HE.out,HP.out];rfl,by rw[HP.out];exact Qay _ _ _,E7.lat⟩
set_option maxRecDepth 100000 in
set_option maxHeartbeats 4000000 in
theorem Qnw (p:Prt) (A B:Option Addr) (n c d:Nat) (w:World) (hx:RdB w A n p.da) (hy:RdB w B n p.da) (hn:n≤1048576):
 Calls Tryz.prog 18 #[.agg (PaC p (.slice A n c)).toArray,.agg (PaC p (.slice B n d)).toArray] w fun e w'=>e= .returned (.bool true)∧Later w w':=by
 have C1:=Qa8 w 34 (PaC p (.slice A n c))
 have C2:=C1.add (Qaa _ (.cells (PaC p (.slice B n d)).toArray 34)) (k:=w.heap.size+1) (by simp) (by omega) (Blk.new' _ _ (PaC p (.slice B n d)) (by simp))
 obtain⟨a0,a1,a2,a3,a4⟩:=Qba (C2.nth 1 rfl)
 obtain⟨b0,b1,b2,b3,b4⟩:=Qba (C2.nth 0 rfl)
 have u0:=(C2.nth 0 rfl).lt
 have u1:=(C2.nth 1 rfl).lt
 obtain⟨kd,id,ix,ct,da⟩:=p
 simp only at *
 go_enter Tryz.func18,Tryz.ntmps18
 go_wp2_with fail
 (refine (Qgs A B n n c d da da _ (hx.later C2.lat) (hy.later C2.lat) (by omega) (by omega)).mono ?_);rintro e w3 ⟨rfl,j3⟩
 go_wp2_with fail
 go_ret
 exact⟨by simp,C2.lat.trans j3⟩
end Go.Proofs.YtdkpcdgckgaklaaGreat
