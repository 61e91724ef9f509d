/-
  Lemmas for the last text of this claim (part 18 of 20).
-/
import Derived.ArgAppend
import Derived.BigQuiet
import Derived.BigRegion
import Derived.ChangeOld
import Derived.Deep.RegionWith
import Derived.DeepKeys4
import Derived.JoinedCond
import Derived.LaidMore
import Derived.Laws.BytesArg
import Derived.Laws.CopyOwn
import Derived.Laws.Externs
import Derived.Laws.IdiomStrings
import Derived.Laws.Tables
import Derived.Lib.AppendStr
import Derived.Lib.AppendZerosOnto
import Derived.Lib.Mul64
import Derived.Lib.SlBytesConst
import Derived.LoopN
import Derived.Maps.OwnSet
import Derived.OpenShut
import Derived.OrdersHeld
import Derived.ProofKit
import Derived.Shelf.Spec.BitsCarry
import Derived.ShutString
import Derived.Test.YtdhgpkdjdmlphaaGreatProg
import Derived.Test.YtdhgpkdjdmlphaaGreatRows
import Derived.WalkKit
import Derived.WalkLawsBesides
import Derived.WalkSpells
import Derived.Test.YtdhgpkdjdmlphaaGreatQC
import Derived.Test.YtdhgpkdjdmlphaaGreatQH
import Derived.Test.YtdhgpkdjdmlphaaGreatQI
import Derived.Test.YtdhgpkdjdmlphaaGreatQK
import Derived.Test.YtdhgpkdjdmlphaaGreatQN
import Derived.Test.YtdhgpkdjdmlphaaGreatQQ
open Int renaming natCast_mul → QEn, toNat_natCast → QEv
open List renaming replicate → QCA, getElem?_cons_succ → QCB, getElem?_cons_zero → QCC, length_map → QCE, cons_append → QCF, nil_append → QCG, getElem?_eq_getElem → QCH, getD_eq_getElem?_getD → QCI, length_append → QCK, length_replicate → QCM, set_cons_zero → QCN, take_of_length_le → QCP, getElem?_append_right → QCQ, append_assoc → QCR, getElem?_map → QCS, getElem?_eq_some_iff → QCT, getElem?_append_left → QCU, mem_cons → QCX, length_take → QC1, length_drop → QC3, set_append_right → QDb, append_nil → QDf, map_replicate → QDg, map_append → QDh, drop_left' → QDn, range → QDq, mem_map → QDt, replicate_append_replicate → QDJ, drop_of_length_le → QDL, getElem?_drop → QDP, take_left' → QDY, getElem_mem → QD2, replicate_succ → QD7, mem_append → QD8, getElem?_set_self → QEk, map_congr_left → QEJ, range_succ → QEK, mem_singleton → QEP
open Nat renaming le_refl → QCL, lt_of_lt_of_le → QC0, le_trans → QDl, div_div_eq_div_mul → QDp, mul_comm → QDE, pow_succ → QDF, le_mul_of_pos_right → QDI, sub_self → QDR, mod_mod → QDZ, add_comm → QEE, pow_zero → QEQ
open Option renaming toList_some → QCD, map_eq_some_iff → QD5, map_some → QEm
open UInt32 renaming ofInt → QEg
open UInt8 renaming ofNat → QDc, ofInt → QDe, toNat_inj → QDD, toNat_ofNat' → QDK, lt_iff_toNat_lt → QEu
set_option linter.all false
namespace Go.Proofs.YtdhgpkdjdmlphaaGreat
open Go.RowKit
open Go.BigFrame
def stA (x:List UInt8) (ps:List (List UInt8)):Nat→List UInt8×List (List UInt8)
 | 0=>(Qbg x (nb 9),[x])
 | k+1=>(Qbg (derB (Qcy (ps.getD k []) (stA x ps k).2).1 QbT) (stA x ps k).1,(stA x ps k).2++[derB (Qcy (ps.getD k []) (stA x ps k).2).1 QbT])
def secA (x:List UInt8) (ps:List (List UInt8)) (k:Nat):List UInt8:=(Qcy (ps.getD k []) (stA x ps k).2).1
def errA (x:List UInt8) (ps:List (List UInt8)) (k:Nat):Nat:=(Qcy (ps.getD k []) (stA x ps k).2).2
def Qcl (x:List UInt8) (ps:List (List UInt8)) (k:Nat):List UInt8:=Qit (stA x ps k).1 (secA x ps k)
def goE (x:List UInt8) (ps:List (List UInt8)):Nat→Nat→Nat
 | 0,_=>0
 | r+1,k=>if errA x ps k=0 then goE x ps r (k+1) else errA x ps k
def fitS (x:List UInt8) (ps:List (List UInt8)):Prop:=x.length=32∧1≤ps.length∧ps.length≤5∧∀p∈ps,p.length=32
open Classical in
noncomputable def Qdq (x:List UInt8) (ps:List (List UInt8)):Nat:=if fitS x ps then goE x ps ps.length 0 else 2
def Qcj (x:List UInt8) (ps:List (List UInt8)) (k:Nat):List (List UInt8):=(QDq k).map (Qcl x ps)
theorem Qec (x:List UInt8) (ps:List (List UInt8)) (k:Nat):(stA x ps k).1.length=32:=by
 cases k<;>exact QaP _ _
theorem Qi5 (x:List UInt8) (ps:List (List UInt8)) (k:Nat):(secA x ps k).length=32:=QkJ _ _
theorem Qcd (x:List UInt8) (ps:List (List UInt8)) (k:Nat):(Qcl x ps k).length=192:=Qhm _ _ (Qec x ps k) (Qi5 x ps k)
theorem QfS (x:List UInt8) (ps:List (List UInt8)):∀k,(stA x ps k).2.length=k+1
 | 0=>rfl
 | k+1=>by
   rw[stA]
   simp[QfS x ps k]
theorem QfD (x:List UInt8) (hx:x.length=32) (ps:List (List UInt8)):∀k,∀p∈(stA x ps k).2,p.length=32
 | 0,p,h=>by
   rw[stA,QEP]at h
   rw[h,hx]
 | k+1,p,h=>by
   rw[stA]at h
   rcases QD8.1 h with h|h
   ·exact QfD x hx ps k p h
   ·rw[QEP.1 h,Qaz]
theorem QoP (x:List UInt8) (hx:x.length=32) (ps:List (List UInt8)):∀k,∃q,Ed.From9 q∧(stA x ps k).1=nb q
 | 0=>⟨_,Ed.from9_step Ed.from9_nine x hx,(Qfr x 9 hx Qwt).1⟩
 | k+1=>by
   obtain⟨q,hq,e⟩:=QoP x hx ps k
   refine⟨_,Ed.from9_step hq (derB (Qcy (ps.getD k []) (stA x ps k).2).1 QbT) (Qaz _ _),?_⟩
   rw[stA,e]
   exact (Qfr _ q (Qaz _ _) hq.1).1
theorem Qoh (x:List UInt8) (hx:x.length=32) (ps:List (List UInt8)) (k:Nat) (b:List UInt8) (hb:b.length=32):QaX b (stA x ps k).1=0:=by
 obtain⟨q,hq,e⟩:=QoP x hx ps k
 rw[e,(Qfr b q hb hq.1).2,if_neg (Ed.from9_ne (Ed.from9_step hq b hb))]
theorem QnF (x:List UInt8) (ps:List (List UInt8)) (k:Nat):Qcj x ps (k+1)=Qcj x ps k++[Qcl x ps k]:=by
 rw[Qcj,QEK,QDh]
 rfl
theorem QgD (x:List UInt8) (ps:List (List UInt8)) (k:Nat):(Qcj x ps k).length=k:=by simp[Qcj]
theorem QgT (x:List UInt8) (ps:List (List UInt8)) (k:Nat):∀s∈Qcj x ps k,s.length=192:=by
 intro s hs
 obtain⟨j,_,rfl⟩:=QDt.1 hs
 exact Qcd x ps j
theorem Qnw (x:List UInt8) (ps:List (List UInt8)) (k:Nat):(Qcj x ps (k+1)).flatten.map W8=(Qcj x ps k).flatten.map W8++(Qcl x ps k).map W8:=by
 rw[QnF,List.flatten_append,QDh]
 simp
theorem Qir (x:List UInt8) (ps:List (List UInt8)) (k:Nat):subB (Qcl x ps k) 96 32=derB (secA x ps k) QbT:=QnP _ _
theorem QeI (x:List UInt8) (ps:List (List UInt8)) (k:Nat):subB (Qcl x ps k) 128 32=(stA x ps k).1:=QnR _ _ (Qec x ps k)
def ScP (w0:World) (g8:Nat) (w:World) (v:Value) (p:List UInt8):Prop:=
 (∃ A c,v= .slice A 32 c∧32≤c∧RdB w0 A 32 p)∨(∃ b,v= .slice (some ⟨b,0,none⟩) 32 32∧b≠g8∧p.length=32∧Blk w b 30 (p.map W8))∨(∃ A c base,v= .slice A 32 c∧OwnB w base A 32 c p)
structure ScRow (w0:World) (g8:Nat) (w:World) (v:Value) (sc:List (List UInt8)) (vs:List Value):Prop where
 own:w.ownsRow w0.heap.size 22 1 v sc.length vs
 len:vs.length=sc.length
 each:∀(j:Nat) u p,vs[j]?=some u→sc[j]?=some p→ScP w0 g8 w u p
theorem QtV:(30:TypeId)≠22:=by decide
theorem ne8L:(5:TypeId)≠22:=by decide
theorem QBR:(5:TypeId)≠30:=by decide
theorem ScP.later {w0 w w':World} {g8:Nat} {v:Value} {p:List UInt8} (h:ScP w0 g8 w v p) (j:Later w w'):ScP w0 g8 w' v p:=by
 rcases h with h|⟨b,h1,h2,h3,h4⟩|⟨A,c,base,h1,h2⟩
 ·exact .inl h
 ·exact .inr (.inl ⟨b,h1,h2,h3,h4.later j⟩)
 ·exact .inr (.inr ⟨A,c,base,h1,Qbo h2 j⟩)
theorem ScP.part {w0 w:World} {g8:Nat} {v:Value} {p:List UInt8} (h:ScP w0 g8 w v p) (j:Later w0 w):Part w (fun _=>False) v p:=by
 rcases h with ⟨A,c,rfl,hc,h⟩|⟨b,rfl,_,h3,h4⟩|⟨A,c,base,rfl,h2⟩
 ·exact QaW (h.later j) hc
 ·exact QaW (Qb8 h4 h3) (QCL _)
 ·exact QaW h2.rd h2.cap
theorem ScP.only {w0 w w':World} {g8:Nat} {v:Value} {p:List UInt8} {l:List Value} (h:ScP w0 g8 w v p) (hg:Blk w g8 30 l) (ho:Only g8 w w'):ScP w0 g8 w' v p:=by
 rcases h with h|⟨b,h1,h2,h3,h4⟩|⟨A,c,base,h1,h2⟩
 ·exact .inl h
 ·exact .inr (.inl ⟨b,h1,h2,h3,h4.only ho h2⟩)
 ·exact .inr (.inr ⟨A,c,base,h1,Qgo h2 hg (fun e=>QBR e.symm) ho⟩)
theorem ScP.grown {w0 w w':World} {g8 base sz:Nat} {v v2:Value} {p:List UInt8} {e:TypeId} {n:Nat} {vs:List Value} (h:ScP w0 g8 w v p) (hown:w.ownsRow base e sz v2 n vs) (h1:30≠e) (h2:5≠e) (hg:w.grownBy w' v2.ownBlock):ScP w0 g8 w' v p:=by
 rcases h with h|⟨b,k1,k2,k3,k4⟩|⟨A,c,base',k1,k2⟩
 ·exact .inl h
 ·exact .inr (.inl ⟨b,k1,k2,k3,QcT k4 hown h1 hg⟩)
 ·exact .inr (.inr ⟨A,c,base',k1,Qg9 k2 hown h2 hg⟩)
theorem ScRow.later {w0 w w':World} {g8:Nat} {v:Value} {sc:List (List UInt8)} {vs:List Value} (h:ScRow w0 g8 w v sc vs) (j:Later w w'):ScRow w0 g8 w' v sc vs:=
 ⟨Qbo h.own j,h.len,fun k u p hu hp=>(h.each k u p hu hp).later j⟩
theorem ScRow.only {w0 w w':World} {g8:Nat} {v:Value} {sc:List (List UInt8)} {vs:List Value} {l:List Value} (h:ScRow w0 g8 w v sc vs) (hg:Blk w g8 30 l) (ho:Only g8 w w'):ScRow w0 g8 w' v sc vs:=
 ⟨Qgo h.own hg QtV ho,h.len,fun k u p hu hp=>(h.each k u p hu hp).only hg ho⟩
theorem ScRow.grown {w0 w w':World} {g8 base sz:Nat} {v v2:Value} {sc:List (List UInt8)} {us vs:List Value} {e:TypeId} {n:Nat} (h:ScRow w0 g8 w v sc us) (hown:w.ownsRow base e sz v2 n vs) (h0:22≠e) (h1:30≠e) (h2:5≠e) (hg:w.grownBy w' v2.ownBlock):ScRow w0 g8 w' v sc us:=
 ⟨Qg9 h.own hown h0 hg,h.len,fun k u p hu hp=>(h.each k u p hu hp).grown hown h1 h2 hg⟩
theorem ScRow.snoc {w0 w w':World} {g8:Nat} {v v' u:Value} {sc:List (List UInt8)} {vs:List Value} {p:List UInt8} (h:ScRow w0 g8 w v sc vs) (hu:ScP w0 g8 w u p) (hg:w.grownBy w' v.ownBlock) (hown:w'.ownsRow w0.heap.size 22 1 v' (sc.length+1) (vs++[u])):ScRow w0 g8 w' v' (sc++[p]) (vs++[u]):=by
 refine⟨by rw[QCK];exact hown,by simp[h.len],fun j x q hx hq=>?_⟩
 by_cases hj:j<vs.length
 ·rw[QCU hj]at hx
  rw[QCU (by rw[←h.len];exact hj)]at hq
  exact (h.each j x q hx hq).grown h.own QtV ne8L hg
 ·rw[QCQ (by omega)]at hx
  rw[QCQ (by rw[←h.len];omega),←h.len]at hq
  have h0:j-vs.length=0:=by
   have:=(QCT.1 hx).1
   simp at this
   omega
  rw[h0]at hx hq
  cases hx
  cases hq
  exact hu.grown h.own QtV ne8L hg
theorem ScRow.parts {w0 w:World} {g8:Nat} {A:Option Addr} {n c:Nat} {sc:List (List UInt8)} {vs:List Value} (h:ScRow w0 g8 w (.slice A n c) sc vs) (hn:sc.length=n) (j:Later w0 w):Parts w (fun _=>False) A n sc:=by
 have ho:=h.own
 rw[hn]at ho
 exact⟨vs,Qhj ho,fun _ _ _ h=>h,h.len,fun k u p hu hp=>(h.each k u p hu hp).part j⟩
section
variable {P:Program} {ops:Array Oper} {rest:List Oper} {o:Oper} {a:Act} {w:World} {Q:Exit→Act→World→Prop}
theorem QhB (hgd:o.guard=none) (l c:Operand) (t:TypeId) (ho:o.op=Op.makeSlice t l c) (e:TypeId) (v:Value) (m bytes:Nat) (ht:P.underlying t=some (.slice e))
 (hinfo:(P.info? e).map (fun i=>(i.zero,i.size,i.bytes))=some (some (.agg (QCA m v).toArray),m,bytes)) (hm:0<m) (kl kc:IntKind) (C:Int) (n:Nat) (hl:a.eval l= .int kl 0) (hc:a.eval c= .int kc C) (hC:C=(n:Int))
 (hby:0<bytes) (hsz:n*bytes≤140737488355328) (h:∀w',Blk w' w.heap.size e (QCA (n*m) v)→Later w w'→wpList P ops Q rest (a.put o.dst (.slice (some ⟨w.heap.size,0,none⟩) 0 n)) w'):
 wpList P ops Q (o :: rest) a w:=by
 cases hq:P.info? e with
 | none=>simp[hq]at hinfo
 | some i=>
   simp only[hq,QEm,Option.some.injEq,Prod.mk.injEq]at hinfo
   obtain⟨hz,hsize,hbytes⟩:=hinfo
   have hn:n≤140737488355328:=QDl (QDI _ hby) hsz
   refine wpList_plain hgd fun K hK=>?_
   have hb:((i.bytes:Int)*(n:Int))≤281474976710656:=by
    rw[hbytes,←QEn,QDE]
    omega
   have hr:=run_make (P:=P) w t e i _ ht hq hz kl kc 0 n (by omega) (by omega) hb (by omega)
   have hcells:(Value.agg (QCA m v).toArray).cells=(QCA m v).toArray:=rfl
   simp only[QEv,Int.toNat_zero,hsize,hcells,QoC m _ v hm]at hr
   subst hC
   unfold Oper.wp
   simp only[execOp,ho,hl,hc,Sem.run_bind,hr,Result.andThen_ok,Sem.run_pure]
   exact hK _ _ (h _ (Blk.new w e _) (Qaa _ _))
end
theorem Qjz {x:List UInt8} {ps:List (List UInt8)} (h: ¬fitS x ps):Qdq x ps=2:=by rw[Qdq,if_neg h]
theorem QpY {x:List UInt8} {ps:List (List UInt8)} (h:fitS x ps):Qdq x ps=goE x ps ps.length 0:=by rw[Qdq,if_pos h]
theorem QrP:(Tryz.prog.info? 53).map (fun i=>(i.zero,i.size,i.bytes))=some (some (.agg (QCA 192 (W8 0)).toArray),192,192):=by kernel_rfl
theorem QrF:(Tryz.prog.info? 53).map (fun i=>(i.zero,i.size))=some (some (.agg (QCA 192 (W8 0)).toArray),192):=by kernel_rfl
theorem QnS {w:World} {base sz:Nat} {e:TypeId} {v:Value} {n:Nat} {vs:List Value} (h:w.ownsRow base e sz v n vs):∀b,v.ownBlock=some b→b<w.heap.size:=fun b hb=>(h.lt b hb).2
theorem Qpb:(30:TypeId)≠53:=by decide
theorem ne8S:(5:TypeId)≠53:=by decide
theorem neLS:(22:TypeId)≠53:=by decide
set_option maxRecDepth 100000 in
set_option maxHeartbeats 8000000 in
theorem Qja (A B:Option Addr) (n c m d:Nat) (x:List UInt8) (ps:List (List UInt8)) (w:World) (hx:RdB w A n x) (hc:n≤c) (hp:Parts w (fun _=>False) B m ps) (hm:m≤140737488355328):
 Calls Tryz.prog 15 #[.slice A n c,.slice B m d] w fun e w'=>Later w w'∧((Qdq x ps≠0∧e= .returned (.tuple #[.slice none 0 0,.int .i64 (Qdq x ps:Nat)]))∨
  (Qdq x ps=0∧∃A' c',e= .returned (.tuple #[.slice A' m c',.int .i64 0])∧m≤c'∧RdK 192 w' A' m (Qcj x ps m)∧∀b o,A'=some ⟨b,o,none⟩→w.heap.size≤b)):=by
 have hxl:=hx.len
 have hpsl:=hp.len
 by_cases hok:n=32∧1≤m∧m≤5
 ·obtain⟨rfl,hm1,hm5⟩:=hok
  have k1:decide ((m:Int)<1)=false:=decide_eq_false (by omega)
  have k2:decide ((5:Int)<(m:Int))=false:=decide_eq_false (by omega)
  have hF:=hid (fun (h:∀p∈ps,p.length=32)=>QpY (x:=x) (ps:=ps) ⟨hxl,by omega,by omega,h⟩)
  have hB:=hid (fun (h: ¬ ∀p∈ps,p.length=32)=>Qjz (x:=x) (ps:=ps) (fun f=>h f.2.2.2))
  have hbadk:=hid (fun k (h:k<ps.length) (hk:(ps.getD k []).length≠32) (ha:∀p∈ps,p.length=32)=>hk (ha _ (QdK ps k h)))
  have hPub:=hid (fun (w:World) h=>Qqd A 32 c x w h (by omega))
  rw[Qzq x hxl]at hPub
  have h0l:=QaP x (nb 9)
  have hst0:Hid ((stA x ps 0).1=Qbg x (nb 9)∧(stA x ps 0).2=[x]):=hid ⟨rfl,rfl⟩
  generalize Qdq x ps=E0 at *
  generalize Qbg x (nb 9)=al0 at *
  go_enter Tryz.func15,Tryz.ntmps15
  go_wp2_with fail
  go_loopw [33] (fun i wr=>∃k:Nat,k≤m∧i= .int .i64 k∧Hid (∀ j,j<k→(ps.getD j []).length=32)∧Later w wr) (fun i _=>m-(intOf i).toNat)
  case atStart=>exact⟨0,by omega,rfl,hid (fun j h=>by omega),Later.refl w⟩
  case round=>
   obtain⟨k,hk,rfl,hall,L⟩:=hrel
   by_cases hlt:k<m
   ·obtain⟨b,o,Ak,nk,ck,rfl,hb,hck,hcap,hrd,_⟩:=(hp.later L).at_ hlt
    have hlen:=hrd.len
    have hb2:=hid (fun h=>hB.out (hbadk.out k (by omega) h))
    rw[hlen]at hb2
    have hstep:Hid (nk=32→∀j,j<k+1→(ps.getD j []).length=32):=hid (fun h j hj=>by
     by_cases e:j=k
     ·rw[e,hlen,h]
     ·exact hall.out j (by omega))
    clear hrd hlen
    by_cases h32:nk=32
    ·have hne:((nk:Int) != 32)=false:=by simp;omega
     go_wp2_with fail
     go_roundw
     case rel=>exact⟨k+1,by omega,by go_num,hid (hstep.out h32),L⟩
     case measure=>simp[intOf];omega
    ·have hne:((nk:Int) != 32)=true:=by simp;omega
     go_wp2_with fail
     go_ret2
     exact⟨L,.inl (by rw[hb2.out h32];exact⟨by decide,rfl⟩)⟩
   ·have hall':=QoJ ps (fun j hj=>hall.out j (by omega))
    have hE:=hF.out hall'
    have HE:=hid hE
    have HA:=hid hall'
    clear hF hB hbadk hall hall' hE
    go_wp2_with fail
    (with_reducible refine (hPub.out _ (hx.later L)).mono ?_);rintro e w1 ⟨rfl,j1⟩
    go_wp2_with (first
     | (refine QaJ rfl rfl _ _ rfl (Blk.new w1 _ (QCA 32 (.int .u8 0))) rfl rfl h0l rfl ?_;intro w2 hb2 ho2)
     | (refine QhB rfl _ _ _ rfl 53 (W8 0) 192 192 Tryz.underlying45 QrP (by omega) _ _ _ m rfl rfl rfl (by omega) (by omega) ?_;intro w3 hb3 hl3)
     | fail)
    have L1:=L.trans j1
    have hg8:w.heap.size≤w1.heap.size:=L1.size
    have L2:=(L1.trans (Qaa w1 (.cells (QCA 32 (Value.int .u8 0)).toArray 30))).only ho2 hg8
    have L3:=L2.trans hl3
    have hrow:=QcV (Qu8 hb3 L2.size (by rw[QCM]) (by unfold maxLen;omega)) (Qaa w3 (.cells #[.slice A 32 c] 22))
    have hal:=(hb2.later hl3).later (Qaa w3 (.cells #[.slice A 32 c] 22))
    have L4:=L3.trans (Qaa w3 (.cells #[.slice A 32 c] 22))
    have hsc:ScRow w w1.heap.size (w3.alloc (.cells #[.slice A 32 c] 22)) (.slice (some ⟨w3.heap.size,0,none⟩) 1 1) [x] [.slice A 32 c]:=
     ⟨QdZ (Qg8 w3 22 [.slice A 32 c] (by simp)) L3.size,rfl,fun j u p hu hp=>by
       have hj:j=0:=by have:=(QCT.1 hu).1;simpa using this
       subst hj
       cases hu
       cases hp
       exact .inl ⟨A,c,rfl,hc,hx⟩⟩
    clear hb2 ho2 hb3 hl3 j1 L1 L2 L3 L hPub
    generalize w3.alloc _=w4 at *
    generalize w1.heap.size=g8 at *
    go_loopw [10,11,56] (fun v u i wr=>∃(k:Nat) (vs:List Value),k≤m∧i= .int .i64 k∧wr.ownsRow w.heap.size 53 192 v k ((Qcj x ps k).flatten.map W8)∧ScRow w g8 wr u (stA x ps k).2 vs∧Blk wr g8 30 ((stA x ps k).1.map W8)∧Later w wr∧Hid (E0=goE x ps (m-k) k)) (fun _ _ i _=>m-(intOf i).toNat)
    case atStart=>exact⟨0,_,by omega,rfl,hrow,hsc,by rw[hst0.out.1];exact hal,L4,hid (by rw[HE.out,hpsl];rfl)⟩
    case round=>
     clear hrow hsc hal L4
     obtain⟨k,vs,hk,rfl,hrow,hsc,hal,L,HG⟩:=hrel
     by_cases hlt:k<m
     ·obtain⟨b,o,Ak,nk,ck,rfl,hb,hck,hcap,hrd,_⟩:=(hp.later L).at_ hlt
      have hlen:=hrd.len
      obtain rfl:nk=32:=by rw[←hlen];exact HA.out _ (QdK ps k (by omega))
      have hscl:(stA x ps k).2.length=k+1:=QfS x ps k
      have hsc32:=hid (QfD x hxl ps k)
      have hall:=Qec x ps k
      have cC:Hid (∀ (w:World) B d,RdB w Ak 32 (ps.getD k [])→Parts w (fun _=>False) B (k+1) (stA x ps k).2→
       Calls Tryz.prog 57 #[.slice Ak 32 ck,.slice B (k+1) d] w fun e w'=>e= .returned (.tuple #[.agg ((secA x ps k).map W8).toArray,.int .i64 (errA x ps k:Nat)])∧Later w w'):=
       hid (fun w B d h1 h2=>QqP Ak B 32 ck (k+1) d (ps.getD k []) (stA x ps k).2 w h1 h2 (by omega) (by omega))
      have hsl:=Qi5 x ps k
      have hTl:=Qcd x ps k
      have F1:=hid (show Qcl x ps k=k4 (secA x ps k)++((stA x ps k).1++secA x ps k) from rfl)
      have F2:=hid (show (stA x ps (k+1)).1=Qbg (derB (secA x ps k) QbT) (stA x ps k).1 from rfl)
      have F3:=hid (show (stA x ps (k+1)).2=(stA x ps k).2++[derB (secA x ps k) QbT] from rfl)
      have F4:=Qir x ps k
      have F5:=QeI x ps k
      have F6:=Qoh x hxl ps k (derB (secA x ps k) QbT) (Qaz _ _)
      have F7:=hid (Qnw x ps k)
      have F8:=hid (show errA x ps k=0→E0=goE x ps (m-(k+1)) (k+1) by
       intro h
       have:=HG.out
       rw[show m-k=(m-(k+1))+1 by omega,goE,if_pos h]at this
       exact this)
      have F9:=hid (show errA x ps k≠0→E0=errA x ps k by
       intro h
       have:=HG.out
       rw[show m-k=(m-(k+1))+1 by omega,goE,if_neg h]at this
       exact this)
      have hbl:=Qaz (secA x ps k) QbT
      obtain⟨B1,d1,hu,hd1⟩:=Qg3 hsc.own
      rw[hscl]at hu hd1
      subst hu
      have hdone:=hid (QgT x ps (k+1))
      clear HG hlen
      generalize Qcl x ps k=T at *
      generalize derB (secA x ps k) QbT=bl at *
      generalize hS:secA x ps k=S at *
      generalize errA x ps k=e1 at *
      generalize (stA x ps k).1=al at *
      generalize (stA x ps k).2=sc at *
      generalize ps.getD k []=p at *
      by_cases he:e1=0
      ·subst he
       have G1:=F8.out rfl
       have hSt:=hid (fun w=>QjK al S hall hsl w)
       rw[←F1.out]at hSt
       have hNx:=hid (fun w=>QoK T bl al hTl F4 F5 w)
       rw[F6]at hNx
       have hNl:=QaP bl al
       rw[←F2.out]at hNx hNl
       clear F1 F2 F6 F8 F9 hS
       generalize ha2:(stA x ps (k+1)).1=al2 at *
       have HA2:=hid ha2
       clear ha2
       have hzc:=QwT
       have H4:=hid F4
       have HG1:=hid G1
       clear F4 F5 G1
       go_wp2_with fail
       (with_reducible refine (cC.out _ B1 d1 hrd (hsc.parts hscl L)).mono ?_);rintro e w5 ⟨rfl,j5⟩
       go_wp2_with (first
        | (refine QaJ rfl rfl _ _ rfl (Blk.new w5 _ (QCA 32 (.int .u8 0))) rfl rfl hsl rfl ?_;intro w6 hb6 ho6
           have J6:=(j5.trans (Qaa w5 (.cells (QCA 32 (Value.int .u8 0)).toArray 30))).only ho6 j5.size
           have hal6:=hal.later J6)
        | (refine Qeo rfl _ rfl hal6 hall rfl ?_)
        | (refine Qeo rfl _ rfl hb6 hsl rfl ?_)
        | fail)
       (with_reducible refine (hSt.out _).mono ?_);rintro e w7 ⟨rfl,j7⟩
       have hgr:∀b,u10.ownBlock=some b→b<w7.heap.size:=fun b hb=>QC0 (QnS hrow b hb) (J6.trans j7).size
       have hcase:(((k:Int)+1==(m:Int))=true∧k+1=m)∨(((k:Int)+1==(m:Int))=false∧k+1<m):=by
        simp only[beq_iff_eq,beq_eq_false_iff_ne,ne_eq]
        omega
       rcases hcase with ⟨kl,hlast⟩|⟨kl,hlast⟩
       ·go_wp2_with (first
         | (refine QeK rfl rfl _ _ rfl (Blk.new w7 _ Tryz.zeroCells53.toList) rfl rfl hTl hzc ?_;intro w8 hb8 ho8
            have J8:=(J6.trans j7).trans ((Qaa w7 (.cells Tryz.zeroCells53 53)).only ho8 (QCL _))
            have J8':=J8.trans (Qaa w8 (.cells (T.map W8).toArray 53)))
         | (refine Qfh rfl _ rfl hb8 hTl rfl ?_)
         | (refine QlG rfl 45 _ rfl 53 192 _ T Tryz.underlying45 QrF (by omega) (by omega) hTl rfl ?_)
         | (refine QdF rfl _ _ _ rfl 53 _ 192 192 Tryz.underlying45 QrP rfl (by omega) w _ k _ (QcV hrow J8') (L.trans J8') w8.heap.size 1 1 53 (T.map W8) (Blk.new _ _ _) (by rw[QCE,hTl]) (QaC T) rfl rfl (by omega) (by omega) ?_;intro v9 w9 hown9 hl9 hg9
            have hT9:Blk w9 w7.heap.size 53 (T.map W8):=by
             have h8:=hb8.later (Qaa w8 (.cells (T.map W8).toArray 53))
             refine (hg9.block _ h8.lt ?_).trans h8
             intro e
             exact absurd (hgr _ e.symm) (Nat.lt_irrefl _))
         | (refine Qfh rfl _ rfl hT9 hTl rfl ?_)
         | fail)
        have hrow8:=QcV hrow J8'
        have hsc9:=(hsc.later J8').grown hrow8 neLS Qpb ne8S hg9
        have hal9:=QcT (hal.later J8') hrow8 Qpb hg9
        have hg8:w.heap.size≤g8∨True:=.inr trivial
        clear hrow hsc hal hb8 ho8 J8 J8' hg9 hrow8 hg8 hgr J6 hal6 hb6 ho6 j5 j7 L
        rw[←F7.out]at hown9
        obtain⟨A9,c9,rfl,hc9⟩:=Qg3 hown9
        have hrd9:=Qsp hown9 (QgD x ps (k+1)) hdone.out
        have hE0:E0=0:=by rw[HG1.out,hlast,QDR];rfl
        rw[hlast]at hrd9 hc9
        go_ret2
        exact⟨hl9,.inr ⟨hE0,A9,c9,by rw[hlast];rfl,hc9,hrd9,fun b o e=>by subst e;exact (hown9.lt b rfl).1⟩⟩
       ·go_wp2_with (first
         | (refine QeK rfl rfl _ _ rfl (Blk.new w7 _ Tryz.zeroCells53.toList) rfl rfl hTl hzc ?_;intro w8 hb8 ho8
            have J8:=(J6.trans j7).trans ((Qaa w7 (.cells Tryz.zeroCells53 53)).only ho8 (QCL _))
            have J8':=J8.trans (Qaa w8 (.cells (T.map W8).toArray 53)))
         | (refine Qfh rfl _ rfl hb8 hTl rfl ?_)
         | (refine QlG rfl 45 _ rfl 53 192 _ T Tryz.underlying45 QrF (by omega) (by omega) hTl rfl ?_)
         | (refine QdF rfl _ _ _ rfl 53 _ 192 192 Tryz.underlying45 QrP rfl (by omega) w _ k _ (QcV hrow J8') (L.trans J8') w8.heap.size 1 1 53 (T.map W8) (Blk.new _ _ _) (by rw[QCE,hTl]) (QaC T) rfl rfl (by omega) (by omega) ?_;intro v9 w9 hown9 hl9 hg9
            have hT9:Blk w9 w7.heap.size 53 (T.map W8):=by
             have h8:=hb8.later (Qaa w8 (.cells (T.map W8).toArray 53))
             refine (hg9.block _ h8.lt ?_).trans h8
             intro e
             exact absurd (hgr _ e.symm) (Nat.lt_irrefl _))
         | (refine Qfh rfl _ rfl hT9 hTl rfl ?_)
         | fail)
        have hrow8:=QcV hrow J8'
        have hsc9:=(hsc.later J8').grown hrow8 neLS Qpb ne8S hg9
        have hal9:=QcT (hal.later J8') hrow8 Qpb hg9
        have hg8:w.heap.size≤g8∨True:=.inr trivial
        clear hrow hsc hal hb8 ho8 J8 J8' hg9 hrow8 hg8 hgr J6 hal6 hb6 ho6 j5 j7 L
        rw[←F7.out]at hown9
        (with_reducible refine (hNx.out _).mono ?_);rintro e w10 ⟨rfl,j10⟩
        have hT10:=hT9.later j10
        have hal10:=hal9.later j10
        have hsc10:=hsc9.later j10
        have hrow10:=QcV hown9 j10
        have L10:=hl9.trans j10
        have hne:w7.heap.size≠g8:=hT10.ne_type hal10 (fun e=>Qpb e.symm)
        clear hT9 hal9 hsc9 hown9 hl9 j10 hSt hNx cC
        go_wp2_with (first
         | (refine QaJ rfl rfl _ _ rfl hal10 rfl rfl hNl (by rw[QCE,hall]) ?_;intro w11 hb11 ho11
            have hT11:=hT10.only ho11 hne)
         | (refine Qoo 96 32 rfl _ rfl hT11 rfl Tryz.underlying30 rfl Qdn H4.out hbl ?_)
         | (refine QaJ rfl rfl _ _ rfl (Blk.new w11 _ (QCA 32 (.int .u8 0))) rfl rfl hbl rfl ?_;intro w12 hb12 ho12
            have hsc11:=hsc10.only hal10 ho11
            have hrow11:=Qgo hrow10 hal10 Qpb ho11
            have L11:=L10.only ho11 hg8
            have J12:Later w11 (w12.alloc (.cells #[.slice (some ⟨w11.heap.size,0,none⟩) 32 32] 22)):=((Qaa w11 (.cells (QCA 32 (Value.int .u8 0)).toArray 30)).only ho12 (QCL _)).trans (Qaa _ _)
            have hsc12:=hsc11.later J12
            have hrow12:=QcV hrow11 J12
            have hal12:=hb11.later J12
            have hbl12:=hb12.later (Qaa w12 (.cells #[.slice (some ⟨w11.heap.size,0,none⟩) 32 32] 22))
            have L12:=L11.trans J12
            have hsco:=hsc12.own
            rw[hscl]at hsco)
         | (refine QdF rfl _ _ _ rfl 22 _ 1 24 Tryz.underlying48 Qr3 rfl (by omega) w _ (k+1) vs hsco L12 w12.heap.size 1 1 22 [.slice (some ⟨w11.heap.size,0,none⟩) 32 32] (Blk.new _ _ _) rfl (by intro u hu;rw[QEP.1 hu];rfl) rfl rfl (by omega) (by omega) ?_;intro v13 w13 hown13 hl13 hg13)
         | fail)
        have hsc13:=hsc12.snoc (p:=bl) (.inr (.inl ⟨w11.heap.size,rfl,by have:=hb11.lt;omega,hbl,hbl12⟩)) hg13 (by rw[hscl];exact hown13)
        rw[←F3.out]at hsc13
        have hrow13:=Qg9 hrow12 hsco (fun e=>neLS e.symm) hg13
        have hal13:=QcT hal12 hsco QtV hg13
        go_roundw
        case rel=>exact⟨k+1,_,by omega,by go_num,hrow13,hsc13,by rw[HA2.out];exact hal13,hl13,HG1⟩
        case measure=>simp[intOf];omega
      ·have hE0:=F9.out he
       have hne:((e1:Int) != 0)=true:=by simp;omega
       go_wp2_with fail
       (with_reducible refine (cC.out _ B1 d1 hrd (hsc.parts hscl L)).mono ?_);rintro e w5 ⟨rfl,j5⟩
       go_wp2_with (first
        | (refine QaJ rfl rfl _ _ rfl (Blk.new w5 _ (QCA 32 (.int .u8 0))) rfl rfl hsl rfl ?_;intro w6 hb6 ho6)
        | fail)
       go_ret2
       exact⟨(L.trans (j5.trans (Qaa w5 _))).only ho6 (L.trans j5).size,.inl ⟨by rw[hE0];exact he,by rw[hE0];rfl⟩⟩
     ·have hkm:k=m:=by omega
      subst hkm
      have hE0:E0=0:=by rw[HG.out,QDR];rfl
      obtain⟨A9,c9,rfl,hc9⟩:=Qg3 hrow
      have hrd9:=Qsp hrow (QgD x ps k) (QgT x ps k)
      go_wp2_with fail
      go_ret2
      exact⟨L,.inr ⟨hE0,A9,c9,rfl,hc9,hrd9,fun b o e=>by subst e;exact (hrow.lt b rfl).1⟩⟩
 ·have hE:=Qjz (x:=x) (ps:=ps) (fun f=>hok ⟨by have:=f.1;omega,by have:=f.2.1;omega,by have:=f.2.2.1;omega⟩)
  rw[hE]
  clear hE
  have key:((n:Int) != 32)=true∨(((n:Int) != 32)=false∧decide ((m:Int)<1)=true)∨(((n:Int) != 32)=false∧decide ((m:Int)<1)=false∧decide ((5:Int)<(m:Int))=true):=by
   simp only[bne_iff_ne,bne_eq_false_iff_eq,ne_eq,decide_eq_true_eq,decide_eq_false_iff_not]
   omega
  rcases key with h1|⟨h1,h2⟩|⟨h1,h2,h3⟩
  all_goals
   go_enter Tryz.func15,Tryz.ntmps15
   go_wp2_with fail
   go_ret2
   exact⟨Later.refl w,.inl ⟨by decide,rfl⟩⟩
theorem Qkx (A B:Option Addr) (n c m d:Nat) (x:List UInt8) (ps:List (List UInt8)) (w:World) (hx:RdB w A n x) (hc:n≤c) (hp:Parts w (fun _=>False) B m ps) (hm:m≤140737488355328):
 Calls Tryz.prog 15 #[.slice A n c,.slice B m d] w fun e w'=>Later w w'∧((Qdq x ps≠0∧e= .returned (.tuple #[.slice none 0 0,.int .i64 (Qdq x ps:Nat)]))∨
  (Qdq x ps=0∧∃A' c',e= .returned (.tuple #[.slice A' m c',.int .i64 0])∧m≤c'∧RdK 192 w' A' m (Qcj x ps m))):=
 (Qja A B n c m d x ps w hx hc hp hm).mono fun _ _ h=>⟨h.1,h.2.imp id fun h=>⟨h.1,by obtain⟨A',c',e,h1,h2,_⟩:=h.2;exact⟨A',c',e,h1,h2⟩⟩⟩
end Go.Proofs.YtdhgpkdjdmlphaaGreat
namespace Go.Proofs.YtdhgpkdjdmlphaaGreat
open Go.RowKit
def mulF (f:Nat→List UInt8→Nat):Nat→List (List UInt8)→Nat
 | q,[]=>q
 | q,s :: sc=>mulF f (f q s) sc
theorem Qmb (f:Nat→List UInt8→Nat) (s:List UInt8):∀(sc:List (List UInt8)) (q:Nat),mulF f q (sc++[s])=f (mulF f q sc) s
 | [],_=>rfl
 | t :: sc,q=>Qmb f s sc (f q t)
theorem Qmg (f:Nat→List UInt8→Nat) (hf:∀q a b,f (f q a) b=f (f q b) a) (p:List UInt8):∀(sc:List (List UInt8)) (q:Nat),mulF f (f q p) sc=f (mulF f q sc) p
 | [],_=>rfl
 | s :: sc,q=>by
   rw[mulF,mulF,hf,Qmg f hf p sc]
theorem Qkp (f:Nat→List UInt8→Nat) (P:Nat→Prop) (hP:∀q s,P q→s.length=32→P (f q s)):∀(sc:List (List UInt8)) (q:Nat),P q→(∀ s∈sc,s.length=32)→P (mulF f q sc)
 | [],_,h,_=>h
 | s :: sc,q,h,hs=>Qkp f P hP sc _ (hP q s h (hs s (by simp))) (fun t ht=>hs t (by simp[ht]))
theorem QmC (f:Nat→List UInt8→Nat) (P:Nat→Prop) (hP:∀q s,P q→s.length=32→P (f q s)) (hB:∀q s,P q→s.length=32→Qbg s (nb q)=nb (f q s)) (hE:∀q s,P q→s.length=32→QaX s (nb q)=0):
 ∀(sc:List (List UInt8)) (q:Nat),P q→(∀ s∈sc,s.length=32)→Qee sc (nb q)=(nb (mulF f q sc),0)
 | [],_,_,_=>rfl
 | s :: sc,q,hq,hs=>by
   have h32:=hs s (by simp)
   rw[Qee,hE q s hq h32,hB q s hq h32,if_pos rfl,QmC f P hP hB hE sc _ (hP q s hq h32) (fun t ht=>hs t (by simp[ht])),mulF]
def mS (q:Nat) (s:List UInt8):Nat:=Ed.multN q (QaQ s)
theorem Qyk (q:Nat) (a b:List UInt8):mS (mS q a) b=mS (mS q b) a:=Ed.multN_comm q (QaQ a) (QaQ b)
theorem QkU (q:Nat) (s:List UInt8) (h:Ed.From9 q) (hs:s.length=32):Ed.From9 (mS q s):=Ed.from9_step h s hs
theorem mS_B (q:Nat) (s:List UInt8) (h:Ed.From9 q) (hs:s.length=32):Qbg s (nb q)=nb (mS q s):=(Qfr s q hs h.1).1
theorem mS_E (q:Nat) (s:List UInt8) (h:Ed.From9 q) (hs:s.length=32):QaX s (nb q)=0:=by
 rw[(Qfr s q hs h.1).2,if_neg (Ed.from9_ne (Ed.from9_step h s hs))]
theorem Qns (q:Nat) (sc:List (List UInt8)) (hq:Ed.From9 q) (hs:∀s∈sc,s.length=32):Qcy (nb q) sc=(nb (mulF mS q sc),0):=by
 have h:=QmC mS Ed.From9 QkU mS_B mS_E sc q hq hs
 have h2:=Qof q hq.1
 rw[Qcy,if_pos ⟨QbR _,hs⟩,h2,h]
theorem Qn9 (x:List UInt8) (hx:x.length=32) (ps:List (List UInt8)):∀k,(stA x ps k).1=nb (mulF mS 9 (stA x ps k).2)
 | 0=>by
   have e1:(stA x ps 0).1=Qbg x (nb 9):=rfl
   have e2:(stA x ps 0).2=[x]:=rfl
   have e3:mulF mS 9 [x]=mS 9 x:=by rw[mulF,mulF]
   rw[e1,e2,e3]
   exact mS_B 9 x Ed.from9_nine hx
 | k+1=>by
   have h9:=Qkp mS Ed.From9 QkU (stA x ps k).2 9 Ed.from9_nine (QfD x hx ps k)
   have ih:=Qn9 x hx ps k
   have e1:(stA x ps (k+1)).1=Qbg (derB (secA x ps k) QbT) (stA x ps k).1:=rfl
   have e2:(stA x ps (k+1)).2=(stA x ps k).2++[derB (secA x ps k) QbT]:=rfl
   have hl:=Qaz (secA x ps k) QbT
   rw[e1,e2]
   clear e1 e2
   generalize derB (secA x ps k) QbT=bl at *
   generalize (stA x ps k).1=al at *
   generalize (stA x ps k).2=sc at *
   rw[ih,Qmb,mS_B _ bl h9 hl]
def Qcf (ks:List (List UInt8)):List (List UInt8):=ks.map fun p=>Qbg p (nb 9)
theorem Qn2 (ks:List (List UInt8)) (k:Nat) (h:k<ks.length):(Qcf ks).getD k []=Qbg (ks.getD k []) (nb 9):=by
 rw[Qcf,QCI,QCS,QCI,QCH h]
 rfl
theorem Qot (x:List UInt8) (hx:x.length=32) (ks:List (List UInt8)) (hk:∀p∈ks,p.length=32) (k:Nat) (h:k<ks.length):
 errA x (Qcf ks) k=0∧secA x (Qcf ks) k=Qbg (ks.getD k []) (stA x (Qcf ks) k).1∧QaX (ks.getD k []) (stA x (Qcf ks) k).1=0:=by
 have hp:(ks.getD k []).length=32:=hk _ (QdK ks k h)
 have hs:=QfD x hx (Qcf ks) k
 have ha:=Qn9 x hx (Qcf ks) k
 have hpub:=Qn2 ks k h
 have e1:errA x (Qcf ks) k=(Qcy ((Qcf ks).getD k []) (stA x (Qcf ks) k).2).2:=rfl
 have e2:secA x (Qcf ks) k=(Qcy ((Qcf ks).getD k []) (stA x (Qcf ks) k).2).1:=rfl
 rw[e1,e2,hpub]
 clear e1 e2 hpub
 generalize (stA x (Qcf ks) k).1=al at *
 generalize (stA x (Qcf ks) k).2=sc at *
 generalize ks.getD k []=p at *
 have h9a:=Qkp mS Ed.From9 QkU sc 9 Ed.from9_nine hs
 have hc:=Qns (mS 9 p) sc (QkU 9 p Ed.from9_nine hp) hs
 have hm:=Qmg mS Qyk p sc 9
 rw[mS_B 9 p Ed.from9_nine hp,hc,ha,mS_B _ p h9a hp,mS_E _ p h9a hp,hm]
 exact⟨rfl,rfl,rfl⟩
theorem Qsm (x:List UInt8) (hx:x.length=32) (ks:List (List UInt8)) (hk:∀p∈ks,p.length=32) (k:Nat) (h:k<ks.length):
 QbB (ks.getD k []) (stA x (Qcf ks) k).1=Qcl x (Qcf ks) k:=by
 obtain⟨_,h2,h3⟩:=Qot x hx ks hk k h
 rw[QbB,if_pos h3,Qcl,h2]
end Go.Proofs.YtdhgpkdjdmlphaaGreat
namespace Go.Proofs.YtdhgpkdjdmlphaaGreat
open Go.RowKit
open Go.BigFrame
def badH (h:Hp):Bool:=decide (h.delay<0)||decide (1000000<h.delay)||decide (h.flags<0)||decide (255<h.flags)
def QtD (c:Cmd):Bool:=decide (c.kd<2)||decide (4<c.kd)
def QeU (c:Cmd) (hs:List Hp):Nat:=
 if QtD c=true then 1 else if hs.any badH=true then 1 else if hs.length<1∨5<hs.length then 2 else if Qdg c=false then 3 else if (hs.drop 1).any (fun h=>h.nod.id==0)=true then 3 else 0
def QcN (c:Cmd) (hs:List Hp) (i:Nat):Cmd:=
 if i+1<hs.length then ⟨1,QDe (hs.getD i hp0).flags,QEg (hs.getD i hp0).delay,(hs.getD (i+1) hp0).nod.id,QbJ⟩
 else ⟨c.kd,QDe (hs.getD i hp0).flags,QEg (hs.getD i hp0).delay,0,c.ma⟩
theorem QwG {h:Hp} (e:badH h=false):0≤h.delay∧h.delay≤1000000∧0≤h.flags∧h.flags≤255:=by
 simp only[badH,Bool.or_eq_false_iff,decide_eq_false_iff_not]at e
 omega
theorem QBV {hs:List Hp} {p:Hp→Bool} (h:hs.any p=false) {i:Nat} (hi:i<hs.length):p (hs.getD i hp0)=false:=by
 rw[List.any_eq_false]at h
 rw[QCI,QCH hi]
 simpa using h _ (QD2 hi)
theorem Qel {c:Cmd} {hs:List Hp} (h:QeU c hs=0):QtD c=false∧hs.any badH=false∧1≤hs.length∧hs.length≤5∧Qdg c=true∧(hs.drop 1).any (fun h=>h.nod.id==0)=false:=by
 unfold QeU at h
 split at h
 ·cases h
 ·split at h
  ·cases h
  ·split at h
   ·cases h
   ·split at h
    ·cases h
    ·split at h
     ·cases h
     ·rename_i h1 h2 h3 h4 h5
      exact⟨by simpa using h1,by simpa using h2,by omega,by omega,by simpa using h4,by simpa using h5⟩
theorem Qkk {c:Cmd} {hs:List Hp} (h:QeU c hs=0) {i:Nat} (hi:i<hs.length):cmdE (QcN c hs i)=0∧((QcN c hs i).kd=1↔i+1<hs.length):=by
 obtain⟨h1,h2,_,_,h5,h6⟩:=Qel h
 have hb:=QwG (QBV h2 hi)
 have hd: ¬(1000000:UInt32)<QEg (hs.getD i hp0).delay:=by
  rw[UInt32.lt_iff_toNat_lt]
  have:=Qkz (hs.getD i hp0).delay hb.1 (by omega)
  show ¬(1000000<(QEg (hs.getD i hp0).delay).toNat)
  omega
 have hkd:c.kd≠1∧ ¬(c.kd<1∨4<c.kd):=by
  simp only[QtD,Bool.or_eq_false_iff,decide_eq_false_iff_not,QEu]at h1
  rw[QEu,QEu,Ne,←QDD]
  have e1:(1:UInt8).toNat=1:=rfl
  have e2:(2:UInt8).toNat=2:=rfl
  have e4:(4:UInt8).toNat=4:=rfl
  omega
 unfold QcN
 by_cases hlt:i+1<hs.length
 ·rw[if_pos hlt]
  refine⟨?_,fun _=>hlt,fun _=>rfl⟩
  have hid:(hs.getD (i+1) hp0).nod.id≠0:=by
   rw[List.any_eq_false]at h6
   have:=h6 (hs.getD (i+1) hp0) (by
    rw[QCI,QCH hlt]
    rw[List.mem_iff_getElem?]
    exact⟨i,by rw[QDP,QEE 1 i,QCH hlt];rfl⟩)
   simpa using this
  unfold cmdE
  rw[if_neg (by
   show ¬((1:UInt8)<1∨4<(1:UInt8))
   decide),if_neg (by
   have h0:((hs.getD (i+1) hp0).nod.id != 0)=true:=by simpa using hid
   simp only[Qdg,h0,QbJ]
   decide),if_neg hd]
 ·rw[if_neg hlt]
  refine⟨?_,fun e=>absurd e hkd.1,fun e=>absurd e hlt⟩
  have hs2:Qdg ⟨c.kd,QDe (hs.getD i hp0).flags,QEg (hs.getD i hp0).delay,0,c.ma⟩=true:=by
   have hk:=hkd.1
   simp only[Qdg]at h5 ⊢
   have e1:(c.kd==1)=false:=by simpa using hk
   rw[e1]at h5 ⊢
   cases hx:(c.nx != 0)
   ·rw[hx]at h5
    simpa using h5
   ·rw[hx]at h5
    simp at h5
  unfold cmdE
  rw[if_neg hkd.2,if_neg (by rw[hs2];decide),if_neg hd]
def seaA (n:Nat) (st:Nat→List UInt8) (body:List UInt8):Nat→List UInt8
 | 0=>body
 | j+1=>Qc1 (kPay (st (n-1-j))) (seaA n st body j) rsS
def pktA (n:Nat) (sl st:Nat→List UInt8) (body:List UInt8) (i:Nat):List UInt8:=hdrA n sl st (n-1-i)++seaA n st body (n-i)
theorem Ql3 {st:Nat→List UInt8} (hst:∀k,(st k).length=192) (k:Nat) {bs:List UInt8} (hb:bs.length=480):QeW (kPay (st k)) bs rsS=0:=
 Qfd okS ⟨Qan (by have:=hst k;omega),by omega,by omega⟩
theorem QcZ {n:Nat} {st:Nat→List UInt8} {body:List UInt8} (hst:∀k,(st k).length=192) (hb:body.length=480):∀j,(seaA n st body j).length=480
 | 0=>hb
 | j+1=>by
   have ih:=QcZ (n:=n) hst hb j
   rw[seaA,(Qmt (Ql3 hst _ ih)).1,ih]
theorem QrW {n:Nat} {st:Nat→List UInt8} {body:List UInt8} (hst:∀k,(st k).length=192) (hb:body.length=480) (j:Nat):Qc1 (kPay (st (n-1-j))) (seaA n st body (j+1)) rsO=seaA n st body j:=by
 have ih:=QcZ (n:=n) hst hb j
 have:=(Qmt (Ql3 hst (n-1-j) ih)).2.2
 rw[show rsS.reverse=rsO by decide]at this
 rw[seaA]
 exact this
theorem Qc4 {s:List UInt8} (h:s.length=192):(kAlp s).length=32:=Qan (by omega)
section
variable {n:Nat} {sl st:Nat→List UInt8} (hn1:1≤n) (hn5:n≤5) (hsl:∀k,(sl k).length=32) (hst:∀k,(st k).length=192) {body:List UInt8} (hb:body.length=480)
include hn1 hn5 hsl hst hb
theorem QoS (i:Nat):(pktA n sl st body i).take 288=hdrA n sl st (n-1-i)∧(pktA n sl st body i).drop 288=seaA n st body (n-i)∧(pktA n sl st body i).length=768:=by
 have h1:=Qnl (st:=st) hn1 hn5 hsl (n-1-i) (Qc4 (hst _))
 have h2:=QcZ (n:=n) hst hb (n-i)
 exact⟨QDY h1,QDn h1,by rw[pktA,QCK,h1,h2]⟩
theorem Qpf (i:Nat) (hi:i<n):(pktA n sl st body i).take 32=kAlp (st i):=by
 have _:=And.intro (hsl 0) hb
 rw[pktA,hdrA,QCR,QDY (Qc4 (hst _)),show n-1-(n-1-i)=i by omega]
theorem QpS (cs:Nat→Cmd) (hcs:∀k,sl k=encB (cs k)) (k:List UInt8) (i:Nat) (hi:i<n) (hpe:QaX k (kAlp (st i))=0) (hpb:QbB k (kAlp (st i))=st i) (hc:cmdE (cs i)=0) (hk:(cs i).kd=1↔i+1<n)
 (hnx:i+1<n→Qlz (st i)=0∧Qjl (st i)=kAlp (st (i+1))):
 unwE k (pktA n sl st body i)=0∧unwC k (pktA n sl st body i)=cs i∧unwP k (pktA n sl st body i)=(if i+1<n then pktA n sl st body (i+1) else QCA 768 0)∧unwB k (pktA n sl st body i)=(if i+1<n then [] else body):=by
 obtain⟨c1,c2,_⟩:=QoS (sl:=sl) hn1 hn5 hsl hst hb i
 have ha:=Qpf (sl:=sl) hn1 hn5 hsl hst hb i hi
 have hj:n-1-(n-1-i)=i:=by omega
 have hfit:=QwW (st:=st) hn1 hn5 hsl (n-1-i) (Qc4 (hst _))
 rw[hj]at hfit
 have hpl:(Qcr (hdrA n sl st (n-1-i)) (st i)).take 32=encB (cs i)∧(i+1<n→(Qcr (hdrA n sl st (n-1-i)) (st i)).drop 32=tagA n sl st (n-1-(i+1))++betA n sl st (n-1-(i+1))):=by
  by_cases hlt:i+1<n
  ·have h:=QtC (st:=st) hn1 hn5 hsl (n-1-(i+1)) (by omega) (Qc4 (hst _))
   rw[show n-1-(i+1)+1=n-1-i by omega,hj]at h
   rw[h]
   exact⟨by rw[QDY (hsl _),hcs],fun _=>QDn (hsl _)⟩
  ·have h:=Qun (st:=st) hn1 hn5 hsl (Qc4 (hst _))
   have hin:i=n-1:=by omega
   refine⟨?_,fun h=>absurd h hlt⟩
   rw[show n-1-i=0 by omega,hin,h,hcs]
 have hd:decE (encB (cs i))=0:=by rw[QoF,hc]
 have hdc:=QuN (cs i) hc
 have hE:QfI (hdrA n sl st (n-1-i)) (st i)=0:=by
  rw[QfI,hfit,if_neg (by decide),hpl.1,hd,if_neg (by decide),hdc]
  split
  ·rename_i h1
   exact (hnx (hk.1 h1)).1
  ·rfl
 have hC:Qji (hdrA n sl st (n-1-i)) (st i)=cs i:=by rw[Qji,if_pos hE,hpl.1,hdc]
 have hrE:relE (st i) (pktA n sl st body i)=0:=by rw[relE,c1,hE]
 have hrC:relC (st i) (pktA n sl st body i)=cs i:=by rw[relC,c1,hC]
 have hrB:Qdh (st i) (pktA n sl st body i)=seaA n st body (n-1-i):=by
  have:=QrW (n:=n) hst hb (n-1-i)
  rw[hj,show n-1-i+1=n-i by omega]at this
  rw[Qdh,c2,this]
 refine⟨by rw[unwE,ha,if_pos hpe,hpb,hrE],by rw[unwC,ha,if_pos hpe,hpb,hrC],?_,?_⟩
 ·rw[unwP,ha,if_pos hpe,hpb,relP,hrE,hrC]
  by_cases hlt:i+1<n
  ·rw[if_pos ⟨rfl,hk.2 hlt⟩,if_pos hlt,hrB,c1,Qjd,if_pos ⟨hE,by rw[hpl.1,hdc];exact hk.2 hlt⟩,hpl.2 hlt,(hnx hlt).2,pktA,hdrA,show n-1-(n-1-(i+1))=i+1 by omega,show n-(i+1)=n-1-i by omega]
  ·rw[if_neg (fun h=>hlt (hk.1 h.2)),if_neg hlt]
 ·rw[unwB,ha,if_pos hpe,hpb,relB,hrE,hrC]
  by_cases hlt:i+1<n
  ·rw[if_neg (fun h=>h.2 (hk.2 hlt)),if_pos hlt]
  ·rw[if_pos ⟨rfl,fun h=>hlt (hk.1 h)⟩,if_neg hlt,hrB,show n-1-i=0 by omega,seaA]
end
def Qb0 (l:List Nat):Nat:=l.foldl (fun a e=>if e≠0∧(a=0∨e<a) then e else a) 0
theorem Qe5:∀(l:List Nat) (a:Nat),l.foldl (fun a e=>if e≠0∧(a=0∨e<a) then e else a) a=0↔a=0∧∀e∈l,e=0
 | [],a=>by simp
 | e :: l,a=>by
   rw[List.foldl_cons,Qe5 l]
   constructor
   ·rintro⟨h1,h2⟩
    split at h1
    ·rename_i h
     exact absurd h1 h.1
    ·rename_i h
     refine⟨h1,?_⟩
     intro e' he
     rcases QCX.1 he with rfl|he
     ·by_cases hz:e'=0
      ·exact hz
      ·exact absurd ⟨hz,.inl h1⟩ h
     ·exact h2 _ he
   ·rintro⟨rfl,h2⟩
    have he:=h2 e (by simp)
    exact⟨by rw[if_neg (fun h=>h.1 he)],fun e' h'=>h2 _ (by simp[h'])⟩
theorem Qb3 (l:List Nat):Qb0 l=0↔∀e∈l,e=0:=by
 rw[Qb0,Qe5]
 simp
def pubH (hs:List Hp):List (List UInt8):=hs.map fun h=>h.nod.pub.val
noncomputable def Qcs (x:List UInt8) (c:Cmd) (body:List UInt8) (hs:List Hp):Nat:=Qb0 [QeU c hs,Qdq x (pubH hs),if body.length=480 then 0 else 2]
def QjU (x:List UInt8) (c:Cmd) (body:List UInt8) (hs:List Hp):List UInt8:=pktA hs.length (fun i=>encB (QcN c hs i)) (Qcl x (pubH hs)) body 0
def Qep (p:Prt):Cmd:=⟨if p.kd=2 then 3 else 2,0,0,0,QbJ⟩
def frmE (p:Prt):Nat:=if prtE p=0∧p.kd=3 then 3 else prtE p
def QdS (p:Prt):List UInt8:=if frmE p=0 then QeY p else QCA 480 0
noncomputable def QfK (x:List UInt8) (p:Prt) (hs:List Hp):Nat:=Qb0 [frmE p,Qcs x (Qep p) (QdS p) hs]
def QnQ (x:List UInt8) (p:Prt) (hs:List Hp):List UInt8:=QjU x (Qep p) (QdS p) hs
theorem QpQ (x:List UInt8) (hx:x.length=32) (ps:List (List UInt8)) (k:Nat):Qlz (Qcl x ps k)=0∧Qjl (Qcl x ps k)=kAlp (Qcl x ps (k+1)):=by
 have h1:kBli (Qcl x ps k)=derB (secA x ps k) QbT:=Qir x ps k
 have h2:kAlp (Qcl x ps k)=(stA x ps k).1:=QeI x ps k
 have h3:kAlp (Qcl x ps (k+1))=(stA x ps (k+1)).1:=QeI x ps (k+1)
 rw[Qlz,Qjl,h1,h2,h3]
 exact⟨Qoh x hx ps k _ (Qaz _ _),rfl⟩
theorem Qxu {hs:List Hp} (h:∀i,i<hs.length→Qbg (hs.getD i hp0).nod.priv.val (nb 9)=(hs.getD i hp0).nod.pub.val):pubH hs=Qcf (hs.map fun h=>h.nod.priv.val):=by
 rw[pubH,Qcf,List.map_map]
 refine QEJ fun h' hm=>?_
 obtain⟨i,hi,rfl⟩:=List.getElem_of_mem hm
 have:=h i hi
 rw[QCI,QCH hi]at this
 exact this.symm
theorem Qmw (x:List UInt8) (c:Cmd) (body:List UInt8) (hs:List Hp) (he:Qcs x c body hs=0) (hfit:∀i,i<hs.length→Qbg (hs.getD i hp0).nod.priv.val (nb 9)=(hs.getD i hp0).nod.pub.val) (i:Nat) (hi:i<hs.length):
 unwE (hs.getD i hp0).nod.priv.val (pktA hs.length (fun i=>encB (QcN c hs i)) (Qcl x (pubH hs)) body i)=0∧unwC (hs.getD i hp0).nod.priv.val (pktA hs.length (fun i=>encB (QcN c hs i)) (Qcl x (pubH hs)) body i)=QcN c hs i∧
 unwP (hs.getD i hp0).nod.priv.val (pktA hs.length (fun i=>encB (QcN c hs i)) (Qcl x (pubH hs)) body i)=(if i+1<hs.length then pktA hs.length (fun i=>encB (QcN c hs i)) (Qcl x (pubH hs)) body (i+1) else QCA 768 0)∧
 unwB (hs.getD i hp0).nod.priv.val (pktA hs.length (fun i=>encB (QcN c hs i)) (Qcl x (pubH hs)) body i)=(if i+1<hs.length then [] else body):=by
 rw[Qcs,Qb3]at he
 have h1:QeU c hs=0:=he _ (by simp)
 have h2:Qdq x (pubH hs)=0:=he _ (by simp)
 have h3:(if body.length=480 then 0 else 2)=0:=he _ (by simp)
 have hb:body.length=480:=by
  split at h3
  ·assumption
  ·cases h3
 obtain⟨_,_,h4,h5,_,_⟩:=Qel h1
 have hx:x.length=32:=by
  rw[Qdq]at h2
  split at h2
  ·rename_i h;exact h.1
  ·cases h2
 obtain⟨ks,hks⟩:∃ks,ks=hs.map fun h=>h.nod.priv.val:=⟨_,rfl⟩
 have hp:pubH hs=Qcf ks:=by rw[hks];exact Qxu hfit
 have hk32:∀p∈ks,p.length=32:=by
  intro p hpm
  rw[hks]at hpm
  obtain⟨h',_,rfl⟩:=QDt.1 hpm
  exact h'.nod.priv.2
 have hkl:ks.length=hs.length:=by rw[hks,QCE]
 have hkg:ks.getD i []=(hs.getD i hp0).nod.priv.val:=by
  rw[hks,QCI,QCS,QCI,QCH hi]
  rfl
 have m1:=Qsm x hx ks hk32 i (by omega)
 have m2:=(Qot x hx ks hk32 i (by omega)).2.2
 rw[hkg]at m1 m2
 rw[hp]
 have ha:kAlp (Qcl x (Qcf ks) i)=(stA x (Qcf ks) i).1:=QeI x _ i
 exact QpS (sl:=fun i=>encB (QcN c hs i)) h4 h5 (fun _=>QcC _) (fun _=>Qcd _ _ _) hb (QcN c hs) (fun _=>rfl) _ i hi (by rw[ha];exact m2) (by rw[ha];exact m1) (Qkk h1 hi).1 (Qkk h1 hi).2 (fun _=>QpQ x hx _ i)
def fr3 (p:Prt):List UInt8:=QCA 16 0++([p.kd,QDe p.ix,QDe p.ct,0]++QCA 460 0)
def frK (p:Prt) (k:Nat):List UInt8:=putB (fr3 p) 20 ((bigB 8 p.id.toNat).take k)
theorem Qfz (n:Nat):QDe (n:Int)=QDc n:=by
 apply QDD.1
 rw[QDK]
 show ((n:Int)%(2:Int)^8).toNat%2^8=n%2^8
 omega
theorem Qvu (p:Prt):(((QCA 480 (0:UInt8)).set 16 p.kd).set 17 (QDe p.ix)).set 18 (QDe p.ct)=fr3 p:=by
 rw[show QCA 480 (0:UInt8)=QCA 16 0++([0,0,0,0]++QCA 460 0) by rw[show ([0,0,0,0]:List UInt8)=QCA 4 0 from rfl,QDJ,QDJ]]
 rw[QDb _ _ (by simp),QDb _ _ (by simp),QDb _ _ (by simp),QCM]
 rfl
theorem Qg6 (p:Prt):(fr3 p).length=480:=by
 rw[fr3,QCK,QCK,QCM,QCM]
 show 16+(4+460)=480
 omega
theorem Qom:∀(w n k:Nat),k<w→(bigB w n)[k]?=some (QDc (n/256^(w-1-k)))
 | 0,_,_,h=>by omega
 | w+1,n,k,h=>by
   rw[bigB]
   by_cases hk:k<w
   ·rw[QCU (by rw[Qat];exact hk),Qom w _ k hk,QDp,show w+1-1-k=(w-1-k)+1 by omega,QDF,QDE]
   ·obtain rfl:k=w:=by omega
    rw[QCQ (by rw[Qat];omega),Qat,QDR,show k+1-1-k=0 by omega,QEQ,Nat.div_one]
    rfl
theorem Qoi (p:Prt):frK p 0=fr3 p:=by simp[frK,putB]
theorem Qqv (p:Prt) (k:Nat):(frK p k).length=480:=by
 rw[frK,Qbc (by rw[Qg6,QC1,Qat];omega),Qg6]
theorem Qyy (p:Prt) (h:p.da.length≤450):putB (((frK p 8).set 28 (QDe ((p.da.length:Int)/256))).set 29 (QDe ((p.da.length:Int)%256))) 30 p.da=QeY p:=by
 have h8:(bigB 8 p.id.toNat).take 8=bigB 8 p.id.toNat:=QCP (by rw[Qat];omega)
 have e1:QDe ((p.da.length:Int)/256)=QDc (p.da.length/256):=by
  rw[show ((p.da.length:Int)/256)=((p.da.length/256:Nat):Int) by omega,Qfz]
 have e2:QDe ((p.da.length:Int)%256)=QDc p.da.length:=by
  rw[show ((p.da.length:Int)%256)=((p.da.length%256:Nat):Int) by omega,Qfz]
  apply QDD.1
  rw[QDK,QDK,QDZ]
 have hb2:bigB 2 p.da.length=[QDc (p.da.length/256),QDc p.da.length]:=rfl
 rw[e1,e2,frK,h8,QeY,hb2,fr3]
 generalize QDc (p.da.length/256)=x
 generalize QDc p.da.length=y
 have hI:=Qat 8 p.id.toNat
 generalize bigB 8 p.id.toNat=I at *
 have hH:(QCA 16 0++[p.kd,QDe p.ix,QDe p.ct,0]:List UInt8).length=20:=by simp
 rw[←QCR,←QCR]
 generalize (QCA 16 0++[p.kd,QDe p.ix,QDe p.ct,0]:List UInt8)=H at *
 rw[show QCA 460 (0:UInt8)=QCA 8 0++([0,0]++(QCA p.da.length 0++QCA (450-p.da.length) 0)) by
  rw[show ([0,0]:List UInt8)=QCA 2 0 from rfl,QDJ,QDJ,QDJ]
  congr 1
  omega,QbH _ _ _ _ 20 hH (by rw[hI,QCM])]
 rw[←QCR,QDb _ _ (by simp;omega),QDb _ _ (by simp;omega),QCK,hH,hI]
 show putB ((H++I)++([x,y]++(QCA p.da.length 0++QCA (450-p.da.length) 0))) 30 p.da=_
 rw[←QCR,QbH _ _ _ _ 30 (by simp;omega) (by rw[QCM])]
 simp only[QCR]
def frmR (p:Prt):List UInt8:=if prtE p=0 then QeY p else []
theorem QvA (p:Prt):(((QCA 480 (Value.int .u8 0)).set 16 (W8 p.kd)).set 17 (W8 (QDe p.ix))).set 18 (W8 (QDe p.ct))=(frK p 0).map W8:=by
 rw[Qoi,←Qvu,←QbP,←QbP,←QbP,QDg]
 rfl
theorem Qo0 {hs:List Hp} {p:Hp→Bool} {k:Nat} (hk:k<hs.length) (h:p (hs.getD k hp0)=true):hs.any p=true:=by
 rw[List.any_eq_true]
 refine⟨_,QD2 hk,?_⟩
 rw[QCI,QCH hk]at h
 exact h
theorem Qq5 {hs:List Hp} {p:Hp→Bool} (h:∀k,k<hs.length→p (hs.getD k hp0)=false):hs.any p=false:=by
 rw[List.any_eq_false]
 intro x hx
 obtain⟨k,hk,rfl⟩:=List.getElem_of_mem hx
 have:=h k hk
 rw[QCI,QCH hk]at this
 simpa using this
theorem QjR (hs:List Hp) (k:Nat):(hs.drop 1).getD k hp0=hs.getD (k+1) hp0:=by
 rw[QCI,QDP,QEE 1 k,QCI]
theorem Qsi {hs:List Hp} {p:Hp→Bool} {k:Nat} (hk:k+1<hs.length) (h:p (hs.getD (k+1) hp0)=true):(hs.drop 1).any p=true:=
 Qo0 (k:=k) (by rw[QC3];omega) (by rw[QjR];exact h)
theorem QuD {hs:List Hp} {p:Hp→Bool} (h:∀k,k+1<hs.length→p (hs.getD (k+1) hp0)=false):(hs.drop 1).any p=false:=
 Qq5 (fun k hk=>by rw[QC3]at hk;rw[QjR];exact h k (by omega))
def lcK (kd:UInt8):Cmd:=⟨kd,0,0,0,QbJ⟩
theorem Quo (kd:UInt8) (hk:kd=2∨kd=3) (hs:List Hp):QeU (lcK kd) hs=if hs.any badH=true then 1 else if hs.length<1∨5<hs.length then 2 else if (hs.drop 1).any (fun h=>h.nod.id==0)=true then 3 else 0:=by
 have h1: ¬QtD (lcK kd)=true:=by rcases hk with rfl|rfl<;>decide
 have h2: ¬Qdg (lcK kd)=false:=by rcases hk with rfl|rfl<;>decide
 rw[QeU,if_neg h1,if_neg h2]
def QeX (kd:UInt8) (hs:List Hp) (k:Nat):List Cmd:=(QDq k).map (QcN (lcK kd) hs)
theorem Qda (kd:UInt8) (hs:List Hp) (k:Nat):(QeX kd hs k).length=k:=by simp[QeX]
def Qma (kd:UInt8) (hs:List Hp):List Cmd:=if QeU (lcK kd) hs=0 then QeX kd hs hs.length else []
theorem QzD:(Tryz.prog.info? 64).map (fun i=>(i.zero,i.size,i.bytes))=some (some (.agg (CC cmd0).toArray),20,32):=by kernel_rfl
theorem Qsh:(Tryz.prog.info? 31).map (·.size)=some 16:=by kernel_rfl
theorem Qvz (c:Cmd):Qaq (CC c) 4 (QbJ.val.map W8)=CC { c with ma:=QbJ }:=by
 have h:=c.ma.2
 rw[CC,Qaq,QCE,QbJ.2,QDL (by simp[h])]
 simp[CC]
theorem Qqx (kd:UInt8) (hs:List Hp) (k:Nat) (h:k+1=hs.length):QcN (lcK kd) hs k=⟨kd,QDe (hs.getD k hp0).flags,QEg (hs.getD k hp0).delay,0,QbJ⟩:=by
 rw[QcN,if_neg (by omega)]
 rfl
theorem Qrv (kd:UInt8) (hs:List Hp) (k:Nat) (h:k+1<hs.length):QcN (lcK kd) hs k=⟨1,QDe (hs.getD k hp0).flags,QEg (hs.getD k hp0).delay,(hs.getD (k+1) hp0).nod.id,QbJ⟩:=by
 rw[QcN,if_pos h]
theorem Qz5 (x:Hp):(HC x)[1]?=some (W64 x.nod.id):=QfO x rfl
end Go.Proofs.YtdhgpkdjdmlphaaGreat
namespace Go.Proofs.YtdhgpkdjdmlphaaGreat
open Go.RowKit
end Go.Proofs.YtdhgpkdjdmlphaaGreat
namespace Go.Proofs.YtdhgpkdjdmlphaaGreat
open Go.RowKit
open Go.BigFrame
theorem Bag.perm {w wk:World} {ls ls':List (Nat×TypeId×List Value)} (h:Bag w wk ls) (p:ls.Perm ls'):Bag w wk ls':=
 ⟨h.lat,fun q hq=>h.blk q (p.mem_iff.2 hq),fun q hq=>h.low q (p.mem_iff.2 hq),(p.map _).nodup_iff.1 h.nd⟩
theorem Bag.cast {w wk:World} {ls ls':List (Nat×TypeId×List Value)} (h:Bag w wk ls) (e:ls=ls'):Bag w wk ls':=e ▸ h
def sl32 (b:Nat):Value:=.slice (some ⟨b,0,none⟩) 32 32
def payB (b:Nat) (p:List UInt8):Nat×TypeId×List Value:=(b,5,p.map W8)
def QdN (xs:List (List UInt8)):List (List UInt8):=xs.map fun x=>subB x 64 32
theorem QcO (xs:List (List UInt8)):(QdN xs).length=xs.length:=by simp[QdN]
theorem Qiy (xs:List (List UInt8)) (k:Nat) (h:k<xs.length):(QdN xs).getD k []=subB (xs.getD k []) 64 32:=by
 rw[QdN,QCI,QCS,QCI,QCH h]
 rfl
theorem QrX (gs:List Nat) (xs:List (List UInt8)) (k b:Nat) (hg:gs.length=k) (h:k<xs.length):
 List.zipWith payB (gs++[b]) ((QdN xs).take (k+1))=List.zipWith payB gs ((QdN xs).take k)++[payB b (subB (xs.getD k []) 64 32)]:=by
 rw[Qeb _ k (by rw[QcO];exact h),Qiy xs k h,List.zipWith_append (by rw[hg,QC1,QcO];omega)]
 rfl
theorem QuZ (gs:List Nat) (n k b:Nat) (hg:gs.length=k) (h:k<n):
 (gs.map sl32++QCA (n-k) (Value.slice none 0 0)).set k (sl32 b)=(gs++[b]).map sl32++QCA (n-(k+1)) (Value.slice none 0 0):=by
 rw[QDb _ _ (by rw[QCE];omega),QCE,hg,QDR,show n-k=(n-(k+1))+1 by omega,QD7,QCN,QDh,QCR]
 rfl
theorem RdK.rdB {sz:Nat} {w:World} {A:Option Addr} {n:Nat} {xs:List (List UInt8)} (h:RdK sz w A n xs) {k off m:Nat} (hk:k<n) {r:List UInt8} (hr:subB (xs.getD k []) off m=r) (hm:r.length=m):
 ∃b o,A=some ⟨b,o,none⟩∧b<w.heap.size∧RdB w (some ⟨b,o+k*sz+off,none⟩) m r:=by
 obtain⟨b,o,hA,hb,hc⟩:=h.sub hk
 exact⟨b,o,hA,hb,by rw[QCE,hm],fun _=>⟨b,o+k*sz+off,rfl,hb,fun j v hv=>hc w (Later.refl w) off m r hr j v hv⟩⟩
theorem Qy5:(Tryz.prog.info? 22).map (fun i=>(i.zero,i.size,i.bytes))=some (some (.slice none 0 0),1,24):=Qr3
set_option maxRecDepth 100000 in
set_option maxHeartbeats 4000000 in
theorem Qu7 (A:Option Addr) (n c:Nat) (xs:List (List UInt8)) (w:World) (hr:RdK 192 w A n xs) (hxl:∀x∈xs,x.length=192) (hn:n≤1048576):
 Calls Tryz.prog 19 #[.slice A n c] w fun e w'=>∃gs:List Nat,e= .returned (.slice (some ⟨w.heap.size,0,none⟩) n n)∧gs.length=n∧
  Bag w w' ((w.heap.size,22,gs.map sl32) :: List.zipWith payB gs (QdN xs)):=by
 have hxn:=hr.1
 go_enter Tryz.func19,Tryz.ntmps19
 go_wp2_with (first
  | (refine Qax rfl _ _ 48 rfl 22 (.slice none 0 0) 24 Tryz.underlying48 Qy5 rfl _ _ _ _ n rfl rfl rfl rfl (by omega) (by omega) ?_;intro w1 hb1 hl1)
  | fail)
 have B0:Bag w w1 [(w.heap.size,22,QCA n (Value.slice none 0 0))]:=(Bag.none w).add hl1 (by simp) (QCL _) hb1
 clear hb1 hl1
 generalize hg:w.heap.size=g at *
 go_loopw [10] (fun i wr=>∃(k:Nat) (gs:List Nat),k≤n∧i= .int .i64 k∧gs.length=k∧Bag w wr ((g,22,gs.map sl32++QCA (n-k) (Value.slice none 0 0)) :: List.zipWith payB gs ((QdN xs).take k))) (fun i _=>n-(intOf i).toNat)
 case atStart=>exact⟨0,[],by omega,rfl,rfl,B0⟩
 case round=>
  clear B0
  obtain⟨k,gs,hk,rfl,hgl,B1⟩:=hrel
  by_cases hlt:k<n
  ·have hTl:(xs.getD k []).length=192:=hxl _ (QdK xs k (by omega))
   obtain⟨b,o,rfl,hb,hrd⟩:=(hr.later B1.lat).rdB (k:=k) (off:=64) (m:=32) hlt rfl (Qan (by omega))
   have hps:=hid (fun b=>QrX gs xs k b hgl (by omega))
   have hpl:(subB (xs.getD k []) 64 32).length=32:=Qan (by omega)
   have hll:(gs.map sl32++QCA (n-k) (Value.slice none 0 0)).length=n:=by rw[QCK,QCE,QCM];omega
   generalize hR:subB (xs.getD k []) 64 32=p at *
   have HR:=hid hR
   clear hR hrd
   generalize hL:gs.map sl32++QCA (n-k) (Value.slice none 0 0)=L0 at *
   have hput:putB (QCA 32 (0:UInt8)) 0 p=p:=QkA _ _ (by simp[hpl])
   have hz32:(QCA 32 (0:UInt8)).length=32:=by simp
   have hzm:(QCA 32 (Value.int .u8 0))=(QCA 32 (0:UInt8)).map W8:=by rw[QDg];rfl
   generalize QCA 32 (0:UInt8)=Z at *
   have HP:=hid hput
   have HZ:=hid hzm
   have hns:=hid (fun b=>show L0.set k (sl32 b)=(gs++[b]).map sl32++QCA (n-(k+1)) (Value.slice none 0 0) by rw[←hL,QuZ gs n k b hgl hlt])
   clear hput hzm hL
   go_wp2_with (first
    | (refine Qax rfl _ _ 22 rfl 5 (.int .u8 0) 1 Tryz.underlying22 Qb4 rfl _ _ _ _ 32 rfl rfl rfl rfl (by omega) (by omega) ?_;intro w2 hb2 hl2
       have B2:=(B1.later hl2).add (Later.refl w2) (k:=wr.heap.size) (by intro q hq;have:=(B1.blk q hq).lt;omega) B1.lat.size (hb2.cast HZ.out))
    | (refine Qac rfl rfl _ _ _ rfl g k 22 L0 (B2.nth 1 rfl) rfl (by omega) rfl (by kernel_rfl) ?_;intro v w3 hv hb3 ho3;simp[go_sem]at hv;subst hv
       have B3:=(B2.write 1 rfl ho3 hb3).drew)
    | fail)
   have d0:=(B3.nth 1 rfl).cellD k (u:=.slice (some ⟨wr.heap.size,0,none⟩) 32 32) (by rw[QEk (by omega)])
   obtain⟨b',o',e,_,hrd3⟩:=(hr.later B3.lat).rdB (k:=k) (off:=64) (m:=32) hlt (HR.out) hpl
   cases e
   go_wp2_with fail
   refine Qaf [] [0,1,2,3,4,5,6,7,8,9] [10] (by as_aux_lemma=>kernel_rfl) (by as_aux_lemma=>kernel_rfl) (by intro _ _ d _ _ h;cases d<;>exact h) ?_
   simp only[Qah,pick,QCB,QCC,QCD,QCF,QCG]
   repeat (go_big_quiet_step (fail))
   refine wpQuiet_nil ?_
   go_wp2_with (first
    | (refine Qh4 0 32 rfl _ _ _ _ rfl 5 Tryz.underlying22 Qbu (B3.nth 0 rfl) hrd3 rfl rfl (by omega) ?_;intro w4 hb4 ho4
       rw[HP.out]at hb4
       have B4:=B3.write 0 rfl ho4 hb4)
    | fail)
   have B5:=B4.perm ((List.Perm.swap _ _ _).trans (List.Perm.cons _ (List.perm_append_singleton _ _).symm))
   go_roundw
   case rel=>
    refine⟨k+1,gs++[wr.heap.size],by omega,by go_num,by simp[hgl],B5.cast ?_⟩
    rw[hps.out wr.heap.size,←hns.out wr.heap.size]
    rfl
   case measure=>simp[intOf];omega
  ·have hkn:k=n:=by omega
   subst hkn
   rw[QDR,List.replicate_zero,QDf,QCP (by rw[QcO];omega)]at B1
   go_wp2_with fail
   go_ret
   subst hg
   exact⟨gs,rfl,hgl,B1⟩
theorem Qpx {w w':World} {g n:Nat} {gs:List Nat} {ps:List (List UInt8)} (h:Bag w w' ((g,22,gs.map sl32) :: List.zipWith payB gs ps)) (hg:gs.length=n) (hp:ps.length=n) (h32:∀p∈ps,p.length=32):Parts w' (fun _=>False) (some ⟨g,0,none⟩) n ps:=by
 refine⟨gs.map sl32,(h.nth 0 rfl).rd (by rw[QCE,hg]),fun _ _ _ h=>h,by rw[QCE,hg,hp],fun j v p hv hpj=>?_⟩
 rw[QCS,QD5]at hv
 obtain⟨b,hb,rfl⟩:=hv
 have:=h.nth (j+1) (k:=b) (t:=5) (l:=p.map W8) (by rw[QCB,List.getElem?_zipWith,hb,hpj];rfl)
 exact QaW (Qb8 this (h32 p (List.mem_of_getElem? hpj))) (QCL _)
theorem Qqj {x:List UInt8} {p:Prt} {hs:List Hp} (h:QfK x p hs=0):prtE p=0∧p.kd≠3∧Qcs x (Qep p) (QeY p) hs=0∧QnQ x p hs=QjU x (Qep p) (QeY p) hs:=by
 rw[QfK,Qb3]at h
 have h1:frmE p=0:=h _ (by simp)
 have h2:Qcs x (Qep p) (QdS p) hs=0:=h _ (by simp)
 have hb:QdS p=QeY p:=by rw[QdS,if_pos h1]
 rw[hb]at h2
 have hp:prtE p=0∧p.kd≠3:=by
  unfold frmE at h1
  split at h1
  ·cases h1
  ·rename_i hn
   exact⟨h1,fun e=>hn ⟨h1,e⟩⟩
 exact⟨hp.1,hp.2,h2,by rw[QnQ,hb]⟩
def arrP (p:Prt) (hs:List Hp) (Y:Nat→Y768) (i:Nat):Pel:=⟨QcN (Qep p) hs i,Y (i+1),if i+1<hs.length then [] else QeY p⟩
theorem QrS {x:List UInt8} {p:Prt} {hs:List Hp} (h:QfK x p hs=0) (hfit:∀i,i<hs.length→Qbg (hs.getD i hp0).nod.priv.val (nb 9)=(hs.getD i hp0).nod.pub.val):
 ∃Y:Nat→Y768,1≤hs.length∧QnQ x p hs=(Y 0).val∧Y hs.length=Quc∧(∀ i,i<hs.length→unwE (hs.getD i hp0).nod.priv.val (Y i).val=0∧unwL (hs.getD i hp0).nod.priv.val (Y i)=arrP p hs Y i∧((QcN (Qep p) hs i).kd=1↔i+1<hs.length)):=by
 obtain⟨_,_,hbe,hsb⟩:=Qqj h
 have hz:=hbe
 rw[Qcs,Qb3]at hz
 have hpe:QeU (Qep p) hs=0:=hz _ (by simp)
 have hb3:(if (QeY p).length=480 then 0 else 2)=0:=hz _ (by simp)
 have hb:(QeY p).length=480:=by
  split at hb3
  ·assumption
  ·cases hb3
 obtain⟨_,_,h1,h5,_,_⟩:=Qel hpe
 have hlen:∀i,(pktA hs.length (fun i=>encB (QcN (Qep p) hs i)) (Qcl x (pubH hs)) (QeY p) i).length=768:=fun i=>(QoS h1 h5 (fun _=>QcC _) (fun _=>Qcd _ _ _) hb i).2.2
 refine⟨fun i=>if i<hs.length then ⟨pktA hs.length (fun i=>encB (QcN (Qep p) hs i)) (Qcl x (pubH hs)) (QeY p) i,hlen i⟩ else Quc,h1,?_,?_,fun i hi=>?_⟩
 ·simp only[if_pos (show 0<hs.length by omega)]
  rw[hsb,QjU]
 ·simp only[if_neg (Nat.lt_irrefl _)]
 ·obtain⟨u1,u2,u3,u4⟩:=Qmw x (Qep p) (QeY p) hs hbe hfit i hi
  simp only[if_pos hi]
  refine⟨u1,?_,(Qkk hpe hi).2⟩
  rw[unwL,arrP]
  simp only[u2,u4]
  congr 1
  apply Subtype.ext
  rw[unwY]
  simp only[u3]
  split
  ·rfl
  ·rfl
end Go.Proofs.YtdhgpkdjdmlphaaGreat
