/-
  Lemmas for the last text of this claim (part 18 of 20).
-/
import Derived.BigQuiet
import Derived.BigRegion
import Derived.ChangeOld
import Derived.Deep.RegionWith
import Derived.DeepKeys4
import Derived.JoinedCond
import Derived.LaidMore
import Derived.Laws.CopyOwn
import Derived.Laws.Externs
import Derived.Laws.IdiomStrings
import Derived.Laws.Tables
import Derived.Lib.AppendStr
import Derived.Lib.AppendZerosOnto
import Derived.Lib.Mul64
import Derived.Lib.SlBytesConst
import Derived.LoopN
import Derived.Maps.OwnSet
import Derived.OpenShut
import Derived.OrdersHeld
import Derived.ProofKit
import Derived.Shelf.Spec.BitsCarry
import Derived.ShutString
import Derived.Test.YtcbdgnlcknllnaaGreatProg
import Derived.Test.YtcbdgnlcknllnaaGreatRows
import Derived.WalkKit
import Derived.WalkLawsBesides
import Derived.WalkSpells
import Derived.Test.YtcbdgnlcknllnaaGreatPB
import Derived.Test.YtcbdgnlcknllnaaGreatPD
import Derived.Test.YtcbdgnlcknllnaaGreatPJ
import Derived.Test.YtcbdgnlcknllnaaGreatPN
import Derived.Test.YtcbdgnlcknllnaaGreatPO
import Derived.Test.YtcbdgnlcknllnaaGreatPP
import Derived.Test.YtcbdgnlcknllnaaGreatPQ
open Array renaming replicate → QGV
open Bool renaming and_eq_true → QFQ, not_eq_true' → QGI, or_eq_true → QHf
open List renaming replicate → QFu, getElem?_cons_succ → QFv, getElem?_cons_zero → QFw, cons_append → QFy, nil_append → QFz, length_map → QFA, getElem?_eq_getElem → QFB, getD_eq_getElem?_getD → QFC, setIfInBounds_toArray → QFD, length_append → QFF, set_cons_zero → QFG, set_cons_succ → QFH, map_toArray → QFI, take_of_length_le → QFJ, getElem?_append_right → QFK, append_assoc → QFL, length_replicate → QFM, getElem?_map → QFN, not_mem_nil → QFO, mem_cons → QFP, map_nil → QFR, getElem?_append_left → QFS, getElem?_eq_some_iff → QFU, map_cons → QFW, length_take → QFY, length_drop → QF0, take_succ_eq_append_getElem → QF5, range → QF6, take_append_drop → QF8, append_nil → QGb, eq_nil_of_length_eq_zero → QGc, drop_left' → QGe, mem_map → QGf, getElem?_eq_none → QGm, take_left' → QGv, getElem_mem → QGy, mem_append → QGC, getElem?_range → QGM, all_cons → QGN, getElem?_drop → QGR, mem_range → QGS, getElem?_take → QGX, set_append_left → QG5, singleton_append → QHa, drop_succ_cons → QHc, any_eq_true → QHh, getElem_of_mem → QHk, flatMap_cons → QHm, flatMap_append → QHG, drop_zero → QHM
open Nat renaming le_refl → QFE, lt_of_lt_of_le → QFV, zero_add → QFX, le_trans → QGh, lt_or_ge → QGE, add_zero → QG6, mul_one → QHj, add_comm → QHr, mod_one → QHP
open Option renaming toList_some → QFx
open UInt32 renaming ofInt → QGr
open UInt64 renaming ofNat → QFZ
open UInt8 renaming ofInt → QF3, toNat_inj → QGl, lt_iff_toNat_lt → QHl
namespace Go.Proofs.YtcbdgnlcknllnaaGreat
open Go.RowKit
open Go.BigFrame
theorem Qho (z:Value) (k:Nat):(Builtin.zeroCells #[z] k).toList=QFu k z:=by
 apply List.eq_replicate_iff.2
 refine⟨by simp[Builtin.zeroCells],fun b hb=>?_⟩
 simp[Builtin.zeroCells,QHP]at hb
 first|exact hb.2.symm|exact hb.2|exact hb.symm|exact hb
theorem Qgm {P:Program} (w:World) (base:Nat) (t tn ty e:TypeId) (i:TypeInfo) (kn:IntKind) (ht:P.underlying t=some (.slice e)) (htn:P.underlying tn=some (.int kn)) (hi:P.info? e=some i) (hz:i.zero=some (.int .u8 0)) (hs1:i.size=1) (hby:i.bytes=1)
 (v:Value) (n:Nat) (xs:List Value) (hown:w.ownsRow base e 1 v n xs) (k:Nat) (h0:0<k) (hm:n+k≤1048576) (hbase:base≤w.heap.size):
 ∃v' w',(Builtin.append_ #[t,tn] ty #[v,.int .i64 (k:Int)]).run P w= .ok v' w'∧w'.ownsRow base e 1 v' (n+k) (xs++QFu k (.int .u8 0))∧w.grownBy w' v.ownBlock:=by
 have hzc:(Value.int .u8 0).cells= #[Value.int .u8 0]:=rfl
 have hlen:(xs++QFu k (Value.int .u8 0)).length=(n+k)*1:=by rw[QFF,hown.1,QFM];omega
 have hml:n+k≤maxLen:=by unfold maxLen;omega
 have grown:∀(old:Nat),old<n+k→∀(row:Option Nat),
  (w.drew.alloc (.cells (xs.toArray++Builtin.zeroCells (Value.int .u8 0).cells k++Builtin.zeroCells (Value.int .u8 0).cells (grownCap w (n+k) old e-(n+k))) e)).ownsRow base e 1
    (.slice (some ⟨w.heap.size,0,none⟩) (n+k) (grownCap w (n+k) old e)) (n+k) (xs++QFu k (.int .u8 0))∧
  w.grownBy (w.drew.alloc (.cells (xs.toArray++Builtin.zeroCells (Value.int .u8 0).cells k++Builtin.zeroCells (Value.int .u8 0).cells (grownCap w (n+k) old e-(n+k))) e)) row:=by
  intro old ho row
  have hge:=grownCap_ge w (n+k) old e
  have hcm:grownCap w (n+k) old e≤maxLen:=grownCap_le_maxLen w (n+k) old e hml
  refine⟨⟨hlen,.inr ⟨w.heap.size,_,_,rfl,hbase,heap_alloc_new w.drew _,hge,hcm,?_,?_⟩⟩,⟨rfl,rfl,rfl,by simp,fun j hj _=>heap_alloc_old w.drew _ hj⟩⟩
  ·have hx:=hown.1
   simp only[Array.size_append,List.size_toArray,size_zeroCells,hzc,hx]
   simp
   omega
  ·simp only[Array.toList_append,hzc,Qho]
   rw[←hlen]
   exact List.take_left
 rcases hown.2 with ⟨rfl,rfl⟩|⟨g,cap,cur,rfl,hbg,hg,hnc,hcm,hcs,htake⟩
 ·have hx:xs=[]:=QGc (by simpa using hown.1)
  subst hx
  have hr:=Lib.run_append_nil_zeros (P:=P) w t tn ty e i _ .i64 kn ht htn hi hz k h0 (by omega) (by omega) (by rw[hby];omega)
  have hgr:=grown 0 (by omega) (Value.ownBlock (.slice none 0 0))
  simp only[QFX,QFz,Array.empty_append]at hgr ⊢
  exact⟨_,_,hr,hgr.1,hgr.2⟩
 ·by_cases hroom:n+k≤cap
  ·have hst:=run_storeCells_at P g n e (QFu k (Value.int .u8 0)) 0 cur w hg (by rw[QFM];omega) (by intro u hu;rw[(List.mem_replicate.1 hu).2];rfl)
   simp only[QG6]at hst
   have hw:IntKind.i64.wrap (k:Int)=k:=by rw[IntKind.wrap_i64];omega
   have hneg: ¬((k:Int)<0):=by omega
   have h48i: ¬(281474976710656<(k:Int)):=by omega
   have hk0:k≠0:=by omega
   have hr:(Builtin.append_ #[t,tn] ty #[.slice (some ⟨g,0,none⟩) n cap,.int .i64 (k:Int)]).run P w= .ok (.slice (some ⟨g,0,none⟩) (n+k) cap) (w.setRow g (cur.toList.take n++QFu k (Value.int .u8 0)++cur.toList.drop (n+(QFu k (Value.int .u8 0)).length)).toArray):=by
    simp[Builtin.append_,run_underlying ht,run_underlying htn,sizeOf,typeInfo,zeroValue,hi,hz,hs1,hby,hzc,Qho,asInt,asIntOf,hw,hneg,h48i,hk0,hroom,Addr.add_lit]
    simp only[QFM,QFL]at hst
    rw[hst]
    simp
   refine⟨_,_,hr,⟨hlen,.inr ⟨g,cap,_,rfl,hbg,setRow_heap w g cur _ e _ hg,hroom,hcm,?_,?_⟩⟩,⟨rfl,rfl,rfl,by simp,fun j _ hj=>setRow_other w g j _ (fun e=>hj (by simp[Value.ownBlock,e]))⟩⟩
   ·simp only[List.size_toArray,QFF,QFY,QF0,Array.length_toList,QFM]
    omega
   ·have ht':cur.toList.take n=xs:=by simpa using htake
    rw[ht',←hlen]
    exact List.take_left
  ·have holds:∀j u,xs[j]?=some u→w.drew.cell? ((⟨g,0,none⟩:Addr).add j)=some u:=fun j u hu=>hown.cells (g:=g) rfl j u hu
   have hf:=run_firstCells_some (P:=P) w.drew i.size n ⟨g,0,none⟩ n cap xs (by rw[hs1];exact hown.1) holds
   have hr:=Lib.run_append_grow_zeros (P:=P) w t tn ty e i _ .i64 kn ht htn hi hz (some ⟨g,0,none⟩) n cap xs hf k h0 (by omega) (by omega) (by omega) (by rw[hby];omega) (growslice_fits (by omega) (by rw[hby];omega))
   have hgr:=grown cap (by omega) (some g)
   exact⟨_,_,hr,hgr.1,hgr.2⟩
section
variable {P:Program} {ops:Array Oper} {rest:List Oper} {o:Oper} {a:Act} {w:World} {Q:Exit→Act→World→Prop}
theorem Qd8 (hgd:o.guard=none) (s x:Operand) (t tn:TypeId) (ho:o.op= .call { callee:=.builtin .append,args:= #[s,x],argTypes:= #[t,tn] })
 (e:TypeId) (kn:IntKind) (ht:P.underlying t=some (.slice e)) (htn:P.underlying tn=some (.int kn)) (hinfo:(P.info? e).map (fun i=>(i.zero,i.size,i.bytes))=some (some (.int .u8 0),1,1))
 (base:Nat) (v:Value) (n:Nat) (vs:List Value) (hown:w.ownsRow base e 1 v n vs) (hb:base≤w.heap.size) (k:Nat) (h0:0<k) (hs:a.eval s=v) (hx:a.eval x= .int .i64 (k:Int)) (hsz:n+k≤1048576)
 (h:∀A' c' w',w'.ownsRow base e 1 (.slice A' (n+k) c') (n+k) (vs++QFu k (.int .u8 0))→w.grownBy w' v.ownBlock→wpList P ops Q rest (a.put o.dst (.slice A' (n+k) c')) w'):
 wpList P ops Q (o :: rest) a w:=by
 obtain⟨i,hi,hz,hsize,hbytes⟩:=info_parts hinfo
 obtain⟨v',w',hrun,h2,h3⟩:=Qgm (P:=P) w base t tn o.type e i kn ht htn hi hz hsize hbytes v n vs hown k h0 hsz hb
 refine Lib.wpList_append_run w hgd s x t tn ho v (.int .i64 (k:Int)) hs hx v' w' hrun ?_
 obtain⟨A',c',rfl⟩:=Qmy h2
 exact h A' c' w' h2 h3
end
end Go.Proofs.YtcbdgnlcknllnaaGreat
namespace Go.Proofs.YtcbdgnlcknllnaaGreat
open Go.BigFrame
open Go.RowKit
section
variable {P:Program} {ops:Array Oper} {Q:Exit→Act→World→Prop} {T:World→Prop}
def wpS (P:Program) (ops:Array Oper) (Q:Exit→Act→World→Prop) (T:World→Prop):List (Nat×Bool)→Act→World→Prop
 | [],a,w=>Q .normal a w
 | (i,true) :: r,a,w=>∃o,ops[i]?=some o∧if Region.wanted o (yielded ops a.tmps) then o.quiet P a T (fun a'=>wpS P ops Q T r a' w) else wpS P ops Q T r (a.put o.dst undef) w
 | (i,false) :: r,a,w=>wpOp P ops Q i (fun a' w'=>T w'∧wpS P ops Q T r a' w') a w
def QoF (ops:Array Oper):List (Nat×Bool)→Array Bool→Bool
 | [],listed=>(Region.ready .any ops listed).isEmpty
 | (i,true) :: r,listed=>(Region.ready .any ops listed).contains i&&Region.free .any ops listed i&&((ops[i]?).map calm).getD false&&QoF ops r (listed.setIfInBounds i true)
 | (i,false) :: r,listed=>decide (Region.ready .any ops listed=[i])&&QoF ops r (listed.setIfInBounds i true)
theorem simS (hsel:∀(j:Nat) (o:Oper) cs b,ops[j]?=some o→o.op≠ .select cs b) (hQ1:∀c a d v w,Q (.panic c) (a.put d v) w→Q (.panic c) a w):
 ∀(l:List (Nat×Bool)) (listed:Array Bool) (a:Act) (w:World),QoF ops l listed=true→T w→wpS P ops Q T l a w→Qh7 P ops Q T l.length listed a w
 | [],listed,a,w,hB,_,h=>⟨by simpa [QoF] using hB,h⟩
 | (i,true) :: r,listed,a,w,hB,hT,h=>by
   simp only[QoF,QFQ]at hB
   obtain⟨⟨⟨hrd,hf⟩,hcm⟩,hok⟩:=hB
   obtain⟨o,ho,h⟩:=h
   have hri:i∈Region.ready .any ops listed:=by simpa using hrd
   have hcm':calm o=true:=by simpa [ho] using hcm
   have next:∀v,YieldsIf P ops T o v a→wpS P ops Q T r (a.put o.dst v) w→Qh7 P ops Q T (r.length+1) listed a w:=fun v hy hnx=>
    Qh5 ho hsel (fun c a w=>hQ1 c a _ _ w) r.length listed a w (Region.free_spec ho hf) hri hy hT (simS hsel hQ1 r _ _ w hok hT hnx)
   by_cases hw:Region.wanted o (yielded ops a.tmps)=true
   ·rw[if_pos hw]at h
    obtain⟨v,hy,hnx⟩:=Qcl hcm' hw h
    exact next v hy hnx
   ·rw[if_neg hw]at h
    exact next undef (.inr ⟨by simpa using hw,rfl⟩) h
 | (i,false) :: r,listed,a,w,hB,hT,h=>by
   simp only[QoF,QFQ,decide_eq_true_eq]at hB
   obtain⟨hrd,hok⟩:=hB
   refine⟨fun he=>(by rw[hrd]at he;cases he),fun j hj=>?_⟩
   rw[hrd]at hj
   obtain rfl:j=i:=by simpa using hj
   exact wpOp_mono (fun a' w' h'=>⟨h'.1,simS hsel hQ1 r _ a' w' hok h'.1 h'.2⟩) h
def Qc0 (P:Program) (l:List Oper) (Q:Exit→Act→World→Prop) (T:World→Prop) (qs:List Nat):List (List Nat×Nat)→Act→World→Prop
 | [],a,w=>wpQuiet P l.toArray T (fun a'=>wpList P l.toArray Q [] a' w) (pick l qs) a
 | (q,i) :: r,a,w=>wpQuiet P l.toArray T (fun a'=>wpList P l.toArray (Exit.then (fun a'' w''=>T w''∧Qc0 P l Q T qs r a'' w'') Q) (pick l [i]) a' w) (pick l q) a
theorem Qgh {l:List Oper} {Qa:Act→Prop} {r:List (Nat×Bool)} {w:World} (hQa:∀a,Qa a→wpS P l.toArray Q T r a w):∀(qs:List Nat),(qs.all fun i=>decide (i<l.length))=true→
 ∀a,wpQuiet P l.toArray T Qa (pick l qs) a→wpS P l.toArray Q T (qs.map (·,true)++r) a w
 | [],_,a,h=>hQa a h
 | i :: qs,hb,a,h=>by
   simp only[QGN,QFQ,decide_eq_true_eq]at hb
   have hi:l[i]?=some (l[i]'hb.1):=QFB hb.1
   refine⟨l[i]'hb.1,by simp[hb.1],?_⟩
   simp only[pick,hi,QFx,QHa,wpQuiet]at h
   by_cases hw:Region.wanted (l[i]'hb.1) (yielded l.toArray a.tmps)=true
   ·rw[if_pos hw]at h ⊢
    exact Oper.quiet_mono (fun a' h'=>Qgh hQa qs hb.2 a' h') h
   ·rw[if_neg hw]at h ⊢
    exact Qgh hQa qs hb.2 _ h
def Qsy (qs:List Nat):List (List Nat×Nat)→List (Nat×Bool)
 | []=>qs.map (·,true)++[]
 | (q,i) :: r=>q.map (·,true)++((i,false) :: Qsy qs r)
def QtQ (l:List Oper) (qs:List Nat) (segs:List (List Nat×Nat)):Bool:=
 Region.noSelect l.toArray&&(qs.all fun i=>decide (i<l.length))&&(segs.all fun s=>decide (s.2<l.length)&&s.1.all fun i=>decide (i<l.length)) &&
 QoF l.toArray (Qsy qs segs) (QGV l.length false)&&decide ((Qsy qs segs).length=l.length)
theorem QkU {l:List Oper} {qs:List Nat} (hq:(qs.all fun i=>decide (i<l.length))=true):
 ∀(segs:List (List Nat×Nat)),(segs.all fun s=>decide (s.2<l.length)&&s.1.all fun i=>decide (i<l.length))=true→∀a w,Qc0 P l Q T qs segs a w→wpS P l.toArray Q T (Qsy qs segs) a w
 | [],_,a,w,h=>Qgh (fun a h=>h) qs hq a h
 | (q,i) :: r,hb,a,w,h=>by
   simp only[QGN,QFQ,decide_eq_true_eq]at hb
   refine Qgh (fun a h=>?_) q hb.1.2 a h
   exact wpOp_mono (fun a' w' h'=>⟨h'.1,QkU hq r hb.2 a' w' h'.2⟩) (Qci hb.1.1 h)
theorem Qfn {id:Nat} {a:Act} {w:World} {l:List Oper} (T:World→Prop) (segs:List (List Nat×Nat)) (qs:List Nat) (hm:P.follows .mixedOrders=true) (hB:QtQ l qs segs=true)
 (hQ:∀c a d v w,Q (.panic c) (a.put d v) w→Q (.panic c) a w) (h:T w.drew∧Qc0 P l Q T qs segs a w.drew):(Code.region id l.toArray true).wp P Q a w:=by
 simp only[QtQ,QFQ,decide_eq_true_eq]at hB
 obtain⟨⟨⟨⟨hs,hq⟩,hsg⟩,hsq⟩,hlen⟩:=hB
 refine wp_region_any hm (Qhv (T:=T) _ _ _ _ ?_)
 have:=simS (P:=P) (Q:=Q) (T:=T) (Region.noSelect_spec hs) hQ (Qsy qs segs) (QGV l.length false) a w.drew hsq h.1 (QkU hq segs hsg a _ h.2)
 rw[hlen]at this
 simpa using this
end
theorem Spared.later {w w1 w2:World} {bad:List Nat} (h:Spared w bad w1) (hl:Later w1 w2):Spared w bad w2:=
 ⟨QGh h.1 hl.size,fun b hb hn=>(hl.below.block b (QFV hb h.1)).trans (h.2 b hb hn)⟩
theorem Spared.grown {w w1 w2:World} {bad:List Nat} {row:Option Nat} (h:Spared w bad w1) (hg:w1.grownBy w2 row) (hr:∀k,row=some k→w.heap.size≤k):Spared w bad w2:=
 ⟨QGh h.1 hg.size,fun b hb hn=>(hg.block b (QFV hb h.1) (fun e=>by have:=hr b e.symm;omega)).trans (h.2 b hb hn)⟩
theorem Spared.fresh {w w1 w2:World} {bad:List Nat} {g:Nat} (h:Spared w bad w1) (ho:Only g w1 w2) (hg:w.heap.size≤g):Spared w bad w2:=
 h.grown ho (fun k e=>by cases e;exact hg)
end Go.Proofs.YtcbdgnlcknllnaaGreat
namespace Go.Proofs.YtcbdgnlcknllnaaGreat
open Go.RowKit
open Go.BigFrame
theorem Qtb (xs ys:List UInt8):xorB xs ys=xorB ys xs:=List.zipWith_comm_of_comm (fun x y=>UInt8.xor_comm x y)
set_option maxRecDepth 100000 in
set_option maxHeartbeats 4000000 in
theorem Qku (at0:Int) (B:Option Addr) (n c:Nat) (key b S:List UInt8) (w:World) (hkl:key.length=32) (hb:RdB w B n b) (hn0:0<n) (hn:n≤1048576) (hS:S.length=n)
 (hBy:∀g w,RdB w (some ⟨g,0,none⟩) 32 key→Calls Tryz.prog 104 #[.slice (some ⟨g,0,none⟩) 32 32,.int .i64 at0,.int .i64 (n:Int)] w fun e w'=>∃A' c',e= .returned (.slice A' n c')∧OwnB w' w.heap.size A' n c' S∧Later w w'):
 Calls Tryz.prog 84 #[.agg (key.map W8).toArray,.int .i64 at0,.slice B n c] w fun e w'=>∃A' c',e= .returned (.slice A' n c')∧OwnB w' w.heap.size A' n c' (xorB b S)∧Later w w':=by
 have hbl:=hb.len
 obtain⟨b0,p,rfl,hb00,_⟩:=hb.2 hn0
 have hk:Blk (w.alloc (.cells (key.map W8).toArray 45)) w.heap.size 45 (key.map W8):=Blk.new _ _ _
 have L:=Qaa w (.cells (key.map W8).toArray 45)
 have hB2:=hid hBy
 have hlen:S.length=b.length:=by omega
 have hX:=hid (fun k=>Qei hlen k)
 have hG:=hid (fun k (h:k<S.length)=>Qhl hlen h)
 have hSt:=hid (fun k (h:k<S.length)=>Qf2 hlen h)
 have hA:=hid (Qhr hlen)
 have hN:=hid (Qf8 S b)
 have hxl:=Qa2 hlen
 rw[Qtb b S]
 clear hBy
 go_enter Tryz.func84,Tryz.ntmps84
 go_wp2_with fail
 (refine (hB2.out _ _ (Qec hk hkl)).mono ?_);rintro e w2 ⟨A2,c2,rfl,o2,l2⟩
 obtain⟨g2,r2,rfl,hg2,hb2,hc2,hcc2⟩:=Qhe o2 hn0
 have hm2:(S.map W8++r2).length≤maxLen:=Qth o2 hc2
 have hgw:w.heap.size≤g2:=QGh L.size hg2
 replace hc2:=hid hc2
 have L2:=L.trans l2
 clear hB2 hk L l2 hg2 o2
 go_wp2_with fail
 go_loopw [8] (fun i wr=>∃k:Nat,k≤n∧i= .int .i64 k∧Blk wr g2 5 ((QfW S b k).map W8++r2)∧Later w wr) (fun i _=>n-(intOf i).toNat)
 case atStart=>exact⟨0,by omega,rfl,by rw[hN.out];exact hb2,L2⟩
 case round=>
  clear hb2 L2
  obtain⟨k,hk,rfl,hb2,L2⟩:=hrel
  by_cases hlt:k<n
  ·have hlb:b0<wr.drew.heap.size:=QFV hb00 (L2.trans (Qab _)).size
   have hlg:g2<wr.drew.heap.size:=hb2.drew.lt
   have c1:=QcW (hb.later (L2.trans (Qab wr))) k hlt
   have hxk:=hX.out k (by omega)
   have d1:=hb2.drew.cellD k (show ((QfW S b k).map W8++r2)[k]?=some (W8 (S.getD k 0)) by rw[QFS (by rw[QFA];omega),QFN,hG.out k (by omega)];rfl)
   have HS:=hid (hSt.out k (by omega))
   have hb3:=hb2.drew
   have L3:=L2.trans (Qab wr)
   generalize S.getD k 0=x at *
   generalize b.getD k 0=y at *
   go_wp2_with fail
   refine Qad [] [0,1,2,3,4,5,6,7,8,9,10,11] [12] (by as_aux_lemma=>kernel_rfl) (by as_aux_lemma=>kernel_rfl) (by intro _ _ d _ _ h;cases d<;>exact h) ?_
   simp only[Qah,pick,QFv,QFw,QFx,QFy,QFz]
   repeat (go_big_quiet_step (fail))
   refine wpQuiet_nil ?_
   go_wp2_with (first
    | (refine Qac rfl rfl _ _ _ rfl g2 k _ _ hb3 rfl (by rw[QFF,QFA];omega) rfl Qb0 ?_;intro v' w5 hv' hb5 ho5;simp[go_sem]at hv';subst hv')
    | fail)
   rw[QG5 _ _ (by rw[QFA];omega),QbC,HS.out]at hb5
   go_roundw
   case rel=>exact⟨k+1,by omega,by go_num,hb5,L3.only ho5 hgw⟩
   case measure=>simp[intOf];omega
  ·obtain rfl:k=n:=by omega
   have hAll:=hA.out
   rw[hS]at hAll
   rw[hAll]at hb2
   go_wp2_with fail
   go_ret
   exact⟨some ⟨g2,0,none⟩,c2,rfl,QpZ hb2 hgw (by omega) (by rw[hc2.out,QFF,QFF,QFA,QFA];omega) (by rw[QFF,QFA]at hm2 ⊢;omega),L2⟩
theorem Qnd (B:Option Addr) (n c:Nat) (key b:List UInt8) (w:World) (hkl:key.length=32) (hb:RdB w B n b) (hn0:0<n) (hn:n≤65536):
 Calls Tryz.prog 84 #[.agg (key.map W8).toArray,.int .i64 0,.slice B n c] w fun e w'=>∃A' c',e= .returned (.slice A' n c')∧OwnB w' w.heap.size A' n c' (xorB b (chaS key n))∧Later w w':=
 Qku 0 B n c key b (chaS key n) w hkl hb hn0 (by omega) (QaA key n) (fun g w h=>QhO (some ⟨g,0,none⟩) 32 n key w h hn)
set_option maxRecDepth 100000 in
set_option maxHeartbeats 2000000 in
theorem Qqo (A B:Option Addr) (n c m d:Nat) (key al be:List UInt8) (w:World) (hkl:key.length=32) (ha:RdB w A n al) (hb:RdB w B m be) (hn:n≤1048576) (hm:m≤1048576):
 Calls Tryz.prog 85 #[.agg (key.map W8).toArray,.slice A n c,.slice B m d] w fun e w'=>∃A' c',e= .returned (.slice A' 16 c')∧OwnB w' w.heap.size A' 16 c' (tagB key al be)∧Later w w':=by
 have hk:Blk (w.alloc (.cells (key.map W8).toArray 45)) w.heap.size 45 (key.map W8):=Blk.new _ _ _
 have L:=Qaa w (.cells (key.map W8).toArray 45)
 have hal:=ha.len
 have hbl:=hb.len
 have hSh:=hid (fun A c d (w:World) (h1:RdB w (some ⟨c,0,none⟩) 32 key) h2=>QnP (some ⟨c,0,none⟩) A 32 32 (n+m) d key (al++be) w h1 (by omega) h2 (by omega))
 have hT:Hid ((Qbm key (al++be)).take 16=tagB key al be):=hid rfl
 rw[hT.out]at hSh
 generalize tagB key al be=TG at *
 go_enter Tryz.func85,Tryz.ntmps85
 go_wp2_with fail
 generalize w.alloc _=w1 at *
 refine Qfn (Spared w1 []) [([0,1,3],2),([],4),([],5)] [6] (by as_aux_lemma=>kernel_rfl) (by as_aux_lemma=>kernel_rfl) (by intro _ _ d _ _ h;cases d<;>exact h) ⟨Spared.refl _ _,?_⟩
 simp only[Qc0,pick,QFv,QFw,QFx,QFy,QFz]
 repeat (first|(go_big_quiet_step (fail))|(go_big_quiet_want;go_big_quiet_op;refine⟨_,fun _ _=>rfl,?_⟩;go_big_quiet_on))
 refine wpQuiet_nil ?_
 go_wp2_with fail
 (refine (QbD A n c al _ ((ha.later L).later (Qab _)) (by omega)).mono ?_);rintro e w2 ⟨A2,c2,rfl,o2,l2⟩
 have S2:=(Spared.refl w1 []).later l2
 go_wp2_with fail
 refine⟨S2,?_⟩
 try simp only[Qc0,pick,QFv,QFw,QFx,QFy,QFz]
 repeat (first|(go_big_quiet_step (fail))|(go_big_quiet_want;go_big_quiet_op;refine⟨_,fun _ _=>rfl,?_⟩;go_big_quiet_on))
 refine wpQuiet_nil ?_
 go_wp2_with (first
  | (refine Qal rfl _ _ _ rfl 5 _ 1 Tryz.underlying25 Qbq rfl w1.drew _ n _ o2 l2 B m d _ (Rd.later hb ((L.trans (Qab _)).trans l2)) (Qay _) rfl rfl (by omega) (by omega) ?_;intro A3 c3 w3 hown3 hl3 hg3 _)
  | fail)
 simp only[Act.put,QFD,QFH,QFG]
 have S3:=S2.grown hg3 (fun k hk=>(World.ownsRow.lt o2 k hk).1)
 refine⟨S3,?_⟩
 try simp only[Qc0,pick,QFv,QFw,QFx,QFy,QFz]
 repeat (first|(go_big_quiet_step (fail))|(go_big_quiet_want;go_big_quiet_op;refine⟨_,fun _ _=>rfl,?_⟩;go_big_quiet_on))
 refine wpQuiet_nil ?_
 go_wp2_with fail
 (refine (hSh.out _ _ _ _ (Qec ((hk.later (Qab _)).later hl3) hkl) (QeD hown3).rd).mono ?_);rintro e w4 ⟨A4,c4,rfl,o4,l4⟩
 go_wp2_with fail
 refine⟨S3.later l4,?_⟩
 try simp only[Qc0,pick,QFv,QFw,QFx,QFy,QFz]
 repeat (first|(go_big_quiet_step (fail))|(go_big_quiet_want;go_big_quiet_op;refine⟨_,fun _ _=>rfl,?_⟩;go_big_quiet_on))
 refine wpQuiet_nil ?_
 go_wp2_with fail
 go_ret
 exact⟨_,_,rfl,o4.mono ((L.trans (Qab _)).trans hl3).size,((L.trans (Qab _)).trans hl3).trans l4⟩
theorem Qxa (m:Y16) (h:∀j,j<16→m.val.getD j 0=0):(m.val==QaH.val)=true:=by
 rw[beq_iff_eq]
 have hl:=m.2
 apply List.ext_getElem?
 intro j
 show _=(QFu 16 (0:UInt8))[j]?
 by_cases hj:j<16
 ·rw[List.getElem?_replicate_of_lt hj,QFB (by omega)]
  have:=h j hj
  rw[QFC,QFB (by omega)]at this
  rw[←this]
  rfl
 ·rw[QGm (by omega),QGm (by rw[QFM];omega)]
theorem QxF (m:Y16) {j:Nat} (hj:j<16) (h:m.val.getD j 0≠0):(m.val==QaH.val)=false:=by
 rw[beq_eq_false_iff_ne]
 intro e
 apply h
 rw[e]
 show (QFu 16 (0:UInt8)).getD j 0=0
 rw[QFC,List.getElem?_replicate_of_lt hj]
 rfl
set_option maxRecDepth 100000 in
set_option maxHeartbeats 1000000 in
theorem QkQ (c:Cmd) (w:World):Calls Tryz.prog 78 #[.agg (CC c).toArray] w fun e w'=>e= .returned (.bool (!(c.ma.val==QaH.val)))∧Later w w':=by
 have hb:Blk (w.alloc (.cells (CC c).toArray 53)) w.heap.size 53 (CC c):=Blk.new _ _ _
 obtain⟨_,_,_,_,c4⟩:=QcS hb
 have L:=Qaa w (.cells (CC c).toArray 53)
 have hml:=c.ma.2
 have h1:=hid (Qxa c.ma)
 have h2:=hid (fun j hj=>QxF c.ma (j:=j) hj)
 have hc4:=hid (fun j (hj:j<16)=>c4 j (W8 (c.ma.val.getD j 0)) (by rw[QFN,QFC,QFB (by omega)];rfl))
 have hlt:=hb.lt
 clear c4 hb
 go_enter Tryz.func78,Tryz.ntmps78
 go_wp2_with fail
 generalize w.alloc _=w1 at *
 generalize w.heap.size=g at *
 go_loopw [3] (fun i wr=>∃k:Nat,k≤16∧i= .int .i64 k∧Hid (∀ j,j<k→c.ma.val.getD j 0=0)∧Later w1 wr) (fun i _=>16-(intOf i).toNat)
 case atStart=>exact⟨0,by omega,rfl,hid (fun j h=>by omega),Later.refl w1⟩
 case round=>
  obtain⟨k,hk,rfl,hall,L1⟩:=hrel
  by_cases hlt':k<16
  ·have hc:=(L1.below.cell (p:=⟨g,4+k,none⟩) hlt).trans (hc4.out k hlt')
   have hbad:=hid (h2.out k hlt')
   have hstep:Hid (c.ma.val.getD k 0=0→∀j,j<k+1→c.ma.val.getD j 0=0):=hid (fun h j hj=>by
    by_cases e:j=k
    ·rw[e,h]
    ·exact hall.out j (by omega))
   generalize c.ma.val.getD k 0=z at *
   cases hz:(z==0)
   ·have hz':(z != 0)=true:=by rw[bne,hz];rfl
    have hne:Hid (z≠0):=hid (by simpa using hz)
    go_wp2
    go_ret
    exact⟨by rw[hbad.out hne.out];rfl,L.trans L1⟩
   ·have hz':(z != 0)=false:=by rw[bne,hz];rfl
    have hze:Hid (z=0):=hid (by simpa using hz)
    go_wp2
    exact⟨⟨k+1,by omega,by go_num,hid (hstep.out hze.out),L1⟩,by simp[intOf];omega⟩
  ·obtain rfl:k=16:=by omega
   have hv:=h1.out hall.out
   go_wp2
   go_ret
   exact⟨by rw[hv];rfl,L.trans L1⟩
theorem Qt1 (c:Cmd):cmdE c=if c.kd<1∨4<c.kd then 1 else if ((c.kd==1&&c.nx==0)||(!(c.kd==1)&& !(c.nx==0))||(!(c.kd==4)&& !(c.ma.val==QaH.val)))=true then 3 else if 1000000<c.dl then 11 else 0:=by
 rw[cmdE]
 congr 1
 have:(Qdm c=false)=(((c.kd==1&&c.nx==0)||(!(c.kd==1)&& !(c.nx==0))||(!(c.kd==4)&& !(c.ma.val==QaH.val)))=true):=by
  rw[Qdm,show QFu 16 (0:UInt8)=QaH.val from rfl,bne]
  cases c.kd==1<;>cases c.nx==0<;>cases c.kd==4<;>cases c.ma.val==QaH.val<;>simp
 simp only[this]
set_option maxRecDepth 100000 in
set_option maxHeartbeats 2000000 in
theorem QqV (c:Cmd) (w:World):Calls Tryz.prog 103 #[.agg (CC c).toArray] w fun e w'=>e= .returned (.int .i64 (cmdE c:Nat))∧Later w w':=by
 have hb:Blk (w.alloc (.cells (CC c).toArray 53)) w.heap.size 53 (CC c):=Blk.new _ _ _
 obtain⟨c0,_,c2,c3,_⟩:=QcS hb
 have L:=Qaa w (.cells (CC c).toArray 53)
 have hM:=hid (QkQ c)
 have hE:=hid (Qt1 c)
 generalize cmdE c=E at *
 generalize hm0:(c.ma.val==QaH.val)=m at *
 clear hm0
 by_cases hk:c.kd<1∨4<c.kd
 ·have HE:=hE.out
  rw[if_pos hk]at HE
  rw[HE]
  clear HE hE
  by_cases h1:c.kd<1
  all_goals
   have h4:c.kd<1∨4<c.kd:=hk
   simp only[h1,true_or,false_or]at h4
   go_enter Tryz.func103,Tryz.ntmps103
   go_wp2_with fail
   go_ret
   exact⟨rfl,L⟩
 ·have HE:=hE.out
  rw[if_neg hk]at HE
  have h1: ¬c.kd<1:=fun h=>hk (.inl h)
  have h4: ¬ 4<c.kd:=fun h=>hk (.inr h)
  replace hE:=hid HE
  clear HE hk
  go_enter Tryz.func103,Tryz.ntmps103
  cases e1:(c.kd==1)<;>cases e2:(c.nx==0)
  all_goals
   have n1:(c.kd != 1)= !(c.kd==1):=rfl
   have n2:(c.nx != 0)= !(c.nx==0):=rfl
   have n4:(c.kd != 4)= !(c.kd==4):=rfl
   rw[e1]at n1
   rw[e2]at n2
   have HE:=hE.out
   rw[e1,e2]at HE
  case false.false=>
   replace HE:=hid (show E=3 from HE)
   go_wp2_with fail
   go_ret
   exact⟨by rw[HE.out];rfl,L⟩
  case true.true=>
   replace HE:=hid (show E=3 from HE)
   go_wp2_with fail
   go_ret
   exact⟨by rw[HE.out];rfl,L⟩
  all_goals
   cases e4:(c.kd==4)
   ·rw[e4]at n4 HE
    replace HE:=hid (show E=if (!m)=true then 3 else if 1000000<c.dl then 11 else 0 from HE)
    go_wp2_with (first
     | (refine Qdc rfl _ rfl hb rfl ?_)
     | fail)
    (with_reducible refine (hM.out _).mono ?_);rintro e w1 ⟨rfl,l1⟩
    replace c2:=(l1.below.cell (p:=⟨w.heap.size,2,none⟩) hb.lt).trans c2
    cases m
    ·replace HE:=hid (show E=3 from HE.out)
     go_wp2_with fail
     go_ret
     exact⟨by rw[HE.out];rfl,L.trans l1⟩
    ·replace HE:=hid (show E=if 1000000<c.dl then 11 else 0 from HE.out)
     by_cases hd:1000000<c.dl
     all_goals
      go_wp2_with fail
      go_ret
      exact⟨by rw[HE.out];(first|rw[if_pos hd]|rw[if_neg hd]);rfl,L.trans l1⟩
   ·rw[e4]at n4 HE
    replace HE:=hid (show E=if 1000000<c.dl then 11 else 0 from HE)
    by_cases hd:1000000<c.dl
    all_goals
     go_wp2_with fail
     go_ret
     exact⟨by rw[HE.out];(first|rw[if_pos hd]|rw[if_neg hd]);rfl,L⟩
theorem QAv {w:World} {b p n:Nat} {bs:List UInt8} (h:RdB w (some ⟨b,p,none⟩) n bs) (k m:Nat) (hk:k+m≤n) (hk0:0<m):RdB w (some ⟨b,p+k,none⟩) m (subB bs k m):=by
 have h1:=(RdB.cut h (k:=k) (c:=n+1) (by omega) (by omega)).take (m:=m) (by omega)
 rw[show cutA (some ⟨b,p,none⟩) k (n+1)=some ⟨b,p+k,none⟩ by
  rw[cutA,if_neg (by omega)]
  show some ((⟨b,p,none⟩:Addr).add k)=_
  rw[Qda]]at h1
 exact h1
section
variable {ops:Array Oper} {rest:List Oper} {o:Oper} {a:Act} {w:World} {Q:Exit→Act→World→Prop}
end
end Go.Proofs.YtcbdgnlcknllnaaGreat
namespace Go.Proofs.YtcbdgnlcknllnaaGreat
open Go.RowKit
structure Hp where
 nod:Nod
 delay:Int
 flags:Int
def hp0:Hp:=⟨nod0,0,0⟩
def HC (x:Hp):List Value:=NC x.nod++[.int .i64 x.delay,.int .i64 x.flags]
theorem Qcm (x:Hp):(HC x).length=68:=by rw[HC,QFF,QaJ];rfl
theorem QCw (x:Hp):∀u∈HC x,u.oneCell'=true:=by
 intro u hu
 rw[HC]at hu
 rcases QGC.1 hu with h|h
 ·exact Qx3 _ u h
 ·simp only[QFP,QFO,or_false]at h
  rcases h with rfl|rfl<;>rfl
abbrev RdH:World→Option Addr→Nat→List Hp→Prop:=RdF HC 68 hp0
theorem QyZ (x:Hp) {i:Nat} {v:Value} (h:(NC x.nod)[i]?=some v):(HC x)[i]?=some v:=by
 rw[HC,QFS (QFU.1 h).1]
 exact h
theorem Qlu (x:Hp):(HC x)[66]?=some (.int .i64 x.delay):=by
 rw[HC,QFK (by rw[QaJ];omega),QaJ]
 rfl
theorem Qlc (x:Hp):(HC x)[67]?=some (.int .i64 x.flags):=by
 rw[HC,QFK (by rw[QaJ];omega),QaJ]
 rfl
end Go.Proofs.YtcbdgnlcknllnaaGreat
namespace Go.Proofs.YtcbdgnlcknllnaaGreat
open Go.RowKit
open Go.BigFrame
theorem QmF {P:Program} {d n k:Nat} {t:TypeId} {f:Field} {fs:List Field} {fs':Array Field} (hf:f.type=t) (hu:P.underlying t=some (.struct fs')) (hst:P.stoodInHeld t=false) (hs:(P.info? t).map (·.size)=some n) (hn:f.name≠ "_")
 {xs ys ps qs:List Value} (ho:f.offset=k) (hp:(xs.drop k).take n=ps) (hq:(ys.drop k).take n=qs) (b:Bool) (w:World) (hb:(Op.eqFields (d+1) ps.toArray qs.toArray fs'.toList).run P w= .ok b w):
 (Op.eqFields (d+2) xs.toArray ys.toArray (f :: fs)).run P w=if b then (Op.eqFields (d+2) xs.toArray ys.toArray fs).run P w else .ok false w:=by
 have e:P.fieldsOf t=fs':=by unfold Program.fieldsOf;rw[hu]
 rw[Op.eqFields,if_pos hn]
 simp only[Sem.run_bind,hf,ho,Qeq hu rfl hs xs _ hp,Qeq hu rfl hs ys _ hq,Result.andThen_ok]
 rw[run_equalIn_struct w (d+1) t ps.toArray qs.toArray (by rw[e];exact hu) hst,e,hb]
 simp only[Result.andThen_ok]
 cases b<;>simp
theorem QzN:(Tryz.prog.info? 98).map (·.size)=some 480:=by kernel_rfl
set_option maxRecDepth 100000 in
theorem QAt (d:Nat) (x y:List UInt8) (hx:x.length=288) (hy:y.length=288) (w:World) {fs:Array Field} (hu:Tryz.prog.underlying 97=some (.struct fs)):
 (Op.eqFields (d+2) (x.map W8).toArray (y.map W8).toArray fs.toList).run Tryz.prog w= .ok (x==y) w:=by
 rw[Tryz.underlying97]at hu
 cases hu
 have l1:∀off n,off+n≤288→(subB x off n).length=n:=fun off n h=>Qau (by omega)
 have l2:∀off n,off+n≤288→(subB y off n).length=n:=fun off n h=>Qau (by omega)
 rw[Qcg (k:=0) rfl (by decide) rfl (QbM x 0 32) (QbM y 0 32) (l1 _ _ (by omega)) (l2 _ _ (by omega)),
  Qdy (k:=32) rfl Tryz.underlying51 QoO Qb0 Tryz.underlying5 (by decide) rfl (QbM x 32 16) (QbM y 32 16) (l1 _ _ (by omega)) (l2 _ _ (by omega)),
  Qdy (k:=48) rfl Tryz.underlying95 Qz4 Qb0 Tryz.underlying5 (by decide) rfl (QbM x 48 240) (QbM y 48 240) (l1 _ _ (by omega)) (l2 _ _ (by omega)),Qdu]
 have h:(x==y)=(subB x 0 32==subB y 0 32&&(subB x 32 16==subB y 32 16&&subB x 48 240==subB y 48 240)):=by
  rw[Qn3 x y 48 240 (by omega) (by omega),Qk4 x y 32 16,Qk4 x y 0 32]
  rfl
 rw[h]
 cases subB x 0 32==subB y 0 32<;>cases subB x 32 16==subB y 32 16<;>cases subB x 48 240==subB y 48 240<;>rfl
abbrev Y768:={l:List UInt8 // l.length=768}
theorem QA6:Tryz.prog.eqGuardType Tryz.prog.depth 100=false:=by kernel_rfl
@[go_sem high] theorem QAT (op:BinOp) (x y:Operand) (xs ys:Array Value) (w:World):(eqGuard op 100 x y (.agg xs) (.agg ys)).run Tryz.prog w= .ok () w:=run_eqGuard_agg w op _ x y xs ys QA6
set_option maxRecDepth 100000 in
theorem QiD (x y:List UInt8) (hx:x.length=768) (hy:y.length=768) (w:World) {fs:Array Field} (hu:Tryz.prog.underlying 100=some (.struct fs)):
 (Op.eqFields 9999 (x.map W8).toArray (y.map W8).toArray fs.toList).run Tryz.prog w= .ok (x==y) w:=by
 rw[Tryz.underlying100]at hu
 cases hu
 have l1:(subB x 0 288).length=288:=Qau (by omega)
 have l2:(subB y 0 288).length=288:=Qau (by omega)
 have l3:(subB x 288 480).length=480:=Qau (by omega)
 have l4:(subB y 288 480).length=480:=Qau (by omega)
 rw[QmF (d:=9997) (k:=0) rfl Tryz.underlying97 (by kernel_rfl) QdH (by decide) rfl (QbM x 0 288) (QbM y 0 288) _ w (QAt 9996 _ _ l1 l2 w Tryz.underlying97),
  Qdy (d:=9997) (k:=288) rfl Tryz.underlying98 QzN Qb0 Tryz.underlying5 (by decide) rfl (QbM x 288 480) (QbM y 288 480) l3 l4,Qdu]
 have h:(x==y)=(subB x 0 288==subB y 0 288&&subB x 288 480==subB y 288 480):=by
  rw[Qn3 x y 288 480 (by omega) (by omega),Qk4 x y 0 288]
  rfl
 rw[h]
 cases subB x 0 288==subB y 0 288<;>cases subB x 288 480==subB y 288 480<;>rfl
@[go_sem high] theorem QAh (x y:Y768) (w:World):(binOp .eql 100 (.agg (x.val.map W8).toArray) (.agg (y.val.map W8).toArray)).run Tryz.prog w= .ok (.bool (x.val==y.val)) w:=by
  rw[Qhn Tryz.underlying100 (by kernel_rfl),QiD _ _ x.2 y.2 w Tryz.underlying100]
  rfl
@[go_sem high] theorem Qzp (x y:Y768) (w:World):(binOp .neq 100 (.agg (x.val.map W8).toArray) (.agg (y.val.map W8).toArray)).run Tryz.prog w= .ok (.bool (!(x.val==y.val))) w:=by
  rw[QiW Tryz.underlying100 (by kernel_rfl),QiD _ _ x.2 y.2 w Tryz.underlying100]
  rfl
section
variable {ops:Array Oper} {rest:List Oper} {o:Oper} {a:Act} {w:World} {Q:Exit→Act→World→Prop}
end
def badH (h:Hp):Bool:=decide (h.delay<0)||decide (1000000<h.delay)||decide (h.flags<0)||decide (255<h.flags)
def Qw3 (c:Cmd):Bool:=decide (c.kd<2)||decide (4<c.kd)
def Qgj (c:Cmd) (hs:List Hp):Nat:=
 if Qw3 c=true then 1 else if hs.any badH=true then 1 else if hs.length<1∨5<hs.length then 2 else if Qdm c=false then 3 else if (hs.drop 1).any (fun h=>h.nod.id==0)=true then 3 else 0
def QbV (c:Cmd) (hs:List Hp) (i:Nat):Cmd:=
 if i+1<hs.length then ⟨1,QF3 (hs.getD i hp0).flags,QGr (hs.getD i hp0).delay,(hs.getD (i+1) hp0).nod.id,QaH⟩
 else ⟨c.kd,QF3 (hs.getD i hp0).flags,QGr (hs.getD i hp0).delay,0,c.ma⟩
theorem Qsz {h:Hp} (e:badH h=false):0≤h.delay∧h.delay≤1000000∧0≤h.flags∧h.flags≤255:=by
 simp only[badH,Bool.or_eq_false_iff,decide_eq_false_iff_not]at e
 omega
theorem QBJ {hs:List Hp} {p:Hp→Bool} (h:hs.any p=false) {i:Nat} (hi:i<hs.length):p (hs.getD i hp0)=false:=by
 rw[List.any_eq_false]at h
 rw[QFC,QFB hi]
 simpa using h _ (QGy hi)
theorem Qe3 {c:Cmd} {hs:List Hp} (h:Qgj c hs=0):Qw3 c=false∧hs.any badH=false∧1≤hs.length∧hs.length≤5∧Qdm c=true∧(hs.drop 1).any (fun h=>h.nod.id==0)=false:=by
 unfold Qgj at h
 split at h
 ·cases h
 ·split at h
  ·cases h
  ·split at h
   ·cases h
   ·split at h
    ·cases h
    ·split at h
     ·cases h
     ·rename_i h1 h2 h3 h4 h5
      exact⟨by simpa using h1,by simpa using h2,by omega,by omega,by simpa using h4,by simpa using h5⟩
theorem Qlw {c:Cmd} {hs:List Hp} (h:Qgj c hs=0) {i:Nat} (hi:i<hs.length):cmdE (QbV c hs i)=0∧((QbV c hs i).kd=1↔i+1<hs.length):=by
 obtain⟨h1,h2,_,_,h5,h6⟩:=Qe3 h
 have hb:=Qsz (QBJ h2 hi)
 have hd: ¬(1000000:UInt32)<QGr (hs.getD i hp0).delay:=by
  rw[UInt32.lt_iff_toNat_lt]
  have:=Qhq (hs.getD i hp0).delay hb.1 (by omega)
  show ¬(1000000<(QGr (hs.getD i hp0).delay).toNat)
  omega
 have hkd:c.kd≠1∧ ¬(c.kd<1∨4<c.kd):=by
  simp only[Qw3,Bool.or_eq_false_iff,decide_eq_false_iff_not,QHl]at h1
  rw[QHl,QHl,Ne,←QGl]
  have e1:(1:UInt8).toNat=1:=rfl
  have e2:(2:UInt8).toNat=2:=rfl
  have e4:(4:UInt8).toNat=4:=rfl
  omega
 unfold QbV
 by_cases hlt:i+1<hs.length
 ·rw[if_pos hlt]
  refine⟨?_,fun _=>hlt,fun _=>rfl⟩
  have hid:(hs.getD (i+1) hp0).nod.id≠0:=by
   rw[List.any_eq_false]at h6
   have:=h6 (hs.getD (i+1) hp0) (by
    rw[QFC,QFB hlt]
    rw[List.mem_iff_getElem?]
    exact⟨i,by rw[QGR,QHr 1 i,QFB hlt];rfl⟩)
   simpa using this
  unfold cmdE
  rw[if_neg (by
   show ¬((1:UInt8)<1∨4<(1:UInt8))
   decide),if_neg (by
   have h0:((hs.getD (i+1) hp0).nod.id != 0)=true:=by simpa using hid
   simp only[Qdm,h0,QaH]
   decide),if_neg hd]
 ·rw[if_neg hlt]
  refine⟨?_,fun e=>absurd e hkd.1,fun e=>absurd e hlt⟩
  have hs2:Qdm ⟨c.kd,QF3 (hs.getD i hp0).flags,QGr (hs.getD i hp0).delay,0,c.ma⟩=true:=by
   have hk:=hkd.1
   simp only[Qdm]at h5 ⊢
   have e1:(c.kd==1)=false:=by simpa using hk
   rw[e1]at h5 ⊢
   cases hx:(c.nx != 0)
   ·rw[hx]at h5
    simpa using h5
   ·rw[hx]at h5
    simp at h5
  unfold cmdE
  rw[if_neg hkd.2,if_neg (by rw[hs2];decide),if_neg hd]
def seaA (n:Nat) (st:Nat→List UInt8) (body:List UInt8):Nat→List UInt8
 | 0=>body
 | j+1=>QcK (kPay (st (n-1-j))) (seaA n st body j) rsS
def pktA (n:Nat) (sl st:Nat→List UInt8) (body:List UInt8) (i:Nat):List UInt8:=hdrA n sl st (n-1-i)++seaA n st body (n-i)
theorem Qnq {st:Nat→List UInt8} (hst:∀k,(st k).length=192) (k:Nat) {bs:List UInt8} (hb:bs.length=480):Qfb (kPay (st k)) bs rsS=0:=
 QfP okS ⟨Qau (by have:=hst k;omega),by omega,by omega⟩
theorem Qff {n:Nat} {st:Nat→List UInt8} {body:List UInt8} (hst:∀k,(st k).length=192) (hb:body.length=480):∀j,(seaA n st body j).length=480
 | 0=>hb
 | j+1=>by
   have ih:=Qff (n:=n) hst hb j
   rw[seaA,(QnT (Qnq hst _ ih)).1,ih]
theorem Qvt {n:Nat} {st:Nat→List UInt8} {body:List UInt8} (hst:∀k,(st k).length=192) (hb:body.length=480) (j:Nat):QcK (kPay (st (n-1-j))) (seaA n st body (j+1)) rsO=seaA n st body j:=by
 have ih:=Qff (n:=n) hst hb j
 have:=(QnT (Qnq hst (n-1-j) ih)).2.2
 rw[show rsS.reverse=rsO by decide]at this
 rw[seaA]
 exact this
theorem Qg4 {s:List UInt8} (h:s.length=192):(kAlp s).length=32:=Qau (by omega)
section
variable {n:Nat} {sl st:Nat→List UInt8} (hn1:1≤n) (hn5:n≤5) (hsl:∀k,(sl k).length=32) (hst:∀k,(st k).length=192) {body:List UInt8} (hb:body.length=480)
include hn1 hn5 hsl hst hb
theorem QpW (i:Nat):(pktA n sl st body i).take 288=hdrA n sl st (n-1-i)∧(pktA n sl st body i).drop 288=seaA n st body (n-i)∧(pktA n sl st body i).length=768:=by
 have h1:=Qpf (st:=st) hn1 hn5 hsl (n-1-i) (Qg4 (hst _))
 have h2:=Qff (n:=n) hst hb (n-i)
 exact⟨QGv h1,QGe h1,by rw[pktA,QFF,h1,h2]⟩
theorem QrO (i:Nat) (hi:i<n):(pktA n sl st body i).take 32=kAlp (st i):=by
 have _:=And.intro (hsl 0) hb
 rw[pktA,hdrA,QFL,QGv (Qg4 (hst _)),show n-1-(n-1-i)=i by omega]
theorem QqY (cs:Nat→Cmd) (hcs:∀k,sl k=encB (cs k)) (k:List UInt8) (i:Nat) (hi:i<n) (hpe:Qbu k (kAlp (st i))=0) (hpb:Qdz k (kAlp (st i))=st i) (hc:cmdE (cs i)=0) (hk:(cs i).kd=1↔i+1<n)
 (hnx:i+1<n→QoS (st i)=0∧QjQ (st i)=kAlp (st (i+1))):
 unwE k (pktA n sl st body i)=0∧unwC k (pktA n sl st body i)=cs i∧unwP k (pktA n sl st body i)=(if i+1<n then pktA n sl st body (i+1) else QFu 768 0)∧unwB k (pktA n sl st body i)=(if i+1<n then [] else body):=by
 obtain⟨c1,c2,_⟩:=QpW (sl:=sl) hn1 hn5 hsl hst hb i
 have ha:=QrO (sl:=sl) hn1 hn5 hsl hst hb i hi
 have hj:n-1-(n-1-i)=i:=by omega
 have hfit:=QAi (st:=st) hn1 hn5 hsl (n-1-i) (Qg4 (hst _))
 rw[hj]at hfit
 have hpl:(Qcz (hdrA n sl st (n-1-i)) (st i)).take 32=encB (cs i)∧(i+1<n→(Qcz (hdrA n sl st (n-1-i)) (st i)).drop 32=tagA n sl st (n-1-(i+1))++betA n sl st (n-1-(i+1))):=by
  by_cases hlt:i+1<n
  ·have h:=QwJ (st:=st) hn1 hn5 hsl (n-1-(i+1)) (by omega) (Qg4 (hst _))
   rw[show n-1-(i+1)+1=n-1-i by omega,hj]at h
   rw[h]
   exact⟨by rw[QGv (hsl _),hcs],fun _=>QGe (hsl _)⟩
  ·have h:=Qxw (st:=st) hn1 hn5 hsl (Qg4 (hst _))
   have hin:i=n-1:=by omega
   refine⟨?_,fun h=>absurd h hlt⟩
   rw[show n-1-i=0 by omega,hin,h,hcs]
 have hd:decE (encB (cs i))=0:=by rw[QqL,hc]
 have hdc:=QwT (cs i) hc
 have hE:Qil (hdrA n sl st (n-1-i)) (st i)=0:=by
  rw[Qil,hfit,if_neg (by decide),hpl.1,hd,if_neg (by decide),hdc]
  split
  ·rename_i h1
   exact (hnx (hk.1 h1)).1
  ·rfl
 have hC:Qla (hdrA n sl st (n-1-i)) (st i)=cs i:=by rw[Qla,if_pos hE,hpl.1,hdc]
 have hrE:relE (st i) (pktA n sl st body i)=0:=by rw[relE,c1,hE]
 have hrC:relC (st i) (pktA n sl st body i)=cs i:=by rw[relC,c1,hC]
 have hrB:QdG (st i) (pktA n sl st body i)=seaA n st body (n-1-i):=by
  have:=Qvt (n:=n) hst hb (n-1-i)
  rw[hj,show n-1-i+1=n-i by omega]at this
  rw[QdG,c2,this]
 refine⟨by rw[unwE,ha,if_pos hpe,hpb,hrE],by rw[unwC,ha,if_pos hpe,hpb,hrC],?_,?_⟩
 ·rw[unwP,ha,if_pos hpe,hpb,relP,hrE,hrC]
  by_cases hlt:i+1<n
  ·rw[if_pos ⟨rfl,hk.2 hlt⟩,if_pos hlt,hrB,c1,QjZ,if_pos ⟨hE,by rw[hpl.1,hdc];exact hk.2 hlt⟩,hpl.2 hlt,(hnx hlt).2,pktA,hdrA,show n-1-(n-1-(i+1))=i+1 by omega,show n-(i+1)=n-1-i by omega]
  ·rw[if_neg (fun h=>hlt (hk.1 h.2)),if_neg hlt]
 ·rw[unwB,ha,if_pos hpe,hpb,relB,hrE,hrC]
  by_cases hlt:i+1<n
  ·rw[if_neg (fun h=>h.2 (hk.2 hlt)),if_pos hlt]
  ·rw[if_pos ⟨rfl,fun h=>hlt (hk.1 h)⟩,if_neg hlt,hrB,show n-1-i=0 by omega,seaA]
end
def QbI (l:List Nat):Nat:=l.foldl (fun a e=>if e≠0∧(a=0∨e<a) then e else a) 0
theorem QfI:∀(l:List Nat) (a:Nat),l.foldl (fun a e=>if e≠0∧(a=0∨e<a) then e else a) a=0↔a=0∧∀e∈l,e=0
 | [],a=>by simp
 | e :: l,a=>by
   rw[List.foldl_cons,QfI l]
   constructor
   ·rintro⟨h1,h2⟩
    split at h1
    ·rename_i h
     exact absurd h1 h.1
    ·rename_i h
     refine⟨h1,?_⟩
     intro e' he
     rcases QFP.1 he with rfl|he
     ·by_cases hz:e'=0
      ·exact hz
      ·exact absurd ⟨hz,.inl h1⟩ h
     ·exact h2 _ he
   ·rintro⟨rfl,h2⟩
    have he:=h2 e (by simp)
    exact⟨by rw[if_neg (fun h=>h.1 he)],fun e' h'=>h2 _ (by simp[h'])⟩
theorem Qdj (l:List Nat):QbI l=0↔∀e∈l,e=0:=by
 rw[QbI,QfI]
 simp
def pubH (hs:List Hp):List (List UInt8):=hs.map fun h=>h.nod.pub.val
noncomputable def QcX (x:List UInt8) (c:Cmd) (body:List UInt8) (hs:List Hp):Nat:=QbI [Qgj c hs,QeZ x (pubH hs),if body.length=480 then 0 else 2]
def Qi3 (x:List UInt8) (c:Cmd) (body:List UInt8) (hs:List Hp):List UInt8:=pktA hs.length (fun i=>encB (QbV c hs i)) (Qc7 x (pubH hs)) body 0
def QcC (p:Prt):Cmd:=⟨if p.kd=2 then 3 else 2,0,0,0,QaH⟩
def frmE (p:Prt):Nat:=if prtE p=0∧p.kd=3 then 3 else prtE p
def Qgg (p:Prt):List UInt8:=if frmE p=0 then Qbg p else QFu 480 0
noncomputable def Qhh (x:List UInt8) (p:Prt) (hs:List Hp):Nat:=QbI [frmE p,QcX x (QcC p) (Qgg p) hs]
def QhM (x:List UInt8) (p:Prt) (hs:List Hp):List UInt8:=Qi3 x (QcC p) (Qgg p) hs
theorem Qrs (x:List UInt8) (hx:x.length=32) (ps:List (List UInt8)) (k:Nat):QoS (Qc7 x ps k)=0∧QjQ (Qc7 x ps k)=kAlp (Qc7 x ps (k+1)):=by
 have h1:kBli (Qc7 x ps k)=derB (secA x ps k) QbX:=QiM x ps k
 have h2:kAlp (Qc7 x ps k)=(stA x ps k).1:=Qfi x ps k
 have h3:kAlp (Qc7 x ps (k+1))=(stA x ps (k+1)).1:=Qfi x ps (k+1)
 rw[QoS,QjQ,h1,h2,h3]
 exact⟨Qxv x hx ps k _ (Qaz _ _),rfl⟩
theorem QAm {hs:List Hp} (h:∀i,i<hs.length→QbH (hs.getD i hp0).nod.priv.val (nb 9)=(hs.getD i hp0).nod.pub.val):pubH hs=Qcr (hs.map fun h=>h.nod.priv.val):=by
 rw[pubH,Qcr,List.map_map]
 refine List.map_congr_left fun h' hm=>?_
 obtain⟨i,hi,rfl⟩:=QHk hm
 have:=h i hi
 rw[QFC,QFB hi]at this
 exact this.symm
theorem Qmv (x:List UInt8) (c:Cmd) (body:List UInt8) (hs:List Hp) (he:QcX x c body hs=0) (hfit:∀i,i<hs.length→QbH (hs.getD i hp0).nod.priv.val (nb 9)=(hs.getD i hp0).nod.pub.val) (i:Nat) (hi:i<hs.length):
 unwE (hs.getD i hp0).nod.priv.val (pktA hs.length (fun i=>encB (QbV c hs i)) (Qc7 x (pubH hs)) body i)=0∧unwC (hs.getD i hp0).nod.priv.val (pktA hs.length (fun i=>encB (QbV c hs i)) (Qc7 x (pubH hs)) body i)=QbV c hs i∧
 unwP (hs.getD i hp0).nod.priv.val (pktA hs.length (fun i=>encB (QbV c hs i)) (Qc7 x (pubH hs)) body i)=(if i+1<hs.length then pktA hs.length (fun i=>encB (QbV c hs i)) (Qc7 x (pubH hs)) body (i+1) else QFu 768 0)∧
 unwB (hs.getD i hp0).nod.priv.val (pktA hs.length (fun i=>encB (QbV c hs i)) (Qc7 x (pubH hs)) body i)=(if i+1<hs.length then [] else body):=by
 rw[QcX,Qdj]at he
 have h1:Qgj c hs=0:=he _ (by simp)
 have h2:QeZ x (pubH hs)=0:=he _ (by simp)
 have h3:(if body.length=480 then 0 else 2)=0:=he _ (by simp)
 have hb:body.length=480:=by
  split at h3
  ·assumption
  ·cases h3
 obtain⟨_,_,h4,h5,_,_⟩:=Qe3 h1
 have hx:x.length=32:=by
  rw[QeZ]at h2
  split at h2
  ·rename_i h;exact h.1
  ·cases h2
 obtain⟨ks,hks⟩:∃ks,ks=hs.map fun h=>h.nod.priv.val:=⟨_,rfl⟩
 have hp:pubH hs=Qcr ks:=by rw[hks];exact QAm hfit
 have hk32:∀p∈ks,p.length=32:=by
  intro p hpm
  rw[hks]at hpm
  obtain⟨h',_,rfl⟩:=QGf.1 hpm
  exact h'.nod.priv.2
 have hkl:ks.length=hs.length:=by rw[hks,QFA]
 have hkg:ks.getD i []=(hs.getD i hp0).nod.priv.val:=by
  rw[hks,QFC,QFN,QFC,QFB hi]
  rfl
 have m1:=QtI x hx ks hk32 i (by omega)
 have m2:=(Qp1 x hx ks hk32 i (by omega)).2.2
 rw[hkg]at m1 m2
 rw[hp]
 have ha:kAlp (Qc7 x (Qcr ks) i)=(stA x (Qcr ks) i).1:=Qfi x _ i
 exact QqY (sl:=fun i=>encB (QbV c hs i)) h4 h5 (fun _=>Qdg _) (fun _=>Qdv _ _ _) hb (QbV c hs) (fun _=>rfl) _ i hi (by rw[ha];exact m2) (by rw[ha];exact m1) (Qlw h1 hi).1 (Qlw h1 hi).2 (fun _=>Qrs x hx _ i)
structure Stp where
 nm:ByteArray
 delay:Int
 flags:Int
def stp0:Stp:=⟨.empty,0,0⟩
def SC (x:Stp):List Value:=[.string x.nm,.int .i64 x.delay,.int .i64 x.flags]
theorem Qmz (x:Stp):(SC x).length=3:=rfl
theorem QB3 (x:Stp):∀u∈SC x,u.oneCell'=true:=by
 intro u hu
 simp only[SC,QFP,QFO,or_false]at hu
 rcases hu with rfl|rfl|rfl<;>rfl
abbrev RdS:World→Option Addr→Nat→List Stp→Prop:=RdF SC 3 stp0
def badS (t:Stp):Bool:=decide (t.delay<0)||decide (1000000<t.delay)||decide (t.flags<0)||decide (255<t.flags)
def Qq0 (xs:List Nod) (t:Stp):Hp:=⟨(Qgs (Qd2 t.nm) xs).1,t.delay,t.flags⟩
def Qik (xs:List Nod) (t:Stp):Bool:=(Qgs (Qd2 t.nm) xs).2 != 0
def Qdd (xs:List Nod) (ts:List Stp):Nat:=if ts.any badS then 1 else if ts.length<1∨5<ts.length then 2 else if QaY xs≠0 then QaY xs else if ts.any (Qik xs) then 4 else 0
def Qbd (xs:List Nod) (ts:List Stp):List Hp:=ts.map (Qq0 xs)
theorem QiP {ts:List Stp} {p:Stp→Bool} {k:Nat} (hk:k<ts.length) (h:p (ts.getD k stp0)=true):ts.any p=true:=by
 rw[QHh]
 refine⟨_,QGy hk,?_⟩
 rwa [QFC,QFB hk]at h
theorem QeS {ts:List Stp} {p:Stp→Bool} (h:∀k,k<ts.length→p (ts.getD k stp0)=false):ts.any p=false:=by
 rw[List.any_eq_false]
 intro x hx
 obtain⟨k,hk,rfl⟩:=QHk hx
 have:=h k hk
 rw[QFC,QFB hk]at this
 simpa using this
theorem QsP {xs:List Nod} {ts:List Stp} {k:Nat} (hk:k<ts.length) (h:badS (ts.getD k stp0)=true):Qdd xs ts=1:=by rw[Qdd,if_pos (QiP hk h)]
theorem Qrr {xs:List Nod} {ts:List Stp} (hb:∀k,k<ts.length→badS (ts.getD k stp0)=false) (h:ts.length<1∨5<ts.length):Qdd xs ts=2:=by
 rw[Qdd,if_neg (by rw[QeS hb];decide),if_pos h]
theorem QoP {xs:List Nod} {ts:List Stp} (hb:∀k,k<ts.length→badS (ts.getD k stp0)=false) (h: ¬(ts.length<1∨5<ts.length)) (hc:QaY xs≠0):Qdd xs ts=QaY xs:=by
 rw[Qdd,if_neg (by rw[QeS hb];decide),if_neg h,if_pos hc]
theorem Qrj {xs:List Nod} {ts:List Stp} {k:Nat} (hb:∀k,k<ts.length→badS (ts.getD k stp0)=false) (h: ¬(ts.length<1∨5<ts.length)) (hc:QaY xs=0) (hk:k<ts.length) (hm:Qik xs (ts.getD k stp0)=true):Qdd xs ts=4:=by
 rw[Qdd,if_neg (by rw[QeS hb];decide),if_neg h,if_neg (fun f=>f hc),if_pos (QiP hk hm)]
theorem Qwc {xs:List Nod} {ts:List Stp} (hb:∀k,k<ts.length→badS (ts.getD k stp0)=false) (h: ¬(ts.length<1∨5<ts.length)) (hc:QaY xs=0) (hm:∀k,k<ts.length→Qik xs (ts.getD k stp0)=false):Qdd xs ts=0:=by
 rw[Qdd,if_neg (by rw[QeS hb];decide),if_neg h,if_neg (fun f=>f hc),if_neg (by rw[QeS hm];decide)]
theorem QqW {xs:List Nod} (hc:QaY xs=0) {i j:Nat} {s:ByteArray} (hi:i<xs.length) (hj:j<i) (h:Qd2 s (xs.getD i nod0)=true):Qd2 s (xs.getD j nod0)=false:=by
 cases e:Qd2 s (xs.getD j nod0)
 ·rfl
 ·have hs:Qe0 (xs.getD i nod0) (xs.getD j nod0)=true:=by
   rw[Qd2,beq_iff_eq]at h e
   rw[Qe0,h,e]
   simp
  rw[QaY]at hc
  split at hc
  ·omega
  ·split at hc
   ·omega
   ·rw[if_pos (QdV hi (QdV hj hs))]at hc
    omega
theorem Qup {xs:List Nod} (hc:QaY xs=0) {i:Nat} {s:ByteArray} (hi:i<xs.length) (h:Qd2 s (xs.getD i nod0)=true):Qgs (Qd2 s) xs=(xs.getD i nod0,0):=
 Qme hi (fun _ hj=>QqW hc hi hj h) h
theorem QyA:(Tryz.prog.info? 87).map (·.size)=some 3:=by kernel_rfl
theorem QCm:(Tryz.prog.info? 49).map (fun i=>(i.zero,i.size,i.bytes))=some (some (.agg (HC hp0).toArray),68,104):=by kernel_rfl
theorem QAf:(Tryz.prog.info? 49).map (fun i=>(i.zero,i.size))=some (some (.agg (HC hp0).toArray),68):=by kernel_rfl
theorem QBw:(Tryz.prog.info? 49).bind (·.zero)=some (.agg (HC hp0).toArray):=by kernel_rfl
section
variable {ops:Array Oper} {rest:List Oper} {o:Oper} {a:Act} {w:World} {Q:Exit→Act→World→Prop}
theorem Qv6 (hgd:Region.wanted o (yielded ops a.tmps)=true) (x:Operand) (ho:o.op= .load 87 x) {g off:Nat} {y:Stp} (hc:∀i v,(SC y)[i]?=some v→w.cell? ⟨g,off+i,none⟩=some v) (hx:a.eval x= .pointer (some ⟨g,off,none⟩))
 (h:wpList Tryz.prog ops Q rest (a.put o.dst (.agg (SC y).toArray)) w):wpList Tryz.prog ops Q (o :: rest) a w:=
 Qar hgd _ x ho g off _ hc hx _ Tryz.underlying87 rfl QyA h
theorem Qsv (hgd:o.guard=none) (hd:o.dst=none) (x y:Operand) (ho:o.op= .store 87 x y) {g:Nat} {t:TypeId} {l:List Value} {z:Stp} (hg:Blk w g t l) (hx:a.eval x= .pointer (some ⟨g,0,none⟩)) (hy:a.eval y= .agg (SC z).toArray) (hl:l.length=3)
 (h:∀w',Blk w' g t (SC z)→Only g w w'→wpList Tryz.prog ops Q rest a w'):wpList Tryz.prog ops Q (o :: rest) a w:=
 Qaj hgd hd _ x y ho g t l _ hg hx hy 3 QyA rfl hl (QB3 _) h
end
theorem Qgx (p q r v:List Value) (k:Nat) (hk:p.length=k) (h:q.length=v.length):Qat (p++q++r) k v=p++v++r:=by
 subst hk
 rw[Qat,show p.length+v.length=(p++q).length by rw[QFF,h],QGe rfl,QFL p q r,QGv rfl]
theorem QCn (x:Nod) (d f:Int):Qat (Qat (Qat (HC hp0) 0 (NC x)) 66 [.int .i64 d]) 67 [.int .i64 f]=HC ⟨x,d,f⟩:=by
 have h1:Qat (HC hp0) 0 (NC x)=NC x++[.int .i64 0]++[.int .i64 0]:=by
  have:=Qgx [] (NC nod0) [.int .i64 0,.int .i64 0] (NC x) 0 rfl (by rw[QaJ,QaJ])
  rw[QFz,QFz]at this
  rw[QFL]
  exact this
 have h2:=Qgx (NC x) [.int .i64 0] [.int .i64 0] [.int .i64 d] 66 (QaJ x) rfl
 have h3:=Qgx (NC x++[.int .i64 d]) [.int .i64 0] [] [.int .i64 f] 67 (by rw[QFF,QaJ];rfl) rfl
 rw[QGb,QGb]at h3
 rw[h1,h2,h3,HC,QFL]
 rfl
theorem Qsa (x:Nod) (d f:Int):Tryz.prog.built 49 [(0,.agg (NC x).toArray),(1,.int .i64 d),(2,.int .i64 f)]=some (HC ⟨x,d,f⟩).toArray:=by
 rw[Qa0 (pl:=[(0,66),(66,1),(67,1)]) Tryz.underlying49 QBw (by kernel_rfl),QaR (vs:=NC x) (off:=0) rfl (by rw[QaJ];rfl) (by rw[QaJ,Qcm];omega),
  QaR (vs:=[.int .i64 d]) (off:=66) rfl rfl (by rw[QaX _ _ _ (by rw[QaJ,Qcm];omega),Qcm];simp),QaR (vs:=[.int .i64 f]) (off:=67) rfl rfl (by rw[QaX _ _ _ (by rw[QaX _ _ _ (by rw[QaJ,Qcm];omega),Qcm];simp),QaX _ _ _ (by rw[QaJ,Qcm];omega),Qcm];simp),Qb5,QCn]
theorem Qlb (t:Stp):badS t=true↔(t.delay<0∨1000000<t.delay∨t.flags<0∨255<t.flags):=by
 rw[badS]
 simp only[QHf,decide_eq_true_eq,or_assoc]
theorem Qzi {t:Stp} (h: ¬(t.delay<0∨1000000<t.delay∨t.flags<0∨255<t.flags)):badS t=false:=by
 cases e:badS t
 ·rfl
 ·exact absurd ((Qlb t).1 e) h
theorem Qya {p:Nat→Prop} {k:Nat} (h:∀j,j<k→p j) (hk:p k):∀j,j<k+1→p j:=QbR h hk
theorem Qow (xs:List Nod) (ts:List Stp) (k:Nat) (h:k<ts.length):(Qbd xs ts).take (k+1)=(Qbd xs ts).take k++[Qq0 xs (ts.getD k stp0)]:=by
 rw[List.take_add_one,Qbd,QFN,QFC,QFB h]
 rfl
theorem QxL (w:World) (t:TypeId) (x:Hp):Blk (w.alloc (.cells (HC x).toArray t)) w.heap.size t ([x].flatMap HC):=by
 rw[QHm,List.flatMap_nil,QGb]
 exact Blk.new w t _
set_option maxRecDepth 100000 in
set_option maxHeartbeats 8000000 in
theorem Qss (A B:Option Addr) (n c m d:Nat) (xs:List Nod) (ts:List Stp) (w:World) (hx:RdN w A n xs) (hn:n≤1099511627776) (hs:∀x∈xs,x.nm.size≤140737488355328) (ht:RdS w B m ts) (hm:m≤1099511627776):
 Calls Tryz.prog 7 #[.slice A n c,.slice B m d] w fun e w'=>∃v,e= .returned (.tuple #[v,.int .i64 (Qdd xs ts:Nat)])∧(Qdd xs ts≠0→v= .slice none 0 0)∧(Qdd xs ts=0→∃A' c',v= .slice A' m c'∧RdH w' A' m (Qbd xs ts))∧Later w w':=by
 have hml:=ht.1
 have hnl:=hx.1
 go_enter Tryz.func7,Tryz.ntmps7
 go_wp2
 go_loopw [6] (fun i wr=>∃k:Nat,i= .int .i64 k∧k≤m∧Hid (∀ j,j<k→badS (ts.getD j stp0)=false)∧Later w wr) (fun i _=>m-(intOf i).toNat)
 case atStart=>exact⟨0,rfl,by omega,hid (fun j hj=>absurd hj (by omega)),Later.refl w⟩
 case round=>
  obtain⟨k,rfl,hk,hp,L⟩:=hrel
  by_cases hlt:k<m
  ·obtain⟨b,o,rfl,hb,hc⟩:=(ht.later L).at_ hlt
   have hbad:=hid (fun h:badS (ts.getD k stp0)=true=>QsP (xs:=xs) (by omega) h)
   have hgood:=hid (fun h:badS (ts.getD k stp0)=false=>Qya (p:=fun j=>badS (ts.getD j stp0)=false) hp.out h)
   generalize ts.getD k stp0=t at *
   go_wp2_with (first
    | (refine Qv6 rfl _ rfl hc rfl ?_)
    | (refine Qsv rfl rfl _ _ rfl (Blk.new wr _ (SC stp0)) rfl rfl (Qmz _) ?_;intro w2 hb2 ho2;have d1:=hb2.cellD 1 (u:=.int .i64 t.delay) rfl;have d2:=hb2.cellD 2 (u:=.int .i64 t.flags) rfl;have L2:=(L.trans (Qaa wr _)).only ho2 L.size)
    | fail)
   all_goals
    try simp only[QGI,Bool.not_eq_false',decide_eq_true_eq,decide_eq_false_iff_not]at *
    first
     | exact⟨⟨k+1,by go_num,by omega,hid (hgood.out (Qzi (by omega))),L2⟩,by simp[intOf];omega⟩
     | (go_ret2;exact⟨.slice none 0 0,by rw[hbad.out ((Qlb t).2 (by omega))];rfl,fun _=>rfl,fun h=>absurd (h.symm.trans (hbad.out ((Qlb t).2 (by omega)))) (by decide),L2⟩)
  ·obtain rfl:k=m:=by omega
   have hall:=hid (show ∀j,j<ts.length→badS (ts.getD j stp0)=false by rw[hml];exact hp.out)
   clear hp
   by_cases h5:k<1∨5<k
   ·have hE:=hid (Qrr (xs:=xs) hall.out (by omega))
    have hdec:(((k:Int)==0)||decide (5<(k:Int)))=true:=by simp;omega
    go_wp2
    all_goals
     go_ret2
     exact⟨.slice none 0 0,by rw[hE.out];rfl,fun _=>rfl,fun h=>absurd (h.symm.trans hE.out) (by decide),L⟩
   ·have hk0:((k:Int)==0)=false:=by simp;omega
    have hC:=hid (Qkt A n c xs wr (hx.later L) hn hs)
    go_wp2_with fail
    refine (hC.out).mono ?_
    rintro e w2 ⟨rfl,l2⟩
    replace L:=L.trans l2
    clear l2
    by_cases hc0:QaY xs=0
    ·have hcc:=hid hc0
     rw[hc0]
     clear hc0
     go_wp2
     go_loopw [9,10] (fun v i wr=>∃(j c9:Nat) (A9:Option Addr),i= .int .i64 j∧j≤k∧v= .slice A9 j c9∧Hid (∀ i,i<j→Qik xs (ts.getD i stp0)=false)∧wr.ownsRow w.heap.size 49 68 (.slice A9 j c9) j (((Qbd xs ts).take j).flatMap HC)∧Later w wr) (fun _ i _=>k-(intOf i).toNat)
     case atStart=>exact⟨0,0,none,rfl,by omega,rfl,hid (fun j hj=>absurd hj (by omega)),World.ownsRow_nil w2 _ _ 68,L⟩
     case round=>
      clear L
      obtain⟨j,c9,A9,rfl,hj,rfl,hmm,hown,L⟩:=hrel
      by_cases hlt:j<k
      ·obtain⟨b,o,rfl,hb,hc⟩:=(ht.later L).at_ hlt
       have hmiss:=hid (fun h:Qik xs (ts.getD j stp0)=true=>Qrj (xs:=xs) (ts:=ts) hall.out (by omega) hcc.out (by omega) h)
       have hgood:=hid (fun h:Qik xs (ts.getD j stp0)=false=>Qya (p:=fun j=>Qik xs (ts.getD j stp0)=false) hmm.out h)
       have hst:=hid (Qow xs ts j (by omega))
       generalize ts.getD j stp0=t at *
       have c0:wr.cell? ⟨b,o+j*3,none⟩=some (.string t.nm):=hc 0 _ rfl
       go_wp2
       go_loopw [11,12] (fun at_ q wr'=>∃q':Nat,q= .int .i64 q'∧q'≤n∧Hid ((at_= .int .i64 (-1)∧∀i,i<q'→Qd2 t.nm (xs.getD i nod0)=false)∨∃i,i<q'∧at_= .int .i64 (i:Nat)∧Qd2 t.nm (xs.getD i nod0)=true)∧Later wr wr') (fun _ q _=>n-(intOf q).toNat)
       case atStart=>exact⟨0,rfl,by omega,hid (.inl ⟨rfl,fun j hj=>absurd hj (by omega)⟩),Later.refl _⟩
       case round=>
        obtain⟨q,rfl,hq,hat,L2⟩:=hrel
        by_cases hqn:q<n
        ·obtain⟨b',o',rfl,hb',hc'⟩:=((hx.later L).later L2).at_ hqn
         have c0':=(L2.below.cell (p:=⟨b,o+j*3,none⟩) hb).trans c0
         have c1':wr.cell? ⟨b',o'+q*66,none⟩=some (.string (xs.getD q nod0).nm):=hc' 0 _ rfl
         have hby:=hid (show Qd2 t.nm (xs.getD q nod0)=((xs.getD q nod0).nm.toList==t.nm.toList) from rfl)
         generalize hxq:(xs.getD q nod0).nm=nmq at *
         clear hxq
         cases hnm:(nmq.toList==t.nm.toList)
         ·have hnext:Hid _:=hid (show (_=Value.int .i64 (-1)∧∀i,i<q+1→Qd2 t.nm (xs.getD i nod0)=false)∨∃i,i<q+1∧_=Value.int .i64 (i:Nat)∧Qd2 t.nm (xs.getD i nod0)=true from hat.out.imp (fun h=>⟨h.1,QbR h.2 (hby.out.trans hnm)⟩) (fun ⟨i,h1,h2⟩=>⟨i,by omega,h2⟩))
          go_wp2_with fail
          refine Qad [] [0,1,2,3,4,5,6,7,8,9,10] [] (by as_aux_lemma=>kernel_rfl) (by as_aux_lemma=>kernel_rfl) (by intro _ _ d _ _ h;cases d<;>exact h) ?_
          simp only[Qah,pick,QFv,QFw,QFx,QFy,QFz]
          repeat (go_big_quiet_step (fail))
          refine wpQuiet_nil ?_
          go_wp2
          exact⟨⟨q+1,by go_num,by omega,hnext,L2.drew⟩,by simp[intOf];omega⟩
         ·have hnext:Hid _:=hid (show (Value.int .i64 (q:Nat)=Value.int .i64 (-1)∧∀i,i<q+1→Qd2 t.nm (xs.getD i nod0)=false)∨∃i,i<q+1∧Value.int .i64 (q:Nat)=Value.int .i64 (i:Nat)∧Qd2 t.nm (xs.getD i nod0)=true from .inr ⟨q,by omega,rfl,hby.out.trans hnm⟩)
          go_wp2_with fail
          refine Qad [] [0,1,2,3,4,5,6,7,8,9,10] [] (by as_aux_lemma=>kernel_rfl) (by as_aux_lemma=>kernel_rfl) (by intro _ _ d _ _ h;cases d<;>exact h) ?_
          simp only[Qah,pick,QFv,QFw,QFx,QFy,QFz]
          repeat (go_big_quiet_step (fail))
          refine wpQuiet_nil ?_
          go_wp2
          exact⟨⟨q+1,by go_num,by omega,hnext,L2.drew⟩,by simp[intOf];omega⟩
        ·obtain rfl:q=n:=by omega
         have hatt:=hat.out
         clear hat
         rcases hatt with ⟨rfl,hnone⟩|⟨i,hi,rfl,hby⟩
         ·have hE4:=hid (hmiss.out (by rw[Qik,Qql (by rw[hnl];exact hnone)];rfl))
          clear hnone
          go_wp2
          go_ret2
          exact⟨.slice none 0 0,by rw[hE4.out];rfl,fun _=>rfl,fun h=>absurd (h.symm.trans hE4.out) (by decide),L.trans L2⟩
         ·have hfb:=Qup (s:=t.nm) hcc.out (by rw[hnl];exact hi) hby
          have hgood':=hid (hgood.out (by rw[Qik,hfb];rfl))
          have hHo:=hid (show Qq0 xs t=⟨xs.getD i nod0,t.delay,t.flags⟩ by rw[Qq0,hfb])
          clear hfb hby
          have L3:=(L.trans L2).drew
          obtain⟨b',o',rfl,hb',hc'⟩:=(hx.later L3).at_ hi
          generalize xs.getD i nod0=y at *
          have d1:wr.drew.cell? ⟨b,o+j*3+1,none⟩=some (.int .i64 t.delay):=(L2.drew.below.cell (p:=⟨b,o+j*3+1,none⟩) hb).trans (hc 1 _ rfl)
          have d2:wr.drew.cell? ⟨b,o+j*3+2,none⟩=some (.int .i64 t.flags):=(L2.drew.below.cell (p:=⟨b,o+j*3+2,none⟩) hb).trans (hc 2 _ rfl)
          have hown':=Qa7 hown L2.drew
          go_wp2_with fail
          refine Qad [([0,1,2,3,4,5,6,7,8,9,10,11,12,13,14,15],16)] [] [17,18] (by as_aux_lemma=>kernel_rfl) (by as_aux_lemma=>kernel_rfl) (by intro _ _ d _ _ h;cases d<;>exact h) ?_
          simp only[Qah,pick,QFv,QFw,QFx,QFy,QFz]
          repeat (first|go_big_quiet_skip|(go_big_quiet_want;(first|refine QtB _ rfl hc' hb' rfl ?_|refine QbL _ _ rfl (HC ⟨y,t.delay,t.flags⟩) (by simp only[QFI,QFW,QFR];exact Qsa _ _ _) ?_);simp only[Act.put,QFD,QFH,QFG];go_big_quiet_on)|(go_big_quiet_step (fail)))
          refine wpQuiet_nil ?_
          go_wp2_with (first
           | (refine Qdn rfl 29 _ rfl 49 68 _ (HC ⟨y,t.delay,t.flags⟩) Tryz.underlying29 QAf (by omega) (by omega) (Qcm _) rfl ?_)
           | fail)
          simp only[Act.put,QFD,QFH,QFG]
          try refine⟨by first|assumption|exact Qab _|exact Qaa _ _|exact Later.refl _,?_⟩
          try simp only[Qah,pick,QFv,QFw,QFx,QFy,QFz]
          repeat (go_big_quiet_step (fail))
          refine wpQuiet_nil ?_
          go_wp2_with (first
           | (refine Qcp Qcm QCw (by omega) rfl _ _ _ rfl 49 _ 104 Tryz.underlying29 QCm rfl w _ j _ (Qa7 hown' (Qaa _ _)) (L3.alloc _) _ 1 1 [⟨y,t.delay,t.flags⟩] (QhN (d:=hp0) Qcm (QxL wr.drew _ _) rfl) rfl rfl (by omega) (by omega) ?_;intro A3 c3 w3 hown3 hl3 hg3)
           | fail)
          rw[←hHo.out,←QHG,←hst.out]at hown3
          exact⟨⟨j+1,c3,A3,by go_num,by omega,rfl,hgood',hown3,hl3⟩,by simp[intOf];omega⟩
      ·obtain rfl:j=k:=by omega
       have hE:=hid (Qwc (xs:=xs) (ts:=ts) hall.out (by omega) hcc.out (by rw[hml];exact hmm.out))
       rw[QFJ (by rw[Qbd,QFA];omega)]at hown
       go_wp2
       go_ret2
       exact⟨.slice A9 j c9,by rw[hE.out];rfl,fun h=>absurd hE.out h,fun _=>⟨A9,c9,rfl,QgS Qcm hown (by rw[Qbd,QFA,hml])⟩,L⟩
    ·have hE:=hid (QoP (xs:=xs) (ts:=ts) hall.out (by omega) hc0)
     have hne:((QaY xs:Int) != 0)=true:=by simpa using hc0
     have hcc:=hid hc0
     clear hc0
     go_wp2
     go_ret2
     exact⟨.slice none 0 0,by rw[hE.out];rfl,fun _=>rfl,fun h=>absurd (hE.out.symm.trans h) hcc.out,L⟩
def leM (a e:Nat):Nat:=if e≠0∧(a=0∨e<a) then e else a
theorem Qoa (es:List Nat) (k:Nat) (h:k<es.length):QbI (es.take (k+1))=leM (QbI (es.take k)) (es.getD k 0):=by
 rw[QbI,QbI,QF5 h,List.foldl_append,QFC,QFB h]
 rfl
def eVM (e:Nat):Value:=.int .i64 (e:Int)
set_option maxRecDepth 100000 in
theorem Qra (A:Option Addr) (n c:Nat) (es:List Nat) (w:World) (hr:Rd w A n (es.map eVM)) (hn:n≤1048576):
 Calls Tryz.prog 31 #[.slice A n c] w fun e w'=>e= .returned (.int .i64 (QbI es:Nat))∧Later w w':=by
 have hl:es.length=n:=by have:=hr.1;rwa [QFA]at this
 have hst:=hid (Qoa es)
 have h0:Hid (QbI (es.take 0)=0):=hid rfl
 have hn':Hid (QbI (es.take n)=QbI es):=hid (by rw[QFJ (by omega)])
 go_enter Tryz.func31,Tryz.ntmps31
 go_wp2_with fail
 go_loopw [3,8] (fun s i wr=>∃k:Nat,k≤n∧i= .int .i64 k∧s= .int .i64 (QbI (es.take k):Nat)∧Later w wr) (fun _ i _=>n-(intOf i).toNat)
 case atStart=>exact⟨0,by omega,rfl,by rw[h0.out];rfl,Later.refl w⟩
 case round=>
  obtain⟨k,hk,rfl,rfl,L⟩:=hrel
  by_cases hlt:k<n
  ·obtain⟨b,o,rfl,hb,hc⟩:=(hr.later L).2 (by omega)
   have c1:wr.cell? ⟨b,o+k,none⟩=some (eVM (es.getD k 0)):=hc k _ (by rw[QFN,QFC,QFB (by omega)];rfl)
   have hS:=hst.out k (by omega)
   rw[eVM]at c1
   clear hc
   generalize es.getD k 0=x at *
   generalize QbI (es.take k)=y at *
   replace hS:=hid hS
   by_cases e0:x=0
   ·have f1:((x:Int) != 0)=false:=by simp[e0]
    have hz:=hid (hS.out.trans (by rw[leM,if_neg (by simp[e0])]))
    clear e0
    go_wp2_with fail
    exact⟨⟨k+1,by omega,by go_num,by rw[hz.out],L⟩,by simp[intOf];omega⟩
   have f1:((x:Int) != 0)=true:=by simp[e0]
   by_cases e1:y=0
   ·have f2:((y:Int)==0)=true:=by simp[e1]
    have hz:=hid (hS.out.trans (by rw[leM,if_pos ⟨e0,.inl e1⟩]))
    clear e0 e1
    go_wp2_with fail
    exact⟨⟨k+1,by omega,by go_num,by rw[hz.out],L⟩,by simp[intOf];omega⟩
   have f2:((y:Int)==0)=false:=by simp[e1]
   by_cases e2:x<y
   ·have f3:decide ((x:Int)<(y:Int))=true:=decide_eq_true (by omega)
    have hz:=hid (hS.out.trans (by rw[leM,if_pos ⟨e0,.inr e2⟩]))
    clear e0 e1
    go_wp2_with fail
    exact⟨⟨k+1,by omega,by go_num,by rw[hz.out],L⟩,by simp[intOf];omega⟩
   ·have f3:decide ((x:Int)<(y:Int))=false:=decide_eq_false (by omega)
    have hz:=hid (hS.out.trans (by rw[leM,if_neg (fun h=>h.2.elim e1 e2)]))
    clear e0 e1
    go_wp2_with fail
    exact⟨⟨k+1,by omega,by go_num,by rw[hz.out],L⟩,by simp[intOf];omega⟩
  ·obtain rfl:k=n:=by omega
   rw[hn'.out]
   go_wp2_with fail
   go_ret
   exact⟨rfl,L⟩
set_option maxRecDepth 100000 in
theorem Qrk (A:Option Addr) (n c:Nat) (w:World) (hn:n≠768):
 Calls Tryz.prog 30 #[.slice A n c] w fun e w'=>e= .returned (.tuple #[.agg ((QFu 768 (0:UInt8)).map W8).toArray,.int .i64 2])∧Later w w':=by
 have HZ:=hid zcP
 have hz0:=hid QqR
 have B0:Bag w (w.alloc (.cells Tryz.zeroCells100 100)) [(w.heap.size,100,(QFu 768 (0:UInt8)).map W8)]:=(Bag.none w).add (Qaa _ _) (by simp) (QFE _) ((Blk.new w _ Tryz.zeroCells100.toList).cast HZ.out)
 have l0:(QFu 768 (0:UInt8)).length=768:=QFM
 have l1:((QFu 768 (0:UInt8)).map W8).length=768:=by rw[QFA,l0]
 have hn2:((n:Int) != 768)=true:=bne_iff_ne.2 (by omega)
 generalize QFu 768 (0:UInt8)=Z at *
 go_enter Tryz.func30,Tryz.ntmps30
 go_wp2_with (first
  | (refine Qak ?hw 100 _ rfl (Z.map W8) (by simp only[QFI,QFR];exact hz0.out) ?_;(case hw=>rfl))
  | (refine Qg0 rfl rfl _ _ rfl (B0.nth 0 rfl) rfl rfl l0 l1 ?_;intro w1 hb1 ho1)
  | fail)
 exact bodyPost_ret (Qaf rfl _ _ _ _ _ _ hb1 rfl Tryz.underlying100 rfl (by rw[l1];exact QhJ)) rfl ⟨rfl,B0.lat.only ho1 (QFE _)⟩
end Go.Proofs.YtcbdgnlcknllnaaGreat
namespace Go.Proofs.YtcbdgnlcknllnaaGreat
open Go.ChangeShapes Go.WideShapes Go.ChangeAt Go.RowKit
open _root_.Go.Proofs.YtcbdgnlcknllnaaGreat.Rows (uptoBulk uptoBulkAll uptoSmall)
theorem QqI {α β:Type} (f:α→Option β):∀(l:List α) (ys:List β),l.mapM f=some ys→ys.length=l.length∧∀(i:Nat) x,l[i]?=some x→f x=ys[i]?
 | [],ys,h=>by
   simp only[List.mapM_nil,pure,Option.some.injEq]at h
   subst h
   exact⟨rfl,fun i x hx=>by simp at hx⟩
 | a :: l,ys,h=>by
   rw[List.mapM_cons]at h
   simp only[bind,Option.bind_eq_some_iff,pure,Option.some.injEq]at h
   obtain⟨y,hy,ys',h',rfl⟩:=h
   obtain⟨h1,h2⟩:=QqI f l ys' h'
   refine⟨by simp[h1],fun i x hx=>?_⟩
   cases i with
   | zero=>
     obtain rfl:a=x:=by simpa using hx
     simpa using hy
   | succ i=>simpa using h2 i x (by simpa using hx)
theorem Qga {w:World} {base k:Nat} {a:Addr} {cs:List Value} (h:w.cells? base a k=some cs):cs.length=k∧∀i,i<k→w.cell? (a.add i)=cs[i]?:=by
 unfold World.cells? at h
 split at h
 ·obtain⟨h1,h2⟩:=QqI _ _ _ h
  exact⟨by simpa using h1,fun i hi=>h2 i i (by rw[QGM hi])⟩
 ·cases h
theorem QdS {l:List Value} {i:Nat} {v:Value} (h:(l.drop i).take 1=[v]):l[i]?=some v:=by
 have:=congrArg (·[0]?) h
 simpa [QGX,QGR] using this
section
variable {H:Type} {enc:TypeId×Value→H} {w:World} {base:Nat} {sp:Nat→Bool} {held:Bool}
theorem QpH {fuel:Nat} {cs:List Value} {x:DataW H×List MemPlace} (h:DataW.trod enc Tryz.prog w base sp held fuel 45 cs=some x):∃K:Y32,cs=K.val.map W8:=by
 obtain⟨xs,m,rfl,rfl,hl,hxl,he⟩:=DataW.trod_array Tryz.underlying45 h
 have hn:Tryz.prog.cellsOf 45=32:=by kernel_rfl
 have h1:Tryz.prog.cellsOf 5=1:=by kernel_rfl
 rw[hn]at hl
 rw[h1]at he
 have each:∀i,∃b:UInt8,i<32→cs[i]?=some (W8 b):=by
  intro i
  by_cases hi:i<32
  ·have:=he i hi
   rw[QFB (by omega),QHj]at this
   obtain⟨z,hz,_,hw⟩:=DataW.trod_int Tryz.underlying5 this
   have hr:0≤z∧z≤255:=by simpa [Lit.wf,IntKind.min,IntKind.max,IntKind.signed,IntKind.bits] using hw
   exact⟨_,fun _=>by rw[QdS hz,QbT z hr.1 (by omega)]⟩
  ·exact⟨0,fun h=>absurd h hi⟩
 obtain⟨f,hf⟩:=Classical.axiomOfChoice each
 refine⟨⟨(QF6 32).map f,by simp⟩,?_⟩
 apply List.ext_getElem?
 intro i
 rcases QGE i 32 with hi|hi
 ·rw[hf i hi,QFN,QFN,QGM hi]
  rfl
 ·rw[QGm (by omega),QGm (by simp;omega)]
set_option maxRecDepth 100000 in
theorem Qwk {fuel:Nat} {cs:List Value} {x:DataW H×List MemPlace} (h:DataW.trod enc Tryz.prog w base sp held fuel 47 cs=some x):∃y:Nod,cs=NC y∧y.nm.size≤uptoBulk x.1:=by
 obtain⟨xs,m,rfl,rfl,hl,hxl,he⟩:=DataW.trod_struct Tryz.underlying47 h
 have hn:Tryz.prog.cellsOf 47=66:=by kernel_rfl
 have hS:Tryz.prog.cellsOf 9=1:=by kernel_rfl
 have hU:Tryz.prog.cellsOf 24=1:=by kernel_rfl
 have hB:Tryz.prog.cellsOf 45=32:=by kernel_rfl
 rw[hn]at hl
 have hxl4:xs.length=4:=hxl
 have e0:DataW.trod enc Tryz.prog w base sp held m 9 ((cs.drop 0).take (Tryz.prog.cellsOf 9))=xs[0]?:=he 0 _ rfl
 have e1:DataW.trod enc Tryz.prog w base sp held m 24 ((cs.drop 1).take (Tryz.prog.cellsOf 24))=xs[1]?:=he 1 _ rfl
 have e2:DataW.trod enc Tryz.prog w base sp held m 45 ((cs.drop 2).take (Tryz.prog.cellsOf 45))=xs[2]?:=he 2 _ rfl
 have e3:DataW.trod enc Tryz.prog w base sp held m 45 ((cs.drop 34).take (Tryz.prog.cellsOf 45))=xs[3]?:=he 3 _ rfl
 rw[hS,QFB (by omega)]at e0
 rw[hU,QFB (by omega)]at e1
 rw[hB,QFB (by omega)]at e2 e3
 obtain⟨s,hs,hx0,_⟩:=DataW.trod_string Tryz.underlying9 e0
 obtain⟨z,hz,_,hw⟩:=DataW.trod_int Tryz.underlying24 e1
 obtain⟨K,hK⟩:=QpH e2
 obtain⟨P,hP⟩:=QpH e3
 have hr:0≤z∧z≤18446744073709551615:=by simpa [Lit.wf,IntKind.min,IntKind.max,IntKind.signed,IntKind.bits] using hw
 have c0:=QdS hs
 have c1:=QdS hz
 rw[Qbi z hr.1 (by omega)]at c1
 refine⟨⟨s,QFZ z.toNat,K,P⟩,?_,?_⟩
 ·match cs,hl,c0,c1,hK,hP with
  | a :: b :: r,hl,c0,c1,hK,hP=>
    have hrl:r.length=64:=by simpa using hl
    rw[QHc,QHc,QHM]at hK
    rw[show (34:Nat)=32+1+1 from rfl,QHc,QHc,QFJ (by simp;omega)]at hP
    obtain rfl:a= .string s:=by simpa using c0
    obtain rfl:b=W64 (QFZ z.toNat):=by simpa using c1
    rw[NC,←hK,←hP,QF8]
 ·have hb:xs[0].1= .lit (.string s.data.toList):=by rw[hx0]
  have:=QlV (d:=xs[0].1) (l:=xs.map (·.1)) (QGf.2 ⟨_,QGy _,rfl⟩)
  rw[hb]at this
  simp only[uptoBulk]at this ⊢
  have hsz:s.data.toList.length=s.size:=by simp
  show s.size≤_
  omega
theorem QvG {fuel:Nat} {v:Value} {x:DataW H×List MemPlace} (h:DataW.trod enc Tryz.prog w base sp held fuel 22 [v]=some x):
 ∃A n c xs,v= .slice A n c∧n≤c∧RdN w A n xs∧n+1≤uptoBulk x.1∧∀y∈xs,y.nm.size≤uptoBulk x.1:=by
 rcases DataW.trod_slice Tryz.underlying22 h with ⟨hcs,rfl⟩|⟨a,len,cap,elems,rest,n,rfl,hcs,rfl,hb,hl,hm,hlen,hel,hsp,hns⟩
 ·obtain rfl:v= .slice none 0 0:=by simpa using hcs
  exact⟨none,0,0,[],rfl,QFE _,QgZ w,by simp[uptoBulk],by simp⟩
 ·obtain rfl:v= .slice (some a) len cap:=by simpa using hcs
  have hc:Tryz.prog.cellsOf 47=66:=by kernel_rfl
  have each:∀i,∃y:Nod,i<len→(w.cells? base (a.add (i*66)) 66=some (NC y)∧y.nm.size≤uptoBulkAll (elems.map (·.1))):=by
   intro i
   by_cases hi:i<len
   ·have hE:=hel i hi
    rw[hc]at hE
    have hy:elems[i]?=some (elems[i]'(by omega)):=QFB _
    rw[hy,Option.bind_eq_some_iff]at hE
    obtain⟨c1,hc1,hy1⟩:=hE
    obtain⟨y,rfl,hsz⟩:=Qwk hy1
    exact⟨y,fun _=>⟨hc1,QGh hsz (QlV (QGf.2 ⟨_,QGy _,rfl⟩))⟩⟩
   ·exact⟨nod0,fun h=>absurd h hi⟩
  obtain⟨f,hf⟩:=Classical.axiomOfChoice each
  have hfl:∀j,j<len→((QF6 len).map f).getD j nod0=f j:=by
   intro j hj
   rw[QFC,QFN,QGM hj]
   rfl
  have e2:=Qlz (elems.map (·.1))
  rw[QFA,hlen]at e2
  refine⟨some a,len,cap,(QF6 len).map f,rfl,hl,⟨by simp,fun h0=>?_⟩,?_,fun y hy=>?_⟩
  ·have e0:a.add (0*66)=a:=by simp[Addr.add]
   have h00:=(Qga (hf 0 h0).1).2 0 (by omega)
   rw[e0]at h00
   have e1:a.add 0=a:=by simp[Addr.add]
   rw[e1,NC,QFw]at h00
   obtain⟨h1,h2⟩:=Qjz h00
   obtain⟨b,o,s⟩:=a
   simp only at h1
   subst h1
   refine⟨b,o,rfl,h2,fun j i v hj hv=>?_⟩
   rw[hfl j hj]at hv
   have hi:i<66:=by
    have:=(QFU.1 hv).1
    rwa [QaJ]at this
   have:=(Qga (hf j hj).1).2 i hi
   rw[Qda,Qda]at this
   rw[this]
   exact hv
  ·simp only[uptoBulk]
   omega
  ·obtain⟨j,hj,rfl⟩:=QGf.1 hy
   have:=(hf j (QGS.1 hj)).2
   simp only[uptoBulk]
   omega
set_option maxRecDepth 100000 in
theorem Qs9 {b0:Nat} {r:Reach} {v:Value} {d:DataW H} {ps:List MemPlace} (ht:Tryz.prog.underlying 22=some (.slice 47)) (hval:Value.okWide Tryz.prog w r b0 22 v) (h:DataW.Trod enc Tryz.prog w base sp held 22 v d ps):
 ∃A n c xs,v= .slice A n c∧n≤c∧RdN w A n xs∧n+1≤uptoBulk d∧∀y∈xs,y.nm.size≤uptoBulk d:=by
 obtain⟨A,n,c,rfl⟩:=okWide_slice ht hval
 obtain⟨f,hf⟩:=h
 obtain⟨A',n',c',ns,h1,h2,h3,h4,h5⟩:=QvG hf
 exact⟨A',n',c',ns,h1,h2,h3,h4,h5⟩
end
section
variable {H:Type} {enc:TypeId×Value→H} {w:World} {base:Nat} {sp:Nat→Bool} {held:Bool}
set_option maxRecDepth 100000 in
theorem Qxr {fuel:Nat} {cs:List Value} {x:DataW H×List MemPlace} (h:DataW.trod enc Tryz.prog w base sp held fuel 87 cs=some x):∃y:Stp,cs=SC y:=by
 obtain⟨xs,m,rfl,rfl,hl,hxl,he⟩:=DataW.trod_struct Tryz.underlying87 h
 have hn:Tryz.prog.cellsOf 87=3:=by kernel_rfl
 have hS:Tryz.prog.cellsOf 9=1:=by kernel_rfl
 have hI:Tryz.prog.cellsOf 3=1:=by kernel_rfl
 rw[hn]at hl
 have hxl3:xs.length=3:=hxl
 have e0:DataW.trod enc Tryz.prog w base sp held m 9 ((cs.drop 0).take (Tryz.prog.cellsOf 9))=xs[0]?:=he 0 _ rfl
 have e1:DataW.trod enc Tryz.prog w base sp held m 3 ((cs.drop 1).take (Tryz.prog.cellsOf 3))=xs[1]?:=he 1 _ rfl
 have e2:DataW.trod enc Tryz.prog w base sp held m 3 ((cs.drop 2).take (Tryz.prog.cellsOf 3))=xs[2]?:=he 2 _ rfl
 rw[hS,QFB (by omega)]at e0
 rw[hI,QFB (by omega)]at e1 e2
 obtain⟨s,hs,_,_⟩:=DataW.trod_string Tryz.underlying9 e0
 obtain⟨y,hy,_,_⟩:=DataW.trod_int Tryz.underlying3 e1
 obtain⟨z,hz,_,_⟩:=DataW.trod_int Tryz.underlying3 e2
 have c0:=QdS hs
 have c1:=QdS hy
 have c2:=QdS hz
 refine⟨⟨s,y,z⟩,?_⟩
 match cs,hl,c0,c1,c2 with
 | [a,b,c],_,c0,c1,c2=>
   obtain rfl:a= .string s:=by simpa using c0
   obtain rfl:b= .int .i64 y:=by simpa using c1
   obtain rfl:c= .int .i64 z:=by simpa using c2
   rfl
theorem QtF {fuel:Nat} {v:Value} {x:DataW H×List MemPlace} (h:DataW.trod enc Tryz.prog w base sp held fuel 23 [v]=some x):
 ∃A n c xs,v= .slice A n c∧n≤c∧RdS w A n xs∧n+1≤uptoBulk x.1:=by
 rcases DataW.trod_slice Tryz.underlying23 h with ⟨hcs,rfl⟩|⟨a,len,cap,elems,rest,n,rfl,hcs,rfl,hb,hl,hm,hlen,hel,hsp,hns⟩
 ·obtain rfl:v= .slice none 0 0:=by simpa using hcs
  exact⟨none,0,0,[],rfl,QFE _,QgZ w,by simp[uptoBulk]⟩
 ·obtain rfl:v= .slice (some a) len cap:=by simpa using hcs
  have hc:Tryz.prog.cellsOf 87=3:=by kernel_rfl
  have each:∀i,∃y:Stp,i<len→w.cells? base (a.add (i*3)) 3=some (SC y):=by
   intro i
   by_cases hi:i<len
   ·have hE:=hel i hi
    rw[hc]at hE
    have hy:elems[i]?=some (elems[i]'(by omega)):=QFB _
    rw[hy,Option.bind_eq_some_iff]at hE
    obtain⟨c1,hc1,hy1⟩:=hE
    obtain⟨y,rfl⟩:=Qxr hy1
    exact⟨y,fun _=>hc1⟩
   ·exact⟨stp0,fun h=>absurd h hi⟩
  obtain⟨f,hf⟩:=Classical.axiomOfChoice each
  have hfl:∀j,j<len→((QF6 len).map f).getD j stp0=f j:=by
   intro j hj
   rw[QFC,QFN,QGM hj]
   rfl
  have e2:=Qlz (elems.map (·.1))
  rw[QFA,hlen]at e2
  refine⟨some a,len,cap,(QF6 len).map f,rfl,hl,⟨by simp,fun h0=>?_⟩,?_⟩
  ·have e0:a.add (0*3)=a:=by simp[Addr.add]
   have h00:=(Qga (hf 0 h0)).2 0 (by omega)
   rw[e0]at h00
   have e1:a.add 0=a:=by simp[Addr.add]
   rw[e1,SC,QFw]at h00
   obtain⟨h1,h2⟩:=Qjz h00
   obtain⟨b,o,s⟩:=a
   simp only at h1
   subst h1
   refine⟨b,o,rfl,h2,fun j i v hj hv=>?_⟩
   rw[hfl j hj]at hv
   have hi:i<3:=by
    have:=(QFU.1 hv).1
    rwa [Qmz]at this
   have:=(Qga (hf j hj)).2 i hi
   rw[Qda,Qda]at this
   rw[this]
   exact hv
  ·simp only[uptoBulk]
   omega
set_option maxRecDepth 100000 in
theorem QrQ {b0:Nat} {r:Reach} {v:Value} {d:DataW H} {ps:List MemPlace} (ht:Tryz.prog.underlying 23=some (.slice 87)) (hval:Value.okWide Tryz.prog w r b0 23 v) (h:DataW.Trod enc Tryz.prog w base sp held 23 v d ps):
 ∃A n c xs,v= .slice A n c∧n≤c∧RdS w A n xs∧n+1≤uptoBulk d:=by
 obtain⟨A,n,c,rfl⟩:=okWide_slice ht hval
 obtain⟨f,hf⟩:=h
 obtain⟨A',n',c',ns,h1,h2,h3,h4⟩:=QtF hf
 exact⟨A',n',c',ns,h1,h2,h3,h4⟩
end
end Go.Proofs.YtcbdgnlcknllnaaGreat
