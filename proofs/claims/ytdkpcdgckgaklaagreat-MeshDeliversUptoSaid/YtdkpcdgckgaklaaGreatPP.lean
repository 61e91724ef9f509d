/-
  Lemmas for the last text of this claim (part 16 of 20).
-/
import Derived.ArgAppend
import Derived.BigQuiet
import Derived.BigRegion
import Derived.ChangeOld
import Derived.Deep.RegionWith
import Derived.DeepKeys4
import Derived.JoinedCond
import Derived.LaidMore
import Derived.Laws.CopyOwn
import Derived.Laws.Externs
import Derived.Laws.IdiomStrings
import Derived.Laws.Tables
import Derived.Lib.AppendStr
import Derived.Lib.AppendZerosOnto
import Derived.Lib.Mul64
import Derived.Lib.SlBytesConst
import Derived.LoopN
import Derived.Maps.OwnSet
import Derived.OpenShut
import Derived.OrdersHeld
import Derived.ProofKit
import Derived.Shelf.Spec.BitsCarry
import Derived.ShutString
import Derived.Test.YtdkpcdgckgaklaaGreatProg
import Derived.Test.YtdkpcdgckgaklaaGreatRows
import Derived.WalkKit
import Derived.WalkLawsBesides
import Derived.WalkSpells
import Derived.Test.YtdkpcdgckgaklaaGreatPB
import Derived.Test.YtdkpcdgckgaklaaGreatPD
import Derived.Test.YtdkpcdgckgaklaaGreatPN
open Array renaming replicate → QDL
open Bool renaming and_eq_true → QCG
open List renaming replicate → QCn, getElem?_cons_succ → QCo, getElem?_cons_zero → QCp, cons_append → QCr, nil_append → QCs, length_map → QCt, getD_eq_getElem?_getD → QCu, getElem?_eq_getElem → QCv, setIfInBounds_toArray → QCw, set_cons_zero → QCy, set_cons_succ → QCz, map_toArray → QCA, length_append → QCB, map_nil → QCC, getElem?_append_left → QCD, getElem?_append_right → QCF, getElem?_map → QCH, length_replicate → QCJ, getElem?_eq_some_iff → QCK, append_assoc → QCL, length_take → QCP, mem_cons → QCQ, map_cons → QCR, length_drop → QCS, not_mem_nil → QCT, set_append_right → QCX, eq_nil_of_length_eq_zero → QC0, map_replicate → QC8, mem_append → QDc, getElem?_eq_none → QDr, all_cons → QDA, map_take → QDB, set_append_left → QDD, mem_singleton → QDH, singleton_append → QDW
open Nat renaming le_refl → QCx, zero_add → QCI, lt_of_lt_of_le → QCM, le_trans → QC4, add_zero → QDP, le_of_eq → QDR
open Option renaming toList_some → QCq, bind_some → QDF
open UInt32 renaming ofNat → QCW
open UInt64 renaming ofNat → QCN
set_option linter.all false
namespace Go.Proofs.YtdkpcdgckgaklaaGreat
open Go.RowKit
open Go.BigFrame
theorem Qgn (z:Value) (k:Nat):(Builtin.zeroCells #[z] k).toList=QCn k z:=by
 apply List.eq_replicate_iff.2
 refine⟨by simp[Builtin.zeroCells],fun b hb=>?_⟩
 simp[Builtin.zeroCells,Nat.mod_one]at hb
 first|exact hb.2.symm|exact hb.2|exact hb.symm|exact hb
theorem QfO {P:Program} (w:World) (base:Nat) (t tn ty e:TypeId) (i:TypeInfo) (kn:IntKind) (ht:P.underlying t=some (.slice e)) (htn:P.underlying tn=some (.int kn)) (hi:P.info? e=some i) (hz:i.zero=some (.int .u8 0)) (hs1:i.size=1) (hby:i.bytes=1)
 (v:Value) (n:Nat) (xs:List Value) (hown:w.ownsRow base e 1 v n xs) (k:Nat) (h0:0<k) (hm:n+k≤1048576) (hbase:base≤w.heap.size):
 ∃v' w',(Builtin.append_ #[t,tn] ty #[v,.int .i64 (k:Int)]).run P w= .ok v' w'∧w'.ownsRow base e 1 v' (n+k) (xs++QCn k (.int .u8 0))∧w.grownBy w' v.ownBlock:=by
 have hzc:(Value.int .u8 0).cells= #[Value.int .u8 0]:=rfl
 have hlen:(xs++QCn k (Value.int .u8 0)).length=(n+k)*1:=by rw[QCB,hown.1,QCJ];omega
 have hml:n+k≤maxLen:=by unfold maxLen;omega
 have grown:∀(old:Nat),old<n+k→∀(row:Option Nat),
  (w.drew.alloc (.cells (xs.toArray++Builtin.zeroCells (Value.int .u8 0).cells k++Builtin.zeroCells (Value.int .u8 0).cells (grownCap w (n+k) old e-(n+k))) e)).ownsRow base e 1
    (.slice (some ⟨w.heap.size,0,none⟩) (n+k) (grownCap w (n+k) old e)) (n+k) (xs++QCn k (.int .u8 0))∧
  w.grownBy (w.drew.alloc (.cells (xs.toArray++Builtin.zeroCells (Value.int .u8 0).cells k++Builtin.zeroCells (Value.int .u8 0).cells (grownCap w (n+k) old e-(n+k))) e)) row:=by
  intro old ho row
  have hge:=grownCap_ge w (n+k) old e
  have hcm:grownCap w (n+k) old e≤maxLen:=grownCap_le_maxLen w (n+k) old e hml
  refine⟨⟨hlen,.inr ⟨w.heap.size,_,_,rfl,hbase,heap_alloc_new w.drew _,hge,hcm,?_,?_⟩⟩,⟨rfl,rfl,rfl,by simp,fun j hj _=>heap_alloc_old w.drew _ hj⟩⟩
  ·have hx:=hown.1
   simp only[Array.size_append,List.size_toArray,size_zeroCells,hzc,hx]
   simp
   omega
  ·simp only[Array.toList_append,hzc,Qgn]
   rw[←hlen]
   exact List.take_left
 rcases hown.2 with ⟨rfl,rfl⟩|⟨g,cap,cur,rfl,hbg,hg,hnc,hcm,hcs,htake⟩
 ·have hx:xs=[]:=QC0 (by simpa using hown.1)
  subst hx
  have hr:=Lib.run_append_nil_zeros (P:=P) w t tn ty e i _ .i64 kn ht htn hi hz k h0 (by omega) (by omega) (by rw[hby];omega)
  have hgr:=grown 0 (by omega) (Value.ownBlock (.slice none 0 0))
  simp only[QCI,QCs,Array.empty_append]at hgr ⊢
  exact⟨_,_,hr,hgr.1,hgr.2⟩
 ·by_cases hroom:n+k≤cap
  ·have hst:=run_storeCells_at P g n e (QCn k (Value.int .u8 0)) 0 cur w hg (by rw[QCJ];omega) (by intro u hu;rw[(List.mem_replicate.1 hu).2];rfl)
   simp only[QDP]at hst
   have hw:IntKind.i64.wrap (k:Int)=k:=by rw[IntKind.wrap_i64];omega
   have hneg: ¬((k:Int)<0):=by omega
   have h48i: ¬(281474976710656<(k:Int)):=by omega
   have hk0:k≠0:=by omega
   have hr:(Builtin.append_ #[t,tn] ty #[.slice (some ⟨g,0,none⟩) n cap,.int .i64 (k:Int)]).run P w= .ok (.slice (some ⟨g,0,none⟩) (n+k) cap) (w.setRow g (cur.toList.take n++QCn k (Value.int .u8 0)++cur.toList.drop (n+(QCn k (Value.int .u8 0)).length)).toArray):=by
    simp[Builtin.append_,run_underlying ht,run_underlying htn,sizeOf,typeInfo,zeroValue,hi,hz,hs1,hby,hzc,Qgn,asInt,asIntOf,hw,hneg,h48i,hk0,hroom,Addr.add_lit]
    simp only[QCJ,QCL]at hst
    rw[hst]
    simp
   refine⟨_,_,hr,⟨hlen,.inr ⟨g,cap,_,rfl,hbg,setRow_heap w g cur _ e _ hg,hroom,hcm,?_,?_⟩⟩,⟨rfl,rfl,rfl,by simp,fun j _ hj=>setRow_other w g j _ (fun e=>hj (by simp[Value.ownBlock,e]))⟩⟩
   ·simp only[List.size_toArray,QCB,QCP,QCS,Array.length_toList,QCJ]
    omega
   ·have ht':cur.toList.take n=xs:=by simpa using htake
    rw[ht',←hlen]
    exact List.take_left
  ·have holds:∀j u,xs[j]?=some u→w.drew.cell? ((⟨g,0,none⟩:Addr).add j)=some u:=fun j u hu=>hown.cells (g:=g) rfl j u hu
   have hf:=run_firstCells_some (P:=P) w.drew i.size n ⟨g,0,none⟩ n cap xs (by rw[hs1];exact hown.1) holds
   have hr:=Lib.run_append_grow_zeros (P:=P) w t tn ty e i _ .i64 kn ht htn hi hz (some ⟨g,0,none⟩) n cap xs hf k h0 (by omega) (by omega) (by omega) (by rw[hby];omega) (growslice_fits (by omega) (by rw[hby];omega))
   have hgr:=grown cap (by omega) (some g)
   exact⟨_,_,hr,hgr.1,hgr.2⟩
section
variable {P:Program} {ops:Array Oper} {rest:List Oper} {o:Oper} {a:Act} {w:World} {Q:Exit→Act→World→Prop}
theorem Qgf (hgd:o.guard=none) (s x:Operand) (t tn:TypeId) (ho:o.op= .call { callee:=.builtin .append,args:= #[s,x],argTypes:= #[t,tn] })
 (e:TypeId) (kn:IntKind) (ht:P.underlying t=some (.slice e)) (htn:P.underlying tn=some (.int kn)) (hinfo:(P.info? e).map (fun i=>(i.zero,i.size,i.bytes))=some (some (.int .u8 0),1,1))
 (base:Nat) (v:Value) (n:Nat) (vs:List Value) (hown:w.ownsRow base e 1 v n vs) (hb:base≤w.heap.size) (k:Nat) (h0:0<k) (hs:a.eval s=v) (hx:a.eval x= .int .i64 (k:Int)) (hsz:n+k≤1048576)
 (h:∀A' c' w',w'.ownsRow base e 1 (.slice A' (n+k) c') (n+k) (vs++QCn k (.int .u8 0))→w.grownBy w' v.ownBlock→wpList P ops Q rest (a.put o.dst (.slice A' (n+k) c')) w'):
 wpList P ops Q (o :: rest) a w:=by
 obtain⟨i,hi,hz,hsize,hbytes⟩:=info_parts hinfo
 obtain⟨v',w',hrun,h2,h3⟩:=QfO (P:=P) w base t tn o.type e i kn ht htn hi hz hsize hbytes v n vs hown k h0 hsz hb
 refine Lib.wpList_append_run w hgd s x t tn ho v (.int .i64 (k:Int)) hs hx v' w' hrun ?_
 obtain⟨A',c',rfl⟩:=Qk0 h2
 exact h A' c' w' h2 h3
end
end Go.Proofs.YtdkpcdgckgaklaaGreat
namespace Go.Proofs.YtdkpcdgckgaklaaGreat
open Go.BigFrame
open Go.RowKit
section
variable {P:Program} {ops:Array Oper} {Q:Exit→Act→World→Prop} {T:World→Prop}
def wpS (P:Program) (ops:Array Oper) (Q:Exit→Act→World→Prop) (T:World→Prop):List (Nat×Bool)→Act→World→Prop
 | [],a,w=>Q .normal a w
 | (i,true) :: r,a,w=>∃o,ops[i]?=some o∧if Region.wanted o (yielded ops a.tmps) then o.quiet P a T (fun a'=>wpS P ops Q T r a' w) else wpS P ops Q T r (a.put o.dst undef) w
 | (i,false) :: r,a,w=>wpOp P ops Q i (fun a' w'=>T w'∧wpS P ops Q T r a' w') a w
def QnC (ops:Array Oper):List (Nat×Bool)→Array Bool→Bool
 | [],listed=>(Region.ready .any ops listed).isEmpty
 | (i,true) :: r,listed=>(Region.ready .any ops listed).contains i&&Region.free .any ops listed i&&((ops[i]?).map calm).getD false&&QnC ops r (listed.setIfInBounds i true)
 | (i,false) :: r,listed=>decide (Region.ready .any ops listed=[i])&&QnC ops r (listed.setIfInBounds i true)
theorem simS (hsel:∀(j:Nat) (o:Oper) cs b,ops[j]?=some o→o.op≠ .select cs b) (hQ1:∀c a d v w,Q (.panic c) (a.put d v) w→Q (.panic c) a w):
 ∀(l:List (Nat×Bool)) (listed:Array Bool) (a:Act) (w:World),QnC ops l listed=true→T w→wpS P ops Q T l a w→Qhx P ops Q T l.length listed a w
 | [],listed,a,w,hB,_,h=>⟨by simpa [QnC] using hB,h⟩
 | (i,true) :: r,listed,a,w,hB,hT,h=>by
   simp only[QnC,QCG]at hB
   obtain⟨⟨⟨hrd,hf⟩,hcm⟩,hok⟩:=hB
   obtain⟨o,ho,h⟩:=h
   have hri:i∈Region.ready .any ops listed:=by simpa using hrd
   have hcm':calm o=true:=by simpa [ho] using hcm
   have next:∀v,YieldsIf P ops T o v a→wpS P ops Q T r (a.put o.dst v) w→Qhx P ops Q T (r.length+1) listed a w:=fun v hy hnx=>
    Qhn ho hsel (fun c a w=>hQ1 c a _ _ w) r.length listed a w (Region.free_spec ho hf) hri hy hT (simS hsel hQ1 r _ _ w hok hT hnx)
   by_cases hw:Region.wanted o (yielded ops a.tmps)=true
   ·rw[if_pos hw]at h
    obtain⟨v,hy,hnx⟩:=Qcn hcm' hw h
    exact next v hy hnx
   ·rw[if_neg hw]at h
    exact next undef (.inr ⟨by simpa using hw,rfl⟩) h
 | (i,false) :: r,listed,a,w,hB,hT,h=>by
   simp only[QnC,QCG,decide_eq_true_eq]at hB
   obtain⟨hrd,hok⟩:=hB
   refine⟨fun he=>(by rw[hrd]at he;cases he),fun j hj=>?_⟩
   rw[hrd]at hj
   obtain rfl:j=i:=by simpa using hj
   exact wpOp_mono (fun a' w' h'=>⟨h'.1,simS hsel hQ1 r _ a' w' hok h'.1 h'.2⟩) h
def Qbs (P:Program) (l:List Oper) (Q:Exit→Act→World→Prop) (T:World→Prop) (qs:List Nat):List (List Nat×Nat)→Act→World→Prop
 | [],a,w=>wpQuiet P l.toArray T (fun a'=>wpList P l.toArray Q [] a' w) (pick l qs) a
 | (q,i) :: r,a,w=>wpQuiet P l.toArray T (fun a'=>wpList P l.toArray (Exit.then (fun a'' w''=>T w''∧Qbs P l Q T qs r a'' w'') Q) (pick l [i]) a' w) (pick l q) a
theorem QfJ {l:List Oper} {Qa:Act→Prop} {r:List (Nat×Bool)} {w:World} (hQa:∀a,Qa a→wpS P l.toArray Q T r a w):∀(qs:List Nat),(qs.all fun i=>decide (i<l.length))=true→
 ∀a,wpQuiet P l.toArray T Qa (pick l qs) a→wpS P l.toArray Q T (qs.map (·,true)++r) a w
 | [],_,a,h=>hQa a h
 | i :: qs,hb,a,h=>by
   simp only[QDA,QCG,decide_eq_true_eq]at hb
   have hi:l[i]?=some (l[i]'hb.1):=QCv hb.1
   refine⟨l[i]'hb.1,by simp[hb.1],?_⟩
   simp only[pick,hi,QCq,QDW,wpQuiet]at h
   by_cases hw:Region.wanted (l[i]'hb.1) (yielded l.toArray a.tmps)=true
   ·rw[if_pos hw]at h ⊢
    exact Oper.quiet_mono (fun a' h'=>QfJ hQa qs hb.2 a' h') h
   ·rw[if_neg hw]at h ⊢
    exact QfJ hQa qs hb.2 _ h
def Qs1 (qs:List Nat):List (List Nat×Nat)→List (Nat×Bool)
 | []=>qs.map (·,true)++[]
 | (q,i) :: r=>q.map (·,true)++((i,false) :: Qs1 qs r)
def QsJ (l:List Oper) (qs:List Nat) (segs:List (List Nat×Nat)):Bool:=
 Region.noSelect l.toArray&&(qs.all fun i=>decide (i<l.length))&&(segs.all fun s=>decide (s.2<l.length)&&s.1.all fun i=>decide (i<l.length)) &&
 QnC l.toArray (Qs1 qs segs) (QDL l.length false)&&decide ((Qs1 qs segs).length=l.length)
theorem Qjq {l:List Oper} {qs:List Nat} (hq:(qs.all fun i=>decide (i<l.length))=true):
 ∀(segs:List (List Nat×Nat)),(segs.all fun s=>decide (s.2<l.length)&&s.1.all fun i=>decide (i<l.length))=true→∀a w,Qbs P l Q T qs segs a w→wpS P l.toArray Q T (Qs1 qs segs) a w
 | [],_,a,w,h=>QfJ (fun a h=>h) qs hq a h
 | (q,i) :: r,hb,a,w,h=>by
   simp only[QDA,QCG,decide_eq_true_eq]at hb
   refine QfJ (fun a h=>?_) q hb.1.2 a h
   exact wpOp_mono (fun a' w' h'=>⟨h'.1,Qjq hq r hb.2 a' w' h'.2⟩) (Qcm hb.1.1 h)
theorem Qch {id:Nat} {a:Act} {w:World} {l:List Oper} (T:World→Prop) (segs:List (List Nat×Nat)) (qs:List Nat) (hm:P.follows .mixedOrders=true) (hB:QsJ l qs segs=true)
 (hQ:∀c a d v w,Q (.panic c) (a.put d v) w→Q (.panic c) a w) (h:T w.drew∧Qbs P l Q T qs segs a w.drew):(Code.region id l.toArray true).wp P Q a w:=by
 simp only[QsJ,QCG,decide_eq_true_eq]at hB
 obtain⟨⟨⟨⟨hs,hq⟩,hsg⟩,hsq⟩,hlen⟩:=hB
 refine wp_region_any hm (Qg8 (T:=T) _ _ _ _ ?_)
 have:=simS (P:=P) (Q:=Q) (T:=T) (Region.noSelect_spec hs) hQ (Qs1 qs segs) (QDL l.length false) a w.drew hsq h.1 (Qjq hq segs hsg a _ h.2)
 rw[hlen]at this
 simpa using this
end
theorem Spared.later {w w1 w2:World} {bad:List Nat} (h:Spared w bad w1) (hl:Later w1 w2):Spared w bad w2:=
 ⟨QC4 h.1 hl.size,fun b hb hn=>(hl.below.block b (QCM hb h.1)).trans (h.2 b hb hn)⟩
theorem Spared.grown {w w1 w2:World} {bad:List Nat} {row:Option Nat} (h:Spared w bad w1) (hg:w1.grownBy w2 row) (hr:∀k,row=some k→w.heap.size≤k):Spared w bad w2:=
 ⟨QC4 h.1 hg.size,fun b hb hn=>(hg.block b (QCM hb h.1) (fun e=>by have:=hr b e.symm;omega)).trans (h.2 b hb hn)⟩
theorem Spared.fresh {w w1 w2:World} {bad:List Nat} {g:Nat} (h:Spared w bad w1) (ho:Only g w1 w2) (hg:w.heap.size≤g):Spared w bad w2:=
 h.grown ho (fun k e=>by cases e;exact hg)
end Go.Proofs.YtdkpcdgckgaklaaGreat
namespace Go.Proofs.YtdkpcdgckgaklaaGreat
open Go.RowKit
open Go.BigFrame
theorem QsT (xs ys:List UInt8):xorB xs ys=xorB ys xs:=List.zipWith_comm_of_comm (fun x y=>UInt8.xor_comm x y)
set_option maxRecDepth 100000 in
set_option maxHeartbeats 4000000 in
theorem Qp6 (at0:Int) (B:Option Addr) (n c:Nat) (key b S:List UInt8) (w:World) (hkl:key.length=32) (hb:RdB w B n b) (hn0:0<n) (hn:n≤1048576) (hS:S.length=n)
 (hBy:∀g w,RdB w (some ⟨g,0,none⟩) 32 key→Calls Tryz.prog 92 #[.slice (some ⟨g,0,none⟩) 32 32,.int .i64 at0,.int .i64 (n:Int)] w fun e w'=>∃A' c',e= .returned (.slice A' n c')∧OwnB w' w.heap.size A' n c' S∧Later w w'):
 Calls Tryz.prog 64 #[.agg (key.map W8).toArray,.int .i64 at0,.slice B n c] w fun e w'=>∃A' c',e= .returned (.slice A' n c')∧OwnB w' w.heap.size A' n c' (xorB b S)∧Later w w':=by
 have hbl:=hb.len
 obtain⟨b0,p,rfl,hb00,_⟩:=hb.2 hn0
 have hk:Blk (w.alloc (.cells (key.map W8).toArray 79)) w.heap.size 79 (key.map W8):=Blk.new _ _ _
 have L:=Qaa w (.cells (key.map W8).toArray 79)
 have hB2:=hid hBy
 have hlen:S.length=b.length:=by omega
 have hX:=hid (fun k=>Qd4 hlen k)
 have hG:=hid (fun k (h:k<S.length)=>QgN hlen h)
 have hSt:=hid (fun k (h:k<S.length)=>QfD hlen h)
 have hA:=hid (Qgx hlen)
 have hN:=hid (QfF S b)
 have hxl:=QbB hlen
 rw[QsT b S]
 clear hBy
 go_enter Tryz.func64,Tryz.ntmps64
 go_wp2_with fail
 (refine (hB2.out _ _ (Qen hk hkl)).mono ?_);rintro e w2 ⟨A2,c2,rfl,o2,l2⟩
 obtain⟨g2,r2,rfl,hg2,hb2,hc2,hcc2⟩:=QfB o2 hn0
 have hm2:(S.map W8++r2).length≤maxLen:=Qru o2 hc2
 have hgw:w.heap.size≤g2:=QC4 L.size hg2
 replace hc2:=hid hc2
 have L2:=L.trans l2
 clear hB2 hk L l2 hg2 o2
 go_wp2_with fail
 go_loopw [8] (fun i wr=>∃k:Nat,k≤n∧i= .int .i64 k∧Blk wr g2 5 ((Qfd S b k).map W8++r2)∧Later w wr) (fun i _=>n-(intOf i).toNat)
 case atStart=>exact⟨0,by omega,rfl,by rw[hN.out];exact hb2,L2⟩
 case round=>
  clear hb2 L2
  obtain⟨k,hk,rfl,hb2,L2⟩:=hrel
  by_cases hlt:k<n
  ·have hlb:b0<wr.drew.heap.size:=QCM hb00 (L2.trans (Qab _)).size
   have hlg:g2<wr.drew.heap.size:=hb2.drew.lt
   have c1:=Qa6 (hb.later (L2.trans (Qab wr))) k hlt
   have hxk:=hX.out k (by omega)
   have d1:=hb2.drew.cellD k (show ((Qfd S b k).map W8++r2)[k]?=some (W8 (S.getD k 0)) by rw[QCD (by rw[QCt];omega),QCH,hG.out k (by omega)];rfl)
   have HS:=hid (hSt.out k (by omega))
   have hb3:=hb2.drew
   have L3:=L2.trans (Qab wr)
   generalize S.getD k 0=x at *
   generalize b.getD k 0=y at *
   go_wp2_with fail
   refine Qad [] [0,1,2,3,4,5,6,7,8,9,10,11] [12] (by as_aux_lemma=>kernel_rfl) (by as_aux_lemma=>kernel_rfl) (by intro _ _ d _ _ h;cases d<;>exact h) ?_
   simp only[Qai,pick,QCo,QCp,QCq,QCr,QCs]
   repeat (go_big_quiet_step (fail))
   refine wpQuiet_nil ?_
   go_wp2_with (first
    | (refine Qac rfl rfl _ _ _ rfl g2 k _ _ hb3 rfl (by rw[QCB,QCt];omega) rfl QbR ?_;intro v' w5 hv' hb5 ho5;simp[go_sem]at hv';subst hv')
    | fail)
   rw[QDD _ _ (by rw[QCt];omega),Qby,HS.out]at hb5
   go_roundw
   case rel=>exact⟨k+1,by omega,by go_num,hb5,L3.only ho5 hgw⟩
   case measure=>simp[intOf];omega
  ·obtain rfl:k=n:=by omega
   have hAll:=hA.out
   rw[hS]at hAll
   rw[hAll]at hb2
   go_wp2_with fail
   go_ret
   exact⟨some ⟨g2,0,none⟩,c2,rfl,Qo6 hb2 hgw (by omega) (by rw[hc2.out,QCB,QCB,QCt,QCt];omega) (by rw[QCB,QCt]at hm2 ⊢;omega),L2⟩
theorem QtA (B:Option Addr) (n c:Nat) (key b:List UInt8) (w:World) (hkl:key.length=32) (hb:RdB w B n b) (hn0:0<n) (hn:n≤65536):
 Calls Tryz.prog 64 #[.agg (key.map W8).toArray,.int .i64 0,.slice B n c] w fun e w'=>∃A' c',e= .returned (.slice A' n c')∧OwnB w' w.heap.size A' n c' (xorB b (chaS key n))∧Later w w':=
 Qp6 0 B n c key b (chaS key n) w hkl hb hn0 (by omega) (QbZ key n) (fun g w h=>Qg1 (some ⟨g,0,none⟩) 32 n key w h hn)
set_option maxRecDepth 100000 in
set_option maxHeartbeats 2000000 in
theorem Qvu (A B:Option Addr) (n c m d:Nat) (key al be:List UInt8) (w:World) (hkl:key.length=32) (ha:RdB w A n al) (hb:RdB w B m be) (hn:n≤1048576) (hm:m≤1048576):
 Calls Tryz.prog 91 #[.agg (key.map W8).toArray,.slice A n c,.slice B m d] w fun e w'=>∃A' c',e= .returned (.slice A' 16 c')∧OwnB w' w.heap.size A' 16 c' (tagB key al be)∧Later w w':=by
 have hk:Blk (w.alloc (.cells (key.map W8).toArray 79)) w.heap.size 79 (key.map W8):=Blk.new _ _ _
 have L:=Qaa w (.cells (key.map W8).toArray 79)
 have hal:=ha.len
 have hbl:=hb.len
 have hSh:=hid (fun A c d (w:World) (h1:RdB w (some ⟨c,0,none⟩) 32 key) h2=>Ql4 (some ⟨c,0,none⟩) A 32 32 (n+m) d key (al++be) w h1 (by omega) h2 (by omega))
 have hT:Hid ((Qbm key (al++be)).take 16=tagB key al be):=hid rfl
 rw[hT.out]at hSh
 generalize tagB key al be=TG at *
 go_enter Tryz.func91,Tryz.ntmps91
 go_wp2_with fail
 generalize w.alloc _=w1 at *
 refine Qch (Spared w1 []) [([0,1,3],2),([],4),([],5)] [6] (by as_aux_lemma=>kernel_rfl) (by as_aux_lemma=>kernel_rfl) (by intro _ _ d _ _ h;cases d<;>exact h) ⟨Spared.refl _ _,?_⟩
 simp only[Qbs,pick,QCo,QCp,QCq,QCr,QCs]
 repeat (first|(go_big_quiet_step (fail))|(go_big_quiet_want;go_big_quiet_op;refine⟨_,fun _ _=>rfl,?_⟩;go_big_quiet_on))
 refine wpQuiet_nil ?_
 go_wp2_with fail
 (refine (Qcf A n c al _ ((ha.later L).later (Qab _)) (by omega)).mono ?_);rintro e w2 ⟨A2,c2,rfl,o2,l2⟩
 have S2:=(Spared.refl w1 []).later l2
 go_wp2_with fail
 refine⟨S2,?_⟩
 try simp only[Qbs,pick,QCo,QCp,QCq,QCr,QCs]
 repeat (first|(go_big_quiet_step (fail))|(go_big_quiet_want;go_big_quiet_op;refine⟨_,fun _ _=>rfl,?_⟩;go_big_quiet_on))
 refine wpQuiet_nil ?_
 go_wp2_with (first
  | (refine Qas rfl _ _ _ rfl 5 _ 1 Tryz.underlying32 QbW rfl w1.drew _ n _ o2 l2 B m d _ (Rd.later hb ((L.trans (Qab _)).trans l2)) (QaE _) rfl rfl (by omega) (by omega) ?_;intro A3 c3 w3 hown3 hl3 hg3 _)
  | fail)
 simp only[Act.put,QCw,QCz,QCy]
 have S3:=S2.grown hg3 (fun k hk=>(World.ownsRow.lt o2 k hk).1)
 refine⟨S3,?_⟩
 try simp only[Qbs,pick,QCo,QCp,QCq,QCr,QCs]
 repeat (first|(go_big_quiet_step (fail))|(go_big_quiet_want;go_big_quiet_op;refine⟨_,fun _ _=>rfl,?_⟩;go_big_quiet_on))
 refine wpQuiet_nil ?_
 go_wp2_with fail
 (refine (hSh.out _ _ _ _ (Qen ((hk.later (Qab _)).later hl3) hkl) (Qdc hown3).rd).mono ?_);rintro e w4 ⟨A4,c4,rfl,o4,l4⟩
 go_wp2_with fail
 refine⟨S3.later l4,?_⟩
 try simp only[Qbs,pick,QCo,QCp,QCq,QCr,QCs]
 repeat (first|(go_big_quiet_step (fail))|(go_big_quiet_want;go_big_quiet_op;refine⟨_,fun _ _=>rfl,?_⟩;go_big_quiet_on))
 refine wpQuiet_nil ?_
 go_wp2_with fail
 go_ret
 exact⟨_,_,rfl,o4.mono ((L.trans (Qab _)).trans hl3).size,((L.trans (Qab _)).trans hl3).trans l4⟩
theorem QtZ (m:Y16) (h:∀j,j<16→m.val.getD j 0=0):(m.val==QaV.val)=true:=by
 rw[beq_iff_eq]
 have hl:=m.2
 apply List.ext_getElem?
 intro j
 show _=(QCn 16 (0:UInt8))[j]?
 by_cases hj:j<16
 ·rw[List.getElem?_replicate_of_lt hj,QCv (by omega)]
  have:=h j hj
  rw[QCu,QCv (by omega)]at this
  rw[←this]
  rfl
 ·rw[QDr (by omega),QDr (by rw[QCJ];omega)]
theorem Qvr (m:Y16) {j:Nat} (hj:j<16) (h:m.val.getD j 0≠0):(m.val==QaV.val)=false:=by
 rw[beq_eq_false_iff_ne]
 intro e
 apply h
 rw[e]
 show (QCn 16 (0:UInt8)).getD j 0=0
 rw[QCu,List.getElem?_replicate_of_lt hj]
 rfl
set_option maxRecDepth 100000 in
set_option maxHeartbeats 1000000 in
theorem Qqt (c:Cmd) (w:World):Calls Tryz.prog 119 #[.agg (CC c).toArray] w fun e w'=>e= .returned (.bool (!(c.ma.val==QaV.val)))∧Later w w':=by
 have hb:Blk (w.alloc (.cells (CC c).toArray 98)) w.heap.size 98 (CC c):=Blk.new _ _ _
 obtain⟨_,_,_,_,c4⟩:=QdK hb
 have L:=Qaa w (.cells (CC c).toArray 98)
 have hml:=c.ma.2
 have h1:=hid (QtZ c.ma)
 have h2:=hid (fun j hj=>Qvr c.ma (j:=j) hj)
 have hc4:=hid (fun j (hj:j<16)=>c4 j (W8 (c.ma.val.getD j 0)) (by rw[QCH,QCu,QCv (by omega)];rfl))
 have hlt:=hb.lt
 clear c4 hb
 go_enter Tryz.func119,Tryz.ntmps119
 go_wp2_with fail
 generalize w.alloc _=w1 at *
 generalize w.heap.size=g at *
 go_loopw [3] (fun i wr=>∃k:Nat,k≤16∧i= .int .i64 k∧Hid (∀ j,j<k→c.ma.val.getD j 0=0)∧Later w1 wr) (fun i _=>16-(intOf i).toNat)
 case atStart=>exact⟨0,by omega,rfl,hid (fun j h=>by omega),Later.refl w1⟩
 case round=>
  obtain⟨k,hk,rfl,hall,L1⟩:=hrel
  by_cases hlt':k<16
  ·have hc:=(L1.below.cell (p:=⟨g,4+k,none⟩) hlt).trans (hc4.out k hlt')
   have hbad:=hid (h2.out k hlt')
   have hstep:Hid (c.ma.val.getD k 0=0→∀j,j<k+1→c.ma.val.getD j 0=0):=hid (fun h j hj=>by
    by_cases e:j=k
    ·rw[e,h]
    ·exact hall.out j (by omega))
   generalize c.ma.val.getD k 0=z at *
   cases hz:(z==0)
   ·have hz':(z != 0)=true:=by rw[bne,hz];rfl
    have hne:Hid (z≠0):=hid (by simpa using hz)
    go_wp2
    go_ret
    exact⟨by rw[hbad.out hne.out];rfl,L.trans L1⟩
   ·have hz':(z != 0)=false:=by rw[bne,hz];rfl
    have hze:Hid (z=0):=hid (by simpa using hz)
    go_wp2
    exact⟨⟨k+1,by omega,by go_num,hid (hstep.out hze.out),L1⟩,by simp[intOf];omega⟩
  ·obtain rfl:k=16:=by omega
   have hv:=h1.out hall.out
   go_wp2
   go_ret
   exact⟨by rw[hv];rfl,L.trans L1⟩
theorem QrI (c:Cmd):cmdE c=if c.kd<1∨4<c.kd then 1 else if ((c.kd==1&&c.nx==0)||(!(c.kd==1)&& !(c.nx==0))||(!(c.kd==4)&& !(c.ma.val==QaV.val)))=true then 3 else if 1000000<c.dl then 11 else 0:=by
 rw[cmdE]
 congr 1
 have:(Qgd c=false)=(((c.kd==1&&c.nx==0)||(!(c.kd==1)&& !(c.nx==0))||(!(c.kd==4)&& !(c.ma.val==QaV.val)))=true):=by
  rw[Qgd,show QCn 16 (0:UInt8)=QaV.val from rfl,bne]
  cases c.kd==1<;>cases c.nx==0<;>cases c.kd==4<;>cases c.ma.val==QaV.val<;>simp
 simp only[this]
set_option maxRecDepth 100000 in
set_option maxHeartbeats 2000000 in
theorem QpA (c:Cmd) (w:World):Calls Tryz.prog 93 #[.agg (CC c).toArray] w fun e w'=>e= .returned (.int .i64 (cmdE c:Nat))∧Later w w':=by
 have hb:Blk (w.alloc (.cells (CC c).toArray 98)) w.heap.size 98 (CC c):=Blk.new _ _ _
 obtain⟨c0,_,c2,c3,_⟩:=QdK hb
 have L:=Qaa w (.cells (CC c).toArray 98)
 have hM:=hid (Qqt c)
 have hE:=hid (QrI c)
 generalize cmdE c=E at *
 generalize hm0:(c.ma.val==QaV.val)=m at *
 clear hm0
 by_cases hk:c.kd<1∨4<c.kd
 ·have HE:=hE.out
  rw[if_pos hk]at HE
  rw[HE]
  clear HE hE
  by_cases h1:c.kd<1
  all_goals
   have h4:c.kd<1∨4<c.kd:=hk
   simp only[h1,true_or,false_or]at h4
   go_enter Tryz.func93,Tryz.ntmps93
   go_wp2_with fail
   go_ret
   exact⟨rfl,L⟩
 ·have HE:=hE.out
  rw[if_neg hk]at HE
  have h1: ¬c.kd<1:=fun h=>hk (.inl h)
  have h4: ¬ 4<c.kd:=fun h=>hk (.inr h)
  replace hE:=hid HE
  clear HE hk
  go_enter Tryz.func93,Tryz.ntmps93
  cases e1:(c.kd==1)<;>cases e2:(c.nx==0)
  all_goals
   have n1:(c.kd != 1)= !(c.kd==1):=rfl
   have n2:(c.nx != 0)= !(c.nx==0):=rfl
   have n4:(c.kd != 4)= !(c.kd==4):=rfl
   rw[e1]at n1
   rw[e2]at n2
   have HE:=hE.out
   rw[e1,e2]at HE
  case false.false=>
   replace HE:=hid (show E=3 from HE)
   go_wp2_with fail
   go_ret
   exact⟨by rw[HE.out];rfl,L⟩
  case true.true=>
   replace HE:=hid (show E=3 from HE)
   go_wp2_with fail
   go_ret
   exact⟨by rw[HE.out];rfl,L⟩
  all_goals
   cases e4:(c.kd==4)
   ·rw[e4]at n4 HE
    replace HE:=hid (show E=if (!m)=true then 3 else if 1000000<c.dl then 11 else 0 from HE)
    go_wp2_with (first
     | (refine Qep rfl _ rfl hb rfl ?_)
     | fail)
    (with_reducible refine (hM.out _).mono ?_);rintro e w1 ⟨rfl,l1⟩
    replace c2:=(l1.below.cell (p:=⟨w.heap.size,2,none⟩) hb.lt).trans c2
    cases m
    ·replace HE:=hid (show E=3 from HE.out)
     go_wp2_with fail
     go_ret
     exact⟨by rw[HE.out];rfl,L.trans l1⟩
    ·replace HE:=hid (show E=if 1000000<c.dl then 11 else 0 from HE.out)
     by_cases hd:1000000<c.dl
     all_goals
      go_wp2_with fail
      go_ret
      exact⟨by rw[HE.out];(first|rw[if_pos hd]|rw[if_neg hd]);rfl,L.trans l1⟩
   ·rw[e4]at n4 HE
    replace HE:=hid (show E=if 1000000<c.dl then 11 else 0 from HE)
    by_cases hd:1000000<c.dl
    all_goals
     go_wp2_with fail
     go_ret
     exact⟨by rw[HE.out];(first|rw[if_pos hd]|rw[if_neg hd]);rfl,L⟩
theorem Qo5 (c:Cmd) (d:UInt32):(CC c).set 2 (W32 d)=CC { c with dl:=d }:=rfl
theorem Qoj (c:Cmd) (x:UInt64):(CC c).set 3 (W64 x)=CC { c with nx:=x }:=rfl
theorem QmK (b:List UInt8) (hb:b.length=32):Qau (CC ⟨b.getD 0 0,b.getD 1 0,(Qdt b).dl,(Qdt b).nx,QaV⟩) 4 ((((b.drop 14).take 16).map W8).take 16)=CC (Qdt b):=by
 have h:=Qjo b hb _ _ rfl rfl
 rw[Qo5,Qoj]at h
 rw[QDB,List.take_take]
 exact h
theorem Qxp (b:List UInt8):QCW (beN (subB b 2 0) 0)=0:=rfl
theorem QxW (b:List UInt8):QCN (beN (subB b 6 0) 0)=0:=rfl
theorem QxK (b:List UInt8) (hb:b.length=32) (k:Nat) (h2:2≤k) (h6:k<6):QCW (beN (subB b 2 (k+1-2)) 0)=QCW (beN (subB b 2 (k-2)) 0)*256+(b.getD k 0).toUInt32:=by
 rw[show k+1-2=(k-2)+1 by omega,QcL _ _ _ (by omega),QuX,show 2+(k-2)=k by omega]
theorem Qwy (b:List UInt8) (hb:b.length=32) (k:Nat) (h2:6≤k) (h6:k<14):QCN (beN (subB b 6 (k+1-6)) 0)=QCN (beN (subB b 6 (k-6)) 0)*256+(b.getD k 0).toUInt64:=by
 rw[show k+1-6=(k-6)+1 by omega,QcL _ _ _ (by omega),QvE,show 6+(k-6)=k by omega]
set_option maxRecDepth 100000 in
set_option maxHeartbeats 8000000 in
theorem QmS (A:Option Addr) (c:Nat) (b:List UInt8) (w:World) (hb:RdB w A 32 b) (hc:32≤c):
 Calls Tryz.prog 65 #[.slice A 32 c] w fun e w'=>e= .returned (.tuple #[.agg (CC (decC b)).toArray,.int .i64 (decE b:Nat)])∧Later w w':=by
 have hbl:=hb.len
 obtain⟨b0,p,rfl,hb00,_⟩:=hb.2 (by omega)
 have B0:=Qa8 w 98 cz0
 have hz0:cz0.length=20:=rfl
 have hfill:=hid (QmK b hbl)
 have hcutc:cutA (some ⟨b0,p,none⟩) 14 c=some ⟨b0,p+14,none⟩:=by rw[cutA,if_neg (by omega)];rfl
 have hCk:=hid (QpA (Qdt b))
 have hE:=Qjp (Qdt b)
 have hD:=hid (QlE b)
 have hC:=hid (show decC b=if decE b=0 then Qdt b else cmd0 from rfl)
 have hcd:=(hb.cut (c:=c) (show 14≤32 by omega) hc).take (m:=16) (by omega)
 rw[hcutc]at hcd
 have hd0:=hid (Qxp b)
 have hx0:=hid (QxW b)
 have hdn:=hid (fun k h1 h2=>QxK b hbl k h1 h2)
 have hxn:=hid (fun k h1 h2=>Qwy b hbl k h1 h2)
 have hdE:=hid (show QCW (beN (subB b 2 (6-2)) 0)=(Qdt b).dl from rfl)
 have hxE:=hid (show QCN (beN (subB b 6 (14-6)) 0)=(Qdt b).nx from rfl)
 generalize decC b=DC at *
 generalize decE b=DE at *
 generalize cmdE (Qdt b)=e9 at *
 have hb0:=QfL
 go_enter Tryz.func65,Tryz.ntmps65
 go_wp2_with fail
 generalize hW:w.alloc _=w1
 replace B0:Bag w w1 [(w.heap.size,98,cz0)]:=by rw[←hW];exact B0
 clear hW
 have r1:=(hb.later B0.lat).later (Qab _)
 have c0:=Qa6 r1 0 (by omega)
 have c1:=Qa6 r1 1 (by omega)
 have hlb:b0<w1.drew.heap.size:=QCM hb00 (B0.lat.trans (Qab _)).size
 rw[QDP]at c0
 have hbc:=Qjx (b.getD 0 0) (b.getD 1 0)
 generalize hk0:b.getD 0 0=k0 at *
 generalize hk1:b.getD 1 0=k1 at *
 clear hk0 hk1
 refine Qad [([0,1,2,3,4,5,6],7)] [] [8] (by as_aux_lemma=>kernel_rfl) (by as_aux_lemma=>kernel_rfl) (by intro _ _ d _ _ h;cases d<;>exact h) ?_
 simp only[Qai,pick,QCo,QCp,QCq,QCr,QCs]
 repeat (first|go_big_quiet_skip|(go_big_quiet_want;(refine Qb0 _ _ rfl (CC ⟨k0,k1,0,0,QaV⟩) (by simp only[QCA,QCR,QCC];exact hbc) ?_);simp only[Act.put,QCw,QCz,QCy];go_big_quiet_on)|(go_big_quiet_step (fail)))
 refine wpQuiet_nil ?_
 go_wp2_with fail
 try refine⟨by first|assumption|exact Qab _|exact Qaa _ _|exact Later.refl _,?_⟩
 try simp only[Qai,pick,QCo,QCp,QCq,QCr,QCs]
 repeat (go_big_quiet_step (fail))
 refine wpQuiet_nil ?_
 go_wp2_with (first
  | (refine QbJ rfl rfl _ _ rfl (Blk.new w1.drew _ cz0) rfl rfl rfl ?_;intro w3 hb3 ho3)
  | fail)
 have B1:=B0.push ((Qab _).trans (Qaa _ _)) (QCx _) ho3 hb3
 clear hb3 ho3 r1 c0 c1 hlb B0 hbc
 generalize w1.heap.size=g3 at *
 go_loopw [5] (fun i wr=>∃k:Nat,2≤k∧k≤6∧i= .int .i64 k∧Bag w wr [(g3,98,CC ⟨k0,k1,QCW (beN (subB b 2 (k-2)) 0),0,QaV⟩),(w.heap.size,98,cz0)]) (fun i _=>6-(intOf i).toNat)
 case atStart=>exact⟨2,by omega,by omega,rfl,by rw[show 2-2=0 from rfl,hd0.out];exact B1⟩
 case round=>
  clear B1
  obtain⟨k,hk2,hk6,rfl,B1⟩:=hrel
  by_cases hlt:k<6
  ·have hcz:=Qa6 ((hb.later B1.lat).later (Qab _)) k (by omega)
   have hlb:b0<wr.drew.heap.size:=QCM hb00 (B1.lat.trans (Qab _)).size
   have hlg:g3<wr.drew.heap.size:=(B1.drew.nth 0 rfl).lt
   have hx:=hdn.out k hk2 hlt
   generalize QCW (beN (subB b 2 (k-2)) 0)=x at *
   generalize b.getD k 0=z at *
   replace hx:=hid hx
   have hc2:=(QdK (B1.drew.nth 0 rfl)).2.2.1
   have B2:=B1.drew
   go_wp2_with fail
   refine Qad [] [0,1,2,3,4,5,6,7,8,9] [10] (by as_aux_lemma=>kernel_rfl) (by as_aux_lemma=>kernel_rfl) (by intro _ _ d _ _ h;cases d<;>exact h) ?_
   simp only[Qai,pick,QCo,QCp,QCq,QCr,QCs]
   repeat (go_big_quiet_step (fail))
   refine wpQuiet_nil ?_
   go_wp2_with (first
    | (refine Qac rfl rfl _ _ _ rfl g3 2 _ _ (B2.nth 0 rfl) rfl (by rw[Qam];omega) rfl (by kernel_rfl) ?_;intro v6 w6 hv6 hb6 ho6;simp[go_sem]at hv6;subst hv6
       have B3:=B2.write 0 rfl ho6 hb6)
    | fail)
   rw[Qo5]at B3
   refine⟨⟨k+1,by omega,by omega,by go_num,by rw[hx.out];exact B3⟩,by simp only[intOf];omega⟩
  ·obtain rfl:k=6:=by omega
   rw[hdE.out]at B1
   go_wp2_with fail
   go_loopw [6] (fun i wr=>∃k:Nat,6≤k∧k≤14∧i= .int .i64 k∧Bag w wr [(g3,98,CC ⟨k0,k1,(Qdt b).dl,QCN (beN (subB b 6 (k-6)) 0),QaV⟩),(w.heap.size,98,cz0)]) (fun i _=>14-(intOf i).toNat)
   case atStart=>exact⟨6,by omega,by omega,rfl,by rw[show 6-6=0 from rfl,hx0.out];exact B1⟩
   case round=>
    clear B1
    obtain⟨k,hk2,hk6,rfl,B1⟩:=hrel
    by_cases hlt:k<14
    ·have hcz:=Qa6 ((hb.later B1.lat).later (Qab _)) k (by omega)
     have hlb:b0<wr.drew.heap.size:=QCM hb00 (B1.lat.trans (Qab _)).size
     have hlg:g3<wr.drew.heap.size:=(B1.drew.nth 0 rfl).lt
     have hx:=hxn.out k hk2 hlt
     generalize QCN (beN (subB b 6 (k-6)) 0)=x at *
     generalize b.getD k 0=z at *
     replace hx:=hid hx
     have hc3:=(QdK (B1.drew.nth 0 rfl)).2.2.2.1
     have B2:=B1.drew
     go_wp2_with fail
     refine Qad [] [0,1,2,3,4,5,6,7,8,9] [10] (by as_aux_lemma=>kernel_rfl) (by as_aux_lemma=>kernel_rfl) (by intro _ _ d _ _ h;cases d<;>exact h) ?_
     simp only[Qai,pick,QCo,QCp,QCq,QCr,QCs]
     repeat (go_big_quiet_step (fail))
     refine wpQuiet_nil ?_
     go_wp2_with (first
      | (refine Qac rfl rfl _ _ _ rfl g3 3 _ _ (B2.nth 0 rfl) rfl (by rw[Qam];omega) rfl (by kernel_rfl) ?_;intro v6 w6 hv6 hb6 ho6;simp[go_sem]at hv6;subst hv6
         have B3:=B2.write 0 rfl ho6 hb6)
      | fail)
     rw[Qoj]at B3
     go_roundw
     case rel=>
      repeat apply Exists.intro
      exact⟨⟨k+1,by omega,by omega,by go_num,by rw[hx.out];exact B3⟩,rfl⟩
     case measure=>simp[intOf];omega
    ·obtain rfl:k=14:=by omega
     rw[hxE.out]at B1
     have B4:=B1.drew
     have hlb:b0<wr.drew.heap.size:=QCM hb00 B4.lat.size
     go_wp2_with fail
     refine Qad [] [0,1,2,3] [4] (by as_aux_lemma=>kernel_rfl) (by as_aux_lemma=>kernel_rfl) (by intro _ _ d _ _ h;cases d<;>exact h) ?_
     simp only[Qai,pick,QCo,QCp,QCq,QCr,QCs]
     repeat (go_big_quiet_step (fail))
     refine wpQuiet_nil ?_
     go_wp2_with (first
      | (refine Qax rfl _ _ _ _ rfl 5 Tryz.underlying32 QbR g3 4 16 16 _ _ (B4.nth 0 rfl) (some ⟨b0,p+14,none⟩) 16 (c-14) (((b.drop 14).take 16).map W8) (Rd.later hcd B4.lat) (QaE _) rfl rfl (QDR (Qam _).symm) ?_;intro w8 hb8 ho8;rw[hfill.out]at hb8
         have B5:=B4.write 0 rfl ho8 hb8)
      | (refine Qep rfl _ rfl (B5.nth 0 rfl) rfl ?_)
      | fail)
     (with_reducible refine (hCk.out _).mono ?_);rintro e w9 ⟨rfl,j9⟩
     have B6:=B5.later j9
     have r9:=hb.later B6.lat
     have c30:=Qa6 r9 30 (by omega)
     have c31:=Qa6 r9 31 (by omega)
     clear hb8 ho8 B5 B4 j9 hcd hcutc hfill hCk r9 hlb hdn hxn hdE hxE hd0 hx0
     generalize b.getD 30 0=d30 at *
     generalize b.getD 31 0=d31 at *
     generalize Qdt b=cm at *
     rcases hE with rfl|rfl|rfl|rfl
     all_goals
      cases h30:(d30==0)<;>cases h31:(d31==0)
      all_goals
       have hDE:=hD.out
       have hDC:=hC.out
       rw[h30,h31]at hDE
       simp at hDE
       rw[hDE]at hDC
       simp at hDC
       replace hDE:=hid hDE
       replace hDC:=hid hDC
       have n30:(d30 != 0)= !(d30==0):=rfl
       have n31:(d31 != 0)= !(d31==0):=rfl
       rw[h30]at n30
       rw[h31]at n31
       clear hD hC
       go_wp2_with (first
        | (refine Qep rfl _ rfl (B6.nth 0 rfl) rfl ?_)
        | (refine Qah rfl _ _ rfl (CC cmd0) (by simp only[QCA,QCC];exact hb0) ?_)
        | (refine QbJ rfl rfl _ _ rfl (B6.nth 1 rfl) rfl rfl hz0 ?_;intro w10 hb10 ho10)
        | fail)
       exact bodyPost_ret (Qae rfl _ _ _ _ _ _ hb10 rfl Tryz.underlying98 rfl (by rw[Qam];exact Qdx)) rfl ⟨by rw[hDE.out,hDC.out];rfl,(B6.write 1 rfl ho10 hb10).lat⟩
theorem Qga {w:World} {b p n:Nat} {bs:List UInt8} (h:RdB w (some ⟨b,p,none⟩) n bs) (k m:Nat) (hk:k+m≤n) (hk0:0<m):RdB w (some ⟨b,p+k,none⟩) m (subB bs k m):=by
 have h1:=(RdB.cut h (k:=k) (c:=n+1) (by omega) (by omega)).take (m:=m) (by omega)
 rw[show cutA (some ⟨b,p,none⟩) k (n+1)=some ⟨b,p+k,none⟩ by
  rw[cutA,if_neg (by omega)]
  show some ((⟨b,p,none⟩:Addr).add k)=_
  rw[Qdl]]at h1
 exact h1
theorem Qiu {bs r:List UInt8} {off n:Nat} (h:subB bs off n=r):∀j v,(r.map W8)[j]?=some v→(bs.map W8)[off+j]?=some v:=by
 intro j v hv
 subst h
 rw[QCH,Option.map_eq_some_iff]at hv
 obtain⟨x,hx,rfl⟩:=hv
 rw[QCH,QkM hx]
 rfl
set_option maxRecDepth 100000 in
set_option maxHeartbeats 2000000 in
theorem Qtw (A:Option Addr) (c:Nat) (h s:List UInt8) (w:World) (hh:RdB w A 288 h) (hc:288≤c) (hs:s.length=192):
 Calls Tryz.prog 63 #[.slice A 288 c,.agg (s.map W8).toArray] w fun e w'=>e= .returned (.bool (QiK h s))∧Later w w':=by
 have hl:=hh.len
 obtain⟨b0,p,rfl,hb00,_⟩:=hh.2 (by omega)
 have hb:Blk (w.alloc (.cells (s.map W8).toArray 145)) w.heap.size 145 (s.map W8):=Blk.new _ _ _
 have L:=Qaa w (.cells (s.map W8).toArray 145)
 have k0:(kMac s).length=32:=Qav (by omega)
 have hT:=hid (fun (w:World) h1 h2=>Qvu (some ⟨b0,p,none⟩) (some ⟨b0,p+48,none⟩) 32 c 240 (c-48) (kMac s) (subB h 0 32) (subB h 48 240) w k0 h1 h2 (by omega) (by omega))
 have hE:=hid (fun A d (w:World) h1 h2=>Qgs (some ⟨b0,p+32,none⟩) A 16 16 (c-32) d (subB h 32 16) (tagB (kMac s) (subB h 0 32) (subB h 48 240)) w h1 h2 (by omega) (by omega))
 rw[show decide (subB h 32 16=tagB (kMac s) (subB h 0 32) (subB h 48 240))=QiK h s by rw[QiK];exact decide_eq_decide.2 ⟨Eq.symm,Eq.symm⟩]at hE
 have e1:cutA (some ⟨b0,p,none⟩) 32 c=some ⟨b0,p+32,none⟩:=by rw[cutA,if_neg (by omega)];rfl
 have e2:cutA (some ⟨b0,p,none⟩) 48 c=some ⟨b0,p+48,none⟩:=by rw[cutA,if_neg (by omega)];rfl
 have hr:=hid (fun w (h':RdB w (some ⟨b0,p,none⟩) 288 h)=>(⟨Qga h' 0 32 (by omega) (by omega),Qga h' 32 16 (by omega) (by omega),Qga h' 48 240 (by omega) (by omega)⟩:RdB w (some ⟨b0,p,none⟩) 32 (subB h 0 32)∧RdB w (some ⟨b0,p+32,none⟩) 16 (subB h 32 16)∧RdB w (some ⟨b0,p+48,none⟩) 240 (subB h 48 240)))
 have hkm:Hid (subB s 0 32=kMac s):=hid rfl
 generalize tagB (kMac s) (subB h 0 32) (subB h 48 240)=TG at *
 go_enter Tryz.func63,Tryz.ntmps63
 go_wp2_with fail
 generalize w.alloc _=w1 at *
 refine Qad [([0,1,2,3,4,5,6,7,8],9),([],10)] [11] [] (by as_aux_lemma=>kernel_rfl) (by as_aux_lemma=>kernel_rfl) (by intro _ _ d _ _ h;cases d<;>exact h) ?_
 simp only[Qai,pick,QCo,QCp,QCq,QCr,QCs]
 repeat (first|go_big_quiet_skip|(go_big_quiet_want;(refine Qhh 0 32 _ rfl hb.drew rfl Tryz.underlying79 rfl QcZ hkm.out k0 ?_);simp only[Act.put,QCw,QCz,QCy];go_big_quiet_on)|(go_big_quiet_step (fail)))
 refine wpQuiet_nil ?_
 have r1:=hr.out _ ((hh.later L).later (Qab _))
 go_wp2_with fail
 (refine (hT.out _ r1.1 r1.2.2).mono ?_);rintro e w2 ⟨A2,c2,rfl,o2,l2⟩
 go_wp2_with fail
 try refine⟨by first|assumption|exact Qab _|exact Qaa _ _|exact Later.refl _,?_⟩
 try simp only[Qai,pick,QCo,QCp,QCq,QCr,QCs]
 repeat (go_big_quiet_step (fail))
 refine wpQuiet_nil ?_
 go_wp2_with fail
 (refine (hE.out _ _ _ (r1.2.1.later l2) o2.rd).mono ?_);rintro e w3 ⟨rfl,l3⟩
 go_wp2_with fail
 try refine⟨by first|assumption|exact Qab _|exact Qaa _ _|exact Later.refl _,?_⟩
 try simp only[Qai,pick,QCo,QCp,QCq,QCr,QCs]
 repeat (go_big_quiet_step (fail))
 refine wpQuiet_nil ?_
 go_wp2_with fail
 go_ret
 exact⟨rfl,((L.trans (Qab _)).trans l2).trans l3⟩
def Qja (h s:List UInt8):List UInt8:=if QeC h s=0∧(decC ((QbQ h s).take 32)).kd=1 then QgD s++(QbQ h s).drop 32 else []
set_option maxRecDepth 100000 in
set_option maxHeartbeats 8000000 in
theorem Qtz (A:Option Addr) (c:Nat) (h s:List UInt8) (w:World) (hh:RdB w A 288 h) (hc:288≤c) (hs:s.length=192):
 Calls Tryz.prog 52 #[.slice A 288 c,.agg (s.map W8).toArray] w fun e w'=>∃A' c',e= .returned (.tuple #[.agg (CC (QgW h s)).toArray,.slice A' (Qja h s).length c',.int .i64 (QeC h s:Nat)])∧OwnB w' w.heap.size A' (Qja h s).length c' (Qja h s)∧Later w w':=by
 have hl:=hh.len
 obtain⟨b0,p,rfl,hb00,_⟩:=hh.2 (by omega)
 have C1:=Qa8 w 145 (s.map W8)
 have C2:=C1.add (Qaa _ (.cells cz0.toArray 98)) (k:=w.heap.size+1) (by simp) (by omega) (Blk.new' _ _ _ (by simp))
 clear C1
 have s2:(subB h 48 240).length=240:=Qav (by omega)
 have k1:(kStr s).length=32:=Qav (by omega)
 have hF:=hid (fun (w:World) h'=>Qtw (some ⟨b0,p,none⟩) c h s w h' hc hs)
 have hr48:=hid (fun w (h':RdB w (some ⟨b0,p,none⟩) 288 h)=>Qga h' 48 240 (by omega) (by omega))
 have hpl:=QeF h s hl
 have hT:=hid (fun B d (w:World) hb=>QtA B 288 d (kStr s) (subB h 48 240++QCn 48 0) w k1 hb (by omega) (by omega))
 rw[show xorB (subB h 48 240++QCn 48 0) (chaS (kStr s) 288)=QbQ h s from rfl]at hT
 have hD:=hid (fun A c (w:World) h1 h2=>QmS A c ((QbQ h s).take 32) w h1 h2)
 have hE:Hid (QeC h s=if QiK h s=false then 6 else if decE ((QbQ h s).take 32)≠0 then 3 else if (decC ((QbQ h s).take 32)).kd=1 then Qna s else 0):=hid rfl
 have hC:Hid (QgW h s=if QeC h s=0 then decC ((QbQ h s).take 32) else cmd0):=hid rfl
 have hN:Hid (Qja h s=if QeC h s=0∧(decC ((QbQ h s).take 32)).kd=1 then QgD s++(QbQ h s).drop 32 else []):=hid rfl
 have hX:=hid (fun (w:World)=>Qva s (kBli s) (kAlp s) hs rfl rfl w)
 have hXb:Hid (QcQ (kBli s) (kAlp s)=QgD s∧Qbt (kBli s) (kAlp s)=Qna s):=hid ⟨rfl,rfl⟩
 rw[hXb.out.1,hXb.out.2]at hX
 have nbl:(QgD s).length=32:=QbF _ _
 have hb0:=QfL
 have hks:Hid (subB s 32 32=kStr s):=hid rfl
 have e48:cutA (some ⟨b0,p,none⟩) 48 c=some ⟨b0,p+48,none⟩:=by rw[cutA,if_neg (by omega)];rfl
 clear hXb
 generalize QgW h s=OC at *
 generalize Qja h s=ON at *
 generalize QeC h s=OE at *
 generalize QiK h s=F at *
 generalize QbQ h s=pl at *
 generalize decE (pl.take 32)=dE at *
 generalize decC (pl.take 32)=dC at *
 generalize Qna s=nE at *
 generalize QgD s=nb at *
 have hz0:cz0.length=20:=rfl
 go_enter Tryz.func52,Tryz.ntmps52
 go_wp2_with (first
  | (refine QnJ rfl _ rfl (C2.nth 1 rfl) hs rfl ?_)
  | fail)
 (refine (hF.out _ (hh.later C2.lat)).mono ?_);rintro e w5 ⟨rfl,l5⟩
 replace C2:=C2.later l5
 clear l5 hF
 cases F
 ·have HE:OE=6:=by rw[hE.out,if_pos rfl]
  have HC:OC=cmd0:=by rw[hC.out,HE,if_neg (by decide)]
  have HN:ON=[]:=by rw[hN.out,HE,if_neg (by simp)]
  replace HE:=hid HE
  replace HC:=hid HC
  replace HN:=hid HN
  clear hE hC hN
  go_wp2_with (first
   | (refine Qah rfl 98 _ rfl (CC cmd0) (by simp only[QCA,QCC];exact hb0) ?_)
   | (refine QbJ rfl rfl _ _ rfl (C2.nth 0 rfl) rfl rfl hz0 ?_;intro w6 hb6 ho6
      have C5:=C2.write 0 rfl ho6 hb6)
   | fail)
  refine bodyPost_ret (QdP rfl _ _ _ _ _ _ (C5.nth 0 rfl) rfl Tryz.underlying98 rfl (by rw[Qam];exact Qdx)) rfl ⟨none,0,by rw[HE.out,HC.out,HN.out];rfl,?_,C5.lat⟩
  rw[HN.out]
  exact Qay _ _ _
 ·replace hE:Hid (OE=if dE≠0 then 3 else if dC.kd=1 then nE else 0):=hid (by rw[hE.out,if_neg (by decide)])
  go_wp2_with fail
  have C5:=C2.drew
  refine Qch (Spared w5 []) [([0,1,2,3,4],5),([],6),([],7)] [8] (by as_aux_lemma=>kernel_rfl) (by as_aux_lemma=>kernel_rfl) (by intro _ _ d _ _ h;cases d<;>exact h) ⟨Spared.refl _ _,?_⟩
  simp only[Qbs,pick,QCo,QCp,QCq,QCr,QCs]
  repeat (first|go_big_quiet_skip|(go_big_quiet_want;(refine QcN _ _ rfl 32 ((kStr s).map W8) (C2.nth 1 rfl) (by simp) rfl (Qiu hks.out) _ Tryz.underlying79 rfl (by rw[QCt,k1];exact QcZ) ?_);simp only[Act.put,QCw,QCz,QCy];go_big_quiet_on)|(go_big_quiet_step (fail))|(go_big_quiet_want;go_big_quiet_op;refine⟨_,fun _ _=>rfl,?_⟩;go_big_quiet_on))
  refine wpQuiet_nil ?_
  go_wp2_with fail
  (refine (Qcf (some ⟨b0,p+48,none⟩) 240 (c-48) (subB h 48 240) _ (hr48.out _ (hh.later C5.lat)) (by omega)).mono ?_);rintro e w6 ⟨A6,c6,rfl,o6,l6⟩
  have S6:=(Spared.refl w5 []).later l6
  go_wp2_with fail
  refine⟨S6,?_⟩
  try simp only[Qbs,pick,QCo,QCp,QCq,QCr,QCs]
  repeat (first|(go_big_quiet_step (fail))|(go_big_quiet_want;go_big_quiet_op;refine⟨_,fun _ _=>rfl,?_⟩;go_big_quiet_on))
  refine wpQuiet_nil ?_
  go_wp2_with (first
   | (refine Qgf rfl _ _ _ _ rfl 5 .i64 Tryz.underlying32 Tryz.underlying3 QbW _ _ 240 _ o6 l6.size 48 (by omega) rfl rfl (by omega) ?_;intro A7 c7 w7 hown7 hg7)
   | fail)
  try simp only[Act.put,QCw,QCz,QCy]
  have hrow7:∀k,(Value.slice A6 240 c6).ownBlock=some k→w5.drew.heap.size≤k:=fun k hk=>(World.ownsRow.lt o6 k hk).1
  have S7:=S6.grown hg7 hrow7
  have l7:=l6.grownBy hg7 hrow7
  have o7:OwnB w7 w5.drew.heap.size A7 288 c7 (subB h 48 240++QCn 48 0):=by
   have h48:QCn 48 (Value.int .u8 0)=(QCn 48 (0:UInt8)).map W8:=by rw[QC8];rfl
   rw[h48]at hown7
   exact Qdc hown7
  clear hown7 hg7 hrow7 o6 S6 l6
  refine⟨S7,?_⟩
  try simp only[Qbs,pick,QCo,QCp,QCq,QCr,QCs]
  repeat (first|(go_big_quiet_step (fail))|(go_big_quiet_want;go_big_quiet_op;refine⟨_,fun _ _=>rfl,?_⟩;go_big_quiet_on))
  refine wpQuiet_nil ?_
  go_wp2_with fail
  (refine (hT.out _ _ _ o7.rd).mono ?_);rintro e w8 ⟨A8,c8,rfl,o8,l8⟩
  obtain⟨g8,r8,rfl,hg8,hb8,hc8,hcc8⟩:=QfB o8 (by omega)
  clear hc8
  have C8:=C5.fresh (l7.trans l8) (QC4 l7.size hg8) hb8
  have S8:=S7.later l8
  go_wp2_with fail
  refine⟨S8,?_⟩
  try simp only[Qbs,pick,QCo,QCp,QCq,QCr,QCs]
  repeat (first|(go_big_quiet_step (fail))|(go_big_quiet_want;go_big_quiet_op;refine⟨_,fun _ _=>rfl,?_⟩;go_big_quiet_on))
  refine wpQuiet_nil ?_
  clear C5 C2 o8 o7 S7 S8 l7 l8 hb8 hg8 hT
  go_wp2_with fail
  (refine (hD.out _ _ _ ((QdA (C8.nth 0 rfl) hpl).take (m:=32) (by omega)) (by omega)).mono ?_);rintro e w9 ⟨rfl,l9⟩
  have C9:=C8.later l9
  clear C8 l9 hD
  by_cases hd0:dE=0
  ·subst hd0
   replace hE:Hid (OE=if dC.kd=1 then nE else 0):=hid (by rw[hE.out,if_neg (by simp)])
   cases hk1:(dC.kd==1)
   ·have hkn: ¬dC.kd=1:=by simpa using hk1
    have n1:(dC.kd != 1)=true:=by rw[bne,hk1];rfl
    have HE:OE=0:=by rw[hE.out,if_neg hkn]
    have HC:OC=dC:=by rw[hC.out,HE,if_pos rfl]
    have HN:ON=[]:=by rw[hN.out,if_neg (fun h=>hkn h.2)]
    replace HE:=hid HE
    replace HC:=hid HC
    replace HN:=hid HN
    clear hE hC hN hkn
    go_wp2_with (first
     | (refine QbJ rfl rfl _ _ rfl (Blk.new w9 _ cz0) rfl rfl rfl ?_;intro w10 hb10 ho10
        have C10:=C9.push (Qaa _ _) (QCx _) ho10 hb10
        have hc0:=(QdK hb10).1)
     | (refine Qep rfl _ rfl (C10.nth 0 rfl) rfl ?_)
     | (refine QbJ rfl rfl _ _ rfl (C10.nth 2 rfl) rfl rfl hz0 ?_;intro w11 hb11 ho11
        have C11:=C10.write 2 rfl ho11 hb11)
     | fail)
    refine bodyPost_ret (QdP rfl _ _ _ _ _ _ (C11.nth 2 rfl) rfl Tryz.underlying98 rfl (by rw[Qam];exact Qdx)) rfl ⟨none,0,by rw[HE.out,HC.out,HN.out];rfl,?_,C11.lat⟩
    rw[HN.out]
    exact Qay _ _ _
   ·have hky:dC.kd=1:=by simpa using hk1
    have n1:(dC.kd != 1)=false:=by rw[bne,hk1];rfl
    replace hE:Hid (OE=nE):=hid (by rw[hE.out,if_pos hky])
    have HNL:(nb++pl.drop 32).length=288:=by rw[QCB,QCS];omega
    replace hky:=hid hky
    go_wp2_with (first
     | (refine QbJ rfl rfl _ _ rfl (Blk.new w9 _ cz0) rfl rfl rfl ?_;intro w10 hb10 ho10
        have C10:=C9.push (Qaa _ _) (QCx _) ho10 hb10
        have hc0:=(QdK hb10).1)
     | (refine QnJ rfl _ rfl (C10.nth 3 rfl) hs rfl ?_)
     | fail)
    (with_reducible refine (hX.out _).mono ?_);rintro e w11 ⟨rfl,l11⟩
    have C11:=C10.later l11
    clear hb10 ho10 l11 C10 C9
    by_cases hn0:nE=0
    ·subst hn0
     have HE:=hE.out
     have HC:OC=dC:=by rw[hC.out,HE,if_pos rfl]
     have HN:ON=nb++pl.drop 32:=by rw[hN.out,if_pos ⟨HE,hky.out⟩]
     replace HE:=hid HE
     replace HC:=hid HC
     replace HN:=hid HN
     clear hE hC hN
     go_wp2_with (first
      | (refine Qa5 rfl rfl _ _ rfl (Blk.new w11 _ (QCn 32 (.int .u8 0))) rfl rfl nbl rfl ?_;intro w12 hb12 ho12
         have C12:=C11.push (Qaa _ _) (QCx _) ho12 hb12)
      | fail)
     have hne13:=C12.ne 1 3 rfl rfl (by decide)
     have C13:=C12.drew
     refine Qch (Spared w12 [w.heap.size+1]) [([0,1,3,4],2),([],5),([],6)] [7,8] (by as_aux_lemma=>kernel_rfl) (by as_aux_lemma=>kernel_rfl) (by intro _ _ d _ _ h;cases d<;>exact h) ⟨Spared.refl _ _,?_⟩
     simp only[Qbs,pick,QCo,QCp,QCq,QCr,QCs]
     repeat (first|go_big_quiet_skip|(go_big_quiet_want;(refine QcN _ _ rfl 0 (CC dC) (C12.nth 1 rfl) (by intro b hb;simp at hb;subst hb;exact hne13) rfl (Qe1 _) _ Tryz.underlying98 rfl (by rw[Qam];exact Qdx) ?_);simp only[Act.put,QCw,QCz,QCy];go_big_quiet_on)|(go_big_quiet_step (fail))|(go_big_quiet_want;go_big_quiet_op;refine⟨_,fun _ _=>rfl,?_⟩;go_big_quiet_on))
     refine wpQuiet_nil ?_
     go_wp2_with fail
     (refine (Qcf (some ⟨w11.heap.size,0,none⟩) 32 32 nb _ (Qen (C13.nth 0 rfl) nbl) (by omega)).mono ?_);rintro e w14 ⟨A14,c14,rfl,o14,l14⟩
     have S14:=(Spared.refl w12 [w.heap.size+1]).later l14
     have r32:=QkP (k:=32) ((C13.later l14).nth 2 rfl) hpl (by omega)
     go_wp2_with fail
     refine⟨S14,?_⟩
     try simp only[Qbs,pick,QCo,QCp,QCq,QCr,QCs]
     repeat (first|(go_big_quiet_step (fail))|(go_big_quiet_want;go_big_quiet_op;refine⟨_,fun _ _=>rfl,?_⟩;go_big_quiet_on))
     refine wpQuiet_nil ?_
     go_wp2_with (first
      | (refine Qas rfl _ _ _ rfl 5 _ 1 Tryz.underlying32 QbW rfl w12.drew _ 32 _ o14 l14 (some ⟨g8,32,none⟩) 256 (c8-32) _ r32 (QaE _) rfl rfl (by omega) (by omega) ?_;intro A15 c15 w15 hown15 hl15 hg15 _)
      | fail)
     try simp only[Act.put,QCw,QCz,QCy]
     have S15:=S14.grown hg15 (fun k hk=>(World.ownsRow.lt o14 k hk).1)
     have C15:=C13.later hl15
     have o15:=Qdc hown15
     clear hown15 hg15 r32 l14 o14 S14
     refine⟨S15,?_⟩
     try simp only[Qbs,pick,QCo,QCp,QCq,QCr,QCs]
     repeat (first|(go_big_quiet_step (fail))|(go_big_quiet_want;go_big_quiet_op;refine⟨_,fun _ _=>rfl,?_⟩;go_big_quiet_on))
     refine wpQuiet_nil ?_
     go_wp2_with (first
      | (refine QbJ rfl rfl _ _ rfl (C15.nth 3 rfl) rfl rfl hz0 ?_;intro w16 hb16 ho16
         have C16:=C15.write 3 rfl ho16 hb16)
      | fail)
     have o16:=Qb9 o15 ho16 (fun b hb e=>by
      have h1:=(World.ownsRow.lt o15 b hb).1
      have h2:=(C13.nth 3 rfl).lt
      omega)
     refine⟨S15.only ho16 (QDH.2 rfl),?_⟩
     try simp only[Qbs,pick,QCo,QCp,QCq,QCr,QCs]
     repeat (first|(go_big_quiet_step (fail))|(go_big_quiet_want;go_big_quiet_op;refine⟨_,fun _ _=>rfl,?_⟩;go_big_quiet_on))
     refine wpQuiet_nil ?_
     go_wp2_with fail
     refine bodyPost_ret (QdP rfl _ _ _ _ _ _ (C16.nth 3 rfl) rfl Tryz.underlying98 rfl (by rw[Qam];exact Qdx)) rfl ⟨A15,c15,by rw[HE.out,HC.out,HN.out,HNL];rfl,?_,C16.lat⟩
     rw[HN.out,HNL]
     exact Qbb o16 C13.lat.size
    ·have hne:((nE:Int) != 0)=true:=by simp;omega
     have HE:=hE.out
     have HC:OC=cmd0:=by rw[hC.out,HE,if_neg hn0]
     have HN:ON=[]:=by rw[hN.out,HE,if_neg (fun h=>hn0 h.1)]
     replace HE:=hid HE
     replace HC:=hid HC
     replace HN:=hid HN
     clear hE hC hN
     go_wp2_with (first
      | (refine Qa5 rfl rfl _ _ rfl (Blk.new w11 _ (QCn 32 (.int .u8 0))) rfl rfl nbl rfl ?_;intro w12 hb12 ho12
         have C12:=C11.push (Qaa _ _) (QCx _) ho12 hb12)
      | (refine Qah rfl 98 _ rfl (CC cmd0) (by simp only[QCA,QCC];exact hb0) ?_)
      | (refine QbJ rfl rfl _ _ rfl (C12.nth 3 rfl) rfl rfl hz0 ?_;intro w13 hb13 ho13
         have C13:=C12.write 3 rfl ho13 hb13)
      | fail)
     refine bodyPost_ret (QdP rfl _ _ _ _ _ _ (C13.nth 3 rfl) rfl Tryz.underlying98 rfl (by rw[Qam];exact Qdx)) rfl ⟨none,0,by rw[HE.out,HC.out,HN.out];rfl,?_,C13.lat⟩
     rw[HN.out]
     exact Qay _ _ _
  ·have HE:OE=3:=by rw[hE.out,if_pos hd0]
   have HC:OC=cmd0:=by rw[hC.out,HE,if_neg (by decide)]
   have HN:ON=[]:=by rw[hN.out,HE,if_neg (by simp)]
   have hne:((dE:Int) != 0)=true:=by simp;omega
   replace HE:=hid HE
   replace HC:=hid HC
   replace HN:=hid HN
   clear hE hC hN
   go_wp2_with (first
    | (refine QbJ rfl rfl _ _ rfl (Blk.new w9 _ cz0) rfl rfl rfl ?_;intro w10 hb10 ho10
       have C10:=C9.push (Qaa _ _) (QCx _) ho10 hb10)
    | (refine Qah rfl 98 _ rfl (CC cmd0) (by simp only[QCA,QCC];exact hb0) ?_)
    | (refine QbJ rfl rfl _ _ rfl (C10.nth 2 rfl) rfl rfl hz0 ?_;intro w11 hb11 ho11
       have C11:=C10.write 2 rfl ho11 hb11)
    | fail)
   refine bodyPost_ret (QdP rfl _ _ _ _ _ _ (C11.nth 2 rfl) rfl Tryz.underlying98 rfl (by rw[Qam];exact Qdx)) rfl ⟨none,0,by rw[HE.out,HC.out,HN.out];rfl,?_,C11.lat⟩
   rw[HN.out]
   exact Qay _ _ _
def RCc (c:Cmd) (vP vB:Value):List Value:=CC c++[vP,vB]
theorem Qci (c:Cmd) (vP vB:Value):(RCc c vP vB).length=22:=by rw[RCc,QCB,Qam];rfl
theorem Qw3 (c:Cmd) {vP vB:Value} (h1:vP.oneCell'=true) (h2:vB.oneCell'=true):∀u∈RCc c vP vB,u.oneCell'=true:=by
 intro u hu
 rcases QDc.1 hu with hu|hu
 ·exact QsI c u hu
 ·simp only[QCQ,QCT,or_false]at hu
  rcases hu with rfl|rfl
  ·exact h1
  ·exact h2
theorem QuQ (c:Cmd) (vP vB v:Value):(RCc c vP vB).set 20 v=RCc c v vB:=by
 rw[RCc,QCX _ _ (by rw[Qam];omega),Qam]
 rfl
theorem Quy (c:Cmd) (vP vB v:Value):(RCc c vP vB).set 21 v=RCc c vP v:=by
 rw[RCc,QCX _ _ (by rw[Qam];omega),Qam]
 rfl
theorem Qfc (c:Cmd) (vP vB:Value):∀j u,(CC c)[j]?=some u→(RCc c vP vB)[0+j]?=some u:=fun j u h=>by
 rw[QCI,RCc,QCD (QCK.1 h).1]
 exact h
theorem Qy4 (c:Cmd) (vP vB:Value):(RCc c vP vB)[20]?=some vP:=by
 rw[RCc,QCF (by rw[Qam];omega),Qam]
 rfl
theorem Qzy (c:Cmd) (vP vB:Value):(RCc c vP vB)[21]?=some vB:=by
 rw[RCc,QCF (by rw[Qam];omega),Qam]
 rfl
theorem Qh1:(Tryz.prog.info? 116).map (·.size)=some 22:=by kernel_rfl
theorem QvR:(Tryz.prog.info? 116).bind (·.zero)=some (.agg (RCc cmd0 nil8 nil8).toArray):=by kernel_rfl
theorem Qr3:Tryz.prog.built 116 []=some (RCc cmd0 nil8 nil8).toArray:=by
 rw[QaO (pl:=[(0,20),(20,1),(21,1)]) Tryz.underlying116 QvR (by kernel_rfl),QbM]
theorem QsR (c:Cmd):Tryz.prog.built 116 [(0,.agg (CC c).toArray)]=some (RCc c nil8 nil8).toArray:=by
 rw[QaO (pl:=[(0,20),(20,1),(21,1)]) Tryz.underlying116 QvR (by kernel_rfl),QaS (vs:=CC c) (off:=0) rfl (by rw[Qam];rfl) (by rw[Qam,Qci];omega),QbM,RCc,RCc,Ql2 (by rw[Qam,Qam])]
theorem QsW:Tryz.prog.built 79 []=some ((QCn 32 (0:UInt8)).map W8).toArray:=by rw[QC8];kernel_rfl
abbrev re0:List Value:=cz0++[.slice none 0 0,.slice none 0 0]
section
variable {ops:Array Oper} {rest:List Oper} {o:Oper} {a:Act} {w:World} {Q:Exit→Act→World→Prop}
theorem Qdy (hgd:o.guard=none) (hd:o.dst=none) (x y:Operand) (ho:o.op= .store 116 x y) {g:Nat} {t:TypeId} {l:List Value} {c:Cmd} {vP vB:Value} (hg:Blk w g t l) (hx:a.eval x= .pointer (some ⟨g,0,none⟩)) (hy:a.eval y= .agg (RCc c vP vB).toArray) (h1:vP.oneCell'=true) (h2:vB.oneCell'=true) (hl:l.length=22)
 (h:∀w',Blk w' g t (RCc c vP vB)→Only g w w'→wpList Tryz.prog ops Q rest a w'):wpList Tryz.prog ops Q (o :: rest) a w:=
 Qaf hgd hd _ x y ho g t l _ hg hx hy 22 Qh1 (Qci c vP vB) hl (Qw3 c h1 h2) h
theorem QrK (hw:Region.wanted o (yielded ops a.tmps)=true) (ho:o.op= .alloc 98):
 Makes Tryz.prog ops o (fun g=>.pointer (some ⟨g,0,none⟩)) (.cells cz0.toArray 98) a:=
 ⟨hw,fun w=>by
   unfold execOp
   rw[ho]
   simp[go_sem]⟩
end
def unwQ (k p:List UInt8):List UInt8:=if unwE k p=0∧(unwC k p).kd=1 then unwP k p else []
def unwS (k p:List UInt8):List UInt8:=if unwE k p=0 then kSec (Qcp k (p.take 32)) else QCn 32 0
theorem Qq1 {s p:List UInt8} (hp:p.length=768) (h0:relE s p=0) (h1:(relC s p).kd=1):relP s p=Qja (p.take 288) s++QcR s p∧(Qja (p.take 288) s).length=288:=by
 have h2:(decC ((QbQ (p.take 288) s).take 32)).kd=1:=by
  have:relC s p=decC ((QbQ (p.take 288) s).take 32):=by rw[relC,QgW,if_pos (show QeC (p.take 288) s=0 from h0)]
  rw[←this]
  exact h1
 have hl:(p.take 288).length=288:=by rw[QCP];omega
 have e1:QiJ (p.take 288) s=QgD s++(QbQ (p.take 288) s).drop 32:=by rw[QiJ,if_pos ⟨h0,h2⟩]
 have e2:Qja (p.take 288) s=QgD s++(QbQ (p.take 288) s).drop 32:=by rw[Qja,if_pos ⟨h0,h2⟩]
 refine⟨by rw[relP,if_pos ⟨h0,h1⟩,e1,e2],?_⟩
 rw[e2,←e1]
 exact Qfj _ _ hl
set_option maxRecDepth 100000 in
set_option maxHeartbeats 16000000 in
theorem QmF (A B:Option Addr) (n c d:Nat) (k p:List UInt8) (w:World) (hk:RdB w A n k) (hn:n≤35184372088832) (hp:RdB w B 768 p) (hd:768≤d):
 Calls Tryz.prog 35 #[.slice A n c,.slice B 768 d] w fun e w'=>∃A1 c1 A2 c2,e= .returned (.tuple #[.agg (RCc (unwC k p) (.slice A1 (unwQ k p).length c1) (.slice A2 (unwB k p).length c2)).toArray,.agg ((unwS k p).map W8).toArray,.int .i64 (unwE k p:Nat)])∧
  OwnB w' w.heap.size A1 (unwQ k p).length c1 (unwQ k p)∧OwnB w' w.heap.size A2 (unwB k p).length c2 (unwB k p)∧Later w w':=by
 have hpl:=hp.len
 obtain⟨b0,q,rfl,hb00,_⟩:=hp.2 (by omega)
 have C1:=Qa8 w 116 re0
 have C2:=C1.add (Qaa _ (.cells (QCn 32 (Value.int .u8 0)).toArray 79)) (k:=w.heap.size+1) (by simp) (by omega) (Blk.new' _ _ (QCn 32 (Value.int .u8 0)) (by simp))
 clear C1
 have hal:(p.take 32).length=32:=by rw[QCP];omega
 have hPe:=hid (fun (w:World) hk' hu=>Qvb A (some ⟨b0,q,none⟩) n c 32 d k (p.take 32) w hk' hu (by omega) (by omega))
 have hsl:=Qcs k (p.take 32)
 have hE:Hid (unwE k p=if Qbt k (p.take 32)=0 then relE (Qcp k (p.take 32)) p else Qbt k (p.take 32)):=hid rfl
 have hC:Hid (unwC k p=if Qbt k (p.take 32)=0 then relC (Qcp k (p.take 32)) p else cmd0):=hid rfl
 have hPP:Hid (unwP k p=if Qbt k (p.take 32)=0 then relP (Qcp k (p.take 32)) p else z768):=hid rfl
 have hB:Hid (unwB k p=if Qbt k (p.take 32)=0 then relB (Qcp k (p.take 32)) p else []):=hid rfl
 have hQ:Hid (unwQ k p=if unwE k p=0∧(unwC k p).kd=1 then unwP k p else []):=hid rfl
 have hS:Hid (unwS k p=if unwE k p=0 then kSec (Qcp k (p.take 32)) else QCn 32 0):=hid rfl
 generalize unwQ k p=UQ at *
 generalize unwS k p=US at *
 generalize unwE k p=UE at *
 generalize unwC k p=UC at *
 generalize unwP k p=UP at *
 generalize unwB k p=UB at *
 generalize Qbt k (p.take 32)=ME at *
 generalize Qcp k (p.take 32)=s at *
 have hO:=hid (fun (w:World) h=>Qtz (some ⟨b0,q,none⟩) d (p.take 288) s w h (by omega) hsl)
 have k2:(kPay s).length=32:=Qav (by omega)
 have k5:(kSec s).length=32:=Qav (by omega)
 have bl:(p.drop 288).length=480:=by rw[QCS];omega
 have hf:fitW (kPay s) (p.drop 288):=⟨k2,by omega,by omega⟩
 have hWi:=hid (fun A c d (w:World) h1 h2 hd=>QtL A (some ⟨b0,q+288,none⟩) 32 c 480 d (kPay s) (p.drop 288) w h1 h2 hd (by omega) (by omega))
 rw[QgB okO hf]at hWi
 have hBl:=Qeo s p hpl hsl
 rw[show Qdq (kPay s) (p.drop 288) rsO=QcR s p from rfl,hBl]at hWi
 have hrB:Hid (relB s p=if relE s p=0∧(relC s p).kd≠1 then QcR s p else []):=hid rfl
 have hrP:=hid (fun h0 h1=>Qq1 (s:=s) hpl h0 h1)
 rw[show QgW (p.take 288) s=relC s p from rfl,show QeC (p.take 288) s=relE s p from rfl]at hO
 have e288:cutA (some ⟨b0,q,none⟩) 288 d=some ⟨b0,q+288,none⟩:=by rw[cutA,if_neg (by omega)];rfl
 have hr:=hid (fun w (h':RdB w (some ⟨b0,q,none⟩) 768 p)=>(⟨RdB.take h' (by omega),RdB.take h' (by omega),by
  have:=Qga h' 288 480 (by omega) (by omega)
  rwa [QoV p 288 480 hpl]at this⟩:RdB w (some ⟨b0,q,none⟩) 32 (p.take 32)∧RdB w (some ⟨b0,q,none⟩) 288 (p.take 288)∧RdB w (some ⟨b0,q+288,none⟩) 480 (p.drop 288)))
 have hks:Hid (subB s 64 32=kPay s∧subB s 160 32=kSec s):=hid ⟨rfl,rfl⟩
 have hz0:re0.length=22:=rfl
 have hb0:=Qr3
 have hb1:=hid QsR
 have hzR:Tryz.zeroCells145.toList.length=192:=by rw[QvQ,QCt,QCJ]
 go_enter Tryz.func35,Tryz.ntmps35
 go_wp2_with fail
 (refine (hPe.out _ (hk.later C2.lat) (hr.out _ (hp.later C2.lat)).1).mono ?_);rintro e w3 ⟨rfl,l3⟩
 replace C2:=C2.later l3
 clear hPe l3
 have hz32:=QsW
 have z32l:(QCn 32 (0:UInt8)).length=32:=QCJ
 have hcz:Hid (relE s p≠0→relC s p=cmd0):=hid (fun h=>by rw[relC,QgW,if_neg (show ¬QeC (p.take 288) s=0 from h)])
 generalize QCn 32 (0:UInt8)=Z32 at *
 generalize relE s p=RE at *
 generalize relC s p=RC at *
 generalize relP s p=RP at *
 generalize relB s p=RB at *
 generalize QcR s p=BD at *
 generalize Qja (p.take 288) s=OL at *
 generalize hPay:kPay s=ky at *
 generalize hSec:kSec s=ks at *
 clear hPay hSec
 by_cases hm:ME=0
 ·subst hm
  replace hE:=hid (hE.out.trans (if_pos rfl))
  replace hC:=hid (hC.out.trans (if_pos rfl))
  replace hPP:=hid (hPP.out.trans (if_pos rfl))
  replace hB:=hid (hB.out.trans (if_pos rfl))
  go_wp2_with (first
   | (refine QhN rfl rfl _ _ rfl (Blk.new w3 _ Tryz.zeroCells145.toList) rfl rfl hsl hzR ?_;intro w4 hb4 ho4
      have C3:=C2.push (Qaa _ _) (QCx _) ho4 hb4)
   | fail)
  clear C2 hb4 ho4
  have C4:=C3.drew
  refine QaG [0,1,2] [([],1,3),([4,5,6,7],2,8)] [] [9,10,11] [8] (fun _=>(fun g=>.pointer (some ⟨g,0,none⟩),.cells cz0.toArray 98)) (by as_aux_lemma=>kernel_rfl) (by as_aux_lemma=>kernel_rfl) (by intro _ _ d _ _ h;cases d<;>exact h) (by intro _ _ d _ _ h;cases d<;>exact h) ?_
  simp only[pick,QCo,QCp,QCq,QCr,QCs]
  repeat (first|go_big_quiet_skip|(go_big_quiet_want;(refine Qhh 0 192 _ rfl (C4.nth 0 rfl) rfl Tryz.underlying145 rfl Qgr (QhK _ _ hsl) hsl ?_);simp only[Act.put,QCw,QCz,QCy];go_big_quiet_on)|(go_big_quiet_step (fail)))
  refine wpQuiet_nil ?_
  refine⟨?mk,?_⟩
  case mk=>
   refine⟨fun o ho=>?_,trivial⟩
   simp only[QCo,QCp,Option.some.injEq]at ho
   subst ho
   exact QrK rfl rfl
  simp only[Qbp,pick,QCo,QCp,QCq,QCr,QCs]
  refine wpQuiet_nil ?_
  intro m1 j1
  go_wp2_with fail
  (refine (hO.out _ (hr.out _ (hp.later (C4.lat.trans j1))).2.1).mono ?_);rintro e m2 ⟨A10,c10,rfl,o10,j2⟩
  go_wp2_with fail
  try refine⟨by first|assumption|exact Qab _|exact Qaa _ _|exact Later.refl _,?_⟩
  try simp only[Qai,pick,QCo,QCp,QCq,QCr,QCs]
  repeat (go_big_quiet_step (fail))
  refine wpQuiet_nil ?_
  intro m5 gq j5 hgq _ hbq
  refine wpQuiet_nil ?_
  intro m6 j6
  simp only[QDF,Act.put,QCw,QCz,QCy]
  have hB6:Blk m6 gq 98 cz0:=Blk.later (show Blk m5 gq _ _ from hbq) j6
  have jj:=j1.trans (j2.trans (j5.trans j6))
  have o11:=Qbb ((o10.later j5).later j6) (C4.lat.trans j1).size
  have hne10:=QgC o11 hB6 (by decide)
  refine QbJ rfl rfl _ _ rfl hB6 rfl rfl rfl ?_
  intro m7 hb7 ho7
  have C5:=C4.push jj (by have:=hgq;simpa using this) ho7 hb7
  have o12:=Qb9 o11 ho7 (fun b hb e=>hne10 (by rw[hb,e]))
  clear jj hB6 hgq ho7 hb7 hbq j1 j2 j5 j6 o10 o11 hne10 C4 C3 hO
  by_cases hr0:RE=0
  ·subst hr0
   replace hrB:Hid (RB=if RC.kd≠1 then BD else []):=hid (by rw[hrB.out];simp)
   replace hQ:Hid (UQ=if RC.kd=1 then RP else []):=hid (by rw[hQ.out,hE.out,hC.out,hPP.out];simp)
   replace hS:Hid (US=ks):=hid (by rw[hS.out,if_pos hE.out])
   clear hcz hPP
   go_wp2_with fail
   have C6:=C5.drew
   have o13:=Qap o12 (Qab m7)
   clear C5 o12
   refine Qad [([0,1,2,3,4],5)] [6,7,8,9,10] [] (by as_aux_lemma=>kernel_rfl) (by as_aux_lemma=>kernel_rfl) (by intro _ _ d _ _ h;cases d<;>exact h) ?_
   simp only[Qai,pick,QCo,QCp,QCq,QCr,QCs]
   repeat (go_big_quiet_step (fail))
   refine wpQuiet_nil ?_
   go_wp2_with fail
   (refine (hWi.out _ _ _ _ (QcT (C6.nth 1 rfl) hks.out.1 k2) (hr.out _ (hp.later C6.lat)).2.2 (by omega)).mono ?_);rintro e w8 ⟨l8,A11,c11,rfl,o14⟩
   go_wp2_with fail
   try refine⟨by first|assumption|exact Qab _|exact Qaa _ _|exact Later.refl _,?_⟩
   try simp only[Qai,pick,QCo,QCp,QCq,QCr,QCs]
   repeat (go_big_quiet_step (fail))
   refine wpQuiet_nil ?_
   have C7:=C6.later l8
   have o15:=Qap (Qap o13 l8) (Qaa w8 (.cells re0.toArray 116))
   have o16:=Qap (Qbb o14 C6.lat.size) (Qaa w8 (.cells re0.toArray 116))
   have n15:=QgC o15 (Blk.new w8 116 re0) (by decide)
   have n16:=QgC o16 (Blk.new w8 116 re0) (by decide)
   clear o13 o14 l8 C6 hWi
   cases hk:(RC.kd==1)
   ·have hkn:RC.kd≠1:=by simpa using hk
    replace hrB:=hid (hB.out.trans (hrB.out.trans (if_pos hkn)))
    replace hQ:=hid (hQ.out.trans (if_neg hkn))
    have hcl:(Value.slice A11 480 c11).oneCell'=true:=rfl
    go_wp2_with (first
     | (refine Qep rfl _ rfl (C7.nth 0 rfl) rfl ?_)
     | (refine Qah rfl 116 _ rfl (RCc RC nil8 nil8) (by simp only[QCA,QCR,QCC];exact hb1.out RC) ?_)
     | (refine Qdy rfl rfl _ _ rfl (Blk.new w8 _ re0) rfl rfl rfl rfl hz0 ?_;intro w9 hb9 ho9
        have C8:=C7.push (Qaa _ _) (QCx _) ho9 hb9
        have hc0:=(QdK (C8.nth 1 rfl)).1
        have o18:=Qb9 o16 ho9 (fun b hb e=>n16 (by rw[hb,e])))
     | (refine Qac rfl rfl _ _ _ rfl w8.heap.size 21 _ _ (C8.nth 0 rfl) rfl (by rw[Qci];omega) rfl (by kernel_rfl) ?_;intro v11 w11 hv11 hb11 ho11;simp[go_sem]at hv11;subst hv11;rw[Quy]at hb11
        have n18:=QgC o18 (C8.nth 0 rfl) (by decide)
        have C10:=C8.write 0 rfl ho11 hb11
        have o20:=Qb9 o18 ho11 (fun b hb e=>n18 (by rw[hb,e])))
     | fail)
    clear C7 C8 o15 o16 o18 n15 n16 n18 hb9 ho9 hb11 ho11 hc0
    have nA:=C10.ne 0 4 rfl rfl (by decide)
    have nB:=C10.ne 0 3 rfl rfl (by decide)
    have nC:=C10.ne 2 4 rfl rfl (by decide)
    have nD:=C10.ne 2 3 rfl rfl (by decide)
    have C11:=C10.drew
    refine Qch (Spared w11 [w.heap.size,w.heap.size+1]) [([0,1,2],3),([],4)] [5] (by as_aux_lemma=>kernel_rfl) (by as_aux_lemma=>kernel_rfl) (by intro _ _ d _ _ h;cases d<;>exact h) ⟨Spared.refl _ _,?_⟩
    simp only[Qbs,pick,QCo,QCp,QCq,QCr,QCs]
    repeat (first|go_big_quiet_skip|(go_big_quiet_want;(first|refine QcN _ _ rfl 0 (RCc RC nil8 (.slice A11 480 c11)) (C10.nth 0 rfl) (by intro b hb;simp only[QCQ,QCT,or_false]at hb;rcases hb with rfl|rfl<;>first|exact nA|exact nB) rfl (Qe1 _) _ Tryz.underlying116 rfl (by rw[Qci];exact Qh1) ?_|refine QcN _ _ rfl 160 (ks.map W8) (C10.nth 2 rfl) (by intro b hb;simp only[QCQ,QCT,or_false]at hb;rcases hb with rfl|rfl<;>first|exact nC|exact nD) rfl (Qiu hks.out.2) _ Tryz.underlying79 rfl (by rw[QCt,k5];exact QcZ) ?_);simp only[Act.put,QCw,QCz,QCy];go_big_quiet_on)|(go_big_quiet_step (fail))|(go_big_quiet_want;go_big_quiet_op;refine⟨_,fun _ _=>rfl,?_⟩;go_big_quiet_on))
    refine wpQuiet_nil ?_
    go_wp2_with (first
     | (refine Qdy rfl rfl _ _ rfl (C11.nth 4 rfl) rfl rfl rfl rfl hz0 ?_;intro w12 hb12 ho12
        have C12:=C11.write 4 rfl ho12 hb12)
     | fail)
    have S12:=(Spared.refl w11 [w.heap.size,w.heap.size+1]).only ho12 (by simp)
    refine⟨S12,?_⟩
    try simp only[Qbs,pick,QCo,QCp,QCq,QCr,QCs]
    repeat (first|(go_big_quiet_step (fail))|(go_big_quiet_want;go_big_quiet_op;refine⟨_,fun _ _=>rfl,?_⟩;go_big_quiet_on))
    refine wpQuiet_nil ?_
    go_wp2_with (first
     | (refine Qa5 rfl rfl _ _ rfl (C12.nth 3 rfl) rfl rfl k5 rfl ?_;intro w13 hb13 ho13
        have C13:=C12.write 3 rfl ho13 hb13)
     | fail)
    refine⟨S12.only ho13 (by simp),?_⟩
    try simp only[Qbs,pick,QCo,QCp,QCq,QCr,QCs]
    repeat (first|(go_big_quiet_step (fail))|(go_big_quiet_want;go_big_quiet_op;refine⟨_,fun _ _=>rfl,?_⟩;go_big_quiet_on))
    refine wpQuiet_nil ?_
    go_wp2_with fail
    have n20:=QgC (Qap o20 (Qab w11)) (C11.nth 4 rfl) (by decide)
    have o21:=Qb9 (Qap o20 (Qab w11)) ho12 (fun b hb e=>n20 (by rw[hb,e]))
    have n21:=QgC o21 (C12.nth 3 rfl) (by decide)
    have o22:=Qb9 o21 ho13 (fun b hb e=>n21 (by rw[hb,e]))
    refine bodyPost_ret (Qcc rfl _ _ _ _ _ _ _ _ _ _ (C13.nth 4 rfl) rfl Tryz.underlying116 rfl (by rw[Qci];exact Qh1) (C13.nth 3 rfl) rfl Tryz.underlying79 rfl (by rw[QCt,k5];exact Qbn)) rfl ⟨none,0,A11,c11,by rw[hrB.out,hQ.out,hS.out,hE.out,hC.out,hBl];rfl,?_,?_,C13.lat⟩
    ·rw[hQ.out]
     exact Qay _ _ _
    ·rw[hrB.out,hBl]
     exact o22
   ·have hky:RC.kd=1:=by simpa using hk
    have hOL:=(hrP.out (by trivial) hky).2
    have hRP:=(hrP.out (by trivial) hky).1
    have hRl:RP.length=768:=by rw[hRP,QCB];omega
    replace hrB:=hid (hB.out.trans (hrB.out.trans (if_neg (by simp[hky]))))
    replace hQ:=hid (hQ.out.trans ((if_pos hky).trans hRP))
    have hRPl:(OL++BD).length=768:=by rw[←hRP];exact hRl
    clear hRP hRl hrP
    generalize OL.length=nO at *
    subst hOL
    go_wp2_with (first
     | (refine Qep rfl _ rfl (C7.nth 0 rfl) rfl ?_)
     | (refine Qah rfl 116 _ rfl (RCc RC nil8 nil8) (by simp only[QCA,QCR,QCC];exact hb1.out RC) ?_)
     | (refine Qdy rfl rfl _ _ rfl (Blk.new w8 _ re0) rfl rfl rfl rfl hz0 ?_;intro w9 hb9 ho9
        have C8:=C7.push (Qaa _ _) (QCx _) ho9 hb9
        have hc0:=(QdK (C8.nth 1 rfl)).1
        have o17:=Qb9 o15 ho9 (fun b hb e=>n15 (by rw[hb,e]))
        have o18:=Qb9 o16 ho9 (fun b hb e=>n16 (by rw[hb,e])))
     | (refine Qas rfl _ _ _ rfl 5 _ 1 Tryz.underlying32 QbW rfl w _ 288 _ o17 C8.lat A11 480 c11 _ (QfV o18) (QaE _) rfl rfl (by omega) (by omega) ?_;intro A12 c12 w10 hown10 hl10 hg10 _
        have C9:=C8.grownRow o17 (QhO (by simp)) hg10 hl10)
     | (refine Qac rfl rfl _ _ _ rfl w8.heap.size 20 _ _ (C9.nth 0 rfl) rfl (by rw[Qci];omega) rfl (by kernel_rfl) ?_;intro v11 w11 hv11 hb11 ho11;simp[go_sem]at hv11;subst hv11;rw[QuQ]at hb11
        have n18:=QgC hown10 (C9.nth 0 rfl) (by decide)
        have C10:=C9.write 0 rfl ho11 hb11
        have o20:=Qb9 hown10 ho11 (fun b hb e=>n18 (by rw[hb,e])))
     | fail)
    clear C7 C8 C9 o15 o16 o17 o18 n15 n16 n18 hb9 ho9 hb11 ho11 hc0 hown10 hl10 hg10
    have nA:=C10.ne 0 4 rfl rfl (by decide)
    have nB:=C10.ne 0 3 rfl rfl (by decide)
    have nC:=C10.ne 2 4 rfl rfl (by decide)
    have nD:=C10.ne 2 3 rfl rfl (by decide)
    have C11:=C10.drew
    refine Qch (Spared w11 [w.heap.size,w.heap.size+1]) [([0,1,2],3),([],4)] [5] (by as_aux_lemma=>kernel_rfl) (by as_aux_lemma=>kernel_rfl) (by intro _ _ d _ _ h;cases d<;>exact h) ⟨Spared.refl _ _,?_⟩
    simp only[Qbs,pick,QCo,QCp,QCq,QCr,QCs]
    repeat (first|go_big_quiet_skip|(go_big_quiet_want;(first|refine QcN _ _ rfl 0 (RCc RC (.slice A12 768 c12) nil8) (C10.nth 0 rfl) (by intro b hb;simp only[QCQ,QCT,or_false]at hb;rcases hb with rfl|rfl<;>first|exact nA|exact nB) rfl (Qe1 _) _ Tryz.underlying116 rfl (by rw[Qci];exact Qh1) ?_|refine QcN _ _ rfl 160 (ks.map W8) (C10.nth 2 rfl) (by intro b hb;simp only[QCQ,QCT,or_false]at hb;rcases hb with rfl|rfl<;>first|exact nC|exact nD) rfl (Qiu hks.out.2) _ Tryz.underlying79 rfl (by rw[QCt,k5];exact QcZ) ?_);simp only[Act.put,QCw,QCz,QCy];go_big_quiet_on)|(go_big_quiet_step (fail))|(go_big_quiet_want;go_big_quiet_op;refine⟨_,fun _ _=>rfl,?_⟩;go_big_quiet_on))
    refine wpQuiet_nil ?_
    go_wp2_with (first
     | (refine Qdy rfl rfl _ _ rfl (C11.nth 4 rfl) rfl rfl rfl rfl hz0 ?_;intro w12 hb12 ho12
        have C12:=C11.write 4 rfl ho12 hb12)
     | fail)
    have S12:=(Spared.refl w11 [w.heap.size,w.heap.size+1]).only ho12 (by simp)
    refine⟨S12,?_⟩
    try simp only[Qbs,pick,QCo,QCp,QCq,QCr,QCs]
    repeat (first|(go_big_quiet_step (fail))|(go_big_quiet_want;go_big_quiet_op;refine⟨_,fun _ _=>rfl,?_⟩;go_big_quiet_on))
    refine wpQuiet_nil ?_
    go_wp2_with (first
     | (refine Qa5 rfl rfl _ _ rfl (C12.nth 3 rfl) rfl rfl k5 rfl ?_;intro w13 hb13 ho13
        have C13:=C12.write 3 rfl ho13 hb13)
     | fail)
    refine⟨S12.only ho13 (by simp),?_⟩
    try simp only[Qbs,pick,QCo,QCp,QCq,QCr,QCs]
    repeat (first|(go_big_quiet_step (fail))|(go_big_quiet_want;go_big_quiet_op;refine⟨_,fun _ _=>rfl,?_⟩;go_big_quiet_on))
    refine wpQuiet_nil ?_
    go_wp2_with fail
    have n20:=QgC (Qap o20 (Qab w11)) (C11.nth 4 rfl) (by decide)
    have o21:=Qb9 (Qap o20 (Qab w11)) ho12 (fun b hb e=>n20 (by rw[hb,e]))
    have n21:=QgC o21 (C12.nth 3 rfl) (by decide)
    have o22:=Qb9 o21 ho13 (fun b hb e=>n21 (by rw[hb,e]))
    refine bodyPost_ret (Qcc rfl _ _ _ _ _ _ _ _ _ _ (C13.nth 4 rfl) rfl Tryz.underlying116 rfl (by rw[Qci];exact Qh1) (C13.nth 3 rfl) rfl Tryz.underlying79 rfl (by rw[QCt,k5];exact Qbn)) rfl ⟨A12,c12,none,0,by rw[hrB.out,hQ.out,hS.out,hE.out,hC.out,hRPl];rfl,?_,?_,C13.lat⟩
    ·rw[hQ.out,hRPl]
     exact Qdc o22
    ·rw[hrB.out]
     exact Qay _ _ _
  ·have hne:((RE:Int) != 0)=true:=by simp;omega
   have HC:=hcz.out hr0
   subst HC
   have HB:UB=[]:=by rw[hB.out,hrB.out,if_neg (fun h=>hr0 h.1)]
   have HQ:UQ=[]:=by rw[hQ.out,if_neg (fun h=>hr0 (by rw[←hE.out];exact h.1))]
   have HS:US=Z32:=by rw[hS.out,if_neg (by rw[hE.out];exact hr0)]
   replace HB:=hid HB
   replace HQ:=hid HQ
   replace HS:=hid HS
   clear hB hrB hQ hS
   go_wp2_with (first
    | (refine Qah rfl 116 _ rfl (RCc cmd0 nil8 nil8) (by simp only[QCA,QCC];exact hb0) ?_)
    | (refine Qah rfl 79 _ rfl (Z32.map W8) (by simp only[QCA,QCC];exact hz32) ?_)
    | (refine Qdy rfl rfl _ _ rfl (C5.nth 3 rfl) rfl rfl rfl rfl hz0 ?_;intro w8 hb8 ho8
       have C6:=C5.write 3 rfl ho8 hb8)
    | (refine Qa5 rfl rfl _ _ rfl (C6.nth 2 rfl) rfl rfl z32l rfl ?_;intro w9 hb9 ho9
       have C7:=C6.write 2 rfl ho9 hb9)
    | fail)
   refine bodyPost_ret (Qcc rfl _ _ _ _ _ _ _ _ _ _ (C7.nth 3 rfl) rfl Tryz.underlying116 rfl (by rw[Qci];exact Qh1) (C7.nth 2 rfl) rfl Tryz.underlying79 rfl (by rw[QCt,z32l];exact Qbn)) rfl ⟨none,0,none,0,by rw[HB.out,HQ.out,HS.out,hE.out,hC.out];rfl,?_,?_,C7.lat⟩
   ·rw[HQ.out]
    exact Qay _ _ _
   ·rw[HB.out]
    exact Qay _ _ _
 ·have hne:((ME:Int) != 0)=true:=by simp;omega
  replace hE:=hid (hE.out.trans (if_neg hm))
  replace hC:=hid (hC.out.trans (if_neg hm))
  replace hB:=hid (hB.out.trans (if_neg hm))
  have HQ:UQ=[]:=by rw[hQ.out,if_neg (fun h=>hm (by rw[←hE.out];exact h.1))]
  have HS:US=Z32:=by rw[hS.out,if_neg (by rw[hE.out];exact hm)]
  replace HQ:=hid HQ
  replace HS:=hid HS
  go_wp2_with (first
   | (refine QhN rfl rfl _ _ rfl (Blk.new w3 _ Tryz.zeroCells145.toList) rfl rfl hsl hzR ?_;intro w4 hb4 ho4
      have C5:=C2.push (Qaa _ _) (QCx _) ho4 hb4)
   | (refine Qah rfl 116 _ rfl (RCc cmd0 nil8 nil8) (by simp only[QCA,QCC];exact hb0) ?_)
   | (refine Qah rfl 79 _ rfl (Z32.map W8) (by simp only[QCA,QCC];exact hz32) ?_)
   | (refine Qdy rfl rfl _ _ rfl (C5.nth 2 rfl) rfl rfl rfl rfl hz0 ?_;intro w8 hb8 ho8
      have C6:=C5.write 2 rfl ho8 hb8)
   | (refine Qa5 rfl rfl _ _ rfl (C6.nth 1 rfl) rfl rfl z32l rfl ?_;intro w9 hb9 ho9
      have C7:=C6.write 1 rfl ho9 hb9)
   | fail)
  refine bodyPost_ret (Qcc rfl _ _ _ _ _ _ _ _ _ _ (C7.nth 2 rfl) rfl Tryz.underlying116 rfl (by rw[Qci];exact Qh1) (C7.nth 1 rfl) rfl Tryz.underlying79 rfl (by rw[QCt,z32l];exact Qbn)) rfl ⟨none,0,none,0,by rw[hB.out,HQ.out,HS.out,hE.out,hC.out];rfl,?_,?_,C7.lat⟩
  ·rw[HQ.out]
   exact Qay _ _ _
  ·rw[hB.out]
   exact Qay _ _ _
end Go.Proofs.YtdkpcdgckgaklaaGreat
