/-
  Lemmas for the last text of this claim (part 13 of 20).
-/
import Derived.ArgAppend
import Derived.BigQuiet
import Derived.BigRegion
import Derived.ChangeOld
import Derived.Deep.RegionWith
import Derived.DeepKeys4
import Derived.JoinedCond
import Derived.LaidMore
import Derived.Laws.BytesArg
import Derived.Laws.CopyOwn
import Derived.Laws.Externs
import Derived.Laws.IdiomStrings
import Derived.Laws.Tables
import Derived.Lib.AppendStr
import Derived.Lib.AppendZerosOnto
import Derived.Lib.Mul64
import Derived.Lib.SlBytesConst
import Derived.LoopN
import Derived.Maps.OwnSet
import Derived.OpenShut
import Derived.OrdersHeld
import Derived.ProofKit
import Derived.Shelf.Spec.BitsCarry
import Derived.ShutString
import Derived.Test.YtdhgpkdjdmlphaaGreatProg
import Derived.Test.YtdhgpkdjdmlphaaGreatRows
import Derived.WalkKit
import Derived.WalkLawsBesides
import Derived.WalkSpells
import Derived.Test.YtdhgpkdjdmlphaaGreatPD
import Derived.Test.YtdhgpkdjdmlphaaGreatPE
import Derived.Test.YtdhgpkdjdmlphaaGreatPJ
import Derived.Test.YtdhgpkdjdmlphaaGreatPL
open List renaming replicate → Qym, length_map → Qyn, getElem?_cons_succ → Qyo, getElem?_cons_zero → Qyp, getElem?_eq_getElem → Qyq, getD_eq_getElem?_getD → Qys, nil_append → Qyt, cons_append → Qyu, length_append → Qyv, take_of_length_le → Qyx, append_assoc → QyE, getElem?_map → QyF, length_take → QyL, set_append_right → QyW, length_set → Qy2, map_append → Qy6, range → Qzc, take_append_of_le_length → Qzf, replicate_succ → QzE, range_succ → QAp
open Nat renaming le_refl → Qyw, zero_add → QyY
open Option renaming toList_some → Qyr
open UInt32 renaming ofNat → QyX
open UInt64 renaming ofInt → Qy8
set_option linter.all false
namespace Go.Proofs.YtdhgpkdjdmlphaaGreat
open Go.RowKit
open Go.BigFrame
def rotl (x:UInt32) (n:Nat):UInt32:=Qew x n ||| QbU x (32-n)
theorem QmA (n:Nat) (h1:n<32):cnt (Qy8 (n:Int) &&& 31)=n∧cnt (32-(Qy8 (n:Int) &&& 31))=32-n:=by
 have:∀k:Fin 32,cnt (Qy8 (k.val:Int) &&& 31)=k.val∧cnt (32-(Qy8 (k.val:Int) &&& 31))=32-k.val:=by decide
 exact this ⟨n,h1⟩
theorem QpB (x:UInt32) (n:Nat) (i:Int) (hi:i=(n:Int)) (h1:n<32) (w:World):
 Calls Tryz.prog 203 #[W32 x,.int .i64 i] w fun e w'=>e= .returned (W32 (rotl x n))∧w'=w:=by
 subst hi
 have hc:=hid (QmA n h1)
 go_enter Tryz.func203,Tryz.ntmps203
 go_wp2
 go_ret
 exact⟨QpS (by rw[hc.out.1,hc.out.2,rotl]),rfl⟩
theorem QiX {fn:Func} {t u v x:Tmp} (h:fn.results= #[.tmp t,.tmp u,.tmp v,.tmp x]) (tmps:Array Value) (P:Program) (w:World):
 (results fn tmps).run P w= .ok (.tuple #[tmps.getD t undef,tmps.getD u undef,tmps.getD v undef,tmps.getD x undef]) w:=by
 simp[results,h]
def Qvk (v:UInt32×UInt32×UInt32×UInt32) (n:Nat):UInt32×UInt32×UInt32×UInt32:=(v.1+v.2.1,v.2.1,v.2.2.1,rotl (v.2.2.2 ^^^ (v.1+v.2.1)) n)
def Qvv (v:UInt32×UInt32×UInt32×UInt32) (n:Nat):UInt32×UInt32×UInt32×UInt32:=(v.1,rotl (v.2.1 ^^^ (v.2.2.1+v.2.2.2)) n,v.2.2.1+v.2.2.2,v.2.2.2)
def Qj6 (a b c d:UInt32):UInt32×UInt32×UInt32×UInt32:=Qvv (Qvk (Qvv (Qvk (a,b,c,d) 16) 12) 8) 7
set_option maxHeartbeats 1000000 in
theorem Qle (a b c d:UInt32) (w:World):Calls Tryz.prog 202 #[W32 a,W32 b,W32 c,W32 d] w fun e w'=>
 e= .returned (.tuple #[W32 (Qj6 a b c d).1,W32 (Qj6 a b c d).2.1,W32 (Qj6 a b c d).2.2.1,W32 (Qj6 a b c d).2.2.2])∧w'=w:=by
 have hr:=hid QpB
 go_enter Tryz.func202,Tryz.ntmps202
 go_wp2_with fail
 refine (hr.out _ 16 _ rfl (by omega) _).mono ?_;rintro e w1 ⟨rfl,rfl⟩
 go_wp2_with fail
 refine (hr.out _ 12 _ rfl (by omega) _).mono ?_;rintro e w1 ⟨rfl,rfl⟩
 go_wp2_with fail
 refine (hr.out _ 8 _ rfl (by omega) _).mono ?_;rintro e w1 ⟨rfl,rfl⟩
 go_wp2_with fail
 refine (hr.out _ 7 _ rfl (by omega) _).mono ?_;rintro e w1 ⟨rfl,rfl⟩
 go_wp2_with fail
 (try simp only[Exit.inBlock,Exit.then]);refine bodyPost_ret (QiX rfl _ _ _) rfl ?_
 exact⟨rfl,rfl⟩
def leW (bs:List UInt8) (k:Nat):UInt32:=(Qct bs (4*k)).toUInt32 ||| Qew (Qct bs (4*k+1)).toUInt32 8 ||| Qew (Qct bs (4*k+2)).toUInt32 16 ||| Qew (Qct bs (4*k+3)).toUInt32 24
theorem QqK {x y:UInt32} {w:World} (h:x=y) (w':World) (hl:Later w w'):Ending.returned (W32 x)= .returned (W32 y)∧Later w w':=⟨by rw[h],hl⟩
set_option maxHeartbeats 1000000 in
theorem Qup (A:Option Addr) (n c:Nat) (bs:List UInt8) (p:Nat) (w:World) (hr:RdB w A n bs) (hk:p+4≤n) (hn:n≤140737488355328):
 Calls Tryz.prog 201 #[.slice A n c,.int .i64 (p:Int)] w fun e w'=>e= .returned (W32 ((Qct bs p).toUInt32 ||| Qew (Qct bs (p+1)).toUInt32 8 ||| Qew (Qct bs (p+2)).toUInt32 16 ||| Qew (Qct bs (p+3)).toUInt32 24))∧Later w w':=by
 have hl:=hr.len
 obtain⟨b,o,rfl,hb,hc⟩:=hr.at_ (by omega)
 have c0:=hc p (by omega)
 have c1:=hc (p+1) (by omega)
 have c2:=hc (p+2) (by omega)
 have c3:=hc (p+3) (by omega)
 unfold Qct
 generalize bs.getD p 0=x0 at *
 generalize bs.getD (p+1) 0=x1 at *
 generalize bs.getD (p+2) 0=x2 at *
 generalize bs.getD (p+3) 0=x3 at *
 clear hc hr
 go_enter Tryz.func201,Tryz.ntmps201
 go_wp2_with fail
 refine Qaf [] [0,1,2,3,4,5,6,7,8,9,10,11,12,13,14,15,16,17,18,19,20,21,22,23,24,25,26,27,28,29] [] (by as_aux_lemma=>kernel_rfl) (by as_aux_lemma=>kernel_rfl) (by intro _ _ d _ _ h;cases d<;>exact h) ?_
 simp only[Qaj,pick,Qyo,Qyp,Qyr,Qyu,Qyt]
 repeat (go_big_quiet_step (fail))
 refine wpQuiet_nil ?_
 go_wp2_with fail
 go_ret
 exact QqK rfl _ (Qad _)
theorem Qlm (A:Option Addr) (n c:Nat) (bs:List UInt8) (k:Nat) (i:Int) (hi:i=4*(k:Int)) (w:World) (hr:RdB w A n bs) (hk:4*k+4≤n) (hn:n≤140737488355328):
 Calls Tryz.prog 201 #[.slice A n c,.int .i64 i] w fun e w'=>e= .returned (W32 (leW bs k))∧Later w w':=by
 obtain rfl:i=((4*k:Nat):Int):=by omega
 exact Qup A n c bs (4*k) w hr hk hn
def putQ (s:List UInt32) (a b c d:Nat) (q:UInt32×UInt32×UInt32×UInt32):List UInt32:=(((s.set a q.1).set b q.2.1).set c q.2.2.1).set d q.2.2.2
def Qc4 (s:List UInt32) (a b c d:Nat):List UInt32:=putQ s a b c d (Qj6 (wAt s a) (wAt s b) (wAt s c) (wAt s d))
theorem QdF (s:List UInt32) (a b c d:Nat):(Qc4 s a b c d).length=s.length:=by simp[Qc4,putQ]
theorem Qfs {s:List UInt32} {i:Nat} (h:i<s.length):(s.map W32)[i]?=some (W32 (wAt s i)):=by
 rw[QyF,Qyq h,wAt,Qys,Qyq h]
 rfl
theorem QeR (s:List UInt32) (i:Nat) (x:UInt32):(s.map W32).set i (W32 x)=(s.set i x).map W32:=by rw[List.map_set]
theorem Qda:(Tryz.prog.info? 62).map (·.size)=some 1:=by kernel_rfl
set_option maxRecDepth 100000 in
set_option maxHeartbeats 2000000 in
theorem Qpl (g:Nat) (t:TypeId) (s:List UInt32) (a b c d:Nat) (ia ib ic id:Int) (ha:ia=(a:Int)) (hb:ib=(b:Int)) (hc:ic=(c:Int)) (hd:id=(d:Int)) (w:World) (hs:Blk w g t (s.map W32)) (hl:s.length=16) (h1:a<16) (h2:b<16) (h3:c<16) (h4:d<16):
 Calls Tryz.prog 196 #[.pointer (some ⟨g,0,none⟩),.int .i64 ia,.int .i64 ib,.int .i64 ic,.int .i64 id] w fun e w'=>e= .returned (.tuple #[])∧Blk w' g t ((Qc4 s a b c d).map W32)∧Only g w w':=by
 subst ha hb hc hd
 have d1:=hs.cellD a (Qfs (s:=s) (by omega))
 have d2:=hs.cellD b (Qfs (s:=s) (by omega))
 have d3:=hs.cellD c (Qfs (s:=s) (by omega))
 have d4:=hs.cellD d (Qfs (s:=s) (by omega))
 have hq:=hid Qle
 have hR:=hid (show Qc4 s a b c d=putQ s a b c d (Qj6 (wAt s a) (wAt s b) (wAt s c) (wAt s d)) from rfl)
 generalize Qc4 s a b c d=R at *
 generalize wAt s a=xa at *
 generalize wAt s b=xb at *
 generalize wAt s c=xc at *
 generalize wAt s d=xd at *
 go_enter Tryz.func196,Tryz.ntmps196
 go_wp2_with fail
 refine Qgh [([0,1,2,3,4,5,6,7,34,37,40,43],[8,9,10,11,12,13,14,15,16,17,18,19,20,21,22,23,24,25,26,27],28)] [29,30,31,32,33] [35] [36,38,39,41,42,44,45] (by as_aux_lemma=>kernel_rfl) (by as_aux_lemma=>kernel_rfl) (by intro _ _ d _ _ h;cases d<;>exact h) ?_
 simp only[Qfn,pick,Qyo,Qyp,Qyr,Qyu,Qyt]
 repeat (go_big_quiet_step (fail))
 refine wpQuiet_nil ?_
 repeat (go_big_quiet_step (fail))
 refine wpQuiet_nil ?_
 go_wp2_with fail
 refine (hq.out _ _ _ _ _).mono ?_;rintro e w1 ⟨rfl,rfl⟩
 generalize Qj6 xa xb xc xd=q at *
 obtain⟨qa,qb,qc,qd⟩:=q
 go_wp2_with fail
 try refine⟨by first|assumption|exact Qad _|exact Qaa _ _|exact Later.refl _,?_⟩
 try simp only[Qfn,pick,Qyo,Qyp,Qyr,Qyu,Qyt]
 repeat (go_big_quiet_step (fail))
 refine wpQuiet_nil ?_
 repeat (go_big_quiet_step (fail))
 refine wpQuiet_nil ?_
 have hs':=hs.drew
 go_wp2_with (first
  | (refine Qae rfl rfl _ _ _ rfl g a t _ hs' rfl (by rw[Qyn];omega) rfl Qda ?_;intro v' w5 hv' hb5 ho5;simp[go_sem]at hv';subst hv';rw[QeR]at hb5)
  | (refine Qae rfl rfl _ _ _ rfl g b t _ hb5 rfl (by rw[Qyn,Qy2];omega) rfl Qda ?_;intro v' w6 hv' hb6 ho6;simp[go_sem]at hv';subst hv';rw[QeR]at hb6)
  | (refine Qae rfl rfl _ _ _ rfl g c t _ hb6 rfl (by rw[Qyn,Qy2,Qy2];omega) rfl Qda ?_;intro v' w7 hv' hb7 ho7;simp[go_sem]at hv';subst hv';rw[QeR]at hb7)
  | (refine Qae rfl rfl _ _ _ rfl g d t _ hb7 rfl (by rw[Qyn,Qy2,Qy2,Qy2];omega) rfl Qda ?_;intro v' w8 hv' hb8 ho8;simp[go_sem]at hv';subst hv';rw[QeR]at hb8)
  | fail)
 exact bodyPost_end (results_none rfl _ _ _) rfl ⟨rfl,by rw[hR.out];exact hb8,(Qad _).thenOnly (((ho5.trans ho6).trans ho7).trans ho8)⟩
def chaC:List UInt32:=[1634760805,857760878,2036477234,1797285236]
def Qiq (key:List UInt8) (k:Nat):List UInt32:=chaC++(Qzc k).map (leW key)++Qym (12-k) 0
def Qic (key nonce:List UInt8) (ctr:UInt32) (k:Nat):List UInt32:=chaC++(Qzc 8).map (leW key)++[ctr]++(Qzc k).map (leW nonce)++Qym (3-k) 0
def QgR (key nonce:List UInt8) (ctr:UInt32):List UInt32:=chaC++(Qzc 8).map (leW key)++[ctr]++(Qzc 3).map (leW nonce)
theorem Qjz (key:List UInt8) (k:Nat) (h:k≤12):(Qiq key k).length=16:=by
 simp[Qiq,chaC]
 omega
theorem Qje (key nonce:List UInt8) (ctr:UInt32) (k:Nat) (h:k≤3):(Qic key nonce ctr k).length=16:=by
 simp[Qic,chaC]
 omega
theorem Qf1 (key nonce:List UInt8) (ctr:UInt32):(QgR key nonce ctr).length=16:=by simp[QgR,chaC]
theorem QjV {α:Type} (z:α) (pre:List α) (f:Nat→α) (k n:Nat) (h:k<n):(pre++(Qzc k).map f++Qym (n-k) z).set (pre.length+k) (f k)=pre++(Qzc (k+1)).map f++Qym (n-(k+1)) z:=by
 have e:n-k=(n-(k+1))+1:=by omega
 rw[e,QzE,QyW _ _ (by simp),QAp,Qy6]
 simp
theorem Qmz (key:List UInt8) (k:Nat) (h:k<8):(Qiq key k).set (4+k) (leW key k)=Qiq key (k+1):=QjV 0 chaC (leW key) k 12 (by omega)
theorem QmC (key nonce:List UInt8) (ctr:UInt32) (k:Nat) (h:k<3):(Qic key nonce ctr k).set (13+k) (leW nonce k)=Qic key nonce ctr (k+1):=by
 have:=QjV 0 (chaC++(Qzc 8).map (leW key)++[ctr]) (leW nonce) k 3 h
 rw[show (chaC++(Qzc 8).map (leW key)++[ctr]).length=13 by simp[chaC]]at this
 exact this
theorem QvX (key nonce:List UInt8) (ctr:UInt32):(Qiq key 8).set 12 ctr=Qic key nonce ctr 0:=by
 rw[Qiq,Qic,QyW _ _ (by simp[chaC])]
 simp[chaC]
theorem QnK (key nonce:List UInt8) (ctr:UInt32):Qic key nonce ctr 3=QgR key nonce ctr:=by simp[Qic,QgR]
theorem Qk7:(Tryz.prog.info? 324).map (·.size)=some 16:=by kernel_rfl
section
variable {ops:Array Oper} {rest:List Oper} {o:Oper} {a:Act} {w:World} {Q:Exit→Act→World→Prop}
theorem Qkm (hgd:o.guard=none) (hd:o.dst=none) (x y:Operand) (ho:o.op= .store 324 x y) {g:Nat} {t:TypeId} {l:List Value} {vs:List UInt32} (hg:Blk w g t l) (hx:a.eval x= .pointer (some ⟨g,0,none⟩)) (hy:a.eval y= .agg (vs.map W32).toArray)
 (hn:vs.length=16) (hl:l.length=16) (h:∀w',Blk w' g t (vs.map W32)→Only g w w'→wpList Tryz.prog ops Q rest a w'):wpList Tryz.prog ops Q (o :: rest) a w:=
 Qai hgd hd _ x y ho g 0 t l (vs.map W32) hg hx hy (by rw[Qyn,hn];exact Qk7) (by rw[Qyn];omega) (Qkb _) (fun w' hb=>h w' (by rwa [Qam _ _ (by rw[Qyn];omega)]at hb))
theorem QpH (hgd:o.guard=none) (x:Operand) (ho:o.op= .load 324 x) {g:Nat} {t:TypeId} {vs:List UInt32} (hb:Blk w g t (vs.map W32)) (hl:vs.length=16) (hx:a.eval x= .pointer (some ⟨g,0,none⟩))
 (h:wpList Tryz.prog ops Q rest (a.put o.dst (.agg (vs.map W32).toArray)) w):wpList Tryz.prog ops Q (o :: rest) a w:=
 Qau hgd _ x ho g 0 (vs.map W32) (fun j v hv=>by rw[QyY];exact hb.cellD j hv) hx _ Tryz.underlying324 rfl (by rw[Qyn,hl];exact Qk7) h
end
set_option maxRecDepth 100000 in
set_option maxHeartbeats 4000000 in
theorem Qk1 (A B:Option Addr) (c d:Nat) (key nonce:List UInt8) (ctr:UInt32) (w:World) (hk:RdB w A 32 key) (hn:RdB w B 12 nonce):
 Calls Tryz.prog 195 #[.slice A 32 c,.slice B 12 d,W32 ctr] w fun e w'=>e= .returned (.agg ((QgR key nonce ctr).map W32).toArray)∧Later w w':=by
 have hA:=hid (Qjz key)
 have hB:=hid (Qje key nonce ctr)
 have sA:=hid (Qmz key)
 have sB:=hid (QmC key nonce ctr)
 have hAB:=hid (QvX key nonce ctr)
 have hBA:=hid (QnK key nonce ctr)
 have hL:=Qf1 key nonce ctr
 have h0:=hid (show Qiq key 0=[1634760805,857760878,2036477234,1797285236,0,0,0,0,0,0,0,0,0,0,0,0] from rfl)
 have hw:=hid (fun k i w hi h hk=>Qlm A 32 c key k i hi w h hk (by omega))
 have hw2:=hid (fun k i w hi h hk=>Qlm B 12 d nonce k i hi w h hk (by omega))
 generalize QgR key nonce ctr=L0 at *
 go_enter Tryz.func195,Tryz.ntmps195
 go_wp2_with (first
  | (refine Qap rfl 324 _ rfl (([1634760805,857760878,2036477234,1797285236,0,0,0,0,0,0,0,0,0,0,0,0]:List UInt32).map W32) ?hb ?_;(case hb=>kernel_rfl))
  | fail)
 have hR:=(Blk.new w 324 (Qym 16 (Value.int .u32 0))).later (Qaa _ (.cells #[W32 1634760805,W32 857760878,W32 2036477234,W32 1797285236,W32 0,W32 0,W32 0,W32 0,W32 0,W32 0,W32 0,W32 0,W32 0,W32 0,W32 0,W32 0] 324))
 have hS:Blk ((w.alloc (.cells (Qym 16 (Value.int .u32 0)).toArray 324)).alloc (.cells #[W32 1634760805,W32 857760878,W32 2036477234,W32 1797285236,W32 0,W32 0,W32 0,W32 0,W32 0,W32 0,W32 0,W32 0,W32 0,W32 0,W32 0,W32 0] 324)) (w.heap.size+1) 324 ((Qiq key 0).map W32):=by
  rw[h0.out]
  exact Blk.new' (w.alloc _) _ _ (by simp)
 have L0:=(Qaa w (.cells (Qym 16 (Value.int .u32 0)).toArray 324)).trans (Qaa _ (.cells #[W32 1634760805,W32 857760878,W32 2036477234,W32 1797285236,W32 0,W32 0,W32 0,W32 0,W32 0,W32 0,W32 0,W32 0,W32 0,W32 0,W32 0,W32 0] 324))
 go_loopw [8] (fun i wr=>∃k:Nat,k≤8∧i= .int .i64 k∧Later w wr∧Blk wr w.heap.size 324 (Qym 16 (Value.int .u32 0))∧Blk wr (w.heap.size+1) 324 ((Qiq key k).map W32)) (fun i _=>8-(intOf i).toNat)
 case atStart=>exact⟨0,by omega,rfl,L0,hR,hS⟩
 case round=>
  clear L0 hR hS
  obtain⟨k,hk',rfl,L,hR,hS⟩:=hrel
  by_cases hlt:k<8
  ·have hl:=hA.out k (by omega)
   have HST:=hid (sA.out k hlt)
   have t4:((4:Int)+(k:Int)).toNat=4+k:=by omega
   go_wp2_with fail
   (refine (hw.out k _ _ rfl (hk.later L) (by omega)).mono ?_);rintro e w3 ⟨rfl,j3⟩
   go_wp2_with (first
    | (refine Qae rfl rfl _ _ _ rfl (w.heap.size+1) (4+k) _ _ (hS.later j3) rfl (by rw[Qyn];omega) rfl Qda ?_;intro v' w5 hv' hb5 ho5;simp[go_sem]at hv';subst hv';rw[QeR,HST.out]at hb5)
    | fail)
   go_roundw
   case rel=>exact⟨k+1,by omega,by go_num,(L.trans j3).only ho5 (by omega),(hR.later j3).only ho5 (by omega),hb5⟩
   case measure=>simp[intOf];omega
  ·obtain rfl:8=k:=by omega
   have hl:=hA.out 8 (by omega)
   go_wp2_with (first
    | (refine Qae rfl rfl _ _ _ rfl (w.heap.size+1) 12 _ _ hS rfl (by rw[Qyn];omega) rfl Qda ?_;intro v' w5 hv' hb5 ho5;simp[go_sem]at hv';subst hv';rw[QeR,hAB.out]at hb5)
    | fail)
   have L5:=L.only ho5 (by omega)
   have hR5:=hR.only ho5 (by omega)
   clear L hR hS ho5
   go_loopw [9] (fun i wr=>∃k:Nat,k≤3∧i= .int .i64 k∧Later w wr∧Blk wr w.heap.size 324 (Qym 16 (Value.int .u32 0))∧Blk wr (w.heap.size+1) 324 ((Qic key nonce ctr k).map W32)) (fun i _=>3-(intOf i).toNat)
   case atStart=>exact⟨0,by omega,rfl,L5,hR5,hb5⟩
   case round=>
    clear L5 hR5 hb5
    obtain⟨k,hk',rfl,L,hR,hS⟩:=hrel
    by_cases hlt:k<3
    ·have hl:=hB.out k (by omega)
     have HST:=hid (sB.out k hlt)
     have t4:((13:Int)+(k:Int)).toNat=13+k:=by omega
     go_wp2_with fail
     (refine (hw2.out k _ _ rfl (hn.later L) (by omega)).mono ?_);rintro e w3 ⟨rfl,j3⟩
     go_wp2_with (first
      | (refine Qae rfl rfl _ _ _ rfl (w.heap.size+1) (13+k) _ _ (hS.later j3) rfl (by rw[Qyn];omega) rfl Qda ?_;intro v' w5 hv' hb5 ho5;simp[go_sem]at hv';subst hv';rw[QeR,HST.out]at hb5)
      | fail)
     go_roundw
     case rel=>(repeat apply Exists.intro);exact⟨⟨k+1,by omega,by go_num,(L.trans j3).only ho5 (by omega),(hR.later j3).only ho5 (by omega),hb5⟩,rfl⟩
     case measure=>simp[intOf];omega
    ·obtain rfl:3=k:=by omega
     rw[hBA.out]at hS
     go_wp2_with (first
      | (refine QpH rfl _ rfl hS hL rfl ?_)
      | (refine Qkm rfl rfl _ _ rfl hR rfl rfl hL rfl ?_;intro w9 hb9 ho9)
      | fail)
     exact bodyPost_ret (QaE rfl _ _ _ _ _ _ hb9 rfl Tryz.underlying324 rfl (by rw[Qyn,hL];exact Qk7)) rfl ⟨rfl,L.only ho9 (Qyw _)⟩
def dbl (s:List UInt32):List UInt32:=
 Qc4 (Qc4 (Qc4 (Qc4 (Qc4 (Qc4 (Qc4 (Qc4 s 0 4 8 12) 1 5 9 13) 2 6 10 14) 3 7 11 15) 0 5 10 15) 1 6 11 12) 2 7 8 13) 3 4 9 14
def dblN (s:List UInt32):Nat→List UInt32
 | 0=>s
 | k+1=>dbl (dblN s k)
theorem Qmh (s:List UInt32):(dbl s).length=s.length:=by simp[dbl,QdF]
theorem QgA (s:List UInt32):∀k,(dblN s k).length=s.length
 | 0=>rfl
 | k+1=>by rw[dblN,Qmh,QgA s k]
def le4 (x:UInt32):List UInt8:=[x.toUInt8,(QbU x 8).toUInt8,(QbU x 16).toUInt8,(QbU x 24).toUInt8]
def QeA (f s:List UInt32) (k:Nat):List UInt8:=(Qzc k).flatMap fun i=>le4 (wAt f i+wAt s i)
theorem QgJ (f s:List UInt32) (k:Nat):QeA f s (k+1)=QeA f s k++le4 (wAt f k+wAt s k):=by
 simp[QeA,QAp]
theorem QdN (f s:List UInt32):∀k,(QeA f s k).length=4*k
 | 0=>rfl
 | k+1=>by rw[QgJ,Qyv,QdN f s k,le4];simp;omega
def chaB (key nonce:List UInt8) (ctr:UInt32):List UInt8:=QeA (dblN (QgR key nonce ctr) 10) (QgR key nonce ctr) 16
theorem QgY (key nonce:List UInt8) (ctr:UInt32):(chaB key nonce ctr).length=64:=QdN _ _ 16
theorem QiI {w:World} {base:Nat} {A:Option Addr} {n c:Nat} {xs ys:List UInt8} (h:w.ownsRow base 5 1 (.slice A n c) n (xs.map W8++ys.map W8)):OwnB w base A n c (xs++ys):=by
 rw[←Qy6]at h
 exact h
theorem Qru (g:Nat) (t:TypeId) (s:List UInt32) (a b c d:Nat) (ia ib ic id:Int) (ha:ia=(a:Int)) (hb:ib=(b:Int)) (hc:ic=(c:Int)) (hd:id=(d:Int)) (w:World) (hs:Blk w g t (s.map W32)) (hl:s.length=16) (h1:a<16) (h2:b<16) (h3:c<16) (h4:d<16):
 Calls Tryz.prog 196 #[.pointer (some ⟨g,0,none⟩),.int .i64 ia,.int .i64 ib,.int .i64 ic,.int .i64 id] w fun e w'=>e= .returned (.tuple #[])∧∃s',Hid (s'=Qc4 s a b c d)∧s'.length=16∧Blk w' g t (s'.map W32)∧Only g w w':=
 (Qpl g t s a b c d ia ib ic id ha hb hc hd w hs hl h1 h2 h3 h4).mono fun _ _ ⟨he,hb,ho⟩=>⟨he,_,hid rfl,(QdF s a b c d).trans hl,hb,ho⟩
set_option maxRecDepth 100000 in
set_option maxHeartbeats 8000000 in
theorem QoI (A B:Option Addr) (c d:Nat) (key nonce:List UInt8) (ctr:UInt32) (w:World) (hk:RdB w A 32 key) (hn:RdB w B 12 nonce):
 Calls Tryz.prog 189 #[.slice A 32 c,.slice B 12 d,W32 ctr] w fun e w'=>∃A' c',e= .returned (.tuple #[.slice A' 64 c',.int .i64 0])∧OwnB w' w.heap.size A' 64 c' (chaB key nonce ctr)∧Later w w':=by
 have hI:=hid (Qk1 A B c d key nonce ctr w hk hn)
 have hsl:=Qf1 key nonce ctr
 have hC:=hid (show chaB key nonce ctr=QeA (dblN (QgR key nonce ctr) 10) (QgR key nonce ctr) 16 from rfl)
 generalize QgR key nonce ctr=S at *
 generalize chaB key nonce ctr=CB at *
 have hr:=hid Qru
 have hdl:=hid (fun k=>(QgA S k).trans hsl)
 have hrl:=hid QdF
 have hd1:=hid (fun k=>show dblN S (k+1)=dbl (dblN S k) from rfl)
 go_enter Tryz.func189,Tryz.ntmps189
 go_wp2_with fail
 (with_reducible refine (hI.out).mono ?_);rintro e w1 ⟨rfl,j1⟩
 go_wp2_with (first
  | (refine Qkm rfl rfl _ _ rfl (Blk.new w1 _ (Qym 16 (.int .u32 0))) rfl rfl hsl rfl ?_;intro w2 hb2 ho2
     have B2:=(Bag.none w).push (j1.trans (Qaa w1 _)) j1.size ho2 hb2)
  | (refine QpH rfl _ rfl (B2.nth 0 rfl) hsl rfl ?_)
  | (refine Qkm rfl rfl _ _ rfl (Blk.new w2 _ (Qym 16 (.int .u32 0))) rfl rfl hsl rfl ?_;intro w3 hb3 ho3
     have B3:=B2.push (Qaa w2 _) (Qyw _) ho3 hb3)
  | fail)
 clear B2 hb2 hb3 ho2 ho3 j1
 generalize w1.heap.size=g8 at *
 generalize w2.heap.size=g9 at *
 go_loopw [26] (fun i wr=>∃k:Nat,k≤10∧i= .int .i64 k∧Bag w wr [(g9,324,(dblN S k).map W32),(g8,324,S.map W32)]) (fun i _=>10-(intOf i).toNat)
 case atStart=>exact⟨0,by omega,rfl,B3⟩
 case round=>
  clear B3
  obtain⟨k,hk',rfl,B3⟩:=hrel
  by_cases hlt:k<10
  ·have hl:=hdl.out k
   have hd2:=hid (hd1.out k)
   generalize dblN S k=T at *
   obtain⟨T0,hT0⟩:∃T0,T0=dblN S (k+1):=⟨_,rfl⟩
   rw[←hT0]at hd2
   replace hT0:=hid hT0
   go_wp2_with fail
   have b0:=B3.nth 0 rfl
   (refine (hr.out g9 _ T 0 4 8 12 _ _ _ _ rfl rfl rfl rfl _ b0 hl (by omega) (by omega) (by omega) (by omega)).mono ?_);rintro e w4 ⟨rfl,T1,e1,l1,b1,o1⟩
   go_wp2_with fail
   (refine (hr.out g9 _ T1 1 5 9 13 _ _ _ _ rfl rfl rfl rfl _ b1 l1 (by omega) (by omega) (by omega) (by omega)).mono ?_);rintro e w5 ⟨rfl,T2,e2,l2,b2,o2⟩
   clear b1
   go_wp2_with fail
   (refine (hr.out g9 _ T2 2 6 10 14 _ _ _ _ rfl rfl rfl rfl _ b2 l2 (by omega) (by omega) (by omega) (by omega)).mono ?_);rintro e w6 ⟨rfl,T3,e3,l3,b3,o3⟩
   clear b2
   go_wp2_with fail
   (refine (hr.out g9 _ T3 3 7 11 15 _ _ _ _ rfl rfl rfl rfl _ b3 l3 (by omega) (by omega) (by omega) (by omega)).mono ?_);rintro e w7 ⟨rfl,T4,e4,l4,b4,o4⟩
   clear b3
   go_wp2_with fail
   (refine (hr.out g9 _ T4 0 5 10 15 _ _ _ _ rfl rfl rfl rfl _ b4 l4 (by omega) (by omega) (by omega) (by omega)).mono ?_);rintro e w8 ⟨rfl,T5,e5,l5,b5,o5⟩
   clear b4
   go_wp2_with fail
   (refine (hr.out g9 _ T5 1 6 11 12 _ _ _ _ rfl rfl rfl rfl _ b5 l5 (by omega) (by omega) (by omega) (by omega)).mono ?_);rintro e w9 ⟨rfl,T6,e6,l6,b6,o6⟩
   clear b5
   go_wp2_with fail
   (refine (hr.out g9 _ T6 2 7 8 13 _ _ _ _ rfl rfl rfl rfl _ b6 l6 (by omega) (by omega) (by omega) (by omega)).mono ?_);rintro e w10 ⟨rfl,T7,e7,l7,b7,o7⟩
   clear b6
   go_wp2_with fail
   (refine (hr.out g9 _ T7 3 4 9 14 _ _ _ _ rfl rfl rfl rfl _ b7 l7 (by omega) (by omega) (by omega) (by omega)).mono ?_);rintro e w11 ⟨rfl,T8,e8,l8,b8,o8⟩
   clear b7
   go_wp2_with fail
   go_roundw
   case rel=>
    refine⟨k+1,by omega,by go_num,?_⟩
    rw[←hT0.out,hd2.out,dbl,←e1.out,←e2.out,←e3.out,←e4.out,←e5.out,←e6.out,←e7.out,←e8.out]
    exact B3.write 0 rfl (((((((o1.trans o2).trans o3).trans o4).trans o5).trans o6).trans o7).trans o8) b8
   case measure=>simp[intOf];omega
  ·obtain rfl:10=k:=by omega
   have hl:=hdl.out 10
   generalize dblN S 10=F at *
   have hCs:=hid (QgJ F S)
   have hCl:=hid (QdN F S)
   have hC0:=hid (show QeA F S 0=[] from rfl)
   go_wp2_with (first
    | (refine QbE rfl _ _ _ rfl 5 _ 1 Tryz.underlying22 Qcg rfl _ _ _ _ 0 64 rfl rfl rfl rfl (by omega) (by omega) (by omega) ?_;intro w4 hown4 hl4)
    | (refine QpH rfl _ rfl ((B3.nth 0 rfl).later hl4) hl rfl ?_)
    | fail)
   have hgr:=B3.lat.size
   have B4:=B3.later hl4
   have hown5:OwnB w4 w.heap.size (some ⟨wr.heap.size,0,none⟩) 0 64 (QeA F S 0):=by
    rw[hC0.out]
    exact Qdg hown4 hgr
   clear B3 hown4 hl4
   generalize wr.heap.size=g10 at *
   go_loopw [10,39] (fun v i wr=>∃(k:Nat) (A':Option Addr) (c':Nat),k≤16∧i= .int .i64 k∧v= .slice A' (4*k) c'∧OwnB wr w.heap.size A' (4*k) c' (QeA F S k)∧Later w wr∧Blk wr g8 324 (S.map W32)) (fun _ i _=>16-(intOf i).toNat)
   case atStart=>exact⟨0,_,_,by omega,rfl,rfl,hown5,B4.lat,B4.nth 1 rfl⟩
   case round=>
    clear hown5 B4 hgr
    obtain⟨k,A6,c6,hk6,rfl,rfl,hown,L,h8⟩:=hrel
    by_cases hlt:k<16
    ·have HCS:=hid (hCs.out k)
     have c8:=h8.cellD k (Qfs (s:=S) (by omega))
     have hix:∀W',(Instr.index 324 (.agg (F.map W32).toArray) (.int .i64 (k:Int))).run Tryz.prog W'= .ok (W32 (wAt F k)) W':=fun W'=>QdG Tryz.underlying324 Qda Tryz.underlying62 rfl (F.map W32) .i64 k (W32 (wAt F k)) hlt (Qfs (by omega)) W'
     generalize wAt F k=xf at *
     generalize wAt S k=xs at *
     generalize QeA F S k=O at *
     have hle:Hid ([xf.toUInt8+xs.toUInt8,(QbU (xf+xs) 8).toUInt8,(QbU (xf+xs) 16).toUInt8,(QbU (xf+xs) 24).toUInt8]=le4 (xf+xs)):=hid (by rw[le4,UInt32.toUInt8_add])
     have J:=Qaa wr (.cells #[W8 (xf.toUInt8+xs.toUInt8),W8 (QbU (xf+xs) 8).toUInt8,W8 (QbU (xf+xs) 16).toUInt8,W8 (QbU (xf+xs) 24).toUInt8] 5)
     go_wp2_with (first
      | (refine QaY rfl _ _ _ rfl 5 _ 1 Tryz.underlying22 Qcg rfl w _ (4*k) _ (hown.later J) (L.trans J) _ 4 4 _ ((Blk.new wr 5 [W8 (xf.toUInt8+xs.toUInt8),W8 (QbU (xf+xs) 8).toUInt8,W8 (QbU (xf+xs) 16).toUInt8,W8 (QbU (xf+xs) 24).toUInt8]).rd rfl) (QaK [xf.toUInt8+xs.toUInt8,(QbU (xf+xs) 8).toUInt8,(QbU (xf+xs) 16).toUInt8,(QbU (xf+xs) 24).toUInt8]) rfl rfl (by omega) (by omega) ?_;intro A7 c7 w7 hown7 hl7 hg7 _)
      | fail)
     have hown8:OwnB w7 w.heap.size A7 (4*k+4) c7 (O++le4 (xf+xs)):=by
      rw[←hle.out]
      exact QiI hown7
     rw[←HCS.out]at hown8
     have h9:=QgP (h8.later J) (hown.later J) (by decide) hg7
     go_roundw
     case rel=>exact⟨k+1,A7,c7,by omega,by go_num,rfl,hown8,hl7,h9⟩
     case measure=>simp[intOf];omega
    ·obtain rfl:16=k:=by omega
     rw[←hC.out]at hown
     go_wp2_with fail
     go_ret2
     exact⟨_,_,rfl,hown,L⟩
def chaF (key:List UInt8) (k:Nat):List UInt8:=(Qzc k).flatMap fun i=>chaB key (Qym 12 0) (QyX i)
theorem QgW (key:List UInt8) (k:Nat):chaF key (k+1)=chaF key k++chaB key (Qym 12 0) (QyX k):=by simp[chaF,QAp]
theorem Qdy (key:List UInt8):∀k,(chaF key k).length=64*k
 | 0=>rfl
 | k+1=>by rw[QgW,Qyv,Qdy key k,QgY];omega
def chaS (key:List UInt8) (n:Nat):List UInt8:=(chaF key ((n+63)/64)).take n
theorem QaX (key:List UInt8) (n:Nat):(chaS key n).length=n:=by
 rw[chaS,QyL,Qdy]
 omega
theorem Qjp (key:List UInt8) (k:Nat):∀j,∃r,chaF key (k+j)=chaF key k++r
 | 0=>⟨[],by simp⟩
 | j+1=>by
   obtain⟨r,h⟩:=Qjp key k j
   exact⟨r++chaB key (Qym 12 0) (QyX (k+j)),by rw[←Nat.add_assoc,QgW,h,QyE]⟩
theorem QpA (key:List UInt8) (n k:Nat) (h:n≤64*k):chaS key n=(chaF key k).take n:=by
 obtain⟨r,hr⟩:=Qjp key ((n+63)/64) (k-(n+63)/64)
 rw[Nat.add_sub_cancel' (by omega)]at hr
 rw[hr,chaS,Qzf (by rw[Qdy];omega)]
theorem QjE {α:Type} (l r:List α) (m n:Nat) (h:l.length=m) (hm:m≤n):(l++r).take n=l++r.take (n-m):=by
 rw[List.take_append,h,Qyx (by omega)]
theorem Qk9 (k:Nat) (w:World):(convert 3 62 (.int .i64 (k:Int))).run Tryz.prog w= .ok (W32 (QyX k)) w:=by
 have h:=run_convert_int (P:=Tryz.prog) (w:=w) 3 62 .i64 (k:Int) (by rw[Tryz.underlying3];rfl) (by unfold Program.intKind;rw[Tryz.underlying62])
 have e:Tryz.prog.intKind 62= .u32:=by unfold Program.intKind;rw[Tryz.underlying62]
 rw[e]at h
 refine h.trans ?_
 congr 1
set_option maxRecDepth 100000 in
set_option maxHeartbeats 4000000 in
theorem Qjj (A:Option Addr) (c n:Nat) (key:List UInt8) (w:World) (hk:RdB w A 32 key) (hn:n≤65536):
 Calls Tryz.prog 173 #[.slice A 32 c,.int .i64 0,.int .i64 n] w fun e w'=>∃A' c',e= .returned (.slice A' n c')∧OwnB w' w.heap.size A' n c' (chaS key n)∧Later w w':=by
 have hB:=hid (fun B d ctr (w':World) (hl:Later w w') hn=>QoI A B c d key (Qym 12 0) ctr w' (hk.later hl) hn)
 have hs1:=hid (QgW key)
 have hl1:=hid (Qdy key)
 have hS:=hid (QpA key n)
 have hbl:=hid (fun ctr=>QgY key (Qym 12 0) ctr)
 have h0:=hid (show (chaF key 0).take 0=[] from rfl)
 go_enter Tryz.func173,Tryz.ntmps173
 go_wp2_with (first
  | (refine Qar rfl _ _ _ rfl 5 _ 1 Tryz.underlying22 Qcg rfl _ _ _ _ 12 rfl rfl rfl rfl (by omega) (by omega) ?_;intro w1 hb1 hl1')
  | (refine QbE rfl _ _ _ rfl 5 _ 1 Tryz.underlying22 Qcg rfl _ _ _ _ 0 n rfl rfl rfl rfl (by omega) (by omega) (by omega) ?_;intro w2 hown2 hl2)
  | fail)
 have hz1:=hl1'.size
 have hlt1:=hb1.lt
 have L2:=hl1'.trans hl2
 have hbase:w.heap.size<w1.heap.size:=hlt1
 have hown3:OwnB w2 w1.heap.size (some ⟨w1.heap.size,0,none⟩) 0 n ((chaF key 0).take 0):=by
  rw[h0.out]
  exact hown2
 have hno:RdB w1 (some ⟨w.heap.size,0,none⟩) 12 (Qym 12 0):=hb1.rd rfl
 clear hb1 hown2 L2 hz1
 have hL1:=hl2
 go_loopw [1,8] (fun at_ v wr=>∃(k m:Nat) (A':Option Addr) (c':Nat),at_= .int .i64 m∧v= .slice A' m c'∧m≤n∧m≤64*k∧(m<n→m=64*k)∧OwnB wr w1.heap.size A' m c' ((chaF key k).take m)∧Later w1 wr) (fun _ v _=>n-lenOf v)
 case atStart=>exact⟨0,0,_,_,rfl,rfl,by omega,by omega,fun _=>rfl,hown3,hL1⟩
 case round=>
  clear hown3 hL1 hl2
  obtain⟨k,m,A6,c6,rfl,rfl,hmn,hmk,hm64,hown,L⟩:=hrel
  by_cases hlt:m<n
  ·have hm:=hm64 hlt
   have hq:(m:Int)/64=(k:Int):=by omega
   have hr:(m:Int)%64=0:=by omega
   have hcv:=Qk9 k
   have hb:=hid (hs1.out k)
   have hBl:=hid (hbl.out (QyX k))
   have HM:=hid hm
   have HFl:=hid (hl1.out k)
   clear hm hm64
   go_wp2_with fail
   (with_reducible refine (hB.out _ _ _ _ (hl1'.trans L) (hno.later L)).mono ?_);rintro e w4 ⟨A9,c9,rfl,hown9,j9⟩
   have hrd9:=hown9.rd
   have hcap:=hown9.cap
   have hcut:∀W,(Instr.sliceAt 22 (.slice A9 64 c9) (some (.int .i64 0)) none none).run Tryz.prog W= .ok (.slice A9 64 c9) W:=fun W=>by
    have h:=QgC A9 64 c9 .i64 0 (by omega) W
    simpa [QjP] using h
   generalize chaB key (Qym 12 0) (QyX k)=Bk at *
   generalize chaF key k=Fk at *
   by_cases hbig:n-m<64
   ·obtain⟨q,hqn⟩:∃q,n=m+q:=⟨n-m,by omega⟩
    have hb1:((n:Int)-(m:Int))<64:=by omega
    have hcut2:∀W,(Instr.sliceAt 22 (.slice A9 64 c9) none (some (.int .i64 ((n:Int)-(m:Int)))) none).run Tryz.prog W= .ok (.slice A9 q c9) W:=fun W=>by
     rw[show (n:Int)-(m:Int)=(q:Int) by omega]
     exact QoO A9 64 c9 .i64 q (by omega) W
    have hq64:q<64:=by omega
    have hrq:=hrd9.take (m:=q) (by omega)
    have hmq:m+q≤65536:=by omega
    replace hqn:=hid hqn
    go_wp2_with (first
     | (refine QaY rfl _ _ _ rfl 5 _ 1 Tryz.underlying22 Qcg rfl w1 _ m _ (hown.later j9) (L.trans j9) A9 q c9 _ hrq (QaK _) rfl rfl (by omega) (by omega) ?_;intro A7 c7 w7 hown7 hl7 hg7 _)
     | fail)
    have hown8:=QiI hown7
    go_roundw
    case rel=>
     refine⟨k+1,m+q,A7,c7,by go_num,rfl,by have:=hqn.out;omega,by have:=HM.out;omega,fun h=>by have:=hqn.out;omega,?_,hl7⟩
     rw[hb.out,QjE _ _ _ _ HFl.out (by have:=HM.out;omega),show m+q-64*k=q by have:=HM.out;omega]
     rw[Qyx (by rw[HFl.out,HM.out];omega)]at hown8
     exact hown8
    case measure=>have:=hqn.out;simp[lenOf];omega
   ·have hb1: ¬((n:Int)-(m:Int))<64:=by omega
    go_wp2_with (first
     | (refine QaY rfl _ _ _ rfl 5 _ 1 Tryz.underlying22 Qcg rfl w1 _ m _ (hown.later j9) (L.trans j9) A9 64 c9 _ hrd9 (QaK _) rfl rfl (by omega) (by omega) ?_;intro A7 c7 w7 hown7 hl7 hg7 _)
     | fail)
    have hown8:=QiI hown7
    go_roundw
    case rel=>
     refine⟨k+1,m+64,A7,c7,by go_num,rfl,by omega,by have:=HM.out;omega,fun h=>by have:=HM.out;omega,?_,hl7⟩
     rw[hb.out,QjE _ _ _ _ HFl.out (by have:=HM.out;omega),show m+64-64*k=64 by have:=HM.out;omega,Qyx (by rw[hBl.out];omega)]
     rw[Qyx (by rw[HFl.out,HM.out];omega)]at hown8
     exact hown8
    case measure=>simp[lenOf];omega
  ·obtain rfl:n=m:=by omega
   have hE:=hid (hS.out k hmk)
   rw[←hE.out]at hown
   go_wp2_with fail
   go_ret
   exact⟨_,_,rfl,hown.mono (Nat.le_of_lt hbase),hl1'.trans L⟩
theorem QhT (A:Option Addr) (c n:Nat) (key:List UInt8) (w:World) (hk:RdB w A 32 key) (hn:n≤65536):
 Calls Tryz.prog 147 #[.slice A 32 c,.int .i64 n] w fun e w'=>∃A' c',e= .returned (.tuple #[.slice A' n c',.int .i64 0])∧OwnB w' w.heap.size A' n c' (chaS key n)∧Later w w':=by
 have hp:=hid (fun c (w:World) h=>Qjj A c n key w h hn)
 go_enter Tryz.func147,Tryz.ntmps147
 go_wp2_with fail
 (with_reducible refine (hp.out _ _ hk).mono ?_);rintro e w1 ⟨A1,c1,rfl,ho1,j1⟩
 go_wp2_with fail
 go_ret2
 exact⟨_,_,rfl,ho1,j1⟩
end Go.Proofs.YtdhgpkdjdmlphaaGreat
