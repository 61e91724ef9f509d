/-
  Lemmas for the last text of this claim (part 11 of 20).
-/
import Derived.ArgAppend
import Derived.BigQuiet
import Derived.BigRegion
import Derived.ChangeOld
import Derived.Deep.RegionWith
import Derived.DeepKeys4
import Derived.JoinedCond
import Derived.LaidMore
import Derived.Laws.BytesArg
import Derived.Laws.CopyOwn
import Derived.Laws.Externs
import Derived.Laws.IdiomStrings
import Derived.Laws.Tables
import Derived.Lib.AppendStr
import Derived.Lib.AppendZerosOnto
import Derived.Lib.Mul64
import Derived.Lib.SlBytesConst
import Derived.LoopN
import Derived.Maps.OwnSet
import Derived.OpenShut
import Derived.OrdersHeld
import Derived.ProofKit
import Derived.Shelf.Spec.BitsCarry
import Derived.ShutString
import Derived.Test.YtdhgpkdjdmlphaaGreatProg
import Derived.Test.YtdhgpkdjdmlphaaGreatRows
import Derived.WalkKit
import Derived.WalkLawsBesides
import Derived.WalkSpells
import Derived.Test.YtdhgpkdjdmlphaaGreatUB
import Derived.Test.YtdhgpkdjdmlphaaGreatUC
import Derived.Test.YtdhgpkdjdmlphaaGreatUD
import Derived.Test.YtdhgpkdjdmlphaaGreatUE
import Derived.Test.YtdhgpkdjdmlphaaGreatUG
import Derived.Test.YtdhgpkdjdmlphaaGreatUJ
open BitVec renaming toNat_shiftLeft → QIy
open List renaming replicate → QGn, getElem?_cons_succ → QGo, getElem?_cons_zero → QGp, getD_eq_getElem?_getD → QGq, length_map → QGr, getElem?_eq_getElem → QGt, cons_append → QGu, nil_append → QGv, setIfInBounds_toArray → QGw, length_append → QGy, set_cons_zero → QGz, length_replicate → QGA, set_cons_succ → QGB, map_toArray → QGC, take_of_length_le → QGD, getElem?_append_right → QGE, getElem?_map → QGF, map_nil → QGH, append_assoc → QGI, mem_cons → QGJ, not_mem_nil → QGK, length_take → QGP, length_drop → QGQ, map_cons → QGR, length_set → QGV, append_nil → QGW, take_append_drop → QGX, take_succ_eq_append_getElem → QGY, range → QG0, set_append_right → QG1, mem_map → QG2, map_append → QG6, map_replicate → QG8, length_cons → QHe, take_append_of_le_length → QHf, drop_eq_getElem_cons → QHw, getElem?_drop → QHA, drop_append_of_le_length → QHC, getElem?_eq_none → QHF, replicate_append_replicate → QHI, drop_drop → QHY, map_take → QH0, replicate_succ → QH2, range_succ → QH5, drop_zero → QIk, map_set → QIP
open Nat renaming le_refl → QGx, lt_of_lt_of_le → QGN, zero_add → QGT, mul_comm → QHp, pow_succ → QHq, min_eq_left → QHx, sub_self → QHG, mul_assoc → QHL, add_zero → QIf, shiftLeft_eq → QIF, add_assoc → QIO
open Option renaming toList_some → QGs, getD_some → QIl
open UInt32 renaming ofNat → QG5, toNat_ofNat' → QIz, toNat_inj → QIV
open UInt64 renaming ofNat → QGS, toNat_ofNat' → QGZ, ofInt → QHo, toNat_inj → QIx
set_option linter.all false
namespace Go.Proofs.YtdhgpkdjdmlphaaGreat
open Go.RowKit
open Go.BigFrame
def rotl (x:UInt32) (n:Nat):UInt32:=Qgj x n ||| QcX x (32-n)
theorem Qsg (n:Nat) (h1:n<32):cnt (QHo (n:Int) &&& 31)=n∧cnt (32-(QHo (n:Int) &&& 31))=32-n:=by
 have:∀k:Fin 32,cnt (QHo (k.val:Int) &&& 31)=k.val∧cnt (32-(QHo (k.val:Int) &&& 31))=32-k.val:=by decide
 exact this ⟨n,h1⟩
theorem Qv9 (x:UInt32) (n:Nat) (i:Int) (hi:i=(n:Int)) (h1:n<32) (w:World):
 Calls Tryz.prog 203 #[W32 x,.int .i64 i] w fun e w'=>e= .returned (W32 (rotl x n))∧w'=w:=by
 subst hi
 have hc:=hid (Qsg n h1)
 go_enter Tryz.func203,Tryz.ntmps203
 go_wp2
 go_ret
 exact⟨Qub (by rw[hc.out.1,hc.out.2,rotl]),rfl⟩
theorem Qnm {fn:Func} {t u v x:Tmp} (h:fn.results= #[.tmp t,.tmp u,.tmp v,.tmp x]) (tmps:Array Value) (P:Program) (w:World):
 (results fn tmps).run P w= .ok (.tuple #[tmps.getD t undef,tmps.getD u undef,tmps.getD v undef,tmps.getD x undef]) w:=by
 simp[results,h]
def QDo (v:UInt32×UInt32×UInt32×UInt32) (n:Nat):UInt32×UInt32×UInt32×UInt32:=(v.1+v.2.1,v.2.1,v.2.2.1,rotl (v.2.2.2 ^^^ (v.1+v.2.1)) n)
def QDI (v:UInt32×UInt32×UInt32×UInt32) (n:Nat):UInt32×UInt32×UInt32×UInt32:=(v.1,rotl (v.2.1 ^^^ (v.2.2.1+v.2.2.2)) n,v.2.2.1+v.2.2.2,v.2.2.2)
def Qo9 (a b c d:UInt32):UInt32×UInt32×UInt32×UInt32:=QDI (QDo (QDI (QDo (a,b,c,d) 16) 12) 8) 7
set_option maxHeartbeats 1000000 in
theorem QoE (a b c d:UInt32) (w:World):Calls Tryz.prog 202 #[W32 a,W32 b,W32 c,W32 d] w fun e w'=>
 e= .returned (.tuple #[W32 (Qo9 a b c d).1,W32 (Qo9 a b c d).2.1,W32 (Qo9 a b c d).2.2.1,W32 (Qo9 a b c d).2.2.2])∧w'=w:=by
 have hr:=hid Qv9
 go_enter Tryz.func202,Tryz.ntmps202
 go_wp2_with fail
 refine (hr.out _ 16 _ rfl (by omega) _).mono ?_;rintro e w1 ⟨rfl,rfl⟩
 go_wp2_with fail
 refine (hr.out _ 12 _ rfl (by omega) _).mono ?_;rintro e w1 ⟨rfl,rfl⟩
 go_wp2_with fail
 refine (hr.out _ 8 _ rfl (by omega) _).mono ?_;rintro e w1 ⟨rfl,rfl⟩
 go_wp2_with fail
 refine (hr.out _ 7 _ rfl (by omega) _).mono ?_;rintro e w1 ⟨rfl,rfl⟩
 go_wp2_with fail
 (try simp only[Exit.inBlock,Exit.then]);refine bodyPost_ret (Qnm rfl _ _ _) rfl ?_
 exact⟨rfl,rfl⟩
def leW (bs:List UInt8) (k:Nat):UInt32:=(Qdz bs (4*k)).toUInt32 ||| Qgj (Qdz bs (4*k+1)).toUInt32 8 ||| Qgj (Qdz bs (4*k+2)).toUInt32 16 ||| Qgj (Qdz bs (4*k+3)).toUInt32 24
theorem Qxk {x y:UInt32} {w:World} (h:x=y) (w':World) (hl:Later w w'):Ending.returned (W32 x)= .returned (W32 y)∧Later w w':=⟨by rw[h],hl⟩
set_option maxHeartbeats 1000000 in
theorem QBS (A:Option Addr) (n c:Nat) (bs:List UInt8) (p:Nat) (w:World) (hr:RdB w A n bs) (hk:p+4≤n) (hn:n≤140737488355328):
 Calls Tryz.prog 201 #[.slice A n c,.int .i64 (p:Int)] w fun e w'=>e= .returned (W32 ((Qdz bs p).toUInt32 ||| Qgj (Qdz bs (p+1)).toUInt32 8 ||| Qgj (Qdz bs (p+2)).toUInt32 16 ||| Qgj (Qdz bs (p+3)).toUInt32 24))∧Later w w':=by
 have hl:=hr.len
 obtain⟨b,o,rfl,hb,hc⟩:=hr.at_ (by omega)
 have c0:=hc p (by omega)
 have c1:=hc (p+1) (by omega)
 have c2:=hc (p+2) (by omega)
 have c3:=hc (p+3) (by omega)
 unfold Qdz
 generalize bs.getD p 0=x0 at *
 generalize bs.getD (p+1) 0=x1 at *
 generalize bs.getD (p+2) 0=x2 at *
 generalize bs.getD (p+3) 0=x3 at *
 clear hc hr
 go_enter Tryz.func201,Tryz.ntmps201
 go_wp2_with fail
 refine Qaf [] [0,1,2,3,4,5,6,7,8,9,10,11,12,13,14,15,16,17,18,19,20,21,22,23,24,25,26,27,28,29] [] (by as_aux_lemma=>kernel_rfl) (by as_aux_lemma=>kernel_rfl) (by intro _ _ d _ _ h;cases d<;>exact h) ?_
 simp only[Qaj,pick,QGo,QGp,QGs,QGu,QGv]
 repeat (go_big_quiet_step (fail))
 refine wpQuiet_nil ?_
 go_wp2_with fail
 go_ret
 exact Qxk rfl _ (Qab _)
theorem QqE (A:Option Addr) (n c:Nat) (bs:List UInt8) (k:Nat) (i:Int) (hi:i=4*(k:Int)) (w:World) (hr:RdB w A n bs) (hk:4*k+4≤n) (hn:n≤140737488355328):
 Calls Tryz.prog 201 #[.slice A n c,.int .i64 i] w fun e w'=>e= .returned (W32 (leW bs k))∧Later w w':=by
 obtain rfl:i=((4*k:Nat):Int):=by omega
 exact QBS A n c bs (4*k) w hr hk hn
def putQ (s:List UInt32) (a b c d:Nat) (q:UInt32×UInt32×UInt32×UInt32):List UInt32:=(((s.set a q.1).set b q.2.1).set c q.2.2.1).set d q.2.2.2
def Qeu (s:List UInt32) (a b c d:Nat):List UInt32:=putQ s a b c d (Qo9 (wAt s a) (wAt s b) (wAt s c) (wAt s d))
theorem Qfk (s:List UInt32) (a b c d:Nat):(Qeu s a b c d).length=s.length:=by simp[Qeu,putQ]
theorem QhA {s:List UInt32} {i:Nat} (h:i<s.length):(s.map W32)[i]?=some (W32 (wAt s i)):=by
 rw[QGF,QGt h,wAt,QGq,QGt h]
 rfl
theorem Qgx (s:List UInt32) (i:Nat) (x:UInt32):(s.map W32).set i (W32 x)=(s.set i x).map W32:=by rw[QIP]
theorem Qer:(Tryz.prog.info? 62).map (·.size)=some 1:=by kernel_rfl
set_option maxRecDepth 100000 in
set_option maxHeartbeats 2000000 in
theorem QvJ (g:Nat) (t:TypeId) (s:List UInt32) (a b c d:Nat) (ia ib ic id:Int) (ha:ia=(a:Int)) (hb:ib=(b:Int)) (hc:ic=(c:Int)) (hd:id=(d:Int)) (w:World) (hs:Blk w g t (s.map W32)) (hl:s.length=16) (h1:a<16) (h2:b<16) (h3:c<16) (h4:d<16):
 Calls Tryz.prog 196 #[.pointer (some ⟨g,0,none⟩),.int .i64 ia,.int .i64 ib,.int .i64 ic,.int .i64 id] w fun e w'=>e= .returned (.tuple #[])∧Blk w' g t ((Qeu s a b c d).map W32)∧Only g w w':=by
 subst ha hb hc hd
 have d1:=hs.cellD a (QhA (s:=s) (by omega))
 have d2:=hs.cellD b (QhA (s:=s) (by omega))
 have d3:=hs.cellD c (QhA (s:=s) (by omega))
 have d4:=hs.cellD d (QhA (s:=s) (by omega))
 have hq:=hid QoE
 have hR:=hid (show Qeu s a b c d=putQ s a b c d (Qo9 (wAt s a) (wAt s b) (wAt s c) (wAt s d)) from rfl)
 generalize Qeu s a b c d=R at *
 generalize wAt s a=xa at *
 generalize wAt s b=xb at *
 generalize wAt s c=xc at *
 generalize wAt s d=xd at *
 go_enter Tryz.func196,Tryz.ntmps196
 go_wp2_with fail
 refine Qip [([0,1,2,3,4,5,6,7,34,37,40,43],[8,9,10,11,12,13,14,15,16,17,18,19,20,21,22,23,24,25,26,27],28)] [29,30,31,32,33] [35] [36,38,39,41,42,44,45] (by as_aux_lemma=>kernel_rfl) (by as_aux_lemma=>kernel_rfl) (by intro _ _ d _ _ h;cases d<;>exact h) ?_
 simp only[Qho,pick,QGo,QGp,QGs,QGu,QGv]
 repeat (go_big_quiet_step (fail))
 refine wpQuiet_nil ?_
 repeat (go_big_quiet_step (fail))
 refine wpQuiet_nil ?_
 go_wp2_with fail
 refine (hq.out _ _ _ _ _).mono ?_;rintro e w1 ⟨rfl,rfl⟩
 generalize Qo9 xa xb xc xd=q at *
 obtain⟨qa,qb,qc,qd⟩:=q
 go_wp2_with fail
 try refine⟨by first|assumption|exact Qab _|exact Qaa _ _|exact Later.refl _,?_⟩
 try simp only[Qho,pick,QGo,QGp,QGs,QGu,QGv]
 repeat (go_big_quiet_step (fail))
 refine wpQuiet_nil ?_
 repeat (go_big_quiet_step (fail))
 refine wpQuiet_nil ?_
 have hs':=hs.drew
 go_wp2_with (first
  | (refine Qad rfl rfl _ _ _ rfl g a t _ hs' rfl (by rw[QGr];omega) rfl Qer ?_;intro v' w5 hv' hb5 ho5;simp[go_sem]at hv';subst hv';rw[Qgx]at hb5)
  | (refine Qad rfl rfl _ _ _ rfl g b t _ hb5 rfl (by rw[QGr,QGV];omega) rfl Qer ?_;intro v' w6 hv' hb6 ho6;simp[go_sem]at hv';subst hv';rw[Qgx]at hb6)
  | (refine Qad rfl rfl _ _ _ rfl g c t _ hb6 rfl (by rw[QGr,QGV,QGV];omega) rfl Qer ?_;intro v' w7 hv' hb7 ho7;simp[go_sem]at hv';subst hv';rw[Qgx]at hb7)
  | (refine Qad rfl rfl _ _ _ rfl g d t _ hb7 rfl (by rw[QGr,QGV,QGV,QGV];omega) rfl Qer ?_;intro v' w8 hv' hb8 ho8;simp[go_sem]at hv';subst hv';rw[Qgx]at hb8)
  | fail)
 exact bodyPost_end (results_none rfl _ _ _) rfl ⟨rfl,by rw[hR.out];exact hb8,(Qab _).thenOnly (((ho5.trans ho6).trans ho7).trans ho8)⟩
def chaC:List UInt32:=[1634760805,857760878,2036477234,1797285236]
def Ql6 (key:List UInt8) (k:Nat):List UInt32:=chaC++(QG0 k).map (leW key)++QGn (12-k) 0
def Qmb (key nonce:List UInt8) (ctr:UInt32) (k:Nat):List UInt32:=chaC++(QG0 8).map (leW key)++[ctr]++(QG0 k).map (leW nonce)++QGn (3-k) 0
def QjQ (key nonce:List UInt8) (ctr:UInt32):List UInt32:=chaC++(QG0 8).map (leW key)++[ctr]++(QG0 3).map (leW nonce)
theorem QmY (key:List UInt8) (k:Nat) (h:k≤12):(Ql6 key k).length=16:=by
 simp[Ql6,chaC]
 omega
theorem QmN (key nonce:List UInt8) (ctr:UInt32) (k:Nat) (h:k≤3):(Qmb key nonce ctr k).length=16:=by
 simp[Qmb,chaC]
 omega
theorem Qh4 (key nonce:List UInt8) (ctr:UInt32):(QjQ key nonce ctr).length=16:=by simp[QjQ,chaC]
theorem Qn8 {α:Type} (z:α) (pre:List α) (f:Nat→α) (k n:Nat) (h:k<n):(pre++(QG0 k).map f++QGn (n-k) z).set (pre.length+k) (f k)=pre++(QG0 (k+1)).map f++QGn (n-(k+1)) z:=by
 have e:n-k=(n-(k+1))+1:=by omega
 rw[e,QH2,QG1 _ _ (by simp),QH5,QG6]
 simp
theorem QsK (key:List UInt8) (k:Nat) (h:k<8):(Ql6 key k).set (4+k) (leW key k)=Ql6 key (k+1):=Qn8 0 chaC (leW key) k 12 (by omega)
theorem Qrq (key nonce:List UInt8) (ctr:UInt32) (k:Nat) (h:k<3):(Qmb key nonce ctr k).set (13+k) (leW nonce k)=Qmb key nonce ctr (k+1):=by
 have:=Qn8 0 (chaC++(QG0 8).map (leW key)++[ctr]) (leW nonce) k 3 h
 rw[show (chaC++(QG0 8).map (leW key)++[ctr]).length=13 by simp[chaC]]at this
 exact this
theorem QCX (key nonce:List UInt8) (ctr:UInt32):(Ql6 key 8).set 12 ctr=Qmb key nonce ctr 0:=by
 rw[Ql6,Qmb,QG1 _ _ (by simp[chaC])]
 simp[chaC]
theorem QuO (key nonce:List UInt8) (ctr:UInt32):Qmb key nonce ctr 3=QjQ key nonce ctr:=by simp[Qmb,QjQ]
theorem Qpw:(Tryz.prog.info? 324).map (·.size)=some 16:=by kernel_rfl
section
variable {ops:Array Oper} {rest:List Oper} {o:Oper} {a:Act} {w:World} {Q:Exit→Act→World→Prop}
theorem Qpm (hgd:o.guard=none) (hd:o.dst=none) (x y:Operand) (ho:o.op= .store 324 x y) {g:Nat} {t:TypeId} {l:List Value} {vs:List UInt32} (hg:Blk w g t l) (hx:a.eval x= .pointer (some ⟨g,0,none⟩)) (hy:a.eval y= .agg (vs.map W32).toArray)
 (hn:vs.length=16) (hl:l.length=16) (h:∀w',Blk w' g t (vs.map W32)→Only g w w'→wpList Tryz.prog ops Q rest a w'):wpList Tryz.prog ops Q (o :: rest) a w:=
 Qal hgd hd _ x y ho g 0 t l (vs.map W32) hg hx hy (by rw[QGr,hn];exact Qpw) (by rw[QGr];omega) (QoJ _) (fun w' hb=>h w' (by rwa [Qav _ _ (by rw[QGr];omega)]at hb))
theorem Quw (hgd:o.guard=none) (x:Operand) (ho:o.op= .load 324 x) {g:Nat} {t:TypeId} {vs:List UInt32} (hb:Blk w g t (vs.map W32)) (hl:vs.length=16) (hx:a.eval x= .pointer (some ⟨g,0,none⟩))
 (h:wpList Tryz.prog ops Q rest (a.put o.dst (.agg (vs.map W32).toArray)) w):wpList Tryz.prog ops Q (o :: rest) a w:=
 QaM hgd _ x ho g 0 (vs.map W32) (fun j v hv=>by rw[QGT];exact hb.cellD j hv) hx _ Tryz.underlying324 rfl (by rw[QGr,hl];exact Qpw) h
end
set_option maxRecDepth 100000 in
set_option maxHeartbeats 4000000 in
theorem Qo6 (A B:Option Addr) (c d:Nat) (key nonce:List UInt8) (ctr:UInt32) (w:World) (hk:RdB w A 32 key) (hn:RdB w B 12 nonce):
 Calls Tryz.prog 195 #[.slice A 32 c,.slice B 12 d,W32 ctr] w fun e w'=>e= .returned (.agg ((QjQ key nonce ctr).map W32).toArray)∧Later w w':=by
 have hA:=hid (QmY key)
 have hB:=hid (QmN key nonce ctr)
 have sA:=hid (QsK key)
 have sB:=hid (Qrq key nonce ctr)
 have hAB:=hid (QCX key nonce ctr)
 have hBA:=hid (QuO key nonce ctr)
 have hL:=Qh4 key nonce ctr
 have h0:=hid (show Ql6 key 0=[1634760805,857760878,2036477234,1797285236,0,0,0,0,0,0,0,0,0,0,0,0] from rfl)
 have hw:=hid (fun k i w hi h hk=>QqE A 32 c key k i hi w h hk (by omega))
 have hw2:=hid (fun k i w hi h hk=>QqE B 12 d nonce k i hi w h hk (by omega))
 generalize QjQ key nonce ctr=L0 at *
 go_enter Tryz.func195,Tryz.ntmps195
 go_wp2_with (first
  | (refine Qap rfl 324 _ rfl (([1634760805,857760878,2036477234,1797285236,0,0,0,0,0,0,0,0,0,0,0,0]:List UInt32).map W32) ?hb ?_;(case hb=>kernel_rfl))
  | fail)
 have hR:=(Blk.new w 324 (QGn 16 (Value.int .u32 0))).later (Qaa _ (.cells #[W32 1634760805,W32 857760878,W32 2036477234,W32 1797285236,W32 0,W32 0,W32 0,W32 0,W32 0,W32 0,W32 0,W32 0,W32 0,W32 0,W32 0,W32 0] 324))
 have hS:Blk ((w.alloc (.cells (QGn 16 (Value.int .u32 0)).toArray 324)).alloc (.cells #[W32 1634760805,W32 857760878,W32 2036477234,W32 1797285236,W32 0,W32 0,W32 0,W32 0,W32 0,W32 0,W32 0,W32 0,W32 0,W32 0,W32 0,W32 0] 324)) (w.heap.size+1) 324 ((Ql6 key 0).map W32):=by
  rw[h0.out]
  exact Blk.new' (w.alloc _) _ _ (by simp)
 have L0:=(Qaa w (.cells (QGn 16 (Value.int .u32 0)).toArray 324)).trans (Qaa _ (.cells #[W32 1634760805,W32 857760878,W32 2036477234,W32 1797285236,W32 0,W32 0,W32 0,W32 0,W32 0,W32 0,W32 0,W32 0,W32 0,W32 0,W32 0,W32 0] 324))
 go_loopw [8] (fun i wr=>∃k:Nat,k≤8∧i= .int .i64 k∧Later w wr∧Blk wr w.heap.size 324 (QGn 16 (Value.int .u32 0))∧Blk wr (w.heap.size+1) 324 ((Ql6 key k).map W32)) (fun i _=>8-(intOf i).toNat)
 case atStart=>exact⟨0,by omega,rfl,L0,hR,hS⟩
 case round=>
  clear L0 hR hS
  obtain⟨k,hk',rfl,L,hR,hS⟩:=hrel
  by_cases hlt:k<8
  ·have hl:=hA.out k (by omega)
   have HST:=hid (sA.out k hlt)
   have t4:((4:Int)+(k:Int)).toNat=4+k:=by omega
   go_wp2_with fail
   (refine (hw.out k _ _ rfl (hk.later L) (by omega)).mono ?_);rintro e w3 ⟨rfl,j3⟩
   go_wp2_with (first
    | (refine Qad rfl rfl _ _ _ rfl (w.heap.size+1) (4+k) _ _ (hS.later j3) rfl (by rw[QGr];omega) rfl Qer ?_;intro v' w5 hv' hb5 ho5;simp[go_sem]at hv';subst hv';rw[Qgx,HST.out]at hb5)
    | fail)
   go_roundw
   case rel=>exact⟨k+1,by omega,by go_num,(L.trans j3).only ho5 (by omega),(hR.later j3).only ho5 (by omega),hb5⟩
   case measure=>simp[intOf];omega
  ·obtain rfl:8=k:=by omega
   have hl:=hA.out 8 (by omega)
   go_wp2_with (first
    | (refine Qad rfl rfl _ _ _ rfl (w.heap.size+1) 12 _ _ hS rfl (by rw[QGr];omega) rfl Qer ?_;intro v' w5 hv' hb5 ho5;simp[go_sem]at hv';subst hv';rw[Qgx,hAB.out]at hb5)
    | fail)
   have L5:=L.only ho5 (by omega)
   have hR5:=hR.only ho5 (by omega)
   clear L hR hS ho5
   go_loopw [9] (fun i wr=>∃k:Nat,k≤3∧i= .int .i64 k∧Later w wr∧Blk wr w.heap.size 324 (QGn 16 (Value.int .u32 0))∧Blk wr (w.heap.size+1) 324 ((Qmb key nonce ctr k).map W32)) (fun i _=>3-(intOf i).toNat)
   case atStart=>exact⟨0,by omega,rfl,L5,hR5,hb5⟩
   case round=>
    clear L5 hR5 hb5
    obtain⟨k,hk',rfl,L,hR,hS⟩:=hrel
    by_cases hlt:k<3
    ·have hl:=hB.out k (by omega)
     have HST:=hid (sB.out k hlt)
     have t4:((13:Int)+(k:Int)).toNat=13+k:=by omega
     go_wp2_with fail
     (refine (hw2.out k _ _ rfl (hn.later L) (by omega)).mono ?_);rintro e w3 ⟨rfl,j3⟩
     go_wp2_with (first
      | (refine Qad rfl rfl _ _ _ rfl (w.heap.size+1) (13+k) _ _ (hS.later j3) rfl (by rw[QGr];omega) rfl Qer ?_;intro v' w5 hv' hb5 ho5;simp[go_sem]at hv';subst hv';rw[Qgx,HST.out]at hb5)
      | fail)
     go_roundw
     case rel=>(repeat apply Exists.intro);exact⟨⟨k+1,by omega,by go_num,(L.trans j3).only ho5 (by omega),(hR.later j3).only ho5 (by omega),hb5⟩,rfl⟩
     case measure=>simp[intOf];omega
    ·obtain rfl:3=k:=by omega
     rw[hBA.out]at hS
     go_wp2_with (first
      | (refine Quw rfl _ rfl hS hL rfl ?_)
      | (refine Qpm rfl rfl _ _ rfl hR rfl rfl hL rfl ?_;intro w9 hb9 ho9)
      | fail)
     exact bodyPost_ret (Qa8 rfl _ _ _ _ _ _ hb9 rfl Tryz.underlying324 rfl (by rw[QGr,hL];exact Qpw)) rfl ⟨rfl,L.only ho9 (QGx _)⟩
def dbl (s:List UInt32):List UInt32:=
 Qeu (Qeu (Qeu (Qeu (Qeu (Qeu (Qeu (Qeu s 0 4 8 12) 1 5 9 13) 2 6 10 14) 3 7 11 15) 0 5 10 15) 1 6 11 12) 2 7 8 13) 3 4 9 14
def dblN (s:List UInt32):Nat→List UInt32
 | 0=>s
 | k+1=>dbl (dblN s k)
theorem Qsk (s:List UInt32):(dbl s).length=s.length:=by simp[dbl,Qfk]
theorem Qjy (s:List UInt32):∀k,(dblN s k).length=s.length
 | 0=>rfl
 | k+1=>by rw[dblN,Qsk,Qjy s k]
def le4 (x:UInt32):List UInt8:=[x.toUInt8,(QcX x 8).toUInt8,(QcX x 16).toUInt8,(QcX x 24).toUInt8]
def Qgp (f s:List UInt32) (k:Nat):List UInt8:=(QG0 k).flatMap fun i=>le4 (wAt f i+wAt s i)
theorem Qi2 (f s:List UInt32) (k:Nat):Qgp f s (k+1)=Qgp f s k++le4 (wAt f k+wAt s k):=by
 simp[Qgp,QH5]
theorem Qfr (f s:List UInt32):∀k,(Qgp f s k).length=4*k
 | 0=>rfl
 | k+1=>by rw[Qi2,QGy,Qfr f s k,le4];simp;omega
def chaB (key nonce:List UInt8) (ctr:UInt32):List UInt8:=Qgp (dblN (QjQ key nonce ctr) 10) (QjQ key nonce ctr) 16
theorem QjI (key nonce:List UInt8) (ctr:UInt32):(chaB key nonce ctr).length=64:=Qfr _ _ 16
theorem Qlw {w:World} {base:Nat} {A:Option Addr} {n c:Nat} {xs ys:List UInt8} (h:w.ownsRow base 5 1 (.slice A n c) n (xs.map W8++ys.map W8)):OwnB w base A n c (xs++ys):=by
 rw[←QG6]at h
 exact h
theorem Qw9 (g:Nat) (t:TypeId) (s:List UInt32) (a b c d:Nat) (ia ib ic id:Int) (ha:ia=(a:Int)) (hb:ib=(b:Int)) (hc:ic=(c:Int)) (hd:id=(d:Int)) (w:World) (hs:Blk w g t (s.map W32)) (hl:s.length=16) (h1:a<16) (h2:b<16) (h3:c<16) (h4:d<16):
 Calls Tryz.prog 196 #[.pointer (some ⟨g,0,none⟩),.int .i64 ia,.int .i64 ib,.int .i64 ic,.int .i64 id] w fun e w'=>e= .returned (.tuple #[])∧∃s',Hid (s'=Qeu s a b c d)∧s'.length=16∧Blk w' g t (s'.map W32)∧Only g w w':=
 (QvJ g t s a b c d ia ib ic id ha hb hc hd w hs hl h1 h2 h3 h4).mono fun _ _ ⟨he,hb,ho⟩=>⟨he,_,hid rfl,(Qfk s a b c d).trans hl,hb,ho⟩
set_option maxRecDepth 100000 in
set_option maxHeartbeats 8000000 in
theorem QtH (A B:Option Addr) (c d:Nat) (key nonce:List UInt8) (ctr:UInt32) (w:World) (hk:RdB w A 32 key) (hn:RdB w B 12 nonce):
 Calls Tryz.prog 189 #[.slice A 32 c,.slice B 12 d,W32 ctr] w fun e w'=>∃A' c',e= .returned (.tuple #[.slice A' 64 c',.int .i64 0])∧OwnB w' w.heap.size A' 64 c' (chaB key nonce ctr)∧Later w w':=by
 have hI:=hid (Qo6 A B c d key nonce ctr w hk hn)
 have hsl:=Qh4 key nonce ctr
 have hC:=hid (show chaB key nonce ctr=Qgp (dblN (QjQ key nonce ctr) 10) (QjQ key nonce ctr) 16 from rfl)
 generalize QjQ key nonce ctr=S at *
 generalize chaB key nonce ctr=CB at *
 have hr:=hid Qw9
 have hdl:=hid (fun k=>(Qjy S k).trans hsl)
 have hrl:=hid Qfk
 have hd1:=hid (fun k=>show dblN S (k+1)=dbl (dblN S k) from rfl)
 go_enter Tryz.func189,Tryz.ntmps189
 go_wp2_with fail
 (with_reducible refine (hI.out).mono ?_);rintro e w1 ⟨rfl,j1⟩
 go_wp2_with (first
  | (refine Qpm rfl rfl _ _ rfl (Blk.new w1 _ (QGn 16 (.int .u32 0))) rfl rfl hsl rfl ?_;intro w2 hb2 ho2
     have B2:=(Bag.none w).push (j1.trans (Qaa w1 _)) j1.size ho2 hb2)
  | (refine Quw rfl _ rfl (B2.nth 0 rfl) hsl rfl ?_)
  | (refine Qpm rfl rfl _ _ rfl (Blk.new w2 _ (QGn 16 (.int .u32 0))) rfl rfl hsl rfl ?_;intro w3 hb3 ho3
     have B3:=B2.push (Qaa w2 _) (QGx _) ho3 hb3)
  | fail)
 clear B2 hb2 hb3 ho2 ho3 j1
 generalize w1.heap.size=g8 at *
 generalize w2.heap.size=g9 at *
 go_loopw [26] (fun i wr=>∃k:Nat,k≤10∧i= .int .i64 k∧Bag w wr [(g9,324,(dblN S k).map W32),(g8,324,S.map W32)]) (fun i _=>10-(intOf i).toNat)
 case atStart=>exact⟨0,by omega,rfl,B3⟩
 case round=>
  clear B3
  obtain⟨k,hk',rfl,B3⟩:=hrel
  by_cases hlt:k<10
  ·have hl:=hdl.out k
   have hd2:=hid (hd1.out k)
   generalize dblN S k=T at *
   obtain⟨T0,hT0⟩:∃T0,T0=dblN S (k+1):=⟨_,rfl⟩
   rw[←hT0]at hd2
   replace hT0:=hid hT0
   go_wp2_with fail
   have b0:=B3.nth 0 rfl
   (refine (hr.out g9 _ T 0 4 8 12 _ _ _ _ rfl rfl rfl rfl _ b0 hl (by omega) (by omega) (by omega) (by omega)).mono ?_);rintro e w4 ⟨rfl,T1,e1,l1,b1,o1⟩
   go_wp2_with fail
   (refine (hr.out g9 _ T1 1 5 9 13 _ _ _ _ rfl rfl rfl rfl _ b1 l1 (by omega) (by omega) (by omega) (by omega)).mono ?_);rintro e w5 ⟨rfl,T2,e2,l2,b2,o2⟩
   clear b1
   go_wp2_with fail
   (refine (hr.out g9 _ T2 2 6 10 14 _ _ _ _ rfl rfl rfl rfl _ b2 l2 (by omega) (by omega) (by omega) (by omega)).mono ?_);rintro e w6 ⟨rfl,T3,e3,l3,b3,o3⟩
   clear b2
   go_wp2_with fail
   (refine (hr.out g9 _ T3 3 7 11 15 _ _ _ _ rfl rfl rfl rfl _ b3 l3 (by omega) (by omega) (by omega) (by omega)).mono ?_);rintro e w7 ⟨rfl,T4,e4,l4,b4,o4⟩
   clear b3
   go_wp2_with fail
   (refine (hr.out g9 _ T4 0 5 10 15 _ _ _ _ rfl rfl rfl rfl _ b4 l4 (by omega) (by omega) (by omega) (by omega)).mono ?_);rintro e w8 ⟨rfl,T5,e5,l5,b5,o5⟩
   clear b4
   go_wp2_with fail
   (refine (hr.out g9 _ T5 1 6 11 12 _ _ _ _ rfl rfl rfl rfl _ b5 l5 (by omega) (by omega) (by omega) (by omega)).mono ?_);rintro e w9 ⟨rfl,T6,e6,l6,b6,o6⟩
   clear b5
   go_wp2_with fail
   (refine (hr.out g9 _ T6 2 7 8 13 _ _ _ _ rfl rfl rfl rfl _ b6 l6 (by omega) (by omega) (by omega) (by omega)).mono ?_);rintro e w10 ⟨rfl,T7,e7,l7,b7,o7⟩
   clear b6
   go_wp2_with fail
   (refine (hr.out g9 _ T7 3 4 9 14 _ _ _ _ rfl rfl rfl rfl _ b7 l7 (by omega) (by omega) (by omega) (by omega)).mono ?_);rintro e w11 ⟨rfl,T8,e8,l8,b8,o8⟩
   clear b7
   go_wp2_with fail
   go_roundw
   case rel=>
    refine⟨k+1,by omega,by go_num,?_⟩
    rw[←hT0.out,hd2.out,dbl,←e1.out,←e2.out,←e3.out,←e4.out,←e5.out,←e6.out,←e7.out,←e8.out]
    exact B3.write 0 rfl (((((((o1.trans o2).trans o3).trans o4).trans o5).trans o6).trans o7).trans o8) b8
   case measure=>simp[intOf];omega
  ·obtain rfl:10=k:=by omega
   have hl:=hdl.out 10
   generalize dblN S 10=F at *
   have hCs:=hid (Qi2 F S)
   have hCl:=hid (Qfr F S)
   have hC0:=hid (show Qgp F S 0=[] from rfl)
   go_wp2_with (first
    | (refine QcF rfl _ _ _ rfl 5 _ 1 Tryz.underlying22 Qc4 rfl _ _ _ _ 0 64 rfl rfl rfl rfl (by omega) (by omega) (by omega) ?_;intro w4 hown4 hl4)
    | (refine Quw rfl _ rfl ((B3.nth 0 rfl).later hl4) hl rfl ?_)
    | fail)
   have hgr:=B3.lat.size
   have B4:=B3.later hl4
   have hown5:OwnB w4 w.heap.size (some ⟨wr.heap.size,0,none⟩) 0 64 (Qgp F S 0):=by
    rw[hC0.out]
    exact Qcq hown4 hgr
   clear B3 hown4 hl4
   generalize wr.heap.size=g10 at *
   go_loopw [10,39] (fun v i wr=>∃(k:Nat) (A':Option Addr) (c':Nat),k≤16∧i= .int .i64 k∧v= .slice A' (4*k) c'∧OwnB wr w.heap.size A' (4*k) c' (Qgp F S k)∧Later w wr∧Blk wr g8 324 (S.map W32)) (fun _ i _=>16-(intOf i).toNat)
   case atStart=>exact⟨0,_,_,by omega,rfl,rfl,hown5,B4.lat,B4.nth 1 rfl⟩
   case round=>
    clear hown5 B4 hgr
    obtain⟨k,A6,c6,hk6,rfl,rfl,hown,L,h8⟩:=hrel
    by_cases hlt:k<16
    ·have HCS:=hid (hCs.out k)
     have c8:=h8.cellD k (QhA (s:=S) (by omega))
     have hix:∀W',(Instr.index 324 (.agg (F.map W32).toArray) (.int .i64 (k:Int))).run Tryz.prog W'= .ok (W32 (wAt F k)) W':=fun W'=>Qfg Tryz.underlying324 Qer Tryz.underlying62 rfl (F.map W32) .i64 k (W32 (wAt F k)) hlt (QhA (by omega)) W'
     generalize wAt F k=xf at *
     generalize wAt S k=xs at *
     generalize Qgp F S k=O at *
     have hle:Hid ([xf.toUInt8+xs.toUInt8,(QcX (xf+xs) 8).toUInt8,(QcX (xf+xs) 16).toUInt8,(QcX (xf+xs) 24).toUInt8]=le4 (xf+xs)):=hid (by rw[le4,UInt32.toUInt8_add])
     have J:=Qaa wr (.cells #[W8 (xf.toUInt8+xs.toUInt8),W8 (QcX (xf+xs) 8).toUInt8,W8 (QcX (xf+xs) 16).toUInt8,W8 (QcX (xf+xs) 24).toUInt8] 5)
     go_wp2_with (first
      | (refine QbU rfl _ _ _ rfl 5 _ 1 Tryz.underlying22 Qc4 rfl w _ (4*k) _ (hown.later J) (L.trans J) _ 4 4 _ ((Blk.new wr 5 [W8 (xf.toUInt8+xs.toUInt8),W8 (QcX (xf+xs) 8).toUInt8,W8 (QcX (xf+xs) 16).toUInt8,W8 (QcX (xf+xs) 24).toUInt8]).rd rfl) (QaX [xf.toUInt8+xs.toUInt8,(QcX (xf+xs) 8).toUInt8,(QcX (xf+xs) 16).toUInt8,(QcX (xf+xs) 24).toUInt8]) rfl rfl (by omega) (by omega) ?_;intro A7 c7 w7 hown7 hl7 hg7 _)
      | fail)
     have hown8:OwnB w7 w.heap.size A7 (4*k+4) c7 (O++le4 (xf+xs)):=by
      rw[←hle.out]
      exact Qlw hown7
     rw[←HCS.out]at hown8
     have h9:=Qjg (h8.later J) (hown.later J) (by decide) hg7
     go_roundw
     case rel=>exact⟨k+1,A7,c7,by omega,by go_num,rfl,hown8,hl7,h9⟩
     case measure=>simp[intOf];omega
    ·obtain rfl:16=k:=by omega
     rw[←hC.out]at hown
     go_wp2_with fail
     go_ret2
     exact⟨_,_,rfl,hown,L⟩
def chaF (key:List UInt8) (k:Nat):List UInt8:=(QG0 k).flatMap fun i=>chaB key (QGn 12 0) (QG5 i)
theorem QiX (key:List UInt8) (k:Nat):chaF key (k+1)=chaF key k++chaB key (QGn 12 0) (QG5 k):=by simp[chaF,QH5]
theorem Qfm (key:List UInt8):∀k,(chaF key k).length=64*k
 | 0=>rfl
 | k+1=>by rw[QiX,QGy,Qfm key k,QjI];omega
def chaS (key:List UInt8) (n:Nat):List UInt8:=(chaF key ((n+63)/64)).take n
theorem QaE (key:List UInt8) (n:Nat):(chaS key n).length=n:=by
 rw[chaS,QGP,Qfm]
 omega
theorem QmU (key:List UInt8) (k:Nat):∀j,∃r,chaF key (k+j)=chaF key k++r
 | 0=>⟨[],by simp⟩
 | j+1=>by
   obtain⟨r,h⟩:=QmU key k j
   exact⟨r++chaB key (QGn 12 0) (QG5 (k+j)),by rw[←QIO,QiX,h,QGI]⟩
theorem Qi3 (key:List UInt8) (n k:Nat) (h:n≤64*k):chaS key n=(chaF key k).take n:=by
 obtain⟨r,hr⟩:=QmU key ((n+63)/64) (k-(n+63)/64)
 rw[Nat.add_sub_cancel' (by omega)]at hr
 rw[hr,chaS,QHf (by rw[Qfm];omega)]
theorem Qn9 {α:Type} (l r:List α) (m n:Nat) (h:l.length=m) (hm:m≤n):(l++r).take n=l++r.take (n-m):=by
 rw[List.take_append,h,QGD (by omega)]
theorem Qox (k:Nat) (w:World):(convert 3 62 (.int .i64 (k:Int))).run Tryz.prog w= .ok (W32 (QG5 k)) w:=by
 have h:=run_convert_int (P:=Tryz.prog) (w:=w) 3 62 .i64 (k:Int) (by rw[Tryz.underlying3];rfl) (by unfold Program.intKind;rw[Tryz.underlying62])
 have e:Tryz.prog.intKind 62= .u32:=by unfold Program.intKind;rw[Tryz.underlying62]
 rw[e]at h
 refine h.trans ?_
 congr 1
set_option maxRecDepth 100000 in
set_option maxHeartbeats 4000000 in
theorem Qnx (A:Option Addr) (c n:Nat) (key:List UInt8) (w:World) (hk:RdB w A 32 key) (hn:n≤65536):
 Calls Tryz.prog 173 #[.slice A 32 c,.int .i64 0,.int .i64 n] w fun e w'=>∃A' c',e= .returned (.slice A' n c')∧OwnB w' w.heap.size A' n c' (chaS key n)∧Later w w':=by
 have hB:=hid (fun B d ctr (w':World) (hl:Later w w') hn=>QtH A B c d key (QGn 12 0) ctr w' (hk.later hl) hn)
 have hs1:=hid (QiX key)
 have hl1:=hid (Qfm key)
 have hS:=hid (Qi3 key n)
 have hbl:=hid (fun ctr=>QjI key (QGn 12 0) ctr)
 have h0:=hid (show (chaF key 0).take 0=[] from rfl)
 go_enter Tryz.func173,Tryz.ntmps173
 go_wp2_with (first
  | (refine QaA rfl _ _ _ rfl 5 _ 1 Tryz.underlying22 Qc4 rfl _ _ _ _ 12 rfl rfl rfl rfl (by omega) (by omega) ?_;intro w1 hb1 hl1')
  | (refine QcF rfl _ _ _ rfl 5 _ 1 Tryz.underlying22 Qc4 rfl _ _ _ _ 0 n rfl rfl rfl rfl (by omega) (by omega) (by omega) ?_;intro w2 hown2 hl2)
  | fail)
 have hz1:=hl1'.size
 have hlt1:=hb1.lt
 have L2:=hl1'.trans hl2
 have hbase:w.heap.size<w1.heap.size:=hlt1
 have hown3:OwnB w2 w1.heap.size (some ⟨w1.heap.size,0,none⟩) 0 n ((chaF key 0).take 0):=by
  rw[h0.out]
  exact hown2
 have hno:RdB w1 (some ⟨w.heap.size,0,none⟩) 12 (QGn 12 0):=hb1.rd rfl
 clear hb1 hown2 L2 hz1
 have hL1:=hl2
 go_loopw [1,8] (fun at_ v wr=>∃(k m:Nat) (A':Option Addr) (c':Nat),at_= .int .i64 m∧v= .slice A' m c'∧m≤n∧m≤64*k∧(m<n→m=64*k)∧OwnB wr w1.heap.size A' m c' ((chaF key k).take m)∧Later w1 wr) (fun _ v _=>n-lenOf v)
 case atStart=>exact⟨0,0,_,_,rfl,rfl,by omega,by omega,fun _=>rfl,hown3,hL1⟩
 case round=>
  clear hown3 hL1 hl2
  obtain⟨k,m,A6,c6,rfl,rfl,hmn,hmk,hm64,hown,L⟩:=hrel
  by_cases hlt:m<n
  ·have hm:=hm64 hlt
   have hq:(m:Int)/64=(k:Int):=by omega
   have hr:(m:Int)%64=0:=by omega
   have hcv:=Qox k
   have hb:=hid (hs1.out k)
   have hBl:=hid (hbl.out (QG5 k))
   have HM:=hid hm
   have HFl:=hid (hl1.out k)
   clear hm hm64
   go_wp2_with fail
   (with_reducible refine (hB.out _ _ _ _ (hl1'.trans L) (hno.later L)).mono ?_);rintro e w4 ⟨A9,c9,rfl,hown9,j9⟩
   have hrd9:=hown9.rd
   have hcap:=hown9.cap
   have hcut:∀W,(Instr.sliceAt 22 (.slice A9 64 c9) (some (.int .i64 0)) none none).run Tryz.prog W= .ok (.slice A9 64 c9) W:=fun W=>by
    have h:=QjJ A9 64 c9 .i64 0 (by omega) W
    simpa [QmD] using h
   generalize chaB key (QGn 12 0) (QG5 k)=Bk at *
   generalize chaF key k=Fk at *
   by_cases hbig:n-m<64
   ·obtain⟨q,hqn⟩:∃q,n=m+q:=⟨n-m,by omega⟩
    have hb1:((n:Int)-(m:Int))<64:=by omega
    have hcut2:∀W,(Instr.sliceAt 22 (.slice A9 64 c9) none (some (.int .i64 ((n:Int)-(m:Int)))) none).run Tryz.prog W= .ok (.slice A9 q c9) W:=fun W=>by
     rw[show (n:Int)-(m:Int)=(q:Int) by omega]
     exact Qv1 A9 64 c9 .i64 q (by omega) W
    have hq64:q<64:=by omega
    have hrq:=hrd9.take (m:=q) (by omega)
    have hmq:m+q≤65536:=by omega
    replace hqn:=hid hqn
    go_wp2_with (first
     | (refine QbU rfl _ _ _ rfl 5 _ 1 Tryz.underlying22 Qc4 rfl w1 _ m _ (hown.later j9) (L.trans j9) A9 q c9 _ hrq (QaX _) rfl rfl (by omega) (by omega) ?_;intro A7 c7 w7 hown7 hl7 hg7 _)
     | fail)
    have hown8:=Qlw hown7
    go_roundw
    case rel=>
     refine⟨k+1,m+q,A7,c7,by go_num,rfl,by have:=hqn.out;omega,by have:=HM.out;omega,fun h=>by have:=hqn.out;omega,?_,hl7⟩
     rw[hb.out,Qn9 _ _ _ _ HFl.out (by have:=HM.out;omega),show m+q-64*k=q by have:=HM.out;omega]
     rw[QGD (by rw[HFl.out,HM.out];omega)]at hown8
     exact hown8
    case measure=>have:=hqn.out;simp[lenOf];omega
   ·have hb1: ¬((n:Int)-(m:Int))<64:=by omega
    go_wp2_with (first
     | (refine QbU rfl _ _ _ rfl 5 _ 1 Tryz.underlying22 Qc4 rfl w1 _ m _ (hown.later j9) (L.trans j9) A9 64 c9 _ hrd9 (QaX _) rfl rfl (by omega) (by omega) ?_;intro A7 c7 w7 hown7 hl7 hg7 _)
     | fail)
    have hown8:=Qlw hown7
    go_roundw
    case rel=>
     refine⟨k+1,m+64,A7,c7,by go_num,rfl,by omega,by have:=HM.out;omega,fun h=>by have:=HM.out;omega,?_,hl7⟩
     rw[hb.out,Qn9 _ _ _ _ HFl.out (by have:=HM.out;omega),show m+64-64*k=64 by have:=HM.out;omega,QGD (by rw[hBl.out];omega)]
     rw[QGD (by rw[HFl.out,HM.out];omega)]at hown8
     exact hown8
    case measure=>simp[lenOf];omega
  ·obtain rfl:n=m:=by omega
   have hE:=hid (hS.out k hmk)
   rw[←hE.out]at hown
   go_wp2_with fail
   go_ret
   exact⟨_,_,rfl,hown.mono (Nat.le_of_lt hbase),hl1'.trans L⟩
theorem Qk1 (A:Option Addr) (c n:Nat) (key:List UInt8) (w:World) (hk:RdB w A 32 key) (hn:n≤65536):
 Calls Tryz.prog 147 #[.slice A 32 c,.int .i64 n] w fun e w'=>∃A' c',e= .returned (.tuple #[.slice A' n c',.int .i64 0])∧OwnB w' w.heap.size A' n c' (chaS key n)∧Later w w':=by
 have hp:=hid (fun c (w:World) h=>Qnx A c n key w h hn)
 go_enter Tryz.func147,Tryz.ntmps147
 go_wp2_with fail
 (with_reducible refine (hp.out _ _ hk).mono ?_);rintro e w1 ⟨A1,c1,rfl,ho1,j1⟩
 go_wp2_with fail
 go_ret2
 exact⟨_,_,rfl,ho1,j1⟩
def xorB (xs ys:List UInt8):List UInt8:=List.zipWith (· ^^^ ·) xs ys
theorem Qbc {xs ys:List UInt8} (h:xs.length=ys.length):(xorB xs ys).length=ys.length:=by simp[xorB,h]
def Qhe (xs ys:List UInt8) (k:Nat):List UInt8:=(xorB xs ys).take k++xs.drop k
theorem Qh5 {xs ys:List UInt8} (h:xs.length=ys.length) (k:Nat) (hk:k≤xs.length):(Qhe xs ys k).length=xs.length:=by
 have:=Qbc h
 simp[Qhe]
 omega
theorem Qky (xs ys:List UInt8):Qhe xs ys 0=xs:=by simp[Qhe]
theorem Qns {xs ys:List UInt8} (h:xs.length=ys.length):Qhe xs ys xs.length=xorB xs ys:=by
 have:=Qbc h
 rw[Qhe,List.drop_length,QGW,QGD (by omega)]
theorem Qne {xs ys:List UInt8} (h:xs.length=ys.length) {k:Nat} (hk:k<xs.length):(Qhe xs ys k)[k]?=some (xs.getD k 0):=by
 have:=Qbc h
 rw[Qhe,QGE (by simp;omega),QGP,this,QHx (by omega),QHG,QHA,QIf,QGt hk,QGq,QGt hk]
 rfl
theorem Qle {xs ys:List UInt8} (h:xs.length=ys.length) {k:Nat} (hk:k<xs.length):(Qhe xs ys k).set k (xs.getD k 0 ^^^ ys.getD k 0)=Qhe xs ys (k+1):=by
 have hl:=Qbc h
 have hg:(xorB xs ys)[k]?=some (xs.getD k 0 ^^^ ys.getD k 0):=by
  rw[xorB,List.getElem?_zipWith,QGq,QGq,QGt hk,QGt (show k<ys.length by omega)]
  rfl
 have hkx:k<(xorB xs ys).length:=by omega
 rw[Qhe,Qhe,QG1 _ _ (by simp;omega),QGP,hl,QHx (by omega),QHG,QHw hk,QGz,QGY hkx,QGI]
 have:(xorB xs ys)[k]=xs.getD k 0 ^^^ ys.getD k 0:=by
  have:=QGt hkx
  rw[hg]at this
  exact (Option.some.inj this).symm
 rw[this]
 rfl
theorem QeU {xs ys:List UInt8} (h:xs.length=ys.length):xorB (xorB xs ys) ys=xs:=by
 apply List.ext_getElem?
 intro j
 rw[xorB,xorB,List.getElem?_zipWith,List.getElem?_zipWith]
 by_cases hj:j<xs.length
 ·rw[QGt hj,QGt (show j<ys.length by omega)]
  simp[UInt8.xor_assoc]
 ·rw[QHF (show xs.length≤j by omega),QHF (show ys.length≤j by omega)]
def beN:List UInt8→Nat→Nat
 | [],n=>n
 | b :: r,n=>beN r (n*256+b.toNat)
theorem Qgg:∀(p q:List UInt8) (n:Nat),beN (p++q) n=beN q (beN p n)
 | [],_,_=>rfl
 | b :: r,q,n=>by rw[QGu,beN,Qgg r q];rfl
theorem QtV:∀(p:List UInt8) (n k:Nat),n<k→beN p n<k*256^p.length
 | [],n,k,h=>by simpa [beN] using h
 | b :: r,n,k,h=>by
   have hb:=b.toNat_lt
   have:=QtV r (n*256+b.toNat) (k*256) (by omega)
   rw[beN,QHe,QHq,QHp (256^_),←QHL]
   exact this
theorem QmS (bs:List UInt8) (k:Nat) (h:k<bs.length):bs.take (k+1)=bs.take k++[bs.getD k 0]:=by
 rw[QGY h,QGq,QGt h,QIl]
theorem QyS (bs:List UInt8) (k:Nat) (h:k<bs.length):beN (bs.take (k+1)) 0=beN (bs.take k) 0*256+(bs.getD k 0).toNat:=by
 rw[QmS bs k h,Qgg]
 rfl
theorem QCz (x:Nat) (b:UInt8):Qj6 (QGS x) 8 ||| b.toUInt64=QGS (x*256+b.toNat):=by
 apply QIx.1
 have e1:(Qj6 (QGS x) 8).toNat=(x%2^64*256)%2^64:=by
  show ((QGS x).toBitVec <<< 8).toNat=_
  rw[QIy,QIF]
  rfl
 have hb:=b.toNat_lt
 rw[UInt64.toNat_or,e1,UInt8.toNat_toUInt64,QGZ]
 have e2:(x%2^64*256)%2^64=(x%2^56) <<< 8:=by
  rw[QIF]
  omega
 rw[e2,←Nat.shiftLeft_add_eq_or_of_lt (by omega),QIF]
 omega
theorem QAB (x:Nat):(QGS x).toUInt32=QG5 x:=by
 apply QIV.1
 rw[UInt64.toNat_toUInt32,QGZ,QIz]
 show x%2^64%2^32=x%2^32
 omega
theorem Qhu (q:List UInt8) (n:Nat) (h:q.length=n):xorB (QGn n 0) q=q:=by
 subst h
 induction q with
 | nil=>rfl
 | cons a q ih=>
   rw[QHe,QH2]
   show (0 ^^^ a) :: xorB (QGn q.length 0) q=_
   rw[ih,UInt8.zero_xor]
def QdT (c:Cmd):Bool:=(c.kd==1)==(c.nx != 0)&&(c.kd==4||c.ma.val==QGn 16 0)
def cmdE (c:Cmd):Nat:=if c.kd<1∨4<c.kd then 1 else if QdT c=false then 3 else if 1000000<c.dl then 11 else 0
def QgH (b:List UInt8):Cmd:=⟨b.getD 0 0,b.getD 1 0,QG5 (beN (subB b 2 4) 0),QGS (beN (subB b 6 8) 0),⟨((b++QGn 32 0).drop 14).take 16,by simp⟩⟩
theorem Qk7 (b:List UInt8) (h:b.length=32):(QgH b).ma.val=subB b 14 16:=by
 show ((b++QGn 32 0).drop 14).take 16=_
 rw[QHC (by omega),QHf (by rw[QGQ];omega)]
 rfl
def decE (b:List UInt8):Nat:=if cmdE (QgH b)≠1∧(b.getD 30 0≠0∨b.getD 31 0≠0) then 3 else cmdE (QgH b)
def decC (b:List UInt8):Cmd:=if decE b=0 then QgH b else cmd0
set_option maxRecDepth 100000 in
theorem Qku (k:Nat) (hk:1≤k) (h8:k≤8) (w:World):Calls Tryz.prog 117 #[.int .i64 2,.int .i64 (k:Int)] w fun e w'=>e= .returned (.bool true)∧Later w w':=by
 have h1:decide ((1:Int)≤(k:Int))=true:=decide_eq_true (by omega)
 have h2:decide ((k:Int)≤8)=true:=decide_eq_true (by omega)
 go_enter Tryz.func117,Tryz.ntmps117
 go_wp2
 go_ret
 exact⟨rfl,Later.refl w⟩
theorem Qnk (bs:List UInt8) (o k:Nat) (h:o+k<bs.length):beN (subB bs o (k+1)) 0=beN (subB bs o k) 0*256+(bs.getD (o+k) 0).toNat:=by
 rw[subB,QyS _ _ (by rw[QGQ];omega)]
 show _=beN ((bs.drop o).take k) 0*256+_
 congr 2
 rw[QGq,QGq,QHA]
set_option maxRecDepth 100000 in
set_option maxHeartbeats 4000000 in
theorem Qis (A:Option Addr) (n c o k:Nat) (bs:List UInt8) (w:World) (hb:RdB w A n bs) (hn:n≤140737488355328) (hk:1≤k) (h8:k≤8) (ho:o+k≤n):
 Calls Tryz.prog 77 #[.int .i64 2,.slice A n c,.int .i64 (o:Int),.int .i64 (k:Int)] w fun e w'=>e= .returned (.tuple #[W64 (QGS (beN (subB bs o k) 0)),.int .i64 0])∧Later w w':=by
 have hbl:=hb.len
 have h1:decide ((n:Int)<(o:Int))=false:=decide_eq_false (by omega)
 have h2:decide ((n:Int)-(o:Int)<(k:Int))=false:=decide_eq_false (by omega)
 have h3:decide ((o:Int)<0)=false:=decide_eq_false (by omega)
 have hs:=hid (fun j=>Qnk bs o j)
 have hr:=hid (fun j=>QCz (beN (subB bs o j) 0))
 have h0:beN (subB bs o 0) 0=0:=rfl
 go_enter Tryz.func77,Tryz.ntmps77
 go_wp2_with fail
 refine (Qku k hk h8 _).mono ?_
 rintro e w1 ⟨rfl,L1⟩
 go_wp2_with fail
 go_loopw [10,11] (fun v i wr=>∃j:Nat,j≤k∧i= .int .i64 j∧v=W64 (QGS (beN (subB bs o j) 0))∧Later w wr) (fun _ i _=>k-(intOf i).toNat)
 case atStart=>exact⟨0,by omega,rfl,by rw[h0];rfl,L1⟩
 case round=>
  clear L1
  obtain⟨j,hj,rfl,rfl,L⟩:=hrel
  by_cases hlt:j<k
  ·have hrd:=hb.later L
   have hs':=hs.out j (by omega)
   have hr':=hr.out j (bs.getD (o+j) 0)
   rw[←hs']at hr'
   replace hr':=hid hr'
   clear hs' hs hr
   obtain⟨b,p,rfl,hlb,hc⟩:=hrd.2 (by omega)
   have hcell:=hc (o+j) (W8 (bs.getD (o+j) 0)) (by rw[QGF,QGq,QGt (by omega)];rfl)
   generalize bs.getD (o+j) 0=z at *
   go_wp2
   exact⟨⟨j+1,by omega,by go_num,by rw[←hr'.out],L⟩,by simp[intOf];omega⟩
  ·obtain rfl:j=k:=by omega
   go_wp2
   go_ret2
   exact⟨rfl,L⟩
def x2 (xs ys:List UInt8):Nat→List UInt8
 | 0=>QGn xs.length 0
 | 1=>xs
 | _=>xorB xs ys
theorem Qvr {xs ys:List UInt8} (h:xs.length=ys.length):∀k,(x2 xs ys k).length=xs.length
 | 0=>by simp[x2]
 | 1=>rfl
 | k+2=>by
   show (xorB xs ys).length=_
   rw[Qbc h,h]
theorem QBL {xs ys:List UInt8}:∀k,k<2→xorB (x2 xs ys k) ([xs,ys].getD k [])=x2 xs ys (k+1)
 | 0,_=>Qhu _ _ rfl
 | 1,_=>rfl
theorem QpJ {xs ys:List UInt8} (h:xs.length=ys.length) (k:Nat) (hk:k<2):([xs,ys].getD k []).length=xs.length:=by
 match k,hk with
 | 0,_=>rfl
 | 1,_=>exact h.symm
set_option maxRecDepth 100000 in
set_option maxHeartbeats 4000000 in
theorem Qm1 (B:Option Addr) (d n:Nat) (xs ys:List UInt8) (w:World) (hp:Parts w (fun _=>False) B 2 [xs,ys]) (hx:xs.length=n) (hy:ys.length=n) (hn:n≤1048576):
 Calls Tryz.prog 148 #[.slice B 2 d] w fun e w'=>∃A' c',e= .returned (.tuple #[.slice A' n c',.int .i64 0])∧OwnB w' w.heap.size A' n c' (xorB xs ys)∧Later w w':=by
 have hxy:xs.length=ys.length:=by omega
 have hm:=hid (fun k hk=>(QpJ hxy k hk).trans hx)
 have hst:=hid (fun k (hk:k<2) (Xk:List UInt8) (hX:[xs,ys].getD k []=Xk)=>show xorB (x2 xs ys k) Xk=x2 xs ys (k+1) by rw[←hX];exact QBL k hk)
 have hsl:=hid (fun k=>(Qvr hxy k).trans hx)
 have h0:x2 xs ys 0=QGn n 0:=by rw[x2,hx]
 have h2:x2 xs ys 2=xorB xs ys:=rfl
 have hRl:=hid ((Qbc hxy).trans hy)
 generalize xorB xs ys=R at *
 go_enter Tryz.func148,Tryz.ntmps148
 go_wp2_with fail
 go_loopw [5,16] (fun _ i wr=>∃k:Nat,k≤2∧i= .int .i64 k∧Later w wr) (fun _ i _=>2-(intOf i).toNat)
 case atStart=>exact⟨0,by omega,rfl,Later.refl w⟩
 case round=>
  obtain⟨k,hk,rfl,L⟩:=hrel
  by_cases hlt:k<2
  ·obtain⟨b,o,Ak,nk,ck,rfl,hb,hck,hcap,hrd,_⟩:=(hp.later L).at_ hlt
   obtain⟨b',o',A0,n0,c0,he,hb',hck',hcap',hrd',_⟩:=(hp.later L).at_ (show 0<2 by omega)
   simp only[Option.some.injEq,Addr.mk.injEq,and_true]at he
   obtain⟨rfl,rfl⟩:=he
   rw[QIf]at hck'
   obtain rfl:nk=n:=by rw[←hrd.len];exact hm.out k hlt
   obtain rfl:n0=nk:=by rw[←hrd'.len];exact hm.out 0 (by omega)
   go_wp2
   exact⟨⟨k+1,by omega,by go_num,L⟩,by simp[intOf];omega⟩
  ·obtain⟨b',o',A0,n0,c0,rfl,hb',hck',hcap',hrd',_⟩:=(hp.later L).at_ (show 0<2 by omega)
   rw[QIf]at hck'
   obtain rfl:n0=n:=by rw[←hrd'.len];exact hm.out 0 (by omega)
   clear hrd'
   go_wp2_with (first
    | (refine QaA rfl _ _ _ rfl 5 _ 1 Tryz.underlying22 Qc4 rfl _ _ _ _ n0 rfl rfl rfl rfl (by omega) (by omega) ?_;intro w1 hb1 hl1')
    | fail)
   have hz:QGn n0 (Value.int .u8 0)=(x2 xs ys 0).map W8:=by rw[h0,QG8];rfl
   replace hb1:Blk w1 wr.heap.size 5 ((x2 xs ys 0).map W8):=by rw[←hz];exact hb1
   have hgw:w.heap.size≤wr.heap.size:=L.size
   replace L:=L.trans hl1'
   clear hz h0 hl1' hck' hb'
   generalize wr.heap.size=g at *
   go_loopw [8,9,10,35] (fun _ _ _ i wr=>∃k:Nat,k≤2∧i= .int .i64 k∧Blk wr g 5 ((x2 xs ys k).map W8)∧Later w wr) (fun _ _ _ i _=>2-(intOf i).toNat)
   case atStart=>exact⟨0,by omega,rfl,hb1,L⟩
   case round=>
    clear hb1 L
    obtain⟨k,hk,rfl,hb1,L⟩:=hrel
    by_cases hlt:k<2
    ·obtain⟨b,o,Ak,nk,ck,he,hb,hck,hcap,hrd,_⟩:=hp.at_ hlt
     simp only[Option.some.injEq,Addr.mk.injEq,and_true]at he
     obtain⟨rfl,rfl⟩:=he
     obtain rfl:nk=n0:=by rw[←hrd.len];exact hm.out k hlt
     replace hck:=(L.below.cell (p:=⟨b',o'+k,none⟩) hb).trans hck
     replace hb:b'<wr.heap.size:=QGN hb L.size
     have hnext:=hst.out k hlt _ rfl
     have hyl:=hrd.len
     have hxl:=hsl.out k
     have hlen:(x2 xs ys k).length=([xs,ys].getD k []).length:=by omega
     generalize [xs,ys].getD k []=Y at *
     generalize hX':x2 xs ys (k+1)=X' at *
     generalize x2 xs ys k=X at *
     have HX':=hid hX'
     clear hX'
     have hX:=hid (fun k=>Qh5 hlen k)
     have hG:=hid (fun k (h:k<X.length)=>Qne hlen h)
     have hS:=hid (fun k (h:k<X.length)=>Qle hlen h)
     have hA:=hid (Qns hlen)
     have hN:=hid (Qky X Y)
     go_wp2_with fail
     go_loopw [9,10,41] (fun _ _ i wr=>∃j:Nat,j≤nk∧i= .int .i64 j∧Blk wr g 5 ((Qhe X Y j).map W8)∧Later w wr) (fun _ _ i _=>nk-(intOf i).toNat)
     case atStart=>exact⟨0,by omega,rfl,by rw[hN.out];exact hb1,L⟩
     case round=>
      clear hb1 L
      obtain⟨j,hj,rfl,hb1,L⟩:=hrel
      by_cases hjt:j<nk
      ·obtain⟨b2,o2,rfl,hb2,hc2⟩:=RdB.at_ (hrd.later L) (by omega)
       have c1:=hc2 j hjt
       have hxk:=hX.out j (by omega)
       have d1:=hb1.cellD j (by rw[QGF,hG.out j (by omega)];rfl)
       have HS:=hid (hS.out j (by omega))
       clear hc2
       generalize X.getD j 0=x at *
       generalize Y.getD j 0=y at *
       go_wp2_with (first
        | (refine Qad rfl rfl _ _ _ rfl g j _ _ hb1 rfl (by rw[QGr];omega) rfl Qb2 ?_;intro v' w5 hv' hb5 ho5;simp[go_sem]at hv';subst hv')
        | fail)
       rw[Qcx,HS.out]at hb5
       go_roundw
       case rel=>exact⟨j+1,by omega,by go_num,hb5,L.only ho5 hgw⟩
       case measure=>simp[intOf];omega
      ·obtain rfl:j=nk:=by omega
       have hAll:=hA.out
       rw[hxl,hnext]at hAll
       rw[hAll]at hb1
       go_wp2
       exact⟨⟨k+1,by omega,by go_num,by rw[HX'.out];exact hb1,L⟩,by simp[intOf];omega⟩
    ·obtain rfl:k=2:=by omega
     rw[h2]at hb1
     go_wp2
     go_ret2
     exact⟨_,_,rfl,by
      have:=Qdj hb1 hgw (by rw[QGr,hRl.out];omega)
      rw[QGr,hRl.out]at this
      exact this,L⟩
theorem QoN:(Tryz.prog.info? 31).map (·.size)=some 16:=by kernel_rfl
theorem QDH:Tryz.prog.eqGuardType Tryz.prog.depth 31=false:=by kernel_rfl
@[go_sem high] theorem QAN (op:BinOp) (x y:Operand) (xs ys:Array Value) (w:World):(eqGuard op 31 x y (.agg xs) (.agg ys)).run Tryz.prog w= .ok () w:=run_eqGuard_agg w op _ x y xs ys QDH
@[go_sem high] theorem QCe (x y:Y16) (w:World):(binOp .eql 31 (.agg (x.val.map W8).toArray) (.agg (y.val.map W8).toArray)).run Tryz.prog w= .ok (.bool (x.val==y.val)) w:=by
  rw[run_eql_struct,Qbl w 0 W8 9998 31 5 16 Tryz.underlying31 Qb2 Tryz.underlying5 rfl (Qla _ _ Tryz.underlying5) _ _ x.2 y.2]
  rfl
@[go_sem high] theorem QCh (x y:Y16) (w:World):(binOp .neq 31 (.agg (x.val.map W8).toArray) (.agg (y.val.map W8).toArray)).run Tryz.prog w= .ok (.bool (x.val != y.val)) w:=by
  rw[run_neq_struct,Qbl w 0 W8 9998 31 5 16 Tryz.underlying31 Qb2 Tryz.underlying5 rfl (Qla _ _ Tryz.underlying5) _ _ x.2 y.2]
  rfl
theorem QtI:Tryz.prog.built 31 []=some (QaH.val.map W8).toArray:=by
 show _=some ((QGn 16 (0:UInt8)).map W8).toArray
 rw[QG8]
 kernel_rfl
theorem Qd2 {P:Program} {t:TypeId} {d:TypeDesc} {k:Nat} {v:Value} (hu:P.underlying t=some d) (hd:QbT d=false) {zs:List Value} (hz:zs[k]?=some v) (w:World):(part t zs.toArray k).run P w= .ok v w:=by
 have ha:(isAgg t).run P w= .ok false w:=by
  unfold isAgg
  simp only[Sem.run_bind,run_underlying hu]
  cases d<;>simp_all [QbT]
 unfold part
 simp[Sem.run_bind,ha,Result.andThen_ok,hz]
theorem Qj8 {P:Program} {d k:Nat} {t:TypeId} {f:Field} {fs:List Field} (hf:f.type=t) (hu:P.underlying t=some (.int .u64)) (hn:f.name≠ "_") {xs ys:List Value} {p q:UInt64} (ho:f.offset=k) (hp:xs[k]?=some (W64 p)) (hq:ys[k]?=some (W64 q)) (w:World):
 (Op.eqFields (d+1) xs.toArray ys.toArray (f :: fs)).run P w=if p==q then (Op.eqFields (d+1) xs.toArray ys.toArray fs).run P w else .ok false w:=by
 rw[Op.eqFields,if_pos hn]
 simp only[Sem.run_bind,hf,ho,Qd2 hu rfl hp,Qd2 hu rfl hq,Result.andThen_ok,QiH t _ hu d p q w]
 cases p==q<;>simp
theorem Qh6 {P:Program} {d k:Nat} {t:TypeId} {f:Field} {fs:List Field} (hf:f.type=t) (hu:P.underlying t=some (.int .u8)) (hn:f.name≠ "_") {xs ys:List Value} {p q:UInt8} (ho:f.offset=k) (hp:xs[k]?=some (W8 p)) (hq:ys[k]?=some (W8 q)) (w:World):
 (Op.eqFields (d+1) xs.toArray ys.toArray (f :: fs)).run P w=if p==q then (Op.eqFields (d+1) xs.toArray ys.toArray fs).run P w else .ok false w:=by
 rw[Op.eqFields,if_pos hn]
 simp only[Sem.run_bind,hf,ho,Qd2 hu rfl hp,Qd2 hu rfl hq,Result.andThen_ok,Qla t _ hu d p q w]
 cases p==q<;>simp
theorem Qkk {P:Program} {d k:Nat} {t:TypeId} {f:Field} {fs:List Field} (hf:f.type=t) (hu:P.underlying t=some (.int .u32)) (hn:f.name≠ "_") {xs ys:List Value} {p q:UInt32} (ho:f.offset=k) (hp:xs[k]?=some (W32 p)) (hq:ys[k]?=some (W32 q)) (w:World):
 (Op.eqFields (d+1) xs.toArray ys.toArray (f :: fs)).run P w=if p==q then (Op.eqFields (d+1) xs.toArray ys.toArray fs).run P w else .ok false w:=by
 rw[Op.eqFields,if_pos hn]
 simp only[Sem.run_bind,hf,ho,Qd2 hu rfl hp,Qd2 hu rfl hq,Result.andThen_ok,QwA t _ hu d p q w]
 cases p==q<;>simp
def QsR (x y:Cmd):Bool:=x.kd==y.kd&&(x.fl==y.fl&&(x.dl==y.dl&&(x.nx==y.nx&&x.ma.val==y.ma.val)))
@[go_sem] theorem QCi (x:Cmd):QsR x x=true:=by simp[QsR]
theorem Qno (x:Cmd):((CC x).drop 4).take 16=x.ma.val.map W8:=by rw[QAz,QGD (by rw[QGr,x.ma.2];omega)]
set_option maxRecDepth 100000 in
theorem QjY (x y:Cmd) (w:World) {fs:Array Field} (hu:Tryz.prog.underlying 64=some (.struct fs)):(Op.eqFields 9999 (CC x).toArray (CC y).toArray fs.toList).run Tryz.prog w= .ok (QsR x y) w:=by
 rw[Tryz.underlying64]at hu
 cases hu
 rw[Qh6 (d:=9998) (k:=0) rfl Tryz.underlying5 (by decide) rfl rfl rfl,Qh6 (d:=9998) (k:=1) rfl Tryz.underlying5 (by decide) rfl rfl rfl,Qkk (d:=9998) (k:=2) rfl Tryz.underlying62 (by decide) rfl rfl rfl,
  Qj8 (d:=9998) (k:=3) rfl Tryz.underlying23 (by decide) rfl rfl rfl,QdL (d:=9997) (k:=4) rfl Tryz.underlying31 QoN Qb2 Tryz.underlying5 (by decide) rfl (Qno x) (Qno y) x.ma.2 y.ma.2,QdD]
 rw[QsR]
 cases x.kd==y.kd<;>cases x.fl==y.fl<;>cases x.dl==y.dl<;>cases x.nx==y.nx<;>cases x.ma.val==y.ma.val<;>rfl
theorem QAR:Tryz.prog.eqGuardType Tryz.prog.depth 64=false:=by kernel_rfl
@[go_sem high] theorem QCb (op:BinOp) (x y:Operand) (xs ys:Array Value) (w:World):(eqGuard op 64 x y (.agg xs) (.agg ys)).run Tryz.prog w= .ok () w:=run_eqGuard_agg w op _ x y xs ys QAR
set_option maxRecDepth 100000 in
@[go_sem high] theorem QAI (x y:Cmd) (w:World):(binOp .eql 64 (.agg (CC x).toArray) (.agg (CC y).toArray)).run Tryz.prog w= .ok (.bool (QsR x y)) w:=by
  rw[Qg6 Tryz.underlying64 (by kernel_rfl),QjY x y w Tryz.underlying64]
  rfl
set_option maxRecDepth 100000 in
@[go_sem high] theorem QBY (x y:Cmd) (w:World):(binOp .neq 64 (.agg (CC x).toArray) (.agg (CC y).toArray)).run Tryz.prog w= .ok (.bool (!QsR x y)) w:=by
  rw[Qjw Tryz.underlying64 (by kernel_rfl),QjY x y w Tryz.underlying64]
  rfl
theorem QeX:(Tryz.prog.info? 64).map (·.size)=some 20:=by kernel_rfl
theorem QAQ:(Tryz.prog.info? 64).bind (·.zero)=some (.agg (CC cmd0).toArray):=by kernel_rfl
theorem QqX (x:Cmd):∀u∈CC x,u.oneCell'=true:=by
 intro u hu
 simp only[CC,QGJ,QG2]at hu
 rcases hu with rfl|rfl|rfl|rfl|⟨b,_,rfl⟩<;>rfl
theorem QkW:Tryz.prog.built 64 []=some (CC cmd0).toArray:=by
 rw[QaQ (pl:=[(0,1),(1,1),(2,1),(3,1),(4,16)]) Tryz.underlying64 QAQ (by kernel_rfl),Qb0]
theorem Qsq (k f:UInt8):Tryz.prog.built 64 [(0,W8 k),(1,W8 f)]=some (CC ⟨k,f,0,0,QaH⟩).toArray:=by
 rw[QaQ (pl:=[(0,1),(1,1),(2,1),(3,1),(4,16)]) Tryz.underlying64 QAQ (by kernel_rfl),QaR (vs:=[W8 k]) (off:=0) rfl rfl (by rw[Qao];simp),QaR (vs:=[W8 f]) (off:=1) rfl rfl (by rw[QaW _ _ _ (by rw[Qao];simp),Qao];simp),Qb0]
 rfl
section
variable {ops:Array Oper} {rest:List Oper} {o:Oper} {a:Act} {w:World} {Q:Exit→Act→World→Prop}
theorem Qct (hgd:o.guard=none) (hd:o.dst=none) (x y:Operand) (ho:o.op= .store 64 x y) {g:Nat} {t:TypeId} {l:List Value} {z:Cmd} (hg:Blk w g t l) (hx:a.eval x= .pointer (some ⟨g,0,none⟩)) (hy:a.eval y= .agg (CC z).toArray) (hl:l.length=20)
 (h:∀w',Blk w' g t (CC z)→Only g w w'→wpList Tryz.prog ops Q rest a w'):wpList Tryz.prog ops Q (o :: rest) a w:=
 Qai hgd hd _ x y ho g t l _ hg hx hy 20 QeX (Qao _) hl (QqX _) h
theorem Qc3 (hw:Region.wanted o (yielded ops a.tmps)=true) (x:Operand) (ho:o.op= .load 64 x) {g:Nat} {t:TypeId} {z:Cmd} (hb:Blk w g t (CC z)) (hx:a.eval x= .pointer (some ⟨g,0,none⟩))
 (h:wpList Tryz.prog ops Q rest (a.put o.dst (.agg (CC z).toArray)) w):wpList Tryz.prog ops Q (o :: rest) a w:=
 Qan hw _ x ho g 0 _ (fun j v hv=>by rw[QGT];exact hb.cellD j hv) hx _ Tryz.underlying64 rfl (by rw[Qao];exact QeX) h
theorem QBy (hw:Region.wanted o (yielded ops a.tmps)=true) (x:Operand) (ho:o.op= .load 31 x) {g off:Nat} {y:Y16} (hc:∀j v,(y.val.map W8)[j]?=some v→w.cell? ⟨g,off+j,none⟩=some v) (hx:a.eval x= .pointer (some ⟨g,off,none⟩))
 (h:wpList Tryz.prog ops Q rest (a.put o.dst (.agg (y.val.map W8).toArray)) w):wpList Tryz.prog ops Q (o :: rest) a w:=
 Qan hw _ x ho g off _ hc hx _ Tryz.underlying31 rfl (by rw[QGr,y.2];exact QoN) h
end
theorem Qe3 {w:World} {g:Nat} {t:TypeId} {c:Cmd} (h:Blk w g t (CC c)):w.cell? ⟨g,0,none⟩=some (W8 c.kd)∧w.cell? ⟨g,1,none⟩=some (W8 c.fl)∧w.cell? ⟨g,2,none⟩=some (W32 c.dl)∧w.cell? ⟨g,3,none⟩=some (W64 c.nx)∧(∀ j v,(c.ma.val.map W8)[j]?=some v→w.cell? ⟨g,4+j,none⟩=some v):=
 ⟨h.cellD 0 rfl,h.cellD 1 rfl,h.cellD 2 rfl,h.cellD 3 rfl,fun j v hv=>h.cellD _ (by rw[show 4+j=j+1+1+1+1 by omega,CC];exact hv)⟩
set_option maxRecDepth 100000 in
set_option maxHeartbeats 1000000 in
theorem Qkp (c:Cmd) (w:World):Calls Tryz.prog 144 #[.agg (CC c).toArray] w fun e w'=>e= .returned (.bool (QdT c))∧Later w w':=by
 have hb:Blk (w.alloc (.cells (CC c).toArray 64)) w.heap.size 64 (CC c):=Blk.new _ _ _
 obtain⟨c0,_,_,c3,c4⟩:=Qe3 hb
 have L:=Qaa w (.cells (CC c).toArray 64)
 have hz:=QtI
 rw[QdT,show QGn 16 (0:UInt8)=QaH.val from rfl]
 clear hb
 go_enter Tryz.func144,Tryz.ntmps144
 generalize c.kd=kd at *
 generalize c.nx=nx at *
 generalize c.ma=mk at *
 generalize QaH=z at *
 have hn:(nx != 0)= !(nx==0):=rfl
 rw[hn]
 cases h1:(kd==1)<;>cases h2:(nx==0)<;>cases h4:(kd==4)
 all_goals
  go_wp2_with (first
   | (refine QBy rfl _ rfl c4 rfl ?_)
   | (refine Qah rfl _ _ rfl (z.val.map W8) (by simp only[QGC,QGH];exact hz) ?_)
   | fail)
  go_ret
  exact⟨rfl,L⟩
set_option maxRecDepth 100000 in
set_option maxHeartbeats 1000000 in
theorem Qhx (c:Cmd) (w:World):Calls Tryz.prog 146 #[.agg (CC c).toArray] w fun e w'=>e= .returned (.int .i64 (cmdE c:Nat))∧Later w w':=by
 have hb:Blk (w.alloc (.cells (CC c).toArray 64)) w.heap.size 64 (CC c):=Blk.new _ _ _
 obtain⟨c0,_,c2,_,_⟩:=Qe3 hb
 have L:=Qaa w (.cells (CC c).toArray 64)
 have hS:=hid (Qkp c)
 have hE:cmdE c=if c.kd<1∨4<c.kd then 1 else if QdT c=false then 3 else if 1000000<c.dl then 11 else 0:=rfl
 generalize QdT c=sh at *
 by_cases h1:c.kd<1
 ·rw[if_pos (.inl h1)]at hE
  rw[hE]
  clear hE
  go_enter Tryz.func146,Tryz.ntmps146
  go_wp2_with fail
  go_ret
  exact⟨rfl,L⟩
 by_cases h4:4<c.kd
 ·rw[if_pos (.inr h4)]at hE
  rw[hE]
  clear hE
  go_enter Tryz.func146,Tryz.ntmps146
  go_wp2_with fail
  go_ret
  exact⟨rfl,L⟩
 rw[if_neg (by rintro (h|h)<;>contradiction)]at hE
 cases sh
 ·rw[if_pos rfl]at hE
  rw[hE]
  clear hE
  go_enter Tryz.func146,Tryz.ntmps146
  go_wp2_with (first
   | (refine Qc3 rfl _ rfl hb rfl ?_)
   | fail)
  refine (hS.out _).mono ?_
  rintro e w1 ⟨rfl,l1⟩
  go_wp2_with fail
  go_ret
  exact⟨rfl,L.trans l1⟩
 rw[if_neg (by decide)]at hE
 by_cases hd:1000000<c.dl
 ·rw[if_pos hd]at hE
  rw[hE]
  clear hE
  go_enter Tryz.func146,Tryz.ntmps146
  go_wp2_with (first
   | (refine Qc3 rfl _ rfl hb rfl ?_)
   | fail)
  refine (hS.out _).mono ?_
  rintro e w1 ⟨rfl,l1⟩
  replace c2:=(l1.below.cell (p:=⟨w.heap.size,2,none⟩) hb.lt).trans c2
  go_wp2_with fail
  go_ret
  exact⟨rfl,L.trans l1⟩
 ·rw[if_neg hd]at hE
  rw[hE]
  clear hE
  go_enter Tryz.func146,Tryz.ntmps146
  go_wp2_with (first
   | (refine Qc3 rfl _ rfl hb rfl ?_)
   | fail)
  refine (hS.out _).mono ?_
  rintro e w1 ⟨rfl,l1⟩
  replace c2:=(l1.below.cell (p:=⟨w.heap.size,2,none⟩) hb.lt).trans c2
  go_wp2_with fail
  go_ret
  exact⟨rfl,L.trans l1⟩
def FC (key:List UInt8) (n:Nat):List Value:=key.map W8++[.int .i64 (n:Int)]
theorem QvH {key:List UInt8} (h:key.length=32) (n:Nat):(FC key n).length=33:=by simp[FC,h]
theorem QoX {key:List UInt8} (h:key.length=32) (n:Nat):(FC key n)[32]?=some (.int .i64 (n:Int)):=by
 rw[FC,QGE (by rw[QGr,h];omega),QGr,h]
 rfl
theorem QCm {key:List UInt8} (h:key.length=32) (n m:Nat):(FC key n).set 32 (.int .i64 (m:Int))=FC key m:=by
 rw[FC,QG1 _ _ (by rw[QGr,h];omega),QGr,h]
 rfl
set_option maxRecDepth 100000 in
set_option maxHeartbeats 4000000 in
theorem QyK (A:Option Addr) (c:Nat) (key:List UInt8) (w:World) (hk:RdB w A 32 key):
 Calls Tryz.prog 149 #[.slice A 32 c] w fun e w'=>∃g,e= .returned (.tuple #[.pointer (some ⟨g,0,none⟩),.int .i64 0])∧w.heap.size≤g∧Blk w' g 302 (FC key 0)∧Later w w':=by
 have hkl:=hk.len
 have hz:Tryz.prog.built 302 []=some (QGn 32 (Value.int .u8 0)++[Value.int .i64 0]).toArray:=by kernel_rfl
 have hsp:Qar (QGn 32 (Value.int .u8 0)++[Value.int .i64 0]) 0 ((key.map W8).take 32)=FC key 0:=by
  rw[QGD (by rw[QGr];omega),Qar,QGr,hkl,FC]
  rfl
 have hb:=Blk.new w 302 (QGn 32 (Value.int .u8 0)++[Value.int .i64 0])
 have L:=Qaa w (.cells (QGn 32 (Value.int .u8 0)++[Value.int .i64 0]).toArray 302)
 have hll:(QGn 32 (Value.int .u8 0)++[Value.int .i64 0]).length=33:=by simp
 generalize QGn 32 (Value.int .u8 0)++[Value.int .i64 0]=Z at *
 go_enter Tryz.func149,Tryz.ntmps149
 go_wp2_with (first
  | (refine Qap rfl _ _ rfl Z ?hb ?_;(case hb=>simp only[QGC,QGH];exact hz))
  | (refine Qax rfl _ _ _ _ rfl 5 Tryz.underlying22 Qb2 w.heap.size 0 32 32 _ _ hb A 32 c (key.map W8) (hk.later L) (QaX _) rfl rfl (by omega) ?_;intro w2 hb2 ho2;rw[hsp]at hb2)
  | fail)
 go_ret2
 exact⟨_,rfl,QGx _,hb2,L.only ho2 (QGx _)⟩
set_option maxRecDepth 100000 in
set_option maxHeartbeats 4000000 in
theorem Qu6 (g n:Nat) (key:List UInt8) (w0 w:World) (hb:Blk w g 302 (FC key 0)) (hk:key.length=32) (hl:Later w0 w) (hg:w0.heap.size≤g) (hn:n≤65536):
 Calls Tryz.prog 174 #[.pointer (some ⟨g,0,none⟩),.int .i64 (n:Int)] w fun e w'=>∃A' c',e= .returned (.tuple #[.slice A' n c',.int .i64 0])∧OwnB w' w0.heap.size A' n c' (chaS key n)∧Later w0 w':=by
 have h1:decide ((n:Int)<0)=false:=decide_eq_false (by omega)
 have h2:decide ((65536:Int)<(n:Int))=false:=decide_eq_false (by omega)
 have hu:=hb.cellD 32 (QoX hk 0)
 have hfl:=QvH hk 0
 have hset:=hid (QCm hk 0 n)
 have hP:=hid (fun (w:World) h=>Qnx (some ⟨g,0,none⟩) 32 n key w h hn)
 have hcl:=hid (fun (w:World) (h:Blk w g 302 (FC key 0))=>(show RdB w (some ⟨g,0,none⟩) 32 key from Qf7 h hk))
 have hlt:=hb.lt
 have hSl:=QaE key n
 have hF:Hid ((FC key 0)[32]?=some (.int .i64 0)):=hid (QoX hk 0)
 generalize FC key 0=F0 at *
 generalize FC key n=Fn at *
 generalize chaS key n=S at *
 go_enter Tryz.func174,Tryz.ntmps174
 go_wp2_with fail
 refine Qaf [([0,1,2,3,4,5,6,7,8],9)] [10] [] (by as_aux_lemma=>kernel_rfl) (by as_aux_lemma=>kernel_rfl) (by intro _ _ d _ _ h;cases d<;>exact h) ?_
 simp only[Qaj,pick,QGo,QGp,QGs,QGu,QGv]
 repeat (go_big_quiet_step (fail))
 refine wpQuiet_nil ?_
 go_wp2_with fail
 (with_reducible refine (hP.out _ (hcl.out _ hb.drew)).mono ?_);rintro e w2 ⟨A2,c2,rfl,o2,l2⟩
 go_wp2_with fail
 try refine⟨by first|assumption|exact Qab _|exact Qaa _ _|exact Later.refl _,?_⟩
 try simp only[Qaj,pick,QGo,QGp,QGs,QGu,QGv]
 repeat (go_big_quiet_step (fail))
 refine wpQuiet_nil ?_
 have hb2:=(hb.later (Qab _)).later l2
 have hu2:=hb2.cellD 32 hF.out
 go_wp2_with (first
  | (refine Qad rfl rfl _ _ _ rfl g 32 _ _ hb2 rfl (by omega) rfl (by kernel_rfl) ?_;intro v3 w3 hv3 hb3 ho3)
  | fail)
 go_ret2
 have hbase:∀b,(Value.slice A2 n c2).ownBlock=some b→b≠g:=fun b hb' e=>by
  have:=(World.ownsRow.lt o2 b hb').1
  simp at this
  omega
 exact⟨_,_,rfl,Qcq (Qiu o2 ho3 hbase) (by have:=hl.size;simpa using this),((hl.trans (Qab _)).trans l2).only ho3 hg⟩
set_option maxRecDepth 100000 in
set_option maxHeartbeats 4000000 in
theorem QsQ (g m d:Nat) (B:Option Addr) (key:List UInt8) (ps:List (List UInt8)) (w0 w:World) (hp:Parts w0 (fun _=>False) B m ps) (hm:m≤1048576) (hb:Blk w g 302 (FC key 0)) (hk:key.length=32) (hl:Later w0 w) (hg:w0.heap.size≤g) (hn:ps.flatten.length≤65536):
 Calls Tryz.prog 150 #[.pointer (some ⟨g,0,none⟩),.slice B m d] w fun e w'=>∃A' c',e= .returned (.tuple #[.slice A' ps.flatten.length c',.int .i64 0])∧OwnB w' w0.heap.size A' ps.flatten.length c' (xorB ps.flatten (chaS key ps.flatten.length))∧Later w0 w':=by
 have hpl:=hp.len
 have hN:=hid (fun n h (w:World) (hb:Blk w g 302 (FC key 0)) hl=>Qu6 g n key w0 w hb hk hl hg h)
 have hJ:=hid (fun (w:World) h=>QcT B m d ps w h (by omega) (by omega))
 have hSl:=QaE key ps.flatten.length
 have hF:Hid ((FC key 0)[32]?=some (.int .i64 0)):=hid (QoX hk 0)
 have hft:=hid (fun k=>QeQ ps k)
 have hle:=hid (fun k=>Qda ps k)
 have hX:=hid (fun (w:World) C e h=>Qm1 C e ps.flatten.length ps.flatten (chaS key ps.flatten.length) w h rfl hSl (by omega))
 have hall:ps.take m=ps:=by rw[←hpl,List.take_length]
 generalize hS:chaS key ps.flatten.length=S at *
 generalize xorB ps.flatten S=X at *
 generalize FC key 0=F0 at *
 generalize hTe:ps.flatten.length=T at *
 replace hS:=hid hS
 go_enter Tryz.func150,Tryz.ntmps150
 go_wp2_with fail
 go_loopw [6,8,13] (fun t _ i wr=>∃k:Nat,k≤m∧i= .int .i64 k∧t= .int .i64 ((ps.take k).flatten.length:Nat)∧Later w wr) (fun _ _ i _=>m-(intOf i).toNat)
 case atStart=>exact⟨0,by omega,rfl,rfl,Later.refl w⟩
 case round=>
  obtain⟨k,hk',rfl,rfl,L⟩:=hrel
  by_cases hlt:k<m
  ·obtain⟨b,o,Ak,nk,ck,rfl,hb',hck,hcap,hrd,_⟩:=hp.at_ hlt
   replace hck:=((hl.trans L).below.cell (p:=⟨b,o+k,none⟩) hb').trans hck
   replace hb':b<wr.heap.size:=QGN hb' (hl.trans L).size
   have hu:=(hb.later L).cellD 32 hF.out
   have e1:(ps.take (k+1)).flatten.length=(ps.take k).flatten.length+nk:=by
    have h1:=hrd.len
    have h2:k<ps.length:=by omega
    rw[hft.out k h2,QGy]
    rw[QGq,QGt h2,QIl]at h1
    rw[h1]
   have e2:=hle.out (k+1)
   generalize (ps.take k).flatten.length=s at *
   generalize hs':(ps.take (k+1)).flatten.length=s' at *
   replace hs':=hid hs'
   have hcmp:decide ((65536:Int)-(s:Int)<(nk:Int))=false:=decide_eq_false (by omega)
   go_wp2
   exact⟨⟨k+1,by omega,by go_num,by rw[hs'.out,e1];go_num,L⟩,by simp[intOf];omega⟩
  ·obtain rfl:k=m:=by omega
   rw[hall,hTe]
   go_wp2_with fail
   (with_reducible refine (hN.out T hn _ (hb.later L) (hl.trans L)).mono ?_);rintro e w2 ⟨A2,c2,rfl,o2,l2⟩
   rw[hS.out]at o2
   go_wp2_with fail
   (with_reducible refine (hJ.out _ (hp.later l2)).mono ?_);rintro e w3 ⟨A3,c3,rfl,o3,l3⟩
   go_wp2_with fail
   have P4:Parts (w3.alloc (.cells #[.slice A3 T c3,.slice A2 T c2] 22)) (fun _=>False) (some ⟨w3.heap.size,0,none⟩) 2 [ps.flatten,S]:=
    Qe4 (Blk.new w3 22 [.slice A3 T c3,.slice A2 T c2]) (Qba (o3.rd.later (Qaa _ _)) o3.cap) (Qba ((o2.later l3).rd.later (Qaa _ _)) o2.cap)
   (with_reducible refine (hX.out _ _ _ P4).mono ?_);rintro e w5 ⟨A5,c5,rfl,o5,l5⟩
   have L5:=((l2.trans l3).trans (Qaa w3 _)).trans l5
   go_wp2_with fail
   go_ret2
   exact⟨_,_,rfl,o5.mono ((l2.trans l3).trans (Qaa w3 _)).size,L5⟩
set_option maxRecDepth 100000 in
set_option maxHeartbeats 4000000 in
theorem Qi4 (A:Option Addr) (c m d:Nat) (B:Option Addr) (key:List UInt8) (ps:List (List UInt8)) (w:World) (hk:RdB w A 32 key) (hp:Parts w (fun _=>False) B m ps) (hm:m≤1048576) (hn:ps.flatten.length≤65536):
 Calls Tryz.prog 116 #[.slice A 32 c,.slice B m d] w fun e w'=>∃A' c',e= .returned (.tuple #[.slice A' ps.flatten.length c',.int .i64 0])∧OwnB w' w.heap.size A' ps.flatten.length c' (xorB ps.flatten (chaS key ps.flatten.length))∧Later w w':=by
 have hT:=hid (fun g (w':World) hb hl hg=>QsQ g m d B key ps w w' hp hm hb hk.len hl hg hn)
 generalize xorB ps.flatten (chaS key ps.flatten.length)=X at *
 generalize ps.flatten.length=T at *
 go_enter Tryz.func116,Tryz.ntmps116
 go_wp2_with fail
 (with_reducible refine (QyK A c key _ hk).mono ?_);rintro e w1 ⟨g,rfl,hg,hb,l1⟩
 go_wp2_with fail
 (with_reducible refine (hT.out g _ hb l1 hg).mono ?_);rintro e w2 ⟨A2,c2,rfl,o2,l2⟩
 go_wp2_with fail
 go_ret2
 exact⟨_,_,rfl,o2,l2⟩
theorem Qc5:(Tryz.prog.info? 34).map (·.size)=some 288:=by kernel_rfl
theorem Qcb:(Tryz.prog.info? 37).map (·.size)=some 768:=by kernel_rfl
theorem QBp:(Tryz.prog.info? 32).map (·.size)=some 240:=by kernel_rfl
theorem QBZ:(Tryz.prog.info? 37).bind (·.zero)=some (.agg (QGn 768 (W8 0)).toArray):=by kernel_rfl
theorem zcH:Tryz.zeroCells34.toList=(QGn 288 (0:UInt8)).map W8:=by rw[QG8];kernel_rfl
theorem zcP:Tryz.zeroCells37.toList=(QGn 768 (0:UInt8)).map W8:=by rw[QG8];kernel_rfl
theorem Qsz:Tryz.prog.built 34 []=some ((QGn 288 (0:UInt8)).map W8).toArray:=by rw[QG8];kernel_rfl
theorem QhE:Tryz.prog.built 37 []=some ((QGn 768 (0:UInt8)).map W8).toArray:=by rw[QG8];kernel_rfl
theorem QkU (h:List UInt8) (hl:h.length=288):Tryz.prog.built 37 [(0,.agg (h.map W8).toArray)]=some ((h++QGn 480 0).map W8).toArray:=by
 have hb:=QgP (n:=768) (pl:=[(0,288),(288,480)]) Tryz.underlying37 QBZ (by kernel_rfl) [(0,0,h)] (by
  intro x hx
  simp only[QGJ,QGK,or_false]at hx
  subst hx
  simp only[hl];decide)
 rw[show Qgq (QGn 768 0) ([(0,0,h)].map fun x=>(x.2.1,x.2.2))=h++QGn 480 0 by
  simp only[QGR,QGH,Qgq]
  rw[show QGn 768 (0:UInt8)=QGn 288 0++QGn 480 0 by rw[QHI],Qe1 _ _ _ (by rw[QGA,hl])]]at hb
 exact hb
theorem Qit (bs:List UInt8) (n:Nat) (h:bs.length=n):subB bs 0 n=bs:=by rw[subB,QIk,QGD (by omega)]
section
variable {ops:Array Oper} {rest:List Oper} {o:Oper} {a:Act} {w:World} {Q:Exit→Act→World→Prop}
theorem Qee (hgd:o.guard=none) (hd:o.dst=none) (x y:Operand) (ho:o.op= .store 34 x y) {g:Nat} {t:TypeId} {l:List Value} {bs:List UInt8} (hg:Blk w g t l) (hx:a.eval x= .pointer (some ⟨g,0,none⟩)) (hy:a.eval y= .agg (bs.map W8).toArray) (hbl:bs.length=288) (hl:l.length=288)
 (h:∀w',Blk w' g t (bs.map W8)→Only g w w'→wpList Tryz.prog ops Q rest a w'):wpList Tryz.prog ops Q (o :: rest) a w:=
 QhO 288 hgd hd x y ho hg hx hy Qc5 hbl hl h
theorem QkZ (hw:Region.wanted o (yielded ops a.tmps)=true) (x:Operand) (ho:o.op= .load 34 x) {g:Nat} {t:TypeId} {bs:List UInt8} (hb:Blk w g t (bs.map W8)) (hl:bs.length=288) (hx:a.eval x= .pointer (some ⟨g,0,none⟩))
 (h:wpList Tryz.prog ops Q rest (a.put o.dst (.agg (bs.map W8).toArray)) w):wpList Tryz.prog ops Q (o :: rest) a w:=
 QqD 0 288 hw x ho hb hx Tryz.underlying34 rfl Qc5 (Qit _ _ hl) hl h
theorem Qbd (hgd:o.guard=none) (hd:o.dst=none) (x y:Operand) (ho:o.op= .store 37 x y) {g:Nat} {t:TypeId} {l:List Value} {bs:List UInt8} (hg:Blk w g t l) (hx:a.eval x= .pointer (some ⟨g,0,none⟩)) (hy:a.eval y= .agg (bs.map W8).toArray) (hbl:bs.length=768) (hl:l.length=768)
 (h:∀w',Blk w' g t (bs.map W8)→Only g w w'→wpList Tryz.prog ops Q rest a w'):wpList Tryz.prog ops Q (o :: rest) a w:=
 QhO 768 hgd hd x y ho hg hx hy Qcb hbl hl h
theorem QhV (hw:Region.wanted o (yielded ops a.tmps)=true) (x:Operand) (ho:o.op= .load 37 x) {g:Nat} {t:TypeId} {bs:List UInt8} (hb:Blk w g t (bs.map W8)) (hl:bs.length=768) (hx:a.eval x= .pointer (some ⟨g,0,none⟩))
 (h:wpList Tryz.prog ops Q rest (a.put o.dst (.agg (bs.map W8).toArray)) w):wpList Tryz.prog ops Q (o :: rest) a w:=
 QqD 0 768 hw x ho hb hx Tryz.underlying37 rfl Qcb (Qit _ _ hl) hl h
end
theorem QvN (b:List UInt8) (h:b.length=288):putB (putB (putB (QGn 288 0) 0 (b.take 32)) 32 ((b.drop 32).take 16)) 48 (b.drop 48)=b:=by
 have e1:b=b.take 32++((b.drop 32).take 16++b.drop 48):=by
  rw[show b.drop 48=(b.drop 32).drop 16 by rw[QHY],QGX,QGX]
 have l1:(b.take 32).length=32:=by simp;omega
 have l2:((b.drop 32).take 16).length=16:=by simp;omega
 have l3:(b.drop 48).length=240:=by simp;omega
 generalize b.take 32=p at *
 generalize (b.drop 32).take 16=q at *
 generalize b.drop 48=r at *
 rw[show QGn 288 (0:UInt8)=QGn 32 0++(QGn 16 0++QGn 240 0) by simp,Qe1 _ _ _ (by rw[QGA,l1]),QcC _ _ _ _ 32 l1 (by rw[QGA,l2]),←QGI,QeT _ _ _ 48 (by rw[QGy,l1,l2]) (by rw[QGA,l3]),QGI,e1]
set_option maxRecDepth 100000 in
set_option maxHeartbeats 4000000 in
theorem Qsf (A:Option Addr) (c:Nat) (b:List UInt8) (w:World) (hb:RdB w A 288 b) (hc:288≤c):
 Calls Tryz.prog 55 #[.slice A 288 c] w fun e w'=>e= .returned (.tuple #[.agg (b.map W8).toArray,.int .i64 0])∧Later w w':=by
 have hbl:=hb.len
 obtain⟨b0,p,rfl,hb00,_⟩:=hb.2 (by omega)
 have B0:Bag w (w.alloc (.cells Tryz.zeroCells34 34)) [(w.heap.size,34,(QGn 288 (0:UInt8)).map W8)]:=(Bag.none w).add (Qaa _ _) (by simp) (QGx _) ((Blk.new w _ Tryz.zeroCells34.toList).cast zcH)
 have hp:=QvN b hbl
 have l0:(QGn 288 (0:UInt8)).length=288:=by simp
 have HZ:=hid zcH
 generalize hZ:QGn 288 (0:UInt8)=Z at *
 have l1:(putB Z 0 (b.take 32)).length=288:=by rw[QbE (by rw[QGP];omega)];exact l0
 have l2:(putB (putB Z 0 (b.take 32)) 32 ((b.drop 32).take 16)).length=288:=by rw[QbE (by rw[QGP,QGQ];omega)];exact l1
 have e3:((b.drop 48).take 240)=b.drop 48:=QGD (by rw[QGQ];omega)
 have HE:=hid e3
 have HP:=hid hp
 clear e3 hp hZ
 have hc32:cutA (some ⟨b0,p,none⟩) 32 c=some ⟨b0,p+32,none⟩:=by rw[cutA,if_neg (by omega)];rfl
 have hc48:cutA (some ⟨b0,p,none⟩) 48 c=some ⟨b0,p+48,none⟩:=by rw[cutA,if_neg (by omega)];rfl
 have h32:Hid (∀ w,RdB w (some ⟨b0,p,none⟩) 288 b→RdB w (some ⟨b0,p+32,none⟩) 256 (b.drop 32)):=hid (fun w h=>by rw[←hc32];exact RdB.cut h (by omega) hc)
 have h48:Hid (∀ w,RdB w (some ⟨b0,p,none⟩) 288 b→RdB w (some ⟨b0,p+48,none⟩) 240 (b.drop 48)):=hid (fun w h=>by rw[←hc48];exact RdB.cut h (by omega) hc)
 generalize hZ2:putB (putB Z 0 (b.take 32)) 32 ((b.drop 32).take 16)=Z2 at *
 generalize hZ1:putB Z 0 (b.take 32)=Z1 at *
 have H1:=hid hZ1
 have H2:=hid hZ2
 have hzl:(Z.map W8).length=288:=by rw[QGr];exact l0
 clear hZ1 hZ2
 go_enter Tryz.func55,Tryz.ntmps55
 have hrr:=hb.later (B0.lat.trans (Qaa _ (.cells Tryz.zeroCells34 34)))
 have hbb:=(Blk.new' (n:=w.heap.size+1) (w.alloc (.cells Tryz.zeroCells34 34)) 34 Tryz.zeroCells34.toList (by simp)).cast HZ.out
 go_wp2_with (first
  | (refine Qax rfl _ _ _ _ rfl 5 Tryz.underlying22 Qb2 (w.heap.size+1) 0 32 32 _ _ hbb (some ⟨b0,p,none⟩) 288 c (b.map W8) hrr (QaX _) rfl rfl (by rw[QGr];omega) ?_;intro w1 hb1 ho1;rw[←QH0,QcK,H1.out]at hb1
     have B1:=B0.push (Qaa _ _) (by simp) ho1 hb1)
  | fail)
 clear hb1 ho1 B0 hrr hbb
 generalize w.heap.size+1=g at *
 have B2:=B1.drew
 simp only[Act.put,QGw,QGB,QGz]
 refine Qaf [] [0,1,2,3] [4] (by as_aux_lemma=>kernel_rfl) (by as_aux_lemma=>kernel_rfl) (by intro _ _ d _ _ h;cases d<;>exact h) ?_
 simp only[Qaj,pick,QGo,QGp,QGs,QGu,QGv]
 repeat (go_big_quiet_step (fail))
 refine wpQuiet_nil ?_
 go_wp2_with (first
  | (refine Qax rfl _ _ _ _ rfl 5 Tryz.underlying22 Qb2 g 32 16 16 _ _ (B2.nth 0 rfl) (some ⟨b0,p+32,none⟩) 256 (c-32) ((b.drop 32).map W8) (h32.out _ (hb.later B2.lat)) (QaX _) rfl rfl (by rw[QGr];omega) ?_;intro w3 hb3 ho3;rw[←QH0,QcK,H2.out]at hb3
     have B3:=(B2.write 0 rfl ho3 hb3).drew)
  | fail)
 clear hb3 ho3 B1 B2
 simp only[Act.put,QGw,QGB,QGz]
 refine Qaf [] [0,1,2,3] [4] (by as_aux_lemma=>kernel_rfl) (by as_aux_lemma=>kernel_rfl) (by intro _ _ d _ _ h;cases d<;>exact h) ?_
 simp only[Qaj,pick,QGo,QGp,QGs,QGu,QGv]
 repeat (go_big_quiet_step (fail))
 refine wpQuiet_nil ?_
 go_wp2_with (first
  | (refine Qax rfl _ _ _ _ rfl 5 Tryz.underlying22 Qb2 g 48 240 240 _ _ (B3.nth 0 rfl) (some ⟨b0,p+48,none⟩) 240 (c-48) ((b.drop 48).map W8) (h48.out _ (hb.later B3.lat)) (QaX _) rfl rfl (by rw[QGr];omega) ?_;intro w4 hb4 ho4;rw[←QH0,QcK,HE.out,HP.out]at hb4
     have B4:=B3.write 0 rfl ho4 hb4)
  | (refine QkZ rfl _ rfl (B4.nth 0 rfl) hbl rfl ?_)
  | (refine Qee rfl rfl _ _ rfl (B4.nth 1 rfl) rfl rfl hbl hzl ?_;intro w9 hb9 ho9)
  | fail)
 exact bodyPost_ret (Qac rfl _ _ _ _ _ _ hb9 rfl Tryz.underlying34 rfl (by rw[QGr,hbl];exact Qc5)) rfl ⟨rfl,(B4.write 1 rfl ho9 hb9).lat⟩
end Go.Proofs.YtdhgpkdjdmlphaaGreat
