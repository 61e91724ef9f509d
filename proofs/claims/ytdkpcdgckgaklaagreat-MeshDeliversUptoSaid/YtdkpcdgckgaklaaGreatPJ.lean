/-
  Lemmas for the last text of this claim (part 10 of 20).
-/
import Derived.ArgAppend
import Derived.BigQuiet
import Derived.BigRegion
import Derived.ChangeOld
import Derived.Deep.RegionWith
import Derived.DeepKeys4
import Derived.JoinedCond
import Derived.LaidMore
import Derived.Laws.CopyOwn
import Derived.Laws.Externs
import Derived.Laws.IdiomStrings
import Derived.Laws.Tables
import Derived.Lib.AppendStr
import Derived.Lib.AppendZerosOnto
import Derived.Lib.Mul64
import Derived.Lib.SlBytesConst
import Derived.LoopN
import Derived.Maps.OwnSet
import Derived.OpenShut
import Derived.OrdersHeld
import Derived.ProofKit
import Derived.Shelf.Spec.BitsCarry
import Derived.ShutString
import Derived.Test.YtdkpcdgckgaklaaGreatProg
import Derived.Test.YtdkpcdgckgaklaaGreatRows
import Derived.WalkKit
import Derived.WalkLawsBesides
import Derived.WalkSpells
import Derived.Test.YtdkpcdgckgaklaaGreatPA
import Derived.Test.YtdkpcdgckgaklaaGreatPB
import Derived.Test.YtdkpcdgckgaklaaGreatPC
import Derived.Test.YtdkpcdgckgaklaaGreatPD
import Derived.Test.YtdkpcdgckgaklaaGreatPG
import Derived.Test.YtdkpcdgckgaklaaGreatPH
import Derived.Test.YtdkpcdgckgaklaaGreatPI
open Bool renaming and_eq_true → QCG
open List renaming replicate → QCn, getElem?_cons_succ → QCo, getElem?_cons_zero → QCp, cons_append → QCr, nil_append → QCs, length_map → QCt, getD_eq_getElem?_getD → QCu, getElem?_eq_getElem → QCv, length_append → QCB, map_nil → QCC, getElem?_append_left → QCD, take_of_length_le → QCE, getElem?_map → QCH, length_replicate → QCJ, getElem?_eq_some_iff → QCK, append_assoc → QCL, length_take → QCP, mem_cons → QCQ, map_cons → QCR, not_mem_nil → QCT, set_append_right → QCX, length_set → QCZ, range → QC5, map_append → QC6, mem_map → QC7, all_eq_true → QDa, mem_append → QDc, length_cons → QDj, take_append_of_le_length → QDk, getElem_mem → QDn, all_cons → QDA, flatMap_append → QDZ, nodup_cons → QEf, replicate_succ → QEj, range_succ → QEp, any_eq_true → QEq, map_set → QEy
open Nat renaming le_refl → QCx, zero_add → QCI, mod_eq_of_lt → QCO, le_trans → QC4, mod_mod → QDY, mul_mod → QEb
open Option renaming toList_some → QCq
open UInt32 renaming ofNat → QCW
open UInt64 renaming ofInt → QDy
open UInt8 renaming toNat_inj → QDl
set_option linter.all false
namespace Go.Proofs.YtdkpcdgckgaklaaGreat
open Go.RowKit
section
variable {w wk v:World} {ls ls':List (Nat×TypeId×List Value)}
theorem Bag.fresh (h:Bag w wk ls) {k:Nat} {t:TypeId} {l:List Value} (j:Later wk v) (hk:wk.heap.size≤k) (hb:Blk v k t l):Bag w v ((k,t,l) :: ls):=
 h.add j (fun p hp e=>by have:=(h.blk p hp).lt;omega) (QC4 h.lat.size hk) hb
theorem Bag.sub (h:Bag w wk ls) (hs:ls'.Sublist ls):Bag w wk ls':=
 ⟨h.lat,fun p hp=>h.blk p (hs.subset hp),fun p hp=>h.low p (hs.subset hp),(hs.map _).nodup h.nd⟩
theorem Bag.grownRow (h:Bag w wk ls) {base n:Nat} {e:TypeId} {vr:Value} {vs:List Value} (hr:wk.ownsRow base e 1 vr n vs) (hne:∀p∈ls,p.2.1≠e) (hg:wk.grownBy v vr.ownBlock) (hl:Later w v):Bag w v ls:=
 ⟨hl,fun p hp=>QgE (h.blk p hp) hr (hne p hp) hg,h.low,h.nd⟩
end
theorem QgC {w:World} {base g n:Nat} {e t:TypeId} {v:Value} {vs l:List Value} (h:w.ownsRow base e 1 v n vs) (hb:Blk w g t l) (hne:t≠e):v.ownBlock≠some g:=by
 intro hv
 rcases h.2 with ⟨rfl,_⟩|⟨g2,c2,cur2,rfl,_,hh2,_⟩
 ·cases hv
 ·cases hv
  exact hb.ne_type (l':=cur2.toList) (t':=e) hh2 hne rfl
theorem Qvo {w:World} {base g n:Nat} {e:TypeId} {l:List Value} (h:Blk w g e l) (hb:base≤g) (hl:l.length=n) (hm:n≤140737488355328):w.ownsRow base e 1 (.slice (some ⟨g,0,none⟩) n n) n l:=by
 have:=Qck h hb (by omega)
 rwa [hl]at this
theorem QdA {w:World} {g n:Nat} {t:TypeId} {bs:List UInt8} {rest:List Value} (h:Blk w g t (bs.map W8++rest)) (hn:bs.length=n):RdB w (some ⟨g,0,none⟩) n bs:=
 ⟨by rw[QCt,hn],fun _=>⟨g,0,rfl,h.lt,fun j u hu=>by
   rw[QCI]
   refine h.cellD j ?_
   rw[QCD (QCK.1 hu).1]
   exact hu⟩⟩
theorem QjU {w:World} {g:Nat} {t:TypeId} {v:Value} {p:List UInt8} (hb:Blk w g t [v]) (hp:Part w (fun _=>False) v p):Parts w (fun _=>False) (some ⟨g,0,none⟩) 1 [p]:=
 ⟨[v],hb.rd rfl,Qcr _ _,rfl,fun j v' p' hv hp'=>by
   cases j with
   | zero=>
     cases hv
     cases hp'
     exact hp
   | succ j=>simp at hv⟩
theorem Qc4 {w:World} {g:Nat} {t:TypeId} {v1 v2:Value} {p1 p2:List UInt8} (hb:Blk w g t [v1,v2]) (h1:Part w (fun _=>False) v1 p1) (h2:Part w (fun _=>False) v2 p2):Parts w (fun _=>False) (some ⟨g,0,none⟩) 2 [p1,p2]:=
 ⟨[v1,v2],hb.rd rfl,Qcr _ _,rfl,fun j v' p' hv hp'=>by
   match j with
   | 0=>
     cases hv
     cases hp'
     exact h1
   | 1=>
     cases hv
     cases hp'
     exact h2
   | j+2=>simp at hv⟩
theorem QfB {w:World} {base n c:Nat} {A:Option Addr} {bs:List UInt8} (h:OwnB w base A n c bs) (hn:0<n):∃g rest,A=some ⟨g,0,none⟩∧base≤g∧Blk w g 5 (bs.map W8++rest)∧c=(bs.map W8++rest).length∧n≤c:=by
 rcases Qkz h with ⟨_,h0⟩|⟨g,rest,e,h1,h2,h3⟩
 ·omega
 ·exact⟨g,rest,e,h1,h2,h3,h.cap⟩
theorem QhO {ls:List (Nat×TypeId×List Value)} {t:TypeId} (h: ¬t∈ls.map (·.2.1)):∀p∈ls,p.2.1≠t:=fun p hp e=>h (QC7.2 ⟨p,hp,e⟩)
theorem QeL {w:World} {A:Option Addr} {n c:Nat} {p:List UInt8} (h:RdB w A n p) (hc:n≤c):Part w (fun _=>False) (.slice A n c) p:=⟨A,n,c,rfl,hc,h,fun _ _ _ h=>h⟩
end Go.Proofs.YtdkpcdgckgaklaaGreat
namespace Go.Proofs.YtdkpcdgckgaklaaGreat
open Go.RowKit
open Go.BigFrame
def rotl (x:UInt32) (n:Nat):UInt32:=QeY x n ||| Qcg x (32-n)
theorem Qp1 (n:Nat) (h1:n<32):cnt (QDy (n:Int) &&& 31)=n∧cnt (32-(QDy (n:Int) &&& 31))=32-n:=by
 have:∀k:Fin 32,cnt (QDy (k.val:Int) &&& 31)=k.val∧cnt (32-(QDy (k.val:Int) &&& 31))=32-k.val:=by decide
 exact this ⟨n,h1⟩
theorem Qrv (x:UInt32) (n:Nat) (i:Int) (hi:i=(n:Int)) (h1:n<32) (w:World):
 Calls Tryz.prog 176 #[W32 x,.int .i64 i] w fun e w'=>e= .returned (W32 (rotl x n))∧w'=w:=by
 subst hi
 have hc:=hid (Qp1 n h1)
 go_enter Tryz.func176,Tryz.ntmps176
 go_wp2
 go_ret
 exact⟨Qrq (by rw[hc.out.1,hc.out.2,rotl]),rfl⟩
theorem Ql7 {fn:Func} {t u v x:Tmp} (h:fn.results= #[.tmp t,.tmp u,.tmp v,.tmp x]) (tmps:Array Value) (P:Program) (w:World):
 (results fn tmps).run P w= .ok (.tuple #[tmps.getD t undef,tmps.getD u undef,tmps.getD v undef,tmps.getD x undef]) w:=by
 simp[results,h]
def Qjd (v:UInt32×UInt32×UInt32×UInt32) (n:Nat):UInt32×UInt32×UInt32×UInt32:=(v.1+v.2.1,v.2.1,v.2.2.1,rotl (v.2.2.2 ^^^ (v.1+v.2.1)) n)
def Qmf (v:UInt32×UInt32×UInt32×UInt32) (n:Nat):UInt32×UInt32×UInt32×UInt32:=(v.1,rotl (v.2.1 ^^^ (v.2.2.1+v.2.2.2)) n,v.2.2.1+v.2.2.2,v.2.2.2)
def QhG (a b c d:UInt32):UInt32×UInt32×UInt32×UInt32:=Qmf (Qjd (Qmf (Qjd (a,b,c,d) 16) 12) 8) 7
set_option maxHeartbeats 1000000 in
theorem QmB (a b c d:UInt32) (w:World):Calls Tryz.prog 171 #[W32 a,W32 b,W32 c,W32 d] w fun e w'=>
 e= .returned (.tuple #[W32 (QhG a b c d).1,W32 (QhG a b c d).2.1,W32 (QhG a b c d).2.2.1,W32 (QhG a b c d).2.2.2])∧w'=w:=by
 have hr:=hid Qrv
 go_enter Tryz.func171,Tryz.ntmps171
 go_wp2_with fail
 refine (hr.out _ 16 _ rfl (by omega) _).mono ?_;rintro e w1 ⟨rfl,rfl⟩
 go_wp2_with fail
 refine (hr.out _ 12 _ rfl (by omega) _).mono ?_;rintro e w1 ⟨rfl,rfl⟩
 go_wp2_with fail
 refine (hr.out _ 8 _ rfl (by omega) _).mono ?_;rintro e w1 ⟨rfl,rfl⟩
 go_wp2_with fail
 refine (hr.out _ 7 _ rfl (by omega) _).mono ?_;rintro e w1 ⟨rfl,rfl⟩
 go_wp2_with fail
 (try simp only[Exit.inBlock,Exit.then]);refine bodyPost_ret (Ql7 rfl _ _ _) rfl ?_
 exact⟨rfl,rfl⟩
def leW (bs:List UInt8) (k:Nat):UInt32:=(Qb1 bs (4*k)).toUInt32 ||| QeY (Qb1 bs (4*k+1)).toUInt32 8 ||| QeY (Qb1 bs (4*k+2)).toUInt32 16 ||| QeY (Qb1 bs (4*k+3)).toUInt32 24
theorem QoR {x y:UInt32} {w:World} (h:x=y) (w':World) (hl:Later w w'):Ending.returned (W32 x)= .returned (W32 y)∧Later w w':=⟨by rw[h],hl⟩
set_option maxHeartbeats 1000000 in
theorem Qw5 (A:Option Addr) (n c:Nat) (bs:List UInt8) (p:Nat) (w:World) (hr:RdB w A n bs) (hk:p+4≤n) (hn:n≤140737488355328):
 Calls Tryz.prog 170 #[.slice A n c,.int .i64 (p:Int)] w fun e w'=>e= .returned (W32 ((Qb1 bs p).toUInt32 ||| QeY (Qb1 bs (p+1)).toUInt32 8 ||| QeY (Qb1 bs (p+2)).toUInt32 16 ||| QeY (Qb1 bs (p+3)).toUInt32 24))∧Later w w':=by
 have hl:=hr.len
 obtain⟨b,o,rfl,hb,hc⟩:=hr.at_ (by omega)
 have c0:=hc p (by omega)
 have c1:=hc (p+1) (by omega)
 have c2:=hc (p+2) (by omega)
 have c3:=hc (p+3) (by omega)
 unfold Qb1
 generalize bs.getD p 0=x0 at *
 generalize bs.getD (p+1) 0=x1 at *
 generalize bs.getD (p+2) 0=x2 at *
 generalize bs.getD (p+3) 0=x3 at *
 clear hc hr
 go_enter Tryz.func170,Tryz.ntmps170
 go_wp2_with fail
 refine Qad [] [0,1,2,3,4,5,6,7,8,9,10,11,12,13,14,15,16,17,18,19,20,21,22,23,24,25,26,27,28,29] [] (by as_aux_lemma=>kernel_rfl) (by as_aux_lemma=>kernel_rfl) (by intro _ _ d _ _ h;cases d<;>exact h) ?_
 simp only[Qai,pick,QCo,QCp,QCq,QCr,QCs]
 repeat (go_big_quiet_step (fail))
 refine wpQuiet_nil ?_
 go_wp2_with fail
 go_ret
 exact QoR rfl _ (Qab _)
theorem Qn1 (A:Option Addr) (n c:Nat) (bs:List UInt8) (k:Nat) (i:Int) (hi:i=4*(k:Int)) (w:World) (hr:RdB w A n bs) (hk:4*k+4≤n) (hn:n≤140737488355328):
 Calls Tryz.prog 170 #[.slice A n c,.int .i64 i] w fun e w'=>e= .returned (W32 (leW bs k))∧Later w w':=by
 obtain rfl:i=((4*k:Nat):Int):=by omega
 exact Qw5 A n c bs (4*k) w hr hk hn
def putQ (s:List UInt32) (a b c d:Nat) (q:UInt32×UInt32×UInt32×UInt32):List UInt32:=(((s.set a q.1).set b q.2.1).set c q.2.2.1).set d q.2.2.2
def QdT (s:List UInt32) (a b c d:Nat):List UInt32:=putQ s a b c d (QhG (wAt s a) (wAt s b) (wAt s c) (wAt s d))
theorem QdB (s:List UInt32) (a b c d:Nat):(QdT s a b c d).length=s.length:=by simp[QdT,putQ]
theorem Qew {s:List UInt32} {i:Nat} (h:i<s.length):(s.map W32)[i]?=some (W32 (wAt s i)):=by
 rw[QCH,QCv h,wAt,QCu,QCv h]
 rfl
theorem QdO (s:List UInt32) (i:Nat) (x:UInt32):(s.map W32).set i (W32 x)=(s.set i x).map W32:=by rw[QEy]
theorem Qbx:(Tryz.prog.info? 96).map (·.size)=some 1:=by kernel_rfl
set_option maxRecDepth 100000 in
set_option maxHeartbeats 2000000 in
theorem Qsq (g:Nat) (t:TypeId) (s:List UInt32) (a b c d:Nat) (ia ib ic id:Int) (ha:ia=(a:Int)) (hb:ib=(b:Int)) (hc:ic=(c:Int)) (hd:id=(d:Int)) (w:World) (hs:Blk w g t (s.map W32)) (hl:s.length=16) (h1:a<16) (h2:b<16) (h3:c<16) (h4:d<16):
 Calls Tryz.prog 166 #[.pointer (some ⟨g,0,none⟩),.int .i64 ia,.int .i64 ib,.int .i64 ic,.int .i64 id] w fun e w'=>e= .returned (.tuple #[])∧Blk w' g t ((QdT s a b c d).map W32)∧Only g w w':=by
 subst ha hb hc hd
 have d1:=hs.cellD a (Qew (s:=s) (by omega))
 have d2:=hs.cellD b (Qew (s:=s) (by omega))
 have d3:=hs.cellD c (Qew (s:=s) (by omega))
 have d4:=hs.cellD d (Qew (s:=s) (by omega))
 have hq:=hid QmB
 have hR:=hid (show QdT s a b c d=putQ s a b c d (QhG (wAt s a) (wAt s b) (wAt s c) (wAt s d)) from rfl)
 generalize QdT s a b c d=R at *
 generalize wAt s a=xa at *
 generalize wAt s b=xb at *
 generalize wAt s c=xc at *
 generalize wAt s d=xd at *
 go_enter Tryz.func166,Tryz.ntmps166
 go_wp2_with fail
 refine QhD [([0,1,2,3,4,5,6,7,34,37,40,43],[8,9,10,11,12,13,14,15,16,17,18,19,20,21,22,23,24,25,26,27],28)] [29,30,31,32,33] [35] [36,38,39,41,42,44,45] (by as_aux_lemma=>kernel_rfl) (by as_aux_lemma=>kernel_rfl) (by intro _ _ d _ _ h;cases d<;>exact h) ?_
 simp only[QgJ,pick,QCo,QCp,QCq,QCr,QCs]
 repeat (go_big_quiet_step (fail))
 refine wpQuiet_nil ?_
 repeat (go_big_quiet_step (fail))
 refine wpQuiet_nil ?_
 go_wp2_with fail
 refine (hq.out _ _ _ _ _).mono ?_;rintro e w1 ⟨rfl,rfl⟩
 generalize QhG xa xb xc xd=q at *
 obtain⟨qa,qb,qc,qd⟩:=q
 go_wp2_with fail
 try refine⟨by first|assumption|exact Qab _|exact Qaa _ _|exact Later.refl _,?_⟩
 try simp only[QgJ,pick,QCo,QCp,QCq,QCr,QCs]
 repeat (go_big_quiet_step (fail))
 refine wpQuiet_nil ?_
 repeat (go_big_quiet_step (fail))
 refine wpQuiet_nil ?_
 have hs':=hs.drew
 go_wp2_with (first
  | (refine Qac rfl rfl _ _ _ rfl g a t _ hs' rfl (by rw[QCt];omega) rfl Qbx ?_;intro v' w5 hv' hb5 ho5;simp[go_sem]at hv';subst hv';rw[QdO]at hb5)
  | (refine Qac rfl rfl _ _ _ rfl g b t _ hb5 rfl (by rw[QCt,QCZ];omega) rfl Qbx ?_;intro v' w6 hv' hb6 ho6;simp[go_sem]at hv';subst hv';rw[QdO]at hb6)
  | (refine Qac rfl rfl _ _ _ rfl g c t _ hb6 rfl (by rw[QCt,QCZ,QCZ];omega) rfl Qbx ?_;intro v' w7 hv' hb7 ho7;simp[go_sem]at hv';subst hv';rw[QdO]at hb7)
  | (refine Qac rfl rfl _ _ _ rfl g d t _ hb7 rfl (by rw[QCt,QCZ,QCZ,QCZ];omega) rfl Qbx ?_;intro v' w8 hv' hb8 ho8;simp[go_sem]at hv';subst hv';rw[QdO]at hb8)
  | fail)
 exact bodyPost_end (results_none rfl _ _ _) rfl ⟨rfl,by rw[hR.out];exact hb8,(Qab _).thenOnly (((ho5.trans ho6).trans ho7).trans ho8)⟩
def chaC:List UInt32:=[1634760805,857760878,2036477234,1797285236]
def Qkq (key:List UInt8) (k:Nat):List UInt32:=chaC++(QC5 k).map (leW key)++QCn (12-k) 0
def Qkr (key nonce:List UInt8) (ctr:UInt32) (k:Nat):List UInt32:=chaC++(QC5 8).map (leW key)++[ctr]++(QC5 k).map (leW nonce)++QCn (3-k) 0
def Qgk (key nonce:List UInt8) (ctr:UInt32):List UInt32:=chaC++(QC5 8).map (leW key)++[ctr]++(QC5 3).map (leW nonce)
theorem Qlh (key:List UInt8) (k:Nat) (h:k≤12):(Qkq key k).length=16:=by
 simp[Qkq,chaC]
 omega
theorem Qmo (key nonce:List UInt8) (ctr:UInt32) (k:Nat) (h:k≤3):(Qkr key nonce ctr k).length=16:=by
 simp[Qkr,chaC]
 omega
theorem Qfr (key nonce:List UInt8) (ctr:UInt32):(Qgk key nonce ctr).length=16:=by simp[Qgk,chaC]
theorem Qh9 {α:Type} (z:α) (pre:List α) (f:Nat→α) (k n:Nat) (h:k<n):(pre++(QC5 k).map f++QCn (n-k) z).set (pre.length+k) (f k)=pre++(QC5 (k+1)).map f++QCn (n-(k+1)) z:=by
 have e:n-k=(n-(k+1))+1:=by omega
 rw[e,QEj,QCX _ _ (by simp),QEp,QC6]
 simp
theorem Qpk (key:List UInt8) (k:Nat) (h:k<8):(Qkq key k).set (4+k) (leW key k)=Qkq key (k+1):=Qh9 0 chaC (leW key) k 12 (by omega)
theorem Qqr (key nonce:List UInt8) (ctr:UInt32) (k:Nat) (h:k<3):(Qkr key nonce ctr k).set (13+k) (leW nonce k)=Qkr key nonce ctr (k+1):=by
 have:=Qh9 0 (chaC++(QC5 8).map (leW key)++[ctr]) (leW nonce) k 3 h
 rw[show (chaC++(QC5 8).map (leW key)++[ctr]).length=13 by simp[chaC]]at this
 exact this
theorem Qzt (key nonce:List UInt8) (ctr:UInt32):(Qkq key 8).set 12 ctr=Qkr key nonce ctr 0:=by
 rw[Qkq,Qkr,QCX _ _ (by simp[chaC])]
 simp[chaC]
theorem Qq7 (key nonce:List UInt8) (ctr:UInt32):Qkr key nonce ctr 3=Qgk key nonce ctr:=by simp[Qkr,Qgk]
theorem QnI:(Tryz.prog.info? 284).map (·.size)=some 16:=by kernel_rfl
section
variable {ops:Array Oper} {rest:List Oper} {o:Oper} {a:Act} {w:World} {Q:Exit→Act→World→Prop}
theorem Qmt (hgd:o.guard=none) (hd:o.dst=none) (x y:Operand) (ho:o.op= .store 284 x y) {g:Nat} {t:TypeId} {l:List Value} {vs:List UInt32} (hg:Blk w g t l) (hx:a.eval x= .pointer (some ⟨g,0,none⟩)) (hy:a.eval y= .agg (vs.map W32).toArray)
 (hn:vs.length=16) (hl:l.length=16) (h:∀w',Blk w' g t (vs.map W32)→Only g w w'→wpList Tryz.prog ops Q rest a w'):wpList Tryz.prog ops Q (o :: rest) a w:=
 Qaj hgd hd _ x y ho g 0 t l (vs.map W32) hg hx hy (by rw[QCt,hn];exact QnI) (by rw[QCt];omega) (Qe9 _) (fun w' hb=>h w' (by rwa [Qao _ _ (by rw[QCt];omega)]at hb))
theorem Qtt (hgd:o.guard=none) (x:Operand) (ho:o.op= .load 284 x) {g:Nat} {t:TypeId} {vs:List UInt32} (hb:Blk w g t (vs.map W32)) (hl:vs.length=16) (hx:a.eval x= .pointer (some ⟨g,0,none⟩))
 (h:wpList Tryz.prog ops Q rest (a.put o.dst (.agg (vs.map W32).toArray)) w):wpList Tryz.prog ops Q (o :: rest) a w:=
 Qaz hgd _ x ho g 0 (vs.map W32) (fun j v hv=>by rw[QCI];exact hb.cellD j hv) hx _ Tryz.underlying284 rfl (by rw[QCt,hl];exact QnI) h
end
set_option maxRecDepth 100000 in
set_option maxHeartbeats 4000000 in
theorem QnO (A B:Option Addr) (c d:Nat) (key nonce:List UInt8) (ctr:UInt32) (w:World) (hk:RdB w A 32 key) (hn:RdB w B 12 nonce):
 Calls Tryz.prog 165 #[.slice A 32 c,.slice B 12 d,W32 ctr] w fun e w'=>e= .returned (.agg ((Qgk key nonce ctr).map W32).toArray)∧Later w w':=by
 have hA:=hid (Qlh key)
 have hB:=hid (Qmo key nonce ctr)
 have sA:=hid (Qpk key)
 have sB:=hid (Qqr key nonce ctr)
 have hAB:=hid (Qzt key nonce ctr)
 have hBA:=hid (Qq7 key nonce ctr)
 have hL:=Qfr key nonce ctr
 have h0:=hid (show Qkq key 0=[1634760805,857760878,2036477234,1797285236,0,0,0,0,0,0,0,0,0,0,0,0] from rfl)
 have hw:=hid (fun k i w hi h hk=>Qn1 A 32 c key k i hi w h hk (by omega))
 have hw2:=hid (fun k i w hi h hk=>Qn1 B 12 d nonce k i hi w h hk (by omega))
 generalize Qgk key nonce ctr=L0 at *
 go_enter Tryz.func165,Tryz.ntmps165
 go_wp2_with (first
  | (refine Qaq rfl 284 _ rfl (([1634760805,857760878,2036477234,1797285236,0,0,0,0,0,0,0,0,0,0,0,0]:List UInt32).map W32) ?hb ?_;(case hb=>kernel_rfl))
  | fail)
 have hR:=(Blk.new w 284 (QCn 16 (Value.int .u32 0))).later (Qaa _ (.cells #[W32 1634760805,W32 857760878,W32 2036477234,W32 1797285236,W32 0,W32 0,W32 0,W32 0,W32 0,W32 0,W32 0,W32 0,W32 0,W32 0,W32 0,W32 0] 284))
 have hS:Blk ((w.alloc (.cells (QCn 16 (Value.int .u32 0)).toArray 284)).alloc (.cells #[W32 1634760805,W32 857760878,W32 2036477234,W32 1797285236,W32 0,W32 0,W32 0,W32 0,W32 0,W32 0,W32 0,W32 0,W32 0,W32 0,W32 0,W32 0] 284)) (w.heap.size+1) 284 ((Qkq key 0).map W32):=by
  rw[h0.out]
  exact Blk.new' (w.alloc _) _ _ (by simp)
 have L0:=(Qaa w (.cells (QCn 16 (Value.int .u32 0)).toArray 284)).trans (Qaa _ (.cells #[W32 1634760805,W32 857760878,W32 2036477234,W32 1797285236,W32 0,W32 0,W32 0,W32 0,W32 0,W32 0,W32 0,W32 0,W32 0,W32 0,W32 0,W32 0] 284))
 go_loopw [8] (fun i wr=>∃k:Nat,k≤8∧i= .int .i64 k∧Later w wr∧Blk wr w.heap.size 284 (QCn 16 (Value.int .u32 0))∧Blk wr (w.heap.size+1) 284 ((Qkq key k).map W32)) (fun i _=>8-(intOf i).toNat)
 case atStart=>exact⟨0,by omega,rfl,L0,hR,hS⟩
 case round=>
  clear L0 hR hS
  obtain⟨k,hk',rfl,L,hR,hS⟩:=hrel
  by_cases hlt:k<8
  ·have hl:=hA.out k (by omega)
   have HST:=hid (sA.out k hlt)
   have t4:((4:Int)+(k:Int)).toNat=4+k:=by omega
   go_wp2_with fail
   (refine (hw.out k _ _ rfl (hk.later L) (by omega)).mono ?_);rintro e w3 ⟨rfl,j3⟩
   go_wp2_with (first
    | (refine Qac rfl rfl _ _ _ rfl (w.heap.size+1) (4+k) _ _ (hS.later j3) rfl (by rw[QCt];omega) rfl Qbx ?_;intro v' w5 hv' hb5 ho5;simp[go_sem]at hv';subst hv';rw[QdO,HST.out]at hb5)
    | fail)
   go_roundw
   case rel=>exact⟨k+1,by omega,by go_num,(L.trans j3).only ho5 (by omega),(hR.later j3).only ho5 (by omega),hb5⟩
   case measure=>simp[intOf];omega
  ·obtain rfl:8=k:=by omega
   have hl:=hA.out 8 (by omega)
   go_wp2_with (first
    | (refine Qac rfl rfl _ _ _ rfl (w.heap.size+1) 12 _ _ hS rfl (by rw[QCt];omega) rfl Qbx ?_;intro v' w5 hv' hb5 ho5;simp[go_sem]at hv';subst hv';rw[QdO,hAB.out]at hb5)
    | fail)
   have L5:=L.only ho5 (by omega)
   have hR5:=hR.only ho5 (by omega)
   clear L hR hS ho5
   go_loopw [9] (fun i wr=>∃k:Nat,k≤3∧i= .int .i64 k∧Later w wr∧Blk wr w.heap.size 284 (QCn 16 (Value.int .u32 0))∧Blk wr (w.heap.size+1) 284 ((Qkr key nonce ctr k).map W32)) (fun i _=>3-(intOf i).toNat)
   case atStart=>exact⟨0,by omega,rfl,L5,hR5,hb5⟩
   case round=>
    clear L5 hR5 hb5
    obtain⟨k,hk',rfl,L,hR,hS⟩:=hrel
    by_cases hlt:k<3
    ·have hl:=hB.out k (by omega)
     have HST:=hid (sB.out k hlt)
     have t4:((13:Int)+(k:Int)).toNat=13+k:=by omega
     go_wp2_with fail
     (refine (hw2.out k _ _ rfl (hn.later L) (by omega)).mono ?_);rintro e w3 ⟨rfl,j3⟩
     go_wp2_with (first
      | (refine Qac rfl rfl _ _ _ rfl (w.heap.size+1) (13+k) _ _ (hS.later j3) rfl (by rw[QCt];omega) rfl Qbx ?_;intro v' w5 hv' hb5 ho5;simp[go_sem]at hv';subst hv';rw[QdO,HST.out]at hb5)
      | fail)
     go_roundw
     case rel=>(repeat apply Exists.intro);exact⟨⟨k+1,by omega,by go_num,(L.trans j3).only ho5 (by omega),(hR.later j3).only ho5 (by omega),hb5⟩,rfl⟩
     case measure=>simp[intOf];omega
    ·obtain rfl:3=k:=by omega
     rw[hBA.out]at hS
     go_wp2_with (first
      | (refine Qtt rfl _ rfl hS hL rfl ?_)
      | (refine Qmt rfl rfl _ _ rfl hR rfl rfl hL rfl ?_;intro w9 hb9 ho9)
      | fail)
     exact bodyPost_ret (QaF rfl _ _ _ _ _ _ hb9 rfl Tryz.underlying284 rfl (by rw[QCt,hL];exact QnI)) rfl ⟨rfl,L.only ho9 (QCx _)⟩
def dbl (s:List UInt32):List UInt32:=
 QdT (QdT (QdT (QdT (QdT (QdT (QdT (QdT s 0 4 8 12) 1 5 9 13) 2 6 10 14) 3 7 11 15) 0 5 10 15) 1 6 11 12) 2 7 8 13) 3 4 9 14
def dblN (s:List UInt32):Nat→List UInt32
 | 0=>s
 | k+1=>dbl (dblN s k)
theorem Qqn (s:List UInt32):(dbl s).length=s.length:=by simp[dbl,QdB]
theorem QiC (s:List UInt32):∀k,(dblN s k).length=s.length
 | 0=>rfl
 | k+1=>by rw[dblN,Qqn,QiC s k]
def le4 (x:UInt32):List UInt8:=[x.toUInt8,(Qcg x 8).toUInt8,(Qcg x 16).toUInt8,(Qcg x 24).toUInt8]
def Qd3 (f s:List UInt32) (k:Nat):List UInt8:=(QC5 k).flatMap fun i=>le4 (wAt f i+wAt s i)
theorem Qgh (f s:List UInt32) (k:Nat):Qd3 f s (k+1)=Qd3 f s k++le4 (wAt f k+wAt s k):=by
 simp[Qd3,QEp]
theorem QdE (f s:List UInt32):∀k,(Qd3 f s k).length=4*k
 | 0=>rfl
 | k+1=>by rw[Qgh,QCB,QdE f s k,le4];simp;omega
def chaB (key nonce:List UInt8) (ctr:UInt32):List UInt8:=Qd3 (dblN (Qgk key nonce ctr) 10) (Qgk key nonce ctr) 16
theorem Qh4 (key nonce:List UInt8) (ctr:UInt32):(chaB key nonce ctr).length=64:=QdE _ _ 16
theorem Qdc {w:World} {base:Nat} {A:Option Addr} {n c:Nat} {xs ys:List UInt8} (h:w.ownsRow base 5 1 (.slice A n c) n (xs.map W8++ys.map W8)):OwnB w base A n c (xs++ys):=by
 rw[←QC6]at h
 exact h
theorem Qt2 (g:Nat) (t:TypeId) (s:List UInt32) (a b c d:Nat) (ia ib ic id:Int) (ha:ia=(a:Int)) (hb:ib=(b:Int)) (hc:ic=(c:Int)) (hd:id=(d:Int)) (w:World) (hs:Blk w g t (s.map W32)) (hl:s.length=16) (h1:a<16) (h2:b<16) (h3:c<16) (h4:d<16):
 Calls Tryz.prog 166 #[.pointer (some ⟨g,0,none⟩),.int .i64 ia,.int .i64 ib,.int .i64 ic,.int .i64 id] w fun e w'=>e= .returned (.tuple #[])∧∃s',Hid (s'=QdT s a b c d)∧s'.length=16∧Blk w' g t (s'.map W32)∧Only g w w':=
 (Qsq g t s a b c d ia ib ic id ha hb hc hd w hs hl h1 h2 h3 h4).mono fun _ _ ⟨he,hb,ho⟩=>⟨he,_,hid rfl,(QdB s a b c d).trans hl,hb,ho⟩
set_option maxRecDepth 100000 in
set_option maxHeartbeats 8000000 in
theorem Qs3 (A B:Option Addr) (c d:Nat) (key nonce:List UInt8) (ctr:UInt32) (w:World) (hk:RdB w A 32 key) (hn:RdB w B 12 nonce):
 Calls Tryz.prog 159 #[.slice A 32 c,.slice B 12 d,W32 ctr] w fun e w'=>∃A' c',e= .returned (.tuple #[.slice A' 64 c',.int .i64 0])∧OwnB w' w.heap.size A' 64 c' (chaB key nonce ctr)∧Later w w':=by
 have hI:=hid (QnO A B c d key nonce ctr w hk hn)
 have hsl:=Qfr key nonce ctr
 have hC:=hid (show chaB key nonce ctr=Qd3 (dblN (Qgk key nonce ctr) 10) (Qgk key nonce ctr) 16 from rfl)
 generalize Qgk key nonce ctr=S at *
 generalize chaB key nonce ctr=CB at *
 have hr:=hid Qt2
 have hdl:=hid (fun k=>(QiC S k).trans hsl)
 have hrl:=hid QdB
 have hd1:=hid (fun k=>show dblN S (k+1)=dbl (dblN S k) from rfl)
 go_enter Tryz.func159,Tryz.ntmps159
 go_wp2_with fail
 (with_reducible refine (hI.out).mono ?_);rintro e w1 ⟨rfl,j1⟩
 go_wp2_with (first
  | (refine Qmt rfl rfl _ _ rfl (Blk.new w1 _ (QCn 16 (.int .u32 0))) rfl rfl hsl rfl ?_;intro w2 hb2 ho2
     have B2:=(Bag.none w).push (j1.trans (Qaa w1 _)) j1.size ho2 hb2)
  | (refine Qtt rfl _ rfl (B2.nth 0 rfl) hsl rfl ?_)
  | (refine Qmt rfl rfl _ _ rfl (Blk.new w2 _ (QCn 16 (.int .u32 0))) rfl rfl hsl rfl ?_;intro w3 hb3 ho3
     have B3:=B2.push (Qaa w2 _) (QCx _) ho3 hb3)
  | fail)
 clear B2 hb2 hb3 ho2 ho3 j1
 generalize w1.heap.size=g8 at *
 generalize w2.heap.size=g9 at *
 go_loopw [26] (fun i wr=>∃k:Nat,k≤10∧i= .int .i64 k∧Bag w wr [(g9,284,(dblN S k).map W32),(g8,284,S.map W32)]) (fun i _=>10-(intOf i).toNat)
 case atStart=>exact⟨0,by omega,rfl,B3⟩
 case round=>
  clear B3
  obtain⟨k,hk',rfl,B3⟩:=hrel
  by_cases hlt:k<10
  ·have hl:=hdl.out k
   have hd2:=hid (hd1.out k)
   generalize dblN S k=T at *
   obtain⟨T0,hT0⟩:∃T0,T0=dblN S (k+1):=⟨_,rfl⟩
   rw[←hT0]at hd2
   replace hT0:=hid hT0
   go_wp2_with fail
   have b0:=B3.nth 0 rfl
   (refine (hr.out g9 _ T 0 4 8 12 _ _ _ _ rfl rfl rfl rfl _ b0 hl (by omega) (by omega) (by omega) (by omega)).mono ?_);rintro e w4 ⟨rfl,T1,e1,l1,b1,o1⟩
   go_wp2_with fail
   (refine (hr.out g9 _ T1 1 5 9 13 _ _ _ _ rfl rfl rfl rfl _ b1 l1 (by omega) (by omega) (by omega) (by omega)).mono ?_);rintro e w5 ⟨rfl,T2,e2,l2,b2,o2⟩
   clear b1
   go_wp2_with fail
   (refine (hr.out g9 _ T2 2 6 10 14 _ _ _ _ rfl rfl rfl rfl _ b2 l2 (by omega) (by omega) (by omega) (by omega)).mono ?_);rintro e w6 ⟨rfl,T3,e3,l3,b3,o3⟩
   clear b2
   go_wp2_with fail
   (refine (hr.out g9 _ T3 3 7 11 15 _ _ _ _ rfl rfl rfl rfl _ b3 l3 (by omega) (by omega) (by omega) (by omega)).mono ?_);rintro e w7 ⟨rfl,T4,e4,l4,b4,o4⟩
   clear b3
   go_wp2_with fail
   (refine (hr.out g9 _ T4 0 5 10 15 _ _ _ _ rfl rfl rfl rfl _ b4 l4 (by omega) (by omega) (by omega) (by omega)).mono ?_);rintro e w8 ⟨rfl,T5,e5,l5,b5,o5⟩
   clear b4
   go_wp2_with fail
   (refine (hr.out g9 _ T5 1 6 11 12 _ _ _ _ rfl rfl rfl rfl _ b5 l5 (by omega) (by omega) (by omega) (by omega)).mono ?_);rintro e w9 ⟨rfl,T6,e6,l6,b6,o6⟩
   clear b5
   go_wp2_with fail
   (refine (hr.out g9 _ T6 2 7 8 13 _ _ _ _ rfl rfl rfl rfl _ b6 l6 (by omega) (by omega) (by omega) (by omega)).mono ?_);rintro e w10 ⟨rfl,T7,e7,l7,b7,o7⟩
   clear b6
   go_wp2_with fail
   (refine (hr.out g9 _ T7 3 4 9 14 _ _ _ _ rfl rfl rfl rfl _ b7 l7 (by omega) (by omega) (by omega) (by omega)).mono ?_);rintro e w11 ⟨rfl,T8,e8,l8,b8,o8⟩
   clear b7
   go_wp2_with fail
   go_roundw
   case rel=>
    refine⟨k+1,by omega,by go_num,?_⟩
    rw[←hT0.out,hd2.out,dbl,←e1.out,←e2.out,←e3.out,←e4.out,←e5.out,←e6.out,←e7.out,←e8.out]
    exact B3.write 0 rfl (((((((o1.trans o2).trans o3).trans o4).trans o5).trans o6).trans o7).trans o8) b8
   case measure=>simp[intOf];omega
  ·obtain rfl:10=k:=by omega
   have hl:=hdl.out 10
   generalize dblN S 10=F at *
   have hCs:=hid (Qgh F S)
   have hCl:=hid (QdE F S)
   have hC0:=hid (show Qd3 F S 0=[] from rfl)
   go_wp2_with (first
    | (refine Qc1 rfl _ _ _ rfl 5 _ 1 Tryz.underlying32 QbW rfl _ _ _ _ 0 64 rfl rfl rfl rfl (by omega) (by omega) (by omega) ?_;intro w4 hown4 hl4)
    | (refine Qtt rfl _ rfl ((B3.nth 0 rfl).later hl4) hl rfl ?_)
    | fail)
   have hgr:=B3.lat.size
   have B4:=B3.later hl4
   have hown5:OwnB w4 w.heap.size (some ⟨wr.heap.size,0,none⟩) 0 64 (Qd3 F S 0):=by
    rw[hC0.out]
    exact Qbb hown4 hgr
   clear B3 hown4 hl4
   generalize wr.heap.size=g10 at *
   go_loopw [10,39] (fun v i wr=>∃(k:Nat) (A':Option Addr) (c':Nat),k≤16∧i= .int .i64 k∧v= .slice A' (4*k) c'∧OwnB wr w.heap.size A' (4*k) c' (Qd3 F S k)∧Later w wr∧Blk wr g8 284 (S.map W32)) (fun _ i _=>16-(intOf i).toNat)
   case atStart=>exact⟨0,_,_,by omega,rfl,rfl,hown5,B4.lat,B4.nth 1 rfl⟩
   case round=>
    clear hown5 B4 hgr
    obtain⟨k,A6,c6,hk6,rfl,rfl,hown,L,h8⟩:=hrel
    by_cases hlt:k<16
    ·have HCS:=hid (hCs.out k)
     have c8:=h8.cellD k (Qew (s:=S) (by omega))
     have hix:∀W',(Instr.index 284 (.agg (F.map W32).toArray) (.int .i64 (k:Int))).run Tryz.prog W'= .ok (W32 (wAt F k)) W':=fun W'=>QeH Tryz.underlying284 Qbx Tryz.underlying96 rfl (F.map W32) .i64 k (W32 (wAt F k)) hlt (Qew (by omega)) W'
     generalize wAt F k=xf at *
     generalize wAt S k=xs at *
     generalize Qd3 F S k=O at *
     have hle:Hid ([xf.toUInt8+xs.toUInt8,(Qcg (xf+xs) 8).toUInt8,(Qcg (xf+xs) 16).toUInt8,(Qcg (xf+xs) 24).toUInt8]=le4 (xf+xs)):=hid (by rw[le4,UInt32.toUInt8_add])
     have J:=Qaa wr (.cells #[W8 (xf.toUInt8+xs.toUInt8),W8 (Qcg (xf+xs) 8).toUInt8,W8 (Qcg (xf+xs) 16).toUInt8,W8 (Qcg (xf+xs) 24).toUInt8] 5)
     go_wp2_with (first
      | (refine Qas rfl _ _ _ rfl 5 _ 1 Tryz.underlying32 QbW rfl w _ (4*k) _ (hown.later J) (L.trans J) _ 4 4 _ ((Blk.new wr 5 [W8 (xf.toUInt8+xs.toUInt8),W8 (Qcg (xf+xs) 8).toUInt8,W8 (Qcg (xf+xs) 16).toUInt8,W8 (Qcg (xf+xs) 24).toUInt8]).rd rfl) (QaE [xf.toUInt8+xs.toUInt8,(Qcg (xf+xs) 8).toUInt8,(Qcg (xf+xs) 16).toUInt8,(Qcg (xf+xs) 24).toUInt8]) rfl rfl (by omega) (by omega) ?_;intro A7 c7 w7 hown7 hl7 hg7 _)
      | fail)
     have hown8:OwnB w7 w.heap.size A7 (4*k+4) c7 (O++le4 (xf+xs)):=by
      rw[←hle.out]
      exact Qdc hown7
     rw[←HCS.out]at hown8
     have h9:=QgE (h8.later J) (hown.later J) (by decide) hg7
     go_roundw
     case rel=>exact⟨k+1,A7,c7,by omega,by go_num,rfl,hown8,hl7,h9⟩
     case measure=>simp[intOf];omega
    ·obtain rfl:16=k:=by omega
     rw[←hC.out]at hown
     go_wp2_with fail
     go_ret2
     exact⟨_,_,rfl,hown,L⟩
def chaF (key:List UInt8) (k:Nat):List UInt8:=(QC5 k).flatMap fun i=>chaB key (QCn 12 0) (QCW i)
theorem Qgp (key:List UInt8) (k:Nat):chaF key (k+1)=chaF key k++chaB key (QCn 12 0) (QCW k):=by simp[chaF,QEp]
theorem QdM (key:List UInt8):∀k,(chaF key k).length=64*k
 | 0=>rfl
 | k+1=>by rw[Qgp,QCB,QdM key k,Qh4];omega
def chaS (key:List UInt8) (n:Nat):List UInt8:=(chaF key ((n+63)/64)).take n
theorem QbZ (key:List UInt8) (n:Nat):(chaS key n).length=n:=by
 rw[chaS,QCP,QdM]
 omega
theorem Qlc (key:List UInt8) (k:Nat):∀j,∃r,chaF key (k+j)=chaF key k++r
 | 0=>⟨[],by simp⟩
 | j+1=>by
   obtain⟨r,h⟩:=Qlc key k j
   exact⟨r++chaB key (QCn 12 0) (QCW (k+j)),by rw[←Nat.add_assoc,Qgp,h,QCL]⟩
theorem Qk9 (key:List UInt8) (n k:Nat) (h:n≤64*k):chaS key n=(chaF key k).take n:=by
 obtain⟨r,hr⟩:=Qlc key ((n+63)/64) (k-(n+63)/64)
 rw[Nat.add_sub_cancel' (by omega)]at hr
 rw[hr,chaS,QDk (by rw[QdM];omega)]
theorem Qk1 {α:Type} (l r:List α) (m n:Nat) (h:l.length=m) (hm:m≤n):(l++r).take n=l++r.take (n-m):=by
 rw[List.take_append,h,QCE (by omega)]
theorem QiV (k:Nat) (w:World):(convert 3 96 (.int .i64 (k:Int))).run Tryz.prog w= .ok (W32 (QCW k)) w:=by
 have h:=run_convert_int (P:=Tryz.prog) (w:=w) 3 96 .i64 (k:Int) (by rw[Tryz.underlying3];rfl) (by unfold Program.intKind;rw[Tryz.underlying96])
 have e:Tryz.prog.intKind 96= .u32:=by unfold Program.intKind;rw[Tryz.underlying96]
 rw[e]at h
 refine h.trans ?_
 congr 1
set_option maxRecDepth 100000 in
set_option maxHeartbeats 4000000 in
theorem Qmc (A:Option Addr) (c n:Nat) (key:List UInt8) (w:World) (hk:RdB w A 32 key) (hn:n≤65536):
 Calls Tryz.prog 152 #[.slice A 32 c,.int .i64 0,.int .i64 n] w fun e w'=>∃A' c',e= .returned (.slice A' n c')∧OwnB w' w.heap.size A' n c' (chaS key n)∧Later w w':=by
 have hB:=hid (fun B d ctr (w':World) (hl:Later w w') hn=>Qs3 A B c d key (QCn 12 0) ctr w' (hk.later hl) hn)
 have hs1:=hid (Qgp key)
 have hl1:=hid (QdM key)
 have hS:=hid (Qk9 key n)
 have hbl:=hid (fun ctr=>Qh4 key (QCn 12 0) ctr)
 have h0:=hid (show (chaF key 0).take 0=[] from rfl)
 go_enter Tryz.func152,Tryz.ntmps152
 go_wp2_with (first
  | (refine QaH rfl _ _ _ rfl 5 _ 1 Tryz.underlying32 QbW rfl _ _ _ _ 12 rfl rfl rfl rfl (by omega) (by omega) ?_;intro w1 hb1 hl1')
  | (refine Qc1 rfl _ _ _ rfl 5 _ 1 Tryz.underlying32 QbW rfl _ _ _ _ 0 n rfl rfl rfl rfl (by omega) (by omega) (by omega) ?_;intro w2 hown2 hl2)
  | fail)
 have hz1:=hl1'.size
 have hlt1:=hb1.lt
 have L2:=hl1'.trans hl2
 have hbase:w.heap.size<w1.heap.size:=hlt1
 have hown3:OwnB w2 w1.heap.size (some ⟨w1.heap.size,0,none⟩) 0 n ((chaF key 0).take 0):=by
  rw[h0.out]
  exact hown2
 have hno:RdB w1 (some ⟨w.heap.size,0,none⟩) 12 (QCn 12 0):=hb1.rd rfl
 clear hb1 hown2 L2 hz1
 have hL1:=hl2
 go_loopw [1,8] (fun at_ v wr=>∃(k m:Nat) (A':Option Addr) (c':Nat),at_= .int .i64 m∧v= .slice A' m c'∧m≤n∧m≤64*k∧(m<n→m=64*k)∧OwnB wr w1.heap.size A' m c' ((chaF key k).take m)∧Later w1 wr) (fun _ v _=>n-lenOf v)
 case atStart=>exact⟨0,0,_,_,rfl,rfl,by omega,by omega,fun _=>rfl,hown3,hL1⟩
 case round=>
  clear hown3 hL1 hl2
  obtain⟨k,m,A6,c6,rfl,rfl,hmn,hmk,hm64,hown,L⟩:=hrel
  by_cases hlt:m<n
  ·have hm:=hm64 hlt
   have hq:(m:Int)/64=(k:Int):=by omega
   have hr:(m:Int)%64=0:=by omega
   have hcv:=QiV k
   have hb:=hid (hs1.out k)
   have hBl:=hid (hbl.out (QCW k))
   have HM:=hid hm
   have HFl:=hid (hl1.out k)
   clear hm hm64
   go_wp2_with fail
   (with_reducible refine (hB.out _ _ _ _ (hl1'.trans L) (hno.later L)).mono ?_);rintro e w4 ⟨A9,c9,rfl,hown9,j9⟩
   have hrd9:=hown9.rd
   have hcap:=hown9.cap
   have hcut:∀W,(Instr.sliceAt 32 (.slice A9 64 c9) (some (.int .i64 0)) none none).run Tryz.prog W= .ok (.slice A9 64 c9) W:=fun W=>by
    have h:=Qiq A9 64 c9 .i64 0 (by omega) W
    simpa [QiX] using h
   generalize chaB key (QCn 12 0) (QCW k)=Bk at *
   generalize chaF key k=Fk at *
   by_cases hbig:n-m<64
   ·obtain⟨q,hqn⟩:∃q,n=m+q:=⟨n-m,by omega⟩
    have hb1:((n:Int)-(m:Int))<64:=by omega
    have hcut2:∀W,(Instr.sliceAt 32 (.slice A9 64 c9) none (some (.int .i64 ((n:Int)-(m:Int)))) none).run Tryz.prog W= .ok (.slice A9 q c9) W:=fun W=>by
     rw[show (n:Int)-(m:Int)=(q:Int) by omega]
     exact Qnu A9 64 c9 .i64 q (by omega) W
    have hq64:q<64:=by omega
    have hrq:=hrd9.take (m:=q) (by omega)
    have hmq:m+q≤65536:=by omega
    replace hqn:=hid hqn
    go_wp2_with (first
     | (refine Qas rfl _ _ _ rfl 5 _ 1 Tryz.underlying32 QbW rfl w1 _ m _ (hown.later j9) (L.trans j9) A9 q c9 _ hrq (QaE _) rfl rfl (by omega) (by omega) ?_;intro A7 c7 w7 hown7 hl7 hg7 _)
     | fail)
    have hown8:=Qdc hown7
    go_roundw
    case rel=>
     refine⟨k+1,m+q,A7,c7,by go_num,rfl,by have:=hqn.out;omega,by have:=HM.out;omega,fun h=>by have:=hqn.out;omega,?_,hl7⟩
     rw[hb.out,Qk1 _ _ _ _ HFl.out (by have:=HM.out;omega),show m+q-64*k=q by have:=HM.out;omega]
     rw[QCE (by rw[HFl.out,HM.out];omega)]at hown8
     exact hown8
    case measure=>have:=hqn.out;simp[lenOf];omega
   ·have hb1: ¬((n:Int)-(m:Int))<64:=by omega
    go_wp2_with (first
     | (refine Qas rfl _ _ _ rfl 5 _ 1 Tryz.underlying32 QbW rfl w1 _ m _ (hown.later j9) (L.trans j9) A9 64 c9 _ hrd9 (QaE _) rfl rfl (by omega) (by omega) ?_;intro A7 c7 w7 hown7 hl7 hg7 _)
     | fail)
    have hown8:=Qdc hown7
    go_roundw
    case rel=>
     refine⟨k+1,m+64,A7,c7,by go_num,rfl,by omega,by have:=HM.out;omega,fun h=>by have:=HM.out;omega,?_,hl7⟩
     rw[hb.out,Qk1 _ _ _ _ HFl.out (by have:=HM.out;omega),show m+64-64*k=64 by have:=HM.out;omega,QCE (by rw[hBl.out];omega)]
     rw[QCE (by rw[HFl.out,HM.out];omega)]at hown8
     exact hown8
    case measure=>simp[lenOf];omega
  ·obtain rfl:n=m:=by omega
   have hE:=hid (hS.out k hmk)
   rw[←hE.out]at hown
   go_wp2_with fail
   go_ret
   exact⟨_,_,rfl,hown.mono (Nat.le_of_lt hbase),hl1'.trans L⟩
theorem QpX (A:Option Addr) (c n:Nat) (key:List UInt8) (w:World) (hk:RdB w A 32 key) (hn:n≤65536):
 Calls Tryz.prog 138 #[.slice A 32 c,.int .i64 n] w fun e w'=>∃A' c',e= .returned (.tuple #[.slice A' n c',.int .i64 0])∧OwnB w' w.heap.size A' n c' (chaS key n)∧Later w w':=by
 have hp:=hid (fun c (w:World) h=>Qmc A c n key w h hn)
 go_enter Tryz.func138,Tryz.ntmps138
 go_wp2_with fail
 (with_reducible refine (hp.out _ _ hk).mono ?_);rintro e w1 ⟨A1,c1,rfl,ho1,j1⟩
 go_wp2_with fail
 go_ret2
 exact⟨_,_,rfl,ho1,j1⟩
end Go.Proofs.YtdkpcdgckgaklaaGreat
namespace Go.Proofs.YtdkpcdgckgaklaaGreat
open Go.RowKit
structure Prt where
 kd:UInt8
 id:UInt64
 ix:Int
 ct:Int
 da:List UInt8
def prt0:Prt:=⟨0,0,0,0,[]⟩
def PaC (p:Prt) (v:Value):List Value:=[W8 p.kd,W64 p.id,.int .i64 p.ix,.int .i64 p.ct,v]
def prtE (p:Prt):Nat:=
 if p.kd<1∨3<p.kd then 1 else if 450<p.da.length then 2 else if p.ct<1∨16<p.ct∨p.ix<0∨p.ct≤p.ix then 3
 else if p.kd≠1∧p.ct≠1 then 3 else if p.kd=2∧(p.id≠0∨p.da.length≠0) then 3 else 0
abbrev Y16:={l:List UInt8 // l.length=16}
structure Cmd where
 kd:UInt8
 fl:UInt8
 dl:UInt32
 nx:UInt64
 ma:Y16
def QaV:Y16:=⟨QCn 16 0,by simp⟩
def cmd0:Cmd:=⟨0,0,0,0,QaV⟩
def CC (c:Cmd):List Value:=W8 c.kd :: W8 c.fl :: W32 c.dl :: W64 c.nx :: c.ma.val.map W8
theorem Qam (c:Cmd):(CC c).length=20:=by simp[CC,c.ma.2]
theorem QwF (c:Cmd):(CC c).drop 4=c.ma.val.map W8:=rfl
end Go.Proofs.YtdkpcdgckgaklaaGreat
namespace Go.Proofs.YtdkpcdgckgaklaaGreat
open Go.RowKit
open Go.BigFrame
end Go.Proofs.YtdkpcdgckgaklaaGreat
namespace Go.Proofs.YtdkpcdgckgaklaaGreat
open Go.RowKit
abbrev pid (q:Prt):Prt:=q
section
variable {α:Type} (pr:α→Prt)
def tkE (id:UInt64) (ks:List α) (p:Prt):Nat:=
 if p.kd≠1∨prtE p≠0 then 3 else if p.id≠id then 4 else if ks.any (fun q=>(pr q).ct != p.ct||(pr q).ix==p.ix) then 3 else 0
def tkK (id:UInt64) (ks:List α) (x:α):List α:=if tkE pr id ks (pr x)=0 then ks++[x] else ks
def tksK (id:UInt64) (ks xs:List α):List α:=xs.foldl (tkK pr id) ks
theorem QrM (id:UInt64) (ks xs:List α) (x:α):tksK pr id ks (xs++[x])=tkK pr id (tksK pr id ks xs) x:=by simp[tksK]
end
structure KeptOk (ks:List Prt):Prop where
 good:∀q∈ks,q.kd=1∧prtE q=0
 same:∀q∈ks,∀r∈ks,q.ct=r.ct
 nd:(ks.map (·.ix)).Nodup
theorem Qpi:KeptOk []:=⟨by simp,by simp,by simp⟩
theorem Qig {p:Prt} (h:prtE p=0):1≤p.ct∧p.ct≤16∧0≤p.ix∧p.ix<p.ct∧p.da.length≤450:=by
 unfold prtE at h
 split at h
 ·cases h
 split at h
 ·cases h
 split at h
 ·cases h
 rename_i h1 h2 h3
 omega
theorem Qkl {id:UInt64} {ks:List Prt} {p:Prt} (h:tkE pid id ks p=0):p.kd=1∧prtE p=0∧p.id=id∧(∀ q∈ks,q.ct=p.ct∧q.ix≠p.ix):=by
 unfold tkE at h
 split at h
 ·cases h
 split at h
 ·cases h
 split at h
 ·cases h
 rename_i h1 h2 h3
 refine⟨Classical.not_not.1 fun hc=>h1 (.inl hc),Classical.not_not.1 fun hc=>h1 (.inr hc),Classical.not_not.1 h2,fun q hq=>?_⟩
 have h4:(q.ct != p.ct||q.ix==p.ix)=false:=by
  cases hb:(q.ct != p.ct||q.ix==p.ix) with
  | false=>rfl
  | true=>exact absurd (QEq.2 ⟨q,hq,hb⟩) h3
 simp only[Bool.or_eq_false_iff,bne_eq_false_iff_eq,beq_eq_false_iff_ne]at h4
 exact h4
theorem KeptOk.snoc {id:UInt64} {ks:List Prt} {p:Prt} (h:KeptOk ks):KeptOk (tkK pid id ks p):=by
 unfold tkK
 split
 ·rename_i h0
  obtain⟨h1,h2,_,h4⟩:=Qkl h0
  refine⟨fun q hq=>?_,fun q hq r hr=>?_,?_⟩
  ·rcases QDc.1 hq with hq|hq
   ·exact h.good q hq
   ·obtain rfl:q=p:=by simpa using hq
    exact⟨h1,h2⟩
  ·rcases QDc.1 hq with hq|hq<;>rcases QDc.1 hr with hr|hr
   ·exact h.same q hq r hr
   ·have e:r=p:=by simpa using hr
    rw[e]
    exact (h4 q hq).1
   ·have e:q=p:=by simpa using hq
    rw[e]
    exact (h4 r hr).1.symm
   ·have e:q=p:=by simpa using hq
    have e':r=p:=by simpa using hr
    rw[e,e']
  ·rw[QC6,List.nodup_append]
   refine⟨h.nd,by simp,fun a ha b hb=>?_⟩
   obtain rfl:b=p.ix:=by simpa using hb
   obtain⟨q,hq,rfl⟩:=QC7.1 ha
   exact (h4 q hq).2
 ·exact h
theorem Qpc {id:UInt64} (xs:List Prt):∀ {ks:List Prt},KeptOk ks→KeptOk (tksK pid id ks xs):=by
 induction xs with
 | nil=>exact fun h=>h
 | cons x xs ih=>exact fun h=>ih h.snoc
theorem QiS:∀(n:Nat) (l:List Int),l.Nodup→(∀ i∈l,0≤i∧i<n)→l.length≤n
 | 0,l,_,h=>by
   cases l with
   | nil=>exact QCx _
   | cons i l=>have:=h i (by simp);omega
 | n+1,l,hn,h=>by
   have hb:(l.erase (n:Int)).length≤n:=by
    refine QiS n _ (hn.erase _) fun i hi=>?_
    have h1:=h i (List.mem_of_mem_erase hi)
    have h2:i≠(n:Int):=fun e=>by subst e;exact (List.Nodup.not_mem_erase hn) hi
    omega
   have:=List.length_erase_of_mem (a:=(n:Int)) (l:=l)
   by_cases hm:(n:Int)∈l
   ·rw[this hm]at hb
    omega
   ·rw[List.erase_of_not_mem hm]at hb
    omega
theorem KeptOk.le {ks:List Prt} (h:KeptOk ks) {c:Int} (hc:∀q∈ks,q.ct=c) (h0:0≤c):(ks.length:Int)≤c:=by
 have:=QiS c.toNat (ks.map (·.ix)) h.nd (fun i hi=>by
  obtain⟨q,hq,rfl⟩:=QC7.1 hi
  have:=Qig (h.good q hq).2
  have:=hc q hq
  omega)
 rw[QCt]at this
 omega
def daAt (ks:List Prt) (i:Nat):List UInt8:=((ks.find? (fun q=>q.ix==(i:Int))).map (·.da)).getD []
def Qnn (ks:List Prt):List UInt8:=(QC5 ks.length).flatMap fun (i:Nat)=>(ks.filter (fun q=>q.ix==(i:Int))).flatMap (·.da)
theorem Qjz {i:Int}:∀ {ks:List Prt},(ks.map (·.ix)).Nodup→(ks.filter (fun q=>q.ix==i)).flatMap (·.da)=((ks.find? (fun q=>q.ix==i)).map (·.da)).getD []
 | [],_=>rfl
 | q :: ks,h=>by
   rw[QCR,QEf]at h
   by_cases hq:q.ix=i
   ·have hno:ks.filter (fun q=>q.ix==i)=[]:=by
     rw[List.filter_eq_nil_iff]
     intro r hr hc
     exact h.1 (QC7.2 ⟨r,hr,(by simpa using hc:r.ix=i).trans hq.symm⟩)
    simp[hq,hno]
   ·have hb:(q.ix==i)=false:=by simpa using hq
    rw[List.filter_cons,List.find?_cons,hb]
    exact Qjz h.2
theorem Qvc {ks:List Prt} (h:KeptOk ks):Qnn ks=(QC5 ks.length).flatMap (daAt ks):=by
 unfold Qnn daAt
 congr 1
 funext i
 exact Qjz h.nd
structure Arr where
 pt:Prt
 kd:UInt8
 to:UInt64
 tk:Int
 ma:Y16
structure Ltr where
 to:UInt64
 id:UInt64
 tk:Int
 tx:List UInt8
def mine (x:UInt64×UInt64) (a:Arr):Bool:=a.kd==2&&a.pt.kd==1&&a.to==x.1&&a.pt.id==x.2
def Qd5 (qas:List Arr) (x:UInt64×UInt64):List Prt:=tksK pid x.2 [] ((qas.filter (mine x)).map (·.pt))
def Qne (qas:List Arr) (a:Arr):List Ltr:=
 if a.kd=2∧a.pt.kd=1∧tkE pid a.pt.id (Qd5 qas (a.to,a.pt.id)) a.pt=0∧((Qd5 qas (a.to,a.pt.id)).length:Int)+1=a.pt.ct then [⟨a.to,a.pt.id,a.tk,Qnn (Qd5 qas (a.to,a.pt.id)++[a.pt])⟩] else []
def ltrs (qas:List Arr) (k:Nat):List Ltr:=(QC5 k).flatMap fun i=>match qas[i]? with|some a=>Qne (qas.take i) a|none=>[]
theorem Qq4 (qas:List Arr) (k:Nat) (a:Arr) (h:qas[k]?=some a):ltrs qas (k+1)=ltrs qas k++Qne (qas.take k) a:=by
 unfold ltrs
 rw[QEp,QDZ]
 simp[h]
theorem Qsu (qas:List Arr) (x:UInt64×UInt64):KeptOk (Qd5 qas x):=Qpc _ Qpi
theorem Qnb (qas:List Arr) (x:UInt64×UInt64) (a:Arr):Qd5 (qas++[a]) x=if mine x a then tkK pid x.2 (Qd5 qas x) a.pt else Qd5 qas x:=by
 unfold Qd5
 rw[List.filter_append,QC6]
 by_cases h:mine x a=true
 ·rw[if_pos h]
  simp only[List.filter_cons,h,if_true,List.filter_nil,QCR,QCC]
  exact QrM pid _ _ _ _
 ·rw[if_neg h]
  simp[h]
end Go.Proofs.YtdkpcdgckgaklaaGreat
namespace Go.Proofs.YtdkpcdgckgaklaaGreat
open Go.RowKit
open Go.BigFrame
end Go.Proofs.YtdkpcdgckgaklaaGreat
namespace Go.Proofs.YtdkpcdgckgaklaaGreat
namespace Ed
instance neP:NeZero P25:=⟨by decide⟩
abbrev Fp:=Fin P25
def toF (n:Nat):Fp:=Fin.ofNat P25 n
theorem Qf7 (n:Nat):(toF n).val=n%P25:=rfl
theorem Qwi (a:Fp):toF a.val=a:=Fin.ext (QCO a.isLt)
theorem Qw4 (n:Nat):toF (n%P25)=toF n:=Fin.ext (QDY _ _)
theorem QxV (a b:Nat):toF (a*b)=toF a*toF b:=Fin.ext (by rw[Fin.val_mul,Qf7,Qf7,Qf7,←QEb])
theorem QuK:toF 0=0:=rfl
theorem QmH {a:Nat}:toF a=0↔a%P25=0:=by
 rw[←QuK,Fin.ext_iff,Qf7,Qf7,Nat.zero_mod]
theorem QmE {a:Fp} (h:a≠0):a.val%P25≠0:=by
 intro h0
 apply h
 rw[←Qwi a]
 exact QmH.2 h0
def finv (a:Fp):Fp:=toF (pinv a.val)
theorem QeJ {a:Fp} (h:a≠0):a*finv a=1:=by
 have h1:=Qur a.val (QmE h)
 have h2:toF (a.val*pinv a.val)=toF 1:=Fin.ext (by rw[Qf7,Qf7,h1];rfl)
 rw[QxV,Qwi]at h2
 exact h2
theorem QzI:(2:Fp)≠0:=by decide
theorem Qxw {a b:Fp} (h:a*b=0):a=0∨b=0:=by
 by_cases ha:a=0
 ·exact .inl ha
 ·have:=QeJ ha
  right
  grobner
theorem QyM {a b:Fp} (ha:a≠0) (hb:b≠0):a*b≠0:=fun h=>(Qxw h).elim ha hb
theorem Qws {a b c:Fp} (hc:c≠0) (h:a*c=b*c):a=b:=by
 have:=QeJ hc
 grobner
def fpow (a:Fp) (n:Nat):Fp:=toF (a.val^n)
def Hp:Nat:=28948022309329048855892746252171976963317496166410141009864396001978282409974
def Op:Nat:=7237005577332262213973186563042994240829374041602535252466099000494570602494
def Qi9 (δ:Fp):Prop:=∀r:Fp,r*r≠δ
@[ext] structure Pt (δ:Fp) where
  x:Fp
  y:Fp
  on:x*x+y*y=1+δ*x*x*y*y
theorem Qmd {δ z w:Fp} (hδ:Qi9 δ) (h:w*w=δ*(z*z)):z=0:=by
 by_cases hz:z=0
 ·exact hz
 ·have:=QeJ hz
  exact absurd (show (w*finv z)*(w*finv z)=δ by grobner) (hδ _)
theorem Qoh {δ:Fp} (hδ:Qi9 δ) {x1 y1 x2 y2 ε:Fp} (h1:x1*x1+y1*y1=1+δ*x1*x1*y1*y1) (h2:x2*x2+y2*y2=1+δ*x2*x2*y2*y2)
 (ht:δ*x1*x2*y1*y2=ε) (he:ε*ε=1):False:=by
 have a1:(x1+ε*y1)*(x1+ε*y1)=δ*((x1*y1*(x2+y2))*(x1*y1*(x2+y2))):=by grobner
 have a2:(x1-ε*y1)*(x1-ε*y1)=δ*((x1*y1*(x2-y2))*(x1*y1*(x2-y2))):=by grobner
 have b1:=Qmd hδ a1
 have b2:=Qmd hδ a2
 have c:2*(x1*y1*x2)=0:=by grobner
 have hn:2*(x1*y1*x2)≠0:=by
  refine QyM QzI ?_
  intro h0
  have:ε=0:=by rw[←ht];grobner
  rw[this]at he
  revert he
  decide
 exact hn c
section
variable {δ:Fp}
def tt (P Q:Pt δ):Fp:=δ*P.x*Q.x*P.y*Q.y
theorem QxY (hδ:Qi9 δ) (P Q:Pt δ):1+tt P Q≠0:=fun h=>Qoh hδ (ε:= -1) P.on Q.on (by unfold tt at h;grobner) (by decide)
theorem Qyn (hδ:Qi9 δ) (P Q:Pt δ):1-tt P Q≠0:=fun h=>Qoh hδ (ε:=1) P.on Q.on (by unfold tt at h;grobner) (by decide)
theorem QyG {x1 y1 x2 y2 i j:Fp} (h1:x1*x1+y1*y1=1+δ*x1*x1*y1*y1) (h2:x2*x2+y2*y2=1+δ*x2*x2*y2*y2)
 (hi:(1+δ*x1*x2*y1*y2)*i=1) (hj:(1-δ*x1*x2*y1*y2)*j=1):
 ((x1*y2+x2*y1)*i)*((x1*y2+x2*y1)*i)+((y1*y2-x1*x2)*j)*((y1*y2-x1*x2)*j)=1+δ*((x1*y2+x2*y1)*i)*((x1*y2+x2*y1)*i)*((y1*y2-x1*x2)*j)*((y1*y2-x1*x2)*j):=by
 have key:(x1*y2+x2*y1)*(x1*y2+x2*y1)*((1-δ*x1*x2*y1*y2)*(1-δ*x1*x2*y1*y2))+(y1*y2-x1*x2)*(y1*y2-x1*x2)*((1+δ*x1*x2*y1*y2)*(1+δ*x1*x2*y1*y2))
  = (1+δ*x1*x2*y1*y2)*(1+δ*x1*x2*y1*y2)*((1-δ*x1*x2*y1*y2)*(1-δ*x1*x2*y1*y2))+δ*((x1*y2+x2*y1)*(x1*y2+x2*y1))*((y1*y2-x1*x2)*(y1*y2-x1*x2)):=by grobner
 generalize x1*y2+x2*y1=X at *
 generalize y1*y2-x1*x2=Y at *
 generalize 1+δ*x1*x2*y1*y2=A at *
 generalize 1-δ*x1*x2*y1*y2=B at *
 have k2:(X*X*(B*B)+Y*Y*(A*A))*(i*i*(j*j))=(A*A*(B*B)+δ*(X*X)*(Y*Y))*(i*i*(j*j)):=by rw[key]
 have hi2:A*A*(i*i)=1:=by grobner
 have hj2:B*B*(j*j)=1:=by grobner
 clear key h1 h2 hi hj
 grobner
def Pt.add (hδ:Qi9 δ) (P Q:Pt δ):Pt δ:=
 ⟨(P.x*Q.y+Q.x*P.y)*finv (1+tt P Q),(P.y*Q.y-P.x*Q.x)*finv (1-tt P Q),QyG P.on Q.on (QeJ (QxY hδ P Q)) (QeJ (Qyn hδ P Q))⟩
variable (hδ:Qi9 δ)
theorem QBQ (P Q:Pt δ):(P.add hδ Q).x*(1+tt P Q)=P.x*Q.y+Q.x*P.y:=by
 have:=QeJ (QxY hδ P Q)
 show (P.x*Q.y+Q.x*P.y)*finv (1+tt P Q)*(1+tt P Q)=_
 grobner
theorem QBK (P Q:Pt δ):(P.add hδ Q).y*(1-tt P Q)=P.y*Q.y-P.x*Q.x:=by
 have:=QeJ (Qyn hδ P Q)
 show (P.y*Q.y-P.x*Q.x)*finv (1-tt P Q)*(1-tt P Q)=_
 grobner
def Pt.zero:Pt δ:=⟨0,1,by grobner⟩
def Pt.neg (P:Pt δ):Pt δ:=⟨-P.x,P.y,by have:=P.on;grobner⟩
theorem QqN (P:Pt δ):P.add hδ Pt.zero=P:=by
 have ht:tt P (Pt.zero)=0:=by unfold tt Pt.zero;grobner
 apply Pt.ext
 ·apply Qws (QxY hδ P Pt.zero)
  rw[QBQ,ht]
  simp only[Pt.zero]
  grobner
 ·apply Qws (Qyn hδ P Pt.zero)
  rw[QBK,ht]
  simp only[Pt.zero]
  grobner
end
section
variable {δ:Fp} (hδ:Qi9 δ)
def Pt.mul (P:Pt δ):Nat→Pt δ
 | 0=>Pt.zero
 | n+1=>(Pt.mul P n).add hδ P
end
section
variable {δ:Fp} (hδ:Qi9 δ)
include hδ in
include hδ in
theorem c8:(8:Fp)≠0:=by decide
theorem c16:(16:Fp)≠0:=by decide
end
section
variable {δ:Fp} (hδ:Qi9 δ)
def kval (K:List UInt8):Nat→Nat
 | 0=>0
 | j+1=>2*kval K j+(kbit K (254-j)).toNat
def Pt.u (s:Fp) (Q:Pt δ):Fp:=if 1-Q.y=0 then 0 else s*(1+Q.y)*finv (1-Q.y)
include hδ in
end
theorem QnU (a:Fp) (n:Nat) (h:n<2^256):fpow a n=toF (pwm P25 256 a.val n):=by rw[QnW P25 256 a.val n h,Qw4];rfl
theorem h2:fpow 2 Hp= -1:=by rw[QnU _ _ (by decide)];decide +kernel
theorem h4:fpow 4 Hp=1:=by rw[QnU _ _ (by decide)];decide +kernel
theorem hm1:(1:Fp)≠ -1:=by decide
end Ed
namespace Ed
def QvA:List Nat:=[2,3,5,7,11,13,17,19,23,31,41,43,47,61,67,73,79,101,113,181,227,269,307,383,467,487,727]
theorem Qfx:∀q∈QvA,Prm q:=fun q hq=>QlU (QDa.1 (show QvA.all small=true by decide +kernel) q hq)
theorem QoS:Prm 1723∧∀a,a%1723≠0→a^(1723-1)%1723=1:=
 Qbf 1723 3 [2,3,7,41] (by decide +kernel) (by
  intro q hq
  simp only[QCQ,QCT,or_false]at hq
  rcases hq with rfl|rfl|rfl|rfl
  ·exact Qfx _ (by decide)
  ·exact Qfx _ (by decide)
  ·exact Qfx _ (by decide)
  ·exact Qfx _ (by decide))
end Ed
namespace Ed
def Kl:List UInt8:=[237,211,245,92,26,99,18,88,214,156,247,162,222,249,222,20,0,0,0,0,0,0,0,0,0,0,0,0,0,0,0,16]
section
variable {δ:Fp} (hδ:Qi9 δ)
include hδ in
theorem zero_mul (n:Nat):(Pt.zero:Pt δ).mul hδ n=Pt.zero:=by
 induction n with
 | zero=>rfl
 | succ n ih=>show ((Pt.zero:Pt δ).mul hδ n).add hδ Pt.zero=Pt.zero;rw[ih,QqN]
structure Ell (L:Nat):Prop where
 kl:kval Kl 255=L
 inv:∀n,n%L≠0→∃m,n*m%L=1
 dbl:∀n,n%L≠0→(n+n)%L≠0
 one:1%L≠0
 clamp:∀bs:List UInt8,bs.length=32→kval (Qb4 bs) 255%L≠0
end
end Ed
end Go.Proofs.YtdkpcdgckgaklaaGreat
namespace Go.Proofs.YtdkpcdgckgaklaaGreat
open Go.RowKit
end Go.Proofs.YtdkpcdgckgaklaaGreat
namespace Go.Proofs.YtdkpcdgckgaklaaGreat
open Go.RowKit
open Go.BigFrame
section
variable {ops:Array Oper} {rest:List Oper} {o:Oper} {a:Act} {w:World} {Q:Exit→Act→World→Prop}
end
abbrev pz0:List Value:=[.int .u8 0,.int .u64 0,.int .i64 0,.int .i64 0,.slice none 0 0]
theorem Qso:(Tryz.prog.info? 34).bind (·.zero)=some (.agg (PaC prt0 (.slice none 0 0)).toArray):=by kernel_rfl
theorem Qcz:(Tryz.prog.info? 34).map (·.size)=some 5:=by kernel_rfl
theorem QaD (p:Prt) (v:Value):(PaC p v).length=5:=rfl
theorem Qgi (p:Prt) {v:Value} (h:v.oneCell'=true):∀u∈PaC p v,u.oneCell'=true:=by
 intro u hu
 simp only[PaC,QCQ,QCT,or_false]at hu
 rcases hu with rfl|rfl|rfl|rfl|rfl<;>first|rfl|exact h
theorem QlF:Tryz.prog.built 34 []=some (PaC prt0 (.slice none 0 0)).toArray:=by
 rw[QaO (pl:=[(0,1),(1,1),(2,1),(3,1),(4,1)]) Tryz.underlying34 Qso (by kernel_rfl),QbM]
theorem Qss (kd:UInt8) (id:UInt64) (ix ct:Int):Tryz.prog.built 34 [(0,W8 kd),(1,W64 id),(2,.int .i64 ix),(3,.int .i64 ct)]=some (PaC ⟨kd,id,ix,ct,[]⟩ (.slice none 0 0)).toArray:=by
 rw[QaO (pl:=[(0,1),(1,1),(2,1),(3,1),(4,1)]) Tryz.underlying34 Qso (by kernel_rfl),QaS (vs:=[W8 kd]) (off:=0) rfl rfl (by simp[PaC]),QaS (vs:=[W64 id]) (off:=1) rfl rfl (by simp[PaC,Qau]),QaS (vs:=[.int .i64 ix]) (off:=2) rfl rfl (by simp[PaC,Qau]),QaS (vs:=[.int .i64 ct]) (off:=3) rfl rfl (by simp[PaC,Qau]),QbM]
 rfl
theorem QqH (kd:UInt8) (ix ct:Int):Tryz.prog.built 34 [(0,W8 kd),(2,.int .i64 ix),(3,.int .i64 ct)]=some (PaC ⟨kd,0,ix,ct,[]⟩ (.slice none 0 0)).toArray:=by
 rw[QaO (pl:=[(0,1),(1,1),(2,1),(3,1),(4,1)]) Tryz.underlying34 Qso (by kernel_rfl),QaS (vs:=[W8 kd]) (off:=0) rfl rfl (by simp[PaC]),QaS (vs:=[.int .i64 ix]) (off:=2) rfl rfl (by simp[PaC,Qau]),QaS (vs:=[.int .i64 ct]) (off:=3) rfl rfl (by simp[PaC,Qau]),QbM]
 rfl
section
variable {ops:Array Oper} {rest:List Oper} {o:Oper} {a:Act} {w:World} {Q:Exit→Act→World→Prop}
theorem QaZ (hgd:o.guard=none) (hd:o.dst=none) (x y:Operand) (ho:o.op= .store 34 x y) {g:Nat} {t:TypeId} {l:List Value} {p:Prt} {v:Value} (hg:Blk w g t l) (hx:a.eval x= .pointer (some ⟨g,0,none⟩)) (hy:a.eval y= .agg (PaC p v).toArray) (hv:v.oneCell'=true) (hl:l.length=5)
 (h:∀w',Blk w' g t (PaC p v)→Only g w w'→wpList Tryz.prog ops Q rest a w'):wpList Tryz.prog ops Q (o :: rest) a w:=
 Qaf hgd hd _ x y ho g t l _ hg hx hy 5 Qcz rfl hl (Qgi p hv) h
theorem Qdb (hw:Region.wanted o (yielded ops a.tmps)=true) (x:Operand) (ho:o.op= .load 34 x) {g:Nat} {t:TypeId} {p:Prt} {v:Value} (hb:Blk w g t (PaC p v)) (hx:a.eval x= .pointer (some ⟨g,0,none⟩))
 (h:wpList Tryz.prog ops Q rest (a.put o.dst (.agg (PaC p v).toArray)) w):wpList Tryz.prog ops Q (o :: rest) a w:=
 Qal hw _ x ho g 0 _ (fun j v hv=>by rw[QCI];exact hb.cellD _ hv) hx _ Tryz.underlying34 rfl (by rw[QaD];exact Qcz) h
end
theorem Qba {w:World} {g:Nat} {t:TypeId} {p:Prt} {v:Value} (h:Blk w g t (PaC p v)):w.cell? ⟨g,0,none⟩=some (W8 p.kd)∧w.cell? ⟨g,1,none⟩=some (W64 p.id)∧w.cell? ⟨g,2,none⟩=some (.int .i64 p.ix)∧w.cell? ⟨g,3,none⟩=some (.int .i64 p.ct)∧w.cell? ⟨g,4,none⟩=some v:=
 ⟨h.cellD 0 rfl,h.cellD 1 rfl,h.cellD 2 rfl,h.cellD 3 rfl,h.cellD 4 rfl⟩
theorem QnS (k:UInt8):k=1∨k=2∨k=3∨(k<1∨3<k):=by
 have e1:(1:UInt8).toNat=1:=rfl
 have e2:(2:UInt8).toNat=2:=rfl
 have e3:(3:UInt8).toNat=3:=rfl
 rw[UInt8.lt_iff_toNat_lt,UInt8.lt_iff_toNat_lt,←QDl,←QDl,←QDl]
 omega
theorem Qwb (id:UInt64) (ix ct:Int) (da:List UInt8):prtE ⟨1,id,ix,ct,da⟩=if 450<da.length then 2 else if ct<1∨16<ct∨ix<0∨ct≤ix then 3 else 0:=by
 rw[prtE,if_neg (show ¬((1:UInt8)<1∨3<(1:UInt8)) by decide)]
 simp
theorem Qv8 (id:UInt64) (ix ct:Int) (da:List UInt8):prtE ⟨2,id,ix,ct,da⟩=if 450<da.length then 2 else if ct<1∨16<ct∨ix<0∨ct≤ix then 3 else if ct≠1 then 3 else if id≠0∨da.length≠0 then 3 else 0:=by
 rw[prtE,if_neg (show ¬((2:UInt8)<1∨3<(2:UInt8)) by decide)]
 simp
theorem QvS (id:UInt64) (ix ct:Int) (da:List UInt8):prtE ⟨3,id,ix,ct,da⟩=if 450<da.length then 2 else if ct<1∨16<ct∨ix<0∨ct≤ix then 3 else if ct≠1 then 3 else 0:=by
 rw[prtE,if_neg (show ¬((3:UInt8)<1∨3<(3:UInt8)) by decide)]
 simp
theorem Qoc {p:Prt} (h:p.kd<1∨3<p.kd):prtE p=1:=by rw[prtE,if_pos h]
theorem QqR {k:UInt8} (h:k<1∨3<k):(k != 1)=true∧(k != 2)=true∧(k != 3)=true:=by
 refine⟨?_,?_,?_⟩<;>(rw [bne_iff_ne];rintro rfl;exact absurd h (by decide))
set_option maxRecDepth 100000 in
set_option maxHeartbeats 4000000 in
theorem QjD (p:Prt) (A:Option Addr) (n c:Nat) (hn:p.da.length=n) (w:World):Calls Tryz.prog 47 #[.agg (PaC p (.slice A n c)).toArray] w fun e w'=>e= .returned (.int .i64 (prtE p:Nat))∧Later w w':=by
 obtain⟨kd,id,ix,ct,da⟩:=p
 simp only at hn
 have hb:Blk (w.alloc (.cells (PaC ⟨kd,id,ix,ct,da⟩ (.slice A n c)).toArray 34)) w.heap.size 34 (PaC ⟨kd,id,ix,ct,da⟩ (.slice A n c)):=Blk.new _ _ _
 obtain⟨c0,c1,c2,c3,c4⟩:=Qba hb
 have L:=Qaa w (.cells (PaC ⟨kd,id,ix,ct,da⟩ (.slice A n c)).toArray 34)
 clear hb
 obtain⟨E,hE⟩:∃E,prtE ⟨kd,id,ix,ct,da⟩=E:=⟨_,rfl⟩
 rw[hE]
 rcases QnS kd with rfl|rfl|rfl|hbad
 case inr.inr.inr=>
  have HE:=hid (hE.symm.trans (Qoc (p:=⟨kd,id,ix,ct,da⟩) hbad))
  clear hE
  rcases hbad with h|h
  ·go_enter Tryz.func47,Tryz.ntmps47
   go_wp2_with fail
   go_ret
   exact⟨by rw[HE.out];rfl,L⟩
  ·by_cases h1:kd<1
   all_goals
    go_enter Tryz.func47,Tryz.ntmps47
    go_wp2_with fail
    go_ret
    exact⟨by rw[HE.out];rfl,L⟩
 all_goals
  have HE:=hE.symm.trans (by first|exact Qwb id ix ct da|exact Qv8 id ix ct da|exact QvS id ix ct da)
  rw[hn]at HE
  replace HE:=hid HE
  clear hE
  by_cases h2:450<n
  ·have hd:decide ((450:Int)<(n:Int))=true:=decide_eq_true (by omega)
   replace HE:=hid (HE.out.trans (if_pos h2))
   go_enter Tryz.func47,Tryz.ntmps47
   go_wp2_with fail
   go_ret
   exact⟨by rw[HE.out];rfl,L⟩
  have hd:decide ((450:Int)<(n:Int))=false:=decide_eq_false (by omega)
  replace HE:=hid (HE.out.trans (if_neg h2))
  by_cases h3:ct<1∨16<ct∨ix<0∨ct≤ix
  ·replace HE:=hid (HE.out.trans (if_pos h3))
   by_cases k1:ct<1
   ·go_enter Tryz.func47,Tryz.ntmps47
    go_wp2_with fail
    go_ret
    exact⟨by rw[HE.out];rfl,L⟩
   by_cases k2:16<ct
   ·go_enter Tryz.func47,Tryz.ntmps47
    go_wp2_with fail
    go_ret
    exact⟨by rw[HE.out];rfl,L⟩
   by_cases k3:ix<0
   ·go_enter Tryz.func47,Tryz.ntmps47
    go_wp2_with fail
    go_ret
    exact⟨by rw[HE.out];rfl,L⟩
   have k4:ct≤ix:=by omega
   go_enter Tryz.func47,Tryz.ntmps47
   go_wp2_with fail
   go_ret
   exact⟨by rw[HE.out];rfl,L⟩
  replace HE:=hid (HE.out.trans (if_neg h3))
  have k1: ¬ct<1:=by omega
  have k2: ¬ 16<ct:=by omega
  have k3: ¬ix<0:=by omega
  have k4: ¬ct≤ix:=by omega
  clear h3
 ·go_enter Tryz.func47,Tryz.ntmps47
  go_wp2_with fail
  go_ret
  exact⟨by rw[HE.out];rfl,L⟩
 all_goals
  by_cases h4:ct=1
  case neg=>
   have hd4:(ct != 1)=true:=by simpa using h4
   replace HE:=hid (HE.out.trans (if_pos h4))
   go_enter Tryz.func47,Tryz.ntmps47
   go_wp2_with fail
   go_ret
   exact⟨by rw[HE.out];rfl,L⟩
  subst h4
  replace HE:=hid (HE.out.trans (if_neg (by simp)))
 ·cases e1:(id==0)
  ·have n1:(id != 0)=true:=by rw[bne,e1];rfl
   have hne:id≠0:=by simpa using e1
   replace HE:=hid (HE.out.trans (if_pos (.inl hne)))
   go_enter Tryz.func47,Tryz.ntmps47
   go_wp2_with fail
   go_ret
   exact⟨by rw[HE.out];rfl,L⟩
  ·have n1:(id != 0)=false:=by rw[bne,e1];rfl
   have heq:id=0:=by simpa using e1
   by_cases h5:n=0
   ·replace HE:=hid (HE.out.trans (if_neg (by simp[heq,h5])))
    have n2:((n:Int) != 0)=false:=by simp[h5]
    clear h5 heq
    go_enter Tryz.func47,Tryz.ntmps47
    go_wp2_with fail
    go_ret
    exact⟨by rw[HE.out];rfl,L⟩
   ·replace HE:=hid (HE.out.trans (if_pos (.inr h5)))
    have n2:((n:Int) != 0)=true:=by simp;omega
    clear h5 heq
    go_enter Tryz.func47,Tryz.ntmps47
    go_wp2_with fail
    go_ret
    exact⟨by rw[HE.out];rfl,L⟩
 ·go_enter Tryz.func47,Tryz.ntmps47
  go_wp2_with fail
  go_ret
  exact⟨by rw[HE.out];rfl,L⟩
set_option maxRecDepth 100000 in
set_option maxHeartbeats 4000000 in
theorem Qp8 (p:Prt) (A:Option Addr) (n c:Nat) (hn:p.da.length=n) (w:World):Calls Tryz.prog 68 #[.agg (PaC p (.slice A n c)).toArray] w fun e w'=>e= .returned (.int .i64 (prtE p:Nat))∧Later w w':=by
 obtain⟨kd,id,ix,ct,da⟩:=p
 simp only at hn
 have hb:Blk (w.alloc (.cells (PaC ⟨kd,id,ix,ct,da⟩ (.slice A n c)).toArray 34)) w.heap.size 34 (PaC ⟨kd,id,ix,ct,da⟩ (.slice A n c)):=Blk.new _ _ _
 obtain⟨c0,c1,c2,c3,c4⟩:=Qba hb
 have L:=Qaa w (.cells (PaC ⟨kd,id,ix,ct,da⟩ (.slice A n c)).toArray 34)
 clear hb
 obtain⟨E,hE⟩:∃E,prtE ⟨kd,id,ix,ct,da⟩=E:=⟨_,rfl⟩
 rw[hE]
 rcases QnS kd with rfl|rfl|rfl|hbad
 case inr.inr.inr=>
  have HE:=hid (hE.symm.trans (Qoc (p:=⟨kd,id,ix,ct,da⟩) hbad))
  clear hE
  obtain⟨m1,m2,m3⟩:=QqR hbad
  clear hbad
  go_enter Tryz.func68,Tryz.ntmps68
  go_wp2_with fail
  go_ret
  exact⟨by rw[HE.out];rfl,L⟩
 all_goals
  have HE:=hE.symm.trans (by first|exact Qwb id ix ct da|exact Qv8 id ix ct da|exact QvS id ix ct da)
  rw[hn]at HE
  replace HE:=hid HE
  clear hE
  by_cases h2:450<n
  ·have hd:decide ((450:Int)<(n:Int))=true:=decide_eq_true (by omega)
   replace HE:=hid (HE.out.trans (if_pos h2))
   go_enter Tryz.func68,Tryz.ntmps68
   go_wp2_with fail
   go_ret
   exact⟨by rw[HE.out];rfl,L⟩
  have hd:decide ((450:Int)<(n:Int))=false:=decide_eq_false (by omega)
  replace HE:=hid (HE.out.trans (if_neg h2))
  by_cases h3:ct<1∨16<ct∨ix<0∨ct≤ix
  ·replace HE:=hid (HE.out.trans (if_pos h3))
   by_cases k1:ct<1
   ·go_enter Tryz.func68,Tryz.ntmps68
    go_wp2_with fail
    go_ret
    exact⟨by rw[HE.out];rfl,L⟩
   by_cases k2:16<ct
   ·go_enter Tryz.func68,Tryz.ntmps68
    go_wp2_with fail
    go_ret
    exact⟨by rw[HE.out];rfl,L⟩
   by_cases k3:ix<0
   ·go_enter Tryz.func68,Tryz.ntmps68
    go_wp2_with fail
    go_ret
    exact⟨by rw[HE.out];rfl,L⟩
   have k4:ct≤ix:=by omega
   go_enter Tryz.func68,Tryz.ntmps68
   go_wp2_with fail
   go_ret
   exact⟨by rw[HE.out];rfl,L⟩
  replace HE:=hid (HE.out.trans (if_neg h3))
  have k1: ¬ct<1:=by omega
  have k2: ¬ 16<ct:=by omega
  have k3: ¬ix<0:=by omega
  have k4: ¬ct≤ix:=by omega
  clear h3
 ·go_enter Tryz.func68,Tryz.ntmps68
  go_wp2_with fail
  go_ret
  exact⟨by rw[HE.out];rfl,L⟩
 all_goals
  by_cases h4:ct=1
  case neg=>
   have hd4:1<ct:=by omega
   replace HE:=hid (HE.out.trans (if_pos h4))
   go_enter Tryz.func68,Tryz.ntmps68
   go_wp2_with fail
   go_ret
   exact⟨by rw[HE.out];rfl,L⟩
  subst h4
  replace HE:=hid (HE.out.trans (if_neg (by simp)))
 ·cases e1:(id==0)
  ·have n1:(id != 0)=true:=by rw[bne,e1];rfl
   have hne:id≠0:=by simpa using e1
   replace HE:=hid (HE.out.trans (if_pos (.inl hne)))
   go_enter Tryz.func68,Tryz.ntmps68
   go_wp2_with fail
   go_ret
   exact⟨by rw[HE.out];rfl,L⟩
  ·have n1:(id != 0)=false:=by rw[bne,e1];rfl
   have heq:id=0:=by simpa using e1
   by_cases h5:n=0
   ·replace HE:=hid (HE.out.trans (if_neg (by simp[heq,h5])))
    have n2:decide (0<(n:Int))=false:=decide_eq_false (by omega)
    have n3: ¬ 0<n:=by omega
    clear h5 heq
    go_enter Tryz.func68,Tryz.ntmps68
    go_wp2_with fail
    go_ret
    exact⟨by rw[HE.out];rfl,L⟩
   ·replace HE:=hid (HE.out.trans (if_pos (.inr h5)))
    have n2:decide (0<(n:Int))=true:=decide_eq_true (by omega)
    have n3:0<n:=by omega
    clear h5 heq
    go_enter Tryz.func68,Tryz.ntmps68
    go_wp2_with fail
    go_ret
    exact⟨by rw[HE.out];rfl,L⟩
 ·go_enter Tryz.func68,Tryz.ntmps68
  go_wp2_with fail
  go_ret
  exact⟨by rw[HE.out];rfl,L⟩
def allZ (bs:List UInt8):Bool:=bs.all (· ==0)
theorem QgO:∀(bs:List UInt8),allZ bs=true↔bs=QCn bs.length 0
 | []=>by simp[allZ]
 | b :: bs=>by
   have ih:=QgO bs
   rw[allZ]at ih
   rw[allZ,QDA,QCG,ih,QDj,QEj,List.cons.injEq,beq_iff_eq]
theorem QqP {bs:List UInt8} {k:Nat} (hk:k<bs.length) (h:bs.getD k 0≠0):allZ bs=false:=by
 rw[allZ,List.all_eq_false]
 refine⟨bs[k],QDn hk,?_⟩
 rw[QCu,QCv hk]at h
 simpa using h
theorem QoN {bs:List UInt8} (h:∀k,k<bs.length→bs.getD k 0=0):allZ bs=true:=by
 rw[allZ,QDa]
 intro x hx
 obtain⟨k,hk,rfl⟩:=List.getElem_of_mem hx
 have:=h k hk
 rw[QCu,QCv hk]at this
 simpa using this
set_option maxRecDepth 100000 in
theorem Qn9 (A:Option Addr) (n c:Nat) (bs:List UInt8) (w:World) (hb:RdB w A n bs) (hn:n≤140737488355328):
 Calls Tryz.prog 44 #[.slice A n c] w fun e w'=>e= .returned (.bool (allZ bs))∧Later w w':=by
 have hl:=hb.len
 go_enter Tryz.func44,Tryz.ntmps44
 go_wp2
 go_loopw [7] (fun i wr=>∃k:Nat,i= .int .i64 k∧k≤n∧Hid (∀ j,j<k→bs.getD j 0=0)∧Later w wr) (fun i _=>n-(intOf i).toNat)
 case atStart=>exact⟨0,rfl,by omega,hid (fun j hj=>absurd hj (by omega)),Later.refl w⟩
 case round=>
  obtain⟨k,rfl,hk,hp,L⟩:=hrel
  by_cases hlt:k<n
  ·obtain⟨b,o,rfl,hb2,hc2⟩:=RdB.at_ (hb.later L) (by omega)
   have c1:=hc2 k hlt
   have hno:=hid (fun h=>QqP (bs:=bs) (k:=k) (by omega) h)
   have hgo:=hid (fun h:bs.getD k 0=0=>Qcl (p:=fun j=>bs.getD j 0=0) hp.out h)
   clear hc2
   generalize bs.getD k 0=x at *
   cases hx:(x==0)
   ·have n1:(x != 0)=true:=by rw[bne,hx];rfl
    have hE:=hid (hno.out (by simpa using hx))
    go_wp2
    go_ret
    exact⟨by rw[hE.out];rfl,L⟩
   ·have n1:(x != 0)=false:=by rw[bne,hx];rfl
    have hG:=hid (hgo.out (by simpa using hx))
    go_wp2
    exact⟨⟨k+1,by go_num,by omega,hG,L⟩,by simp[intOf];omega⟩
  ·obtain rfl:k=n:=by omega
   have hE:=hid (QoN (bs:=bs) (by rw[hl];exact hp.out))
   go_wp2
   go_ret
   exact⟨by rw[hE.out];rfl,L⟩
set_option maxRecDepth 100000 in
theorem Qjv (A:Option Addr) (n c:Nat) (bs:List UInt8) (w:World) (hb:RdB w A n bs) (hn:n≤1048576):
 Calls Tryz.prog 46 #[.slice A n c] w fun e w'=>e= .returned (.slice (some ⟨w.heap.size,0,none⟩) n n)∧Blk w' w.heap.size 5 (bs.map W8)∧Later w w':=by
 have hl:=hb.len
 go_enter Tryz.func46,Tryz.ntmps46
 go_wp2_with (first
  | (refine QaH rfl _ _ _ rfl 5 _ 1 Tryz.underlying32 QbW rfl _ _ _ _ n rfl rfl rfl rfl (by omega) (by omega) ?_;intro w1 hb1 hl1)
  | (refine Qax rfl _ _ _ _ rfl 5 Tryz.underlying32 QbR w.heap.size 0 n n _ _ hb1 A n c (bs.map W8) (RdB.later hb hl1) (QaE _) rfl rfl (by simp) ?_;intro w4 hb4 ho4
     rw[QCE (by rw[QCt,hl];omega),Qao _ _ (by rw[QCt,QCJ,hl])]at hb4)
  | fail)
 go_ret
 exact⟨rfl,hb4,hl1.only ho4 (QCx _)⟩
end Go.Proofs.YtdkpcdgckgaklaaGreat
