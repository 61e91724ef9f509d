/-
  Lemmas for the last text of this claim (part 12 of 20).
-/
import Derived.ArgAppend
import Derived.BigQuiet
import Derived.BigRegion
import Derived.ChangeOld
import Derived.Deep.RegionWith
import Derived.DeepKeys4
import Derived.JoinedCond
import Derived.LaidMore
import Derived.Laws.Append
import Derived.Laws.BytesArg
import Derived.Laws.CopyOwn
import Derived.Laws.Externs
import Derived.Laws.IdiomStrings
import Derived.Laws.Tables
import Derived.Lib.AppendStr
import Derived.Lib.AppendZerosOnto
import Derived.Lib.Mul64
import Derived.Lib.SlBytesConst
import Derived.LoopN
import Derived.Maps.OwnSet
import Derived.OpenShut
import Derived.OrdersHeld
import Derived.ProofKit
import Derived.Shelf.Spec.BitsCarry
import Derived.ShutString
import Derived.Test.YticcbmhcgmhohaaGreatProg
import Derived.Test.YticcbmhcgmhohaaGreatRows
import Derived.WalkKit
import Derived.WalkLawsBesides
import Derived.WalkSpells
import Derived.Test.YticcbmhcgmhohaaGreatPB
import Derived.Test.YticcbmhcgmhohaaGreatPC
import Derived.Test.YticcbmhcgmhohaaGreatPD
import Derived.Test.YticcbmhcgmhohaaGreatPE
import Derived.Test.YticcbmhcgmhohaaGreatPH
import Derived.Test.YticcbmhcgmhohaaGreatPI
import Derived.Test.YticcbmhcgmhohaaGreatPJ
import Derived.Test.YticcbmhcgmhohaaGreatPK
open List renaming replicate → QCC, getElem?_cons_succ → QCD, getElem?_cons_zero → QCE, length_map → QCF, nil_append → QCH, cons_append → QCI, getElem?_eq_getElem → QCJ, getD_eq_getElem?_getD → QCK, length_append → QCM, take_of_length_le → QCQ, length_replicate → QCS, map_toArray → QCT, append_assoc → QCU, getElem?_eq_some_iff → QCV, getElem?_append_left → QCW, getElem?_map → QCY, mem_cons → QCZ, not_mem_nil → QC0, map_nil → QC3, length_take → QC5, map_cons → QC9, set_append_right → QDc, length_set → QDl, all_eq_true → QDn, take_append_of_le_length → QDo, map_append → QDq, range → QDu, drop_of_length_le → QDM, drop_eq_getElem_cons → QDP, getElem?_set_ne → QDS, replicate_succ → QDW, getElem_mem → QD0, drop_zero → QD7, getElem?_set_self → QEn, getElem_of_mem → QEQ, range_succ → QER, map_set → QE3
open Nat renaming le_refl → QCP, mod_eq_of_lt → QC1, zero_add → QC4, mod_lt → QC8, le_trans → QDm, div_div_eq_div_mul → QDt, div_add_mod → QDA, mul_comm → QDD, pow_succ → QDF, min_eq_left → QDK, mul_assoc → QDR, mul_add → QDT, mul_mod → QDX, mod_mod → QD4, mul_le_mul_left → QEg, mul_one → QEq, pow_succ' → QEx, zero_mul → QEA, zero_mod → QEO, pow_zero → QEW
open Option renaming toList_some → QCG
open UInt32 renaming ofNat → QDg
open UInt64 renaming ofInt → QDC
open UInt8 renaming toNat → QE4
set_option linter.all false
namespace Go.Proofs.YticcbmhcgmhohaaGreat
open Go.RowKit
section
variable {w wk v:World} {ls ls':List (Nat×TypeId×List Value)}
theorem Bag.fresh (h:Bag w wk ls) {k:Nat} {t:TypeId} {l:List Value} (j:Later wk v) (hk:wk.heap.size≤k) (hb:Blk v k t l):Bag w v ((k,t,l) :: ls):=
 h.add j (fun p hp e=>by have:=(h.blk p hp).lt;omega) (QDm h.lat.size hk) hb
theorem Bag.sub (h:Bag w wk ls) (hs:ls'.Sublist ls):Bag w wk ls':=
 ⟨h.lat,fun p hp=>h.blk p (hs.subset hp),fun p hp=>h.low p (hs.subset hp),(hs.map _).nodup h.nd⟩
end
theorem Qft {w:World} {g n:Nat} {t:TypeId} {bs:List UInt8} {rest:List Value} (h:Blk w g t (bs.map W8++rest)) (hn:bs.length=n):RdB w (some ⟨g,0,none⟩) n bs:=
 ⟨by rw[QCF,hn],fun _=>⟨g,0,rfl,h.lt,fun j u hu=>by
   rw[QC4]
   refine h.cellD j ?_
   rw[QCW (QCV.1 hu).1]
   exact hu⟩⟩
theorem QgS {w:World} {g:Nat} {t:TypeId} {v:Value} {p:List UInt8} (hb:Blk w g t [v]) (hp:Part w (fun _=>False) v p):Parts w (fun _=>False) (some ⟨g,0,none⟩) 1 [p]:=
 ⟨[v],hb.rd rfl,Qbx _ _,rfl,fun j v' p' hv hp'=>by
   cases j with
   | zero=>
     cases hv
     cases hp'
     exact hp
   | succ j=>simp at hv⟩
theorem Qd7 {w:World} {g:Nat} {t:TypeId} {v1 v2:Value} {p1 p2:List UInt8} (hb:Blk w g t [v1,v2]) (h1:Part w (fun _=>False) v1 p1) (h2:Part w (fun _=>False) v2 p2):Parts w (fun _=>False) (some ⟨g,0,none⟩) 2 [p1,p2]:=
 ⟨[v1,v2],hb.rd rfl,Qbx _ _,rfl,fun j v' p' hv hp'=>by
   match j with
   | 0=>
     cases hv
     cases hp'
     exact h1
   | 1=>
     cases hv
     cases hp'
     exact h2
   | j+2=>simp at hv⟩
theorem Qkm {w:World} {base n c:Nat} {A:Option Addr} {bs:List UInt8} (h:OwnB w base A n c bs) (hn:0<n):∃g rest,A=some ⟨g,0,none⟩∧base≤g∧Blk w g 5 (bs.map W8++rest)∧c=(bs.map W8++rest).length∧n≤c:=by
 rcases QsG h with ⟨_,h0⟩|⟨g,rest,e,h1,h2,h3⟩
 ·omega
 ·exact⟨g,rest,e,h1,h2,h3,h.cap⟩
theorem QaM {w:World} {A:Option Addr} {n c:Nat} {p:List UInt8} (h:RdB w A n p) (hc:n≤c):Part w (fun _=>False) (.slice A n c) p:=⟨A,n,c,rfl,hc,h,fun _ _ _ h=>h⟩
end Go.Proofs.YticcbmhcgmhohaaGreat
namespace Go.Proofs.YticcbmhcgmhohaaGreat
open Go.RowKit
open Go.BigFrame
def rotl (x:UInt32) (n:Nat):UInt32:=QfA x n ||| QcD x (32-n)
theorem Qpo (n:Nat) (h1:n<32):cnt (QDC (n:Int) &&& 31)=n∧cnt (32-(QDC (n:Int) &&& 31))=32-n:=by
 have:∀k:Fin 32,cnt (QDC (k.val:Int) &&& 31)=k.val∧cnt (32-(QDC (k.val:Int) &&& 31))=32-k.val:=by decide
 exact this ⟨n,h1⟩
theorem Qri (x:UInt32) (n:Nat) (i:Int) (hi:i=(n:Int)) (h1:n<32) (w:World):
 Calls Tryz.prog 368 #[W32 x,.int .i64 i] w fun e w'=>e= .returned (W32 (rotl x n))∧w'=w:=by
 subst hi
 have hc:=hid (Qpo n h1)
 go_enter Tryz.func368,Tryz.ntmps368
 go_wp2
 go_ret
 exact⟨Qr8 (by rw[hc.out.1,hc.out.2,rotl]),rfl⟩
theorem Qk3 {fn:Func} {t u v x:Tmp} (h:fn.results= #[.tmp t,.tmp u,.tmp v,.tmp x]) (tmps:Array Value) (P:Program) (w:World):
 (results fn tmps).run P w= .ok (.tuple #[tmps.getD t undef,tmps.getD u undef,tmps.getD v undef,tmps.getD x undef]) w:=by
 simp[results,h]
def QzE (v:UInt32×UInt32×UInt32×UInt32) (n:Nat):UInt32×UInt32×UInt32×UInt32:=(v.1+v.2.1,v.2.1,v.2.2.1,rotl (v.2.2.2 ^^^ (v.1+v.2.1)) n)
def Qy2 (v:UInt32×UInt32×UInt32×UInt32) (n:Nat):UInt32×UInt32×UInt32×UInt32:=(v.1,rotl (v.2.1 ^^^ (v.2.2.1+v.2.2.2)) n,v.2.2.1+v.2.2.2,v.2.2.2)
def Qnb (a b c d:UInt32):UInt32×UInt32×UInt32×UInt32:=Qy2 (QzE (Qy2 (QzE (a,b,c,d) 16) 12) 8) 7
set_option maxHeartbeats 1000000 in
theorem QnC (a b c d:UInt32) (w:World):Calls Tryz.prog 362 #[W32 a,W32 b,W32 c,W32 d] w fun e w'=>
 e= .returned (.tuple #[W32 (Qnb a b c d).1,W32 (Qnb a b c d).2.1,W32 (Qnb a b c d).2.2.1,W32 (Qnb a b c d).2.2.2])∧w'=w:=by
 have hr:=hid Qri
 go_enter Tryz.func362,Tryz.ntmps362
 go_wp2_with fail
 refine (hr.out _ 16 _ rfl (by omega) _).mono ?_;rintro e w1 ⟨rfl,rfl⟩
 go_wp2_with fail
 refine (hr.out _ 12 _ rfl (by omega) _).mono ?_;rintro e w1 ⟨rfl,rfl⟩
 go_wp2_with fail
 refine (hr.out _ 8 _ rfl (by omega) _).mono ?_;rintro e w1 ⟨rfl,rfl⟩
 go_wp2_with fail
 refine (hr.out _ 7 _ rfl (by omega) _).mono ?_;rintro e w1 ⟨rfl,rfl⟩
 go_wp2_with fail
 (try simp only[Exit.inBlock,Exit.then]);refine bodyPost_ret (Qk3 rfl _ _ _) rfl ?_
 exact⟨rfl,rfl⟩
def leW (bs:List UInt8) (k:Nat):UInt32:=(Qda bs (4*k)).toUInt32 ||| QfA (Qda bs (4*k+1)).toUInt32 8 ||| QfA (Qda bs (4*k+2)).toUInt32 16 ||| QfA (Qda bs (4*k+3)).toUInt32 24
theorem Qvr {x y:UInt32} {w:World} (h:x=y) (w':World) (hl:Later w w'):Ending.returned (W32 x)= .returned (W32 y)∧Later w w':=⟨by rw[h],hl⟩
set_option maxHeartbeats 1000000 in
theorem QxJ (A:Option Addr) (n c:Nat) (bs:List UInt8) (p:Nat) (w:World) (hr:RdB w A n bs) (hk:p+4≤n) (hn:n≤140737488355328):
 Calls Tryz.prog 361 #[.slice A n c,.int .i64 (p:Int)] w fun e w'=>e= .returned (W32 ((Qda bs p).toUInt32 ||| QfA (Qda bs (p+1)).toUInt32 8 ||| QfA (Qda bs (p+2)).toUInt32 16 ||| QfA (Qda bs (p+3)).toUInt32 24))∧Later w w':=by
 have hl:=hr.len
 obtain⟨b,o,rfl,hb,hc⟩:=hr.at_ (by omega)
 have c0:=hc p (by omega)
 have c1:=hc (p+1) (by omega)
 have c2:=hc (p+2) (by omega)
 have c3:=hc (p+3) (by omega)
 unfold Qda
 generalize bs.getD p 0=x0 at *
 generalize bs.getD (p+1) 0=x1 at *
 generalize bs.getD (p+2) 0=x2 at *
 generalize bs.getD (p+3) 0=x3 at *
 clear hc hr
 go_enter Tryz.func361,Tryz.ntmps361
 go_wp2_with fail
 refine Qag [] [0,1,2,3,4,5,6,7,8,9,10,11,12,13,14,15,16,17,18,19,20,21,22,23,24,25,26,27,28,29] [] (by as_aux_lemma=>kernel_rfl) (by as_aux_lemma=>kernel_rfl) (by intro _ _ d _ _ h;cases d<;>exact h) ?_
 simp only[Qah,pick,QCD,QCE,QCG,QCI,QCH]
 repeat (go_big_quiet_step (fail))
 refine wpQuiet_nil ?_
 go_wp2_with fail
 go_ret
 exact Qvr rfl _ (Qab _)
theorem Qn6 (A:Option Addr) (n c:Nat) (bs:List UInt8) (k:Nat) (i:Int) (hi:i=4*(k:Int)) (w:World) (hr:RdB w A n bs) (hk:4*k+4≤n) (hn:n≤140737488355328):
 Calls Tryz.prog 361 #[.slice A n c,.int .i64 i] w fun e w'=>e= .returned (W32 (leW bs k))∧Later w w':=by
 obtain rfl:i=((4*k:Nat):Int):=by omega
 exact QxJ A n c bs (4*k) w hr hk hn
def putQ (s:List UInt32) (a b c d:Nat) (q:UInt32×UInt32×UInt32×UInt32):List UInt32:=(((s.set a q.1).set b q.2.1).set c q.2.2.1).set d q.2.2.2
def QdX (s:List UInt32) (a b c d:Nat):List UInt32:=putQ s a b c d (Qnb (wAt s a) (wAt s b) (wAt s c) (wAt s d))
theorem Qez (s:List UInt32) (a b c d:Nat):(QdX s a b c d).length=s.length:=by simp[QdX,putQ]
theorem QgJ {s:List UInt32} {i:Nat} (h:i<s.length):(s.map W32)[i]?=some (W32 (wAt s i)):=by
 rw[QCY,QCJ h,wAt,QCK,QCJ h]
 rfl
theorem QfU (s:List UInt32) (i:Nat) (x:UInt32):(s.map W32).set i (W32 x)=(s.set i x).map W32:=by rw[QE3]
theorem QdV:(Tryz.prog.info? 60).map (·.size)=some 1:=by kernel_rfl
set_option maxRecDepth 100000 in
set_option maxHeartbeats 2000000 in
theorem QrH (g:Nat) (t:TypeId) (s:List UInt32) (a b c d:Nat) (ia ib ic id:Int) (ha:ia=(a:Int)) (hb:ib=(b:Int)) (hc:ic=(c:Int)) (hd:id=(d:Int)) (w:World) (hs:Blk w g t (s.map W32)) (hl:s.length=16) (h1:a<16) (h2:b<16) (h3:c<16) (h4:d<16):
 Calls Tryz.prog 350 #[.pointer (some ⟨g,0,none⟩),.int .i64 ia,.int .i64 ib,.int .i64 ic,.int .i64 id] w fun e w'=>e= .returned (.tuple #[])∧Blk w' g t ((QdX s a b c d).map W32)∧Only g w w':=by
 subst ha hb hc hd
 have d1:=hs.cellD a (QgJ (s:=s) (by omega))
 have d2:=hs.cellD b (QgJ (s:=s) (by omega))
 have d3:=hs.cellD c (QgJ (s:=s) (by omega))
 have d4:=hs.cellD d (QgJ (s:=s) (by omega))
 have hq:=hid QnC
 have hR:=hid (show QdX s a b c d=putQ s a b c d (Qnb (wAt s a) (wAt s b) (wAt s c) (wAt s d)) from rfl)
 generalize QdX s a b c d=R at *
 generalize wAt s a=xa at *
 generalize wAt s b=xb at *
 generalize wAt s c=xc at *
 generalize wAt s d=xd at *
 go_enter Tryz.func350,Tryz.ntmps350
 go_wp2_with fail
 refine Qhm [([0,1,2,3,4,5,6,7,34,37,40,43],[8,9,10,11,12,13,14,15,16,17,18,19,20,21,22,23,24,25,26,27],28)] [29,30,31,32,33] [35] [36,38,39,41,42,44,45] (by as_aux_lemma=>kernel_rfl) (by as_aux_lemma=>kernel_rfl) (by intro _ _ d _ _ h;cases d<;>exact h) ?_
 simp only[Qgd,pick,QCD,QCE,QCG,QCI,QCH]
 repeat (go_big_quiet_step (fail))
 refine wpQuiet_nil ?_
 repeat (go_big_quiet_step (fail))
 refine wpQuiet_nil ?_
 go_wp2_with fail
 refine (hq.out _ _ _ _ _).mono ?_;rintro e w1 ⟨rfl,rfl⟩
 generalize Qnb xa xb xc xd=q at *
 obtain⟨qa,qb,qc,qd⟩:=q
 go_wp2_with fail
 try refine⟨by first|assumption|exact Qab _|exact Qaa _ _|exact Later.refl _,?_⟩
 try simp only[Qgd,pick,QCD,QCE,QCG,QCI,QCH]
 repeat (go_big_quiet_step (fail))
 refine wpQuiet_nil ?_
 repeat (go_big_quiet_step (fail))
 refine wpQuiet_nil ?_
 have hs':=hs.drew
 go_wp2_with (first
  | (refine Qad rfl rfl _ _ _ rfl g a t _ hs' rfl (by rw[QCF];omega) rfl QdV ?_;intro v' w5 hv' hb5 ho5;simp[go_sem]at hv';subst hv';rw[QfU]at hb5)
  | (refine Qad rfl rfl _ _ _ rfl g b t _ hb5 rfl (by rw[QCF,QDl];omega) rfl QdV ?_;intro v' w6 hv' hb6 ho6;simp[go_sem]at hv';subst hv';rw[QfU]at hb6)
  | (refine Qad rfl rfl _ _ _ rfl g c t _ hb6 rfl (by rw[QCF,QDl,QDl];omega) rfl QdV ?_;intro v' w7 hv' hb7 ho7;simp[go_sem]at hv';subst hv';rw[QfU]at hb7)
  | (refine Qad rfl rfl _ _ _ rfl g d t _ hb7 rfl (by rw[QCF,QDl,QDl,QDl];omega) rfl QdV ?_;intro v' w8 hv' hb8 ho8;simp[go_sem]at hv';subst hv';rw[QfU]at hb8)
  | fail)
 exact bodyPost_end (results_none rfl _ _ _) rfl ⟨rfl,by rw[hR.out];exact hb8,(Qab _).thenOnly (((ho5.trans ho6).trans ho7).trans ho8)⟩
def chaC:List UInt32:=[1634760805,857760878,2036477234,1797285236]
def QjS (key:List UInt8) (k:Nat):List UInt32:=chaC++(QDu k).map (leW key)++QCC (12-k) 0
def Qkt (key nonce:List UInt8) (ctr:UInt32) (k:Nat):List UInt32:=chaC++(QDu 8).map (leW key)++[ctr]++(QDu k).map (leW nonce)++QCC (3-k) 0
def QhV (key nonce:List UInt8) (ctr:UInt32):List UInt32:=chaC++(QDu 8).map (leW key)++[ctr]++(QDu 3).map (leW nonce)
theorem Qlg (key:List UInt8) (k:Nat) (h:k≤12):(QjS key k).length=16:=by
 simp[QjS,chaC]
 omega
theorem Qln (key nonce:List UInt8) (ctr:UInt32) (k:Nat) (h:k≤3):(Qkt key nonce ctr k).length=16:=by
 simp[Qkt,chaC]
 omega
theorem Qg8 (key nonce:List UInt8) (ctr:UInt32):(QhV key nonce ctr).length=16:=by simp[QhV,chaC]
theorem QkZ {α:Type} (z:α) (pre:List α) (f:Nat→α) (k n:Nat) (h:k<n):(pre++(QDu k).map f++QCC (n-k) z).set (pre.length+k) (f k)=pre++(QDu (k+1)).map f++QCC (n-(k+1)) z:=by
 have e:n-k=(n-(k+1))+1:=by omega
 rw[e,QDW,QDc _ _ (by simp),QER,QDq]
 simp
theorem QpO (key:List UInt8) (k:Nat) (h:k<8):(QjS key k).set (4+k) (leW key k)=QjS key (k+1):=QkZ 0 chaC (leW key) k 12 (by omega)
theorem QpH (key nonce:List UInt8) (ctr:UInt32) (k:Nat) (h:k<3):(Qkt key nonce ctr k).set (13+k) (leW nonce k)=Qkt key nonce ctr (k+1):=by
 have:=QkZ 0 (chaC++(QDu 8).map (leW key)++[ctr]) (leW nonce) k 3 h
 rw[show (chaC++(QDu 8).map (leW key)++[ctr]).length=13 by simp[chaC]]at this
 exact this
theorem Qzu (key nonce:List UInt8) (ctr:UInt32):(QjS key 8).set 12 ctr=Qkt key nonce ctr 0:=by
 rw[QjS,Qkt,QDc _ _ (by simp[chaC])]
 simp[chaC]
theorem Qsg (key nonce:List UInt8) (ctr:UInt32):Qkt key nonce ctr 3=QhV key nonce ctr:=by simp[Qkt,QhV]
theorem Qm1:(Tryz.prog.info? 530).map (·.size)=some 16:=by kernel_rfl
section
variable {ops:Array Oper} {rest:List Oper} {o:Oper} {a:Act} {w:World} {Q:Exit→Act→World→Prop}
theorem Qnp (hgd:o.guard=none) (hd:o.dst=none) (x y:Operand) (ho:o.op= .store 530 x y) {g:Nat} {t:TypeId} {l:List Value} {vs:List UInt32} (hg:Blk w g t l) (hx:a.eval x= .pointer (some ⟨g,0,none⟩)) (hy:a.eval y= .agg (vs.map W32).toArray)
 (hn:vs.length=16) (hl:l.length=16) (h:∀w',Blk w' g t (vs.map W32)→Only g w w'→wpList Tryz.prog ops Q rest a w'):wpList Tryz.prog ops Q (o :: rest) a w:=
 Qaf hgd hd _ x y ho g 0 t l (vs.map W32) hg hx hy (by rw[QCF,hn];exact Qm1) (by rw[QCF];omega) (QnE _) (fun w' hb=>h w' (by rwa [Qak _ _ (by rw[QCF];omega)]at hb))
theorem Qs6 (hgd:o.guard=none) (x:Operand) (ho:o.op= .load 530 x) {g:Nat} {t:TypeId} {vs:List UInt32} (hb:Blk w g t (vs.map W32)) (hl:vs.length=16) (hx:a.eval x= .pointer (some ⟨g,0,none⟩))
 (h:wpList Tryz.prog ops Q rest (a.put o.dst (.agg (vs.map W32).toArray)) w):wpList Tryz.prog ops Q (o :: rest) a w:=
 QaD hgd _ x ho g 0 (vs.map W32) (fun j v hv=>by rw[QC4];exact hb.cellD j hv) hx _ Tryz.underlying530 rfl (by rw[QCF,hl];exact Qm1) h
end
set_option maxRecDepth 100000 in
set_option maxHeartbeats 4000000 in
theorem Qnz (A B:Option Addr) (c d:Nat) (key nonce:List UInt8) (ctr:UInt32) (w:World) (hk:RdB w A 32 key) (hn:RdB w B 12 nonce):
 Calls Tryz.prog 349 #[.slice A 32 c,.slice B 12 d,W32 ctr] w fun e w'=>e= .returned (.agg ((QhV key nonce ctr).map W32).toArray)∧Later w w':=by
 have hA:=hid (Qlg key)
 have hB:=hid (Qln key nonce ctr)
 have sA:=hid (QpO key)
 have sB:=hid (QpH key nonce ctr)
 have hAB:=hid (Qzu key nonce ctr)
 have hBA:=hid (Qsg key nonce ctr)
 have hL:=Qg8 key nonce ctr
 have h0:=hid (show QjS key 0=[1634760805,857760878,2036477234,1797285236,0,0,0,0,0,0,0,0,0,0,0,0] from rfl)
 have hw:=hid (fun k i w hi h hk=>Qn6 A 32 c key k i hi w h hk (by omega))
 have hw2:=hid (fun k i w hi h hk=>Qn6 B 12 d nonce k i hi w h hk (by omega))
 generalize QhV key nonce ctr=L0 at *
 go_enter Tryz.func349,Tryz.ntmps349
 go_wp2_with (first
  | (refine Qam rfl 530 _ rfl (([1634760805,857760878,2036477234,1797285236,0,0,0,0,0,0,0,0,0,0,0,0]:List UInt32).map W32) ?hb ?_;(case hb=>kernel_rfl))
  | fail)
 have hR:=(Blk.new w 530 (QCC 16 (Value.int .u32 0))).later (Qaa _ (.cells #[W32 1634760805,W32 857760878,W32 2036477234,W32 1797285236,W32 0,W32 0,W32 0,W32 0,W32 0,W32 0,W32 0,W32 0,W32 0,W32 0,W32 0,W32 0] 530))
 have hS:Blk ((w.alloc (.cells (QCC 16 (Value.int .u32 0)).toArray 530)).alloc (.cells #[W32 1634760805,W32 857760878,W32 2036477234,W32 1797285236,W32 0,W32 0,W32 0,W32 0,W32 0,W32 0,W32 0,W32 0,W32 0,W32 0,W32 0,W32 0] 530)) (w.heap.size+1) 530 ((QjS key 0).map W32):=by
  rw[h0.out]
  exact Blk.new' (w.alloc _) _ _ (by simp)
 have L0:=(Qaa w (.cells (QCC 16 (Value.int .u32 0)).toArray 530)).trans (Qaa _ (.cells #[W32 1634760805,W32 857760878,W32 2036477234,W32 1797285236,W32 0,W32 0,W32 0,W32 0,W32 0,W32 0,W32 0,W32 0,W32 0,W32 0,W32 0,W32 0] 530))
 go_loopw [8] (fun i wr=>∃k:Nat,k≤8∧i= .int .i64 k∧Later w wr∧Blk wr w.heap.size 530 (QCC 16 (Value.int .u32 0))∧Blk wr (w.heap.size+1) 530 ((QjS key k).map W32)) (fun i _=>8-(intOf i).toNat)
 case atStart=>exact⟨0,by omega,rfl,L0,hR,hS⟩
 case round=>
  clear L0 hR hS
  obtain⟨k,hk',rfl,L,hR,hS⟩:=hrel
  by_cases hlt:k<8
  ·have hl:=hA.out k (by omega)
   have HST:=hid (sA.out k hlt)
   have t4:((4:Int)+(k:Int)).toNat=4+k:=by omega
   go_wp2_with fail
   (refine (hw.out k _ _ rfl (hk.later L) (by omega)).mono ?_);rintro e w3 ⟨rfl,j3⟩
   go_wp2_with (first
    | (refine Qad rfl rfl _ _ _ rfl (w.heap.size+1) (4+k) _ _ (hS.later j3) rfl (by rw[QCF];omega) rfl QdV ?_;intro v' w5 hv' hb5 ho5;simp[go_sem]at hv';subst hv';rw[QfU,HST.out]at hb5)
    | fail)
   go_roundw
   case rel=>exact⟨k+1,by omega,by go_num,(L.trans j3).only ho5 (by omega),(hR.later j3).only ho5 (by omega),hb5⟩
   case measure=>simp[intOf];omega
  ·obtain rfl:8=k:=by omega
   have hl:=hA.out 8 (by omega)
   go_wp2_with (first
    | (refine Qad rfl rfl _ _ _ rfl (w.heap.size+1) 12 _ _ hS rfl (by rw[QCF];omega) rfl QdV ?_;intro v' w5 hv' hb5 ho5;simp[go_sem]at hv';subst hv';rw[QfU,hAB.out]at hb5)
    | fail)
   have L5:=L.only ho5 (by omega)
   have hR5:=hR.only ho5 (by omega)
   clear L hR hS ho5
   go_loopw [9] (fun i wr=>∃k:Nat,k≤3∧i= .int .i64 k∧Later w wr∧Blk wr w.heap.size 530 (QCC 16 (Value.int .u32 0))∧Blk wr (w.heap.size+1) 530 ((Qkt key nonce ctr k).map W32)) (fun i _=>3-(intOf i).toNat)
   case atStart=>exact⟨0,by omega,rfl,L5,hR5,hb5⟩
   case round=>
    clear L5 hR5 hb5
    obtain⟨k,hk',rfl,L,hR,hS⟩:=hrel
    by_cases hlt:k<3
    ·have hl:=hB.out k (by omega)
     have HST:=hid (sB.out k hlt)
     have t4:((13:Int)+(k:Int)).toNat=13+k:=by omega
     go_wp2_with fail
     (refine (hw2.out k _ _ rfl (hn.later L) (by omega)).mono ?_);rintro e w3 ⟨rfl,j3⟩
     go_wp2_with (first
      | (refine Qad rfl rfl _ _ _ rfl (w.heap.size+1) (13+k) _ _ (hS.later j3) rfl (by rw[QCF];omega) rfl QdV ?_;intro v' w5 hv' hb5 ho5;simp[go_sem]at hv';subst hv';rw[QfU,HST.out]at hb5)
      | fail)
     go_roundw
     case rel=>(repeat apply Exists.intro);exact⟨⟨k+1,by omega,by go_num,(L.trans j3).only ho5 (by omega),(hR.later j3).only ho5 (by omega),hb5⟩,rfl⟩
     case measure=>simp[intOf];omega
    ·obtain rfl:3=k:=by omega
     rw[hBA.out]at hS
     go_wp2_with (first
      | (refine Qs6 rfl _ rfl hS hL rfl ?_)
      | (refine Qnp rfl rfl _ _ rfl hR rfl rfl hL rfl ?_;intro w9 hb9 ho9)
      | fail)
     exact bodyPost_ret (QaR rfl _ _ _ _ _ _ hb9 rfl Tryz.underlying530 rfl (by rw[QCF,hL];exact Qm1)) rfl ⟨rfl,L.only ho9 (QCP _)⟩
def dbl (s:List UInt32):List UInt32:=
 QdX (QdX (QdX (QdX (QdX (QdX (QdX (QdX s 0 4 8 12) 1 5 9 13) 2 6 10 14) 3 7 11 15) 0 5 10 15) 1 6 11 12) 2 7 8 13) 3 4 9 14
def dblN (s:List UInt32):Nat→List UInt32
 | 0=>s
 | k+1=>dbl (dblN s k)
theorem Qpy (s:List UInt32):(dbl s).length=s.length:=by simp[dbl,Qez]
theorem QiJ (s:List UInt32):∀k,(dblN s k).length=s.length
 | 0=>rfl
 | k+1=>by rw[dblN,Qpy,QiJ s k]
def le4 (x:UInt32):List UInt8:=[x.toUInt8,(QcD x 8).toUInt8,(QcD x 16).toUInt8,(QcD x 24).toUInt8]
def QfG (f s:List UInt32) (k:Nat):List UInt8:=(QDu k).flatMap fun i=>le4 (wAt f i+wAt s i)
theorem Qip (f s:List UInt32) (k:Nat):QfG f s (k+1)=QfG f s k++le4 (wAt f k+wAt s k):=by
 simp[QfG,QER]
theorem QeA (f s:List UInt32):∀k,(QfG f s k).length=4*k
 | 0=>rfl
 | k+1=>by rw[Qip,QCM,QeA f s k,le4];simp;omega
def chaB (key nonce:List UInt8) (ctr:UInt32):List UInt8:=QfG (dblN (QhV key nonce ctr) 10) (QhV key nonce ctr) 16
theorem QhR (key nonce:List UInt8) (ctr:UInt32):(chaB key nonce ctr).length=64:=QeA _ _ 16
theorem QkD {w:World} {base:Nat} {A:Option Addr} {n c:Nat} {xs ys:List UInt8} (h:w.ownsRow base 5 1 (.slice A n c) n (xs.map W8++ys.map W8)):OwnB w base A n c (xs++ys):=by
 rw[←QDq]at h
 exact h
theorem QtO (g:Nat) (t:TypeId) (s:List UInt32) (a b c d:Nat) (ia ib ic id:Int) (ha:ia=(a:Int)) (hb:ib=(b:Int)) (hc:ic=(c:Int)) (hd:id=(d:Int)) (w:World) (hs:Blk w g t (s.map W32)) (hl:s.length=16) (h1:a<16) (h2:b<16) (h3:c<16) (h4:d<16):
 Calls Tryz.prog 350 #[.pointer (some ⟨g,0,none⟩),.int .i64 ia,.int .i64 ib,.int .i64 ic,.int .i64 id] w fun e w'=>e= .returned (.tuple #[])∧∃s',Hid (s'=QdX s a b c d)∧s'.length=16∧Blk w' g t (s'.map W32)∧Only g w w':=
 (QrH g t s a b c d ia ib ic id ha hb hc hd w hs hl h1 h2 h3 h4).mono fun _ _ ⟨he,hb,ho⟩=>⟨he,_,hid rfl,(Qez s a b c d).trans hl,hb,ho⟩
set_option maxRecDepth 100000 in
set_option maxHeartbeats 8000000 in
theorem Qs9 (A B:Option Addr) (c d:Nat) (key nonce:List UInt8) (ctr:UInt32) (w:World) (hk:RdB w A 32 key) (hn:RdB w B 12 nonce):
 Calls Tryz.prog 317 #[.slice A 32 c,.slice B 12 d,W32 ctr] w fun e w'=>∃A' c',e= .returned (.tuple #[.slice A' 64 c',.int .i64 0])∧OwnB w' w.heap.size A' 64 c' (chaB key nonce ctr)∧Later w w':=by
 have hI:=hid (Qnz A B c d key nonce ctr w hk hn)
 have hsl:=Qg8 key nonce ctr
 have hC:=hid (show chaB key nonce ctr=QfG (dblN (QhV key nonce ctr) 10) (QhV key nonce ctr) 16 from rfl)
 generalize QhV key nonce ctr=S at *
 generalize chaB key nonce ctr=CB at *
 have hr:=hid QtO
 have hdl:=hid (fun k=>(QiJ S k).trans hsl)
 have hrl:=hid Qez
 have hd1:=hid (fun k=>show dblN S (k+1)=dbl (dblN S k) from rfl)
 go_enter Tryz.func317,Tryz.ntmps317
 go_wp2_with fail
 (with_reducible refine (hI.out).mono ?_);rintro e w1 ⟨rfl,j1⟩
 go_wp2_with (first
  | (refine Qnp rfl rfl _ _ rfl (Blk.new w1 _ (QCC 16 (.int .u32 0))) rfl rfl hsl rfl ?_;intro w2 hb2 ho2
     have B2:=(Bag.none w).push (j1.trans (Qaa w1 _)) j1.size ho2 hb2)
  | (refine Qs6 rfl _ rfl (B2.nth 0 rfl) hsl rfl ?_)
  | (refine Qnp rfl rfl _ _ rfl (Blk.new w2 _ (QCC 16 (.int .u32 0))) rfl rfl hsl rfl ?_;intro w3 hb3 ho3
     have B3:=B2.push (Qaa w2 _) (QCP _) ho3 hb3)
  | fail)
 clear B2 hb2 hb3 ho2 ho3 j1
 generalize w1.heap.size=g8 at *
 generalize w2.heap.size=g9 at *
 go_loopw [26] (fun i wr=>∃k:Nat,k≤10∧i= .int .i64 k∧Bag w wr [(g9,530,(dblN S k).map W32),(g8,530,S.map W32)]) (fun i _=>10-(intOf i).toNat)
 case atStart=>exact⟨0,by omega,rfl,B3⟩
 case round=>
  clear B3
  obtain⟨k,hk',rfl,B3⟩:=hrel
  by_cases hlt:k<10
  ·have hl:=hdl.out k
   have hd2:=hid (hd1.out k)
   generalize dblN S k=T at *
   obtain⟨T0,hT0⟩:∃T0,T0=dblN S (k+1):=⟨_,rfl⟩
   rw[←hT0]at hd2
   replace hT0:=hid hT0
   go_wp2_with fail
   have b0:=B3.nth 0 rfl
   (refine (hr.out g9 _ T 0 4 8 12 _ _ _ _ rfl rfl rfl rfl _ b0 hl (by omega) (by omega) (by omega) (by omega)).mono ?_);rintro e w4 ⟨rfl,T1,e1,l1,b1,o1⟩
   go_wp2_with fail
   (refine (hr.out g9 _ T1 1 5 9 13 _ _ _ _ rfl rfl rfl rfl _ b1 l1 (by omega) (by omega) (by omega) (by omega)).mono ?_);rintro e w5 ⟨rfl,T2,e2,l2,b2,o2⟩
   clear b1
   go_wp2_with fail
   (refine (hr.out g9 _ T2 2 6 10 14 _ _ _ _ rfl rfl rfl rfl _ b2 l2 (by omega) (by omega) (by omega) (by omega)).mono ?_);rintro e w6 ⟨rfl,T3,e3,l3,b3,o3⟩
   clear b2
   go_wp2_with fail
   (refine (hr.out g9 _ T3 3 7 11 15 _ _ _ _ rfl rfl rfl rfl _ b3 l3 (by omega) (by omega) (by omega) (by omega)).mono ?_);rintro e w7 ⟨rfl,T4,e4,l4,b4,o4⟩
   clear b3
   go_wp2_with fail
   (refine (hr.out g9 _ T4 0 5 10 15 _ _ _ _ rfl rfl rfl rfl _ b4 l4 (by omega) (by omega) (by omega) (by omega)).mono ?_);rintro e w8 ⟨rfl,T5,e5,l5,b5,o5⟩
   clear b4
   go_wp2_with fail
   (refine (hr.out g9 _ T5 1 6 11 12 _ _ _ _ rfl rfl rfl rfl _ b5 l5 (by omega) (by omega) (by omega) (by omega)).mono ?_);rintro e w9 ⟨rfl,T6,e6,l6,b6,o6⟩
   clear b5
   go_wp2_with fail
   (refine (hr.out g9 _ T6 2 7 8 13 _ _ _ _ rfl rfl rfl rfl _ b6 l6 (by omega) (by omega) (by omega) (by omega)).mono ?_);rintro e w10 ⟨rfl,T7,e7,l7,b7,o7⟩
   clear b6
   go_wp2_with fail
   (refine (hr.out g9 _ T7 3 4 9 14 _ _ _ _ rfl rfl rfl rfl _ b7 l7 (by omega) (by omega) (by omega) (by omega)).mono ?_);rintro e w11 ⟨rfl,T8,e8,l8,b8,o8⟩
   clear b7
   go_wp2_with fail
   go_roundw
   case rel=>
    refine⟨k+1,by omega,by go_num,?_⟩
    rw[←hT0.out,hd2.out,dbl,←e1.out,←e2.out,←e3.out,←e4.out,←e5.out,←e6.out,←e7.out,←e8.out]
    exact B3.write 0 rfl (((((((o1.trans o2).trans o3).trans o4).trans o5).trans o6).trans o7).trans o8) b8
   case measure=>simp[intOf];omega
  ·obtain rfl:10=k:=by omega
   have hl:=hdl.out 10
   generalize dblN S 10=F at *
   have hCs:=hid (Qip F S)
   have hCl:=hid (QeA F S)
   have hC0:=hid (show QfG F S 0=[] from rfl)
   go_wp2_with (first
    | (refine Qcf rfl _ _ _ rfl 5 _ 1 Tryz.underlying22 Qdo rfl _ _ _ _ 0 64 rfl rfl rfl rfl (by omega) (by omega) (by omega) ?_;intro w4 hown4 hl4)
    | (refine Qs6 rfl _ rfl ((B3.nth 0 rfl).later hl4) hl rfl ?_)
    | fail)
   have hgr:=B3.lat.size
   have B4:=B3.later hl4
   have hown5:OwnB w4 w.heap.size (some ⟨wr.heap.size,0,none⟩) 0 64 (QfG F S 0):=by
    rw[hC0.out]
    exact Qc3 hown4 hgr
   clear B3 hown4 hl4
   generalize wr.heap.size=g10 at *
   go_loopw [10,39] (fun v i wr=>∃(k:Nat) (A':Option Addr) (c':Nat),k≤16∧i= .int .i64 k∧v= .slice A' (4*k) c'∧OwnB wr w.heap.size A' (4*k) c' (QfG F S k)∧Later w wr∧Blk wr g8 530 (S.map W32)) (fun _ i _=>16-(intOf i).toNat)
   case atStart=>exact⟨0,_,_,by omega,rfl,rfl,hown5,B4.lat,B4.nth 1 rfl⟩
   case round=>
    clear hown5 B4 hgr
    obtain⟨k,A6,c6,hk6,rfl,rfl,hown,L,h8⟩:=hrel
    by_cases hlt:k<16
    ·have HCS:=hid (hCs.out k)
     have c8:=h8.cellD k (QgJ (s:=S) (by omega))
     have hix:∀W',(Instr.index 530 (.agg (F.map W32).toArray) (.int .i64 (k:Int))).run Tryz.prog W'= .ok (W32 (wAt F k)) W':=fun W'=>QeE Tryz.underlying530 QdV Tryz.underlying60 rfl (F.map W32) .i64 k (W32 (wAt F k)) hlt (QgJ (by omega)) W'
     generalize wAt F k=xf at *
     generalize wAt S k=xs at *
     generalize QfG F S k=O at *
     have hle:Hid ([xf.toUInt8+xs.toUInt8,(QcD (xf+xs) 8).toUInt8,(QcD (xf+xs) 16).toUInt8,(QcD (xf+xs) 24).toUInt8]=le4 (xf+xs)):=hid (by rw[le4,UInt32.toUInt8_add])
     have J:=Qaa wr (.cells #[W8 (xf.toUInt8+xs.toUInt8),W8 (QcD (xf+xs) 8).toUInt8,W8 (QcD (xf+xs) 16).toUInt8,W8 (QcD (xf+xs) 24).toUInt8] 5)
     go_wp2_with (first
      | (refine QbD rfl _ _ _ rfl 5 _ 1 Tryz.underlying22 Qdo rfl w _ (4*k) _ (hown.later J) (L.trans J) _ 4 4 _ ((Blk.new wr 5 [W8 (xf.toUInt8+xs.toUInt8),W8 (QcD (xf+xs) 8).toUInt8,W8 (QcD (xf+xs) 16).toUInt8,W8 (QcD (xf+xs) 24).toUInt8]).rd rfl) (QaH [xf.toUInt8+xs.toUInt8,(QcD (xf+xs) 8).toUInt8,(QcD (xf+xs) 16).toUInt8,(QcD (xf+xs) 24).toUInt8]) rfl rfl (by omega) (by omega) ?_;intro A7 c7 w7 hown7 hl7 hg7 _)
      | fail)
     have hown8:OwnB w7 w.heap.size A7 (4*k+4) c7 (O++le4 (xf+xs)):=by
      rw[←hle.out]
      exact QkD hown7
     rw[←HCS.out]at hown8
     have h9:=QiB (h8.later J) (hown.later J) (by decide) hg7
     go_roundw
     case rel=>exact⟨k+1,A7,c7,by omega,by go_num,rfl,hown8,hl7,h9⟩
     case measure=>simp[intOf];omega
    ·obtain rfl:16=k:=by omega
     rw[←hC.out]at hown
     go_wp2_with fail
     go_ret2
     exact⟨_,_,rfl,hown,L⟩
def chaF (key:List UInt8) (k:Nat):List UInt8:=(QDu k).flatMap fun i=>chaB key (QCC 12 0) (QDg i)
theorem QiH (key:List UInt8) (k:Nat):chaF key (k+1)=chaF key k++chaB key (QCC 12 0) (QDg k):=by simp[chaF,QER]
theorem QeD (key:List UInt8):∀k,(chaF key k).length=64*k
 | 0=>rfl
 | k+1=>by rw[QiH,QCM,QeD key k,QhR];omega
def chaS (key:List UInt8) (n:Nat):List UInt8:=(chaF key ((n+63)/64)).take n
theorem Qaz (key:List UInt8) (n:Nat):(chaS key n).length=n:=by
 rw[chaS,QC5,QeD]
 omega
theorem Qle (key:List UInt8) (k:Nat):∀j,∃r,chaF key (k+j)=chaF key k++r
 | 0=>⟨[],by simp⟩
 | j+1=>by
   obtain⟨r,h⟩:=Qle key k j
   exact⟨r++chaB key (QCC 12 0) (QDg (k+j)),by rw[←Nat.add_assoc,QiH,h,QCU]⟩
theorem Qih (key:List UInt8) (n k:Nat) (h:n≤64*k):chaS key n=(chaF key k).take n:=by
 obtain⟨r,hr⟩:=Qle key ((n+63)/64) (k-(n+63)/64)
 rw[Nat.add_sub_cancel' (by omega)]at hr
 rw[hr,chaS,QDo (by rw[QeD];omega)]
theorem Qlm {α:Type} (l r:List α) (m n:Nat) (h:l.length=m) (hm:m≤n):(l++r).take n=l++r.take (n-m):=by
 rw[List.take_append,h,QCQ (by omega)]
theorem Qnj (k:Nat) (w:World):(convert 3 60 (.int .i64 (k:Int))).run Tryz.prog w= .ok (W32 (QDg k)) w:=by
 have h:=run_convert_int (P:=Tryz.prog) (w:=w) 3 60 .i64 (k:Int) (by rw[Tryz.underlying3];rfl) (by unfold Program.intKind;rw[Tryz.underlying60])
 have e:Tryz.prog.intKind 60= .u32:=by unfold Program.intKind;rw[Tryz.underlying60]
 rw[e]at h
 refine h.trans ?_
 congr 1
set_option maxRecDepth 100000 in
set_option maxHeartbeats 4000000 in
theorem Ql7 (A:Option Addr) (c n:Nat) (key:List UInt8) (w:World) (hk:RdB w A 32 key) (hn:n≤65536):
 Calls Tryz.prog 256 #[.slice A 32 c,.int .i64 0,.int .i64 n] w fun e w'=>∃A' c',e= .returned (.slice A' n c')∧OwnB w' w.heap.size A' n c' (chaS key n)∧Later w w':=by
 have hB:=hid (fun B d ctr (w':World) (hl:Later w w') hn=>Qs9 A B c d key (QCC 12 0) ctr w' (hk.later hl) hn)
 have hs1:=hid (QiH key)
 have hl1:=hid (QeD key)
 have hS:=hid (Qih key n)
 have hbl:=hid (fun ctr=>QhR key (QCC 12 0) ctr)
 have h0:=hid (show (chaF key 0).take 0=[] from rfl)
 go_enter Tryz.func256,Tryz.ntmps256
 go_wp2_with (first
  | (refine QaF rfl _ _ _ rfl 5 _ 1 Tryz.underlying22 Qdo rfl _ _ _ _ 12 rfl rfl rfl rfl (by omega) (by omega) ?_;intro w1 hb1 hl1')
  | (refine Qcf rfl _ _ _ rfl 5 _ 1 Tryz.underlying22 Qdo rfl _ _ _ _ 0 n rfl rfl rfl rfl (by omega) (by omega) (by omega) ?_;intro w2 hown2 hl2)
  | fail)
 have hz1:=hl1'.size
 have hlt1:=hb1.lt
 have L2:=hl1'.trans hl2
 have hbase:w.heap.size<w1.heap.size:=hlt1
 have hown3:OwnB w2 w1.heap.size (some ⟨w1.heap.size,0,none⟩) 0 n ((chaF key 0).take 0):=by
  rw[h0.out]
  exact hown2
 have hno:RdB w1 (some ⟨w.heap.size,0,none⟩) 12 (QCC 12 0):=hb1.rd rfl
 clear hb1 hown2 L2 hz1
 have hL1:=hl2
 go_loopw [1,8] (fun at_ v wr=>∃(k m:Nat) (A':Option Addr) (c':Nat),at_= .int .i64 m∧v= .slice A' m c'∧m≤n∧m≤64*k∧(m<n→m=64*k)∧OwnB wr w1.heap.size A' m c' ((chaF key k).take m)∧Later w1 wr) (fun _ v _=>n-lenOf v)
 case atStart=>exact⟨0,0,_,_,rfl,rfl,by omega,by omega,fun _=>rfl,hown3,hL1⟩
 case round=>
  clear hown3 hL1 hl2
  obtain⟨k,m,A6,c6,rfl,rfl,hmn,hmk,hm64,hown,L⟩:=hrel
  by_cases hlt:m<n
  ·have hm:=hm64 hlt
   have hq:(m:Int)/64=(k:Int):=by omega
   have hr:(m:Int)%64=0:=by omega
   have hcv:=Qnj k
   have hb:=hid (hs1.out k)
   have hBl:=hid (hbl.out (QDg k))
   have HM:=hid hm
   have HFl:=hid (hl1.out k)
   clear hm hm64
   go_wp2_with fail
   (with_reducible refine (hB.out _ _ _ _ (hl1'.trans L) (hno.later L)).mono ?_);rintro e w4 ⟨A9,c9,rfl,hown9,j9⟩
   have hrd9:=hown9.rd
   have hcap:=hown9.cap
   have hcut:∀W,(Instr.sliceAt 22 (.slice A9 64 c9) (some (.int .i64 0)) none none).run Tryz.prog W= .ok (.slice A9 64 c9) W:=fun W=>by
    have h:=QhW A9 64 c9 .i64 0 (by omega) W
    simpa [Qlh] using h
   generalize chaB key (QCC 12 0) (QDg k)=Bk at *
   generalize chaF key k=Fk at *
   by_cases hbig:n-m<64
   ·obtain⟨q,hqn⟩:∃q,n=m+q:=⟨n-m,by omega⟩
    have hb1:((n:Int)-(m:Int))<64:=by omega
    have hcut2:∀W,(Instr.sliceAt 22 (.slice A9 64 c9) none (some (.int .i64 ((n:Int)-(m:Int)))) none).run Tryz.prog W= .ok (.slice A9 q c9) W:=fun W=>by
     rw[show (n:Int)-(m:Int)=(q:Int) by omega]
     exact QrI A9 64 c9 .i64 q (by omega) W
    have hq64:q<64:=by omega
    have hrq:=hrd9.take (m:=q) (by omega)
    have hmq:m+q≤65536:=by omega
    replace hqn:=hid hqn
    go_wp2_with (first
     | (refine QbD rfl _ _ _ rfl 5 _ 1 Tryz.underlying22 Qdo rfl w1 _ m _ (hown.later j9) (L.trans j9) A9 q c9 _ hrq (QaH _) rfl rfl (by omega) (by omega) ?_;intro A7 c7 w7 hown7 hl7 hg7 _)
     | fail)
    have hown8:=QkD hown7
    go_roundw
    case rel=>
     refine⟨k+1,m+q,A7,c7,by go_num,rfl,by have:=hqn.out;omega,by have:=HM.out;omega,fun h=>by have:=hqn.out;omega,?_,hl7⟩
     rw[hb.out,Qlm _ _ _ _ HFl.out (by have:=HM.out;omega),show m+q-64*k=q by have:=HM.out;omega]
     rw[QCQ (by rw[HFl.out,HM.out];omega)]at hown8
     exact hown8
    case measure=>have:=hqn.out;simp[lenOf];omega
   ·have hb1: ¬((n:Int)-(m:Int))<64:=by omega
    go_wp2_with (first
     | (refine QbD rfl _ _ _ rfl 5 _ 1 Tryz.underlying22 Qdo rfl w1 _ m _ (hown.later j9) (L.trans j9) A9 64 c9 _ hrd9 (QaH _) rfl rfl (by omega) (by omega) ?_;intro A7 c7 w7 hown7 hl7 hg7 _)
     | fail)
    have hown8:=QkD hown7
    go_roundw
    case rel=>
     refine⟨k+1,m+64,A7,c7,by go_num,rfl,by omega,by have:=HM.out;omega,fun h=>by have:=HM.out;omega,?_,hl7⟩
     rw[hb.out,Qlm _ _ _ _ HFl.out (by have:=HM.out;omega),show m+64-64*k=64 by have:=HM.out;omega,QCQ (by rw[hBl.out];omega)]
     rw[QCQ (by rw[HFl.out,HM.out];omega)]at hown8
     exact hown8
    case measure=>simp[lenOf];omega
  ·obtain rfl:n=m:=by omega
   have hE:=hid (hS.out k hmk)
   rw[←hE.out]at hown
   go_wp2_with fail
   go_ret
   exact⟨_,_,rfl,hown.mono (Nat.le_of_lt hbase),hl1'.trans L⟩
theorem Qi6 (A:Option Addr) (c n:Nat) (key:List UInt8) (w:World) (hk:RdB w A 32 key) (hn:n≤65536):
 Calls Tryz.prog 163 #[.slice A 32 c,.int .i64 n] w fun e w'=>∃A' c',e= .returned (.tuple #[.slice A' n c',.int .i64 0])∧OwnB w' w.heap.size A' n c' (chaS key n)∧Later w w':=by
 have hp:=hid (fun c (w:World) h=>Ql7 A c n key w h hn)
 go_enter Tryz.func163,Tryz.ntmps163
 go_wp2_with fail
 (with_reducible refine (hp.out _ _ hk).mono ?_);rintro e w1 ⟨A1,c1,rfl,ho1,j1⟩
 go_wp2_with fail
 go_ret2
 exact⟨_,_,rfl,ho1,j1⟩
theorem of_9 (w:World):Calls Tryz.prog 158 #[.int .u64 9] w fun e w'=>e= .returned (E 9)∧Later w w':=Qtm 9 (by decide) w
theorem QzT (w:World):Calls Tryz.prog 157 #[E 9] w fun e w'=>e= .returned (.agg ((nb 9).map W8).toArray)∧Later w w':=by
 have:=Qiz 9 (by decide) w
 rwa [show 9%P25=9 by decide,BB]at this
theorem Qpm (w:World):Calls Tryz.prog 90 #[NN 9] w fun e w'=>e= .returned (.agg ((nb 9).map W8).toArray)∧Later w w':=by
 have:=QlD 9 (by decide) w
 rwa [show 9%P25=9 by decide,BB]at this
theorem QtU:Program.built Tryz.prog 270 [(0,Value.int .u32 9)]=some (NL 9).toArray:=by kernel_rfl
set_option maxRecDepth 100000 in
set_option maxHeartbeats 2000000 in
theorem QpN (A:Option Addr) (n c:Nat) (ks:List UInt8) (w:World) (hk:RdB w A n ks) (hn:n≤140737488355328):
 Calls Tryz.prog 93 #[.slice A n c] w fun e w'=>e= .returned (.tuple #[.agg ((Qbe ks (nb 9)).map W8).toArray,.int .i64 (Qbf ks (nb 9):Nat)])∧Later w w':=by
 have B0:=QaW w 25 (QCC 32 (Value.int .u8 0))
 have cM:=hid (fun (w:World) g d h1 h2=>QhF A (some ⟨g,0,none⟩) n c 32 d ks (nb 9) w h1 h2 hn (by omega))
 have hml:=QaT ks (nb 9)
 have h9:=QbS 9
 have cB:=hid QzT
 generalize Qbe ks (nb 9)=M at *
 generalize Qbf ks (nb 9)=e9 at *
 generalize nb 9=N9 at *
 go_enter Tryz.func93,Tryz.ntmps93
 go_wp2_with fail
 generalize hW:w.alloc _=w0
 replace B0:Bag w w0 [(w.heap.size,25,QCC 32 (Value.int .u8 0))]:=by rw[←hW];exact QaW w 25 (QCC 32 (Value.int .u8 0))
 clear hW
 (with_reducible refine (of_9 _).mono ?_);rintro e w1 ⟨rfl,hl1⟩
 go_wp2_with (first
  | (go_at_call 157;(with_reducible refine (cB.out _).mono ?_);rintro e w2 ⟨rfl,hl2⟩)
  | (refine QaG rfl rfl _ _ rfl (Blk.new w2 _ (QCC 32 (.int .u8 0))) rfl rfl h9 rfl ?_;intro w3 hb3 ho3)
  | fail)
 have B1:=B0.push ((hl1.trans hl2).trans (Qaa w2 _)) (hl1.trans hl2).size ho3 hb3
 (with_reducible refine (cM.out _ _ _ (hk.later B1.lat) (Qcr (B1.nth 0 rfl) h9)).mono ?_);rintro e w4 ⟨rfl,hl4⟩
 go_wp2_with (first
  | (refine QaG rfl rfl _ _ rfl ((B1.later hl4).nth 1 rfl) rfl rfl hml rfl ?_;intro w5 hb5 ho5)
  | fail)
 exact bodyPost_ret (Qai rfl _ _ _ _ _ _ hb5 rfl Tryz.underlying25 rfl (by rw[QCF,hml];exact Qba)) rfl ⟨rfl,((B1.later hl4).write 1 rfl ho5 hb5).lat⟩
set_option maxRecDepth 100000 in
set_option maxHeartbeats 2000000 in
theorem QpD (A:Option Addr) (n c:Nat) (ks:List UInt8) (w:World) (hk:RdB w A n ks) (hn:n≤140737488355328):
 Calls Tryz.prog 40 #[.slice A n c] w fun e w'=>e= .returned (.tuple #[.agg ((Qbe ks (nb 9)).map W8).toArray,.int .i64 (Qbf ks (nb 9):Nat)])∧Later w w':=by
 have B0:=QaW w 25 (QCC 32 (Value.int .u8 0))
 have cM:=hid (fun (w:World) g d h1 h2=>QtX A (some ⟨g,0,none⟩) n c 32 d ks (nb 9) w h1 h2 hn (by omega))
 have hml:=QaT ks (nb 9)
 have h9:=QbS 9
 have cB:=hid Qpm
 generalize Qbe ks (nb 9)=M at *
 generalize Qbf ks (nb 9)=e9 at *
 generalize nb 9=N9 at *
 go_enter Tryz.func40,Tryz.ntmps40
 go_wp2_with (first
  | (refine Qam rfl 270 _ rfl (NL 9) ?hb ?_;(case hb=>simp only[QCT,QC9,QC3];exact QtU))
  | fail)
 generalize hW:w.alloc _=w0
 replace B0:Bag w w0 [(w.heap.size,25,QCC 32 (Value.int .u8 0))]:=by rw[←hW];exact QaW w 25 (QCC 32 (Value.int .u8 0))
 clear hW
 (with_reducible refine (cB.out _).mono ?_);rintro e w2 ⟨rfl,hl2⟩
 go_wp2_with (first
  | (refine QaG rfl rfl _ _ rfl (Blk.new w2 _ (QCC 32 (.int .u8 0))) rfl rfl h9 rfl ?_;intro w3 hb3 ho3)
  | fail)
 have B1:=B0.push (hl2.trans (Qaa w2 _)) hl2.size ho3 hb3
 (with_reducible refine (cM.out _ _ _ (hk.later B1.lat) (Qcr (B1.nth 0 rfl) h9)).mono ?_);rintro e w4 ⟨rfl,hl4⟩
 go_wp2_with (first
  | (refine QaG rfl rfl _ _ rfl ((B1.later hl4).nth 1 rfl) rfl rfl hml rfl ?_;intro w5 hb5 ho5)
  | fail)
 exact bodyPost_ret (Qai rfl _ _ _ _ _ _ hb5 rfl Tryz.underlying25 rfl (by rw[QCF,hml];exact Qba)) rfl ⟨rfl,((B1.later hl4).write 1 rfl ho5 hb5).lat⟩
def Qd5:List (List UInt8)→List UInt8→List UInt8×Nat
 | [],at_=>(at_,0)
 | k :: ks,at_=>if Qbf k at_=0 then Qd5 ks (Qbe k at_) else (QCC 32 0,Qbf k at_)
def Qcw (us:List UInt8) (ps:List (List UInt8)):List UInt8×Nat:=
 if us.length=32∧∀p∈ps,p.length=32 then Qd5 ps (nb (Qco us)) else (QCC 32 0,2)
theorem QfD:∀(ps:List (List UInt8)) (at_:List UInt8),at_.length=32→(Qd5 ps at_).1.length=32
 | [],_,h=>h
 | k :: ks,at_,_=>by
   unfold Qd5
   split
   ·exact QfD ks _ (QaT _ _)
   ·simp
theorem Qj5 (us:List UInt8) (ps:List (List UInt8)):(Qcw us ps).1.length=32:=by
 unfold Qcw
 split
 ·exact QfD _ _ (QbS _)
 ·simp
theorem Qyn (us:List UInt8):Qco us<P25:=by
 unfold Qco
 split
 ·exact QC8 _ Qbd
 ·exact Qbd
theorem Qst (ps:List (List UInt8)) (k:Nat) (h:k<ps.length):ps.drop k=ps.getD k [] :: ps.drop (k+1):=by
 rw[QDP h,QCK,QCJ h]
 rfl
theorem Qoc (ps:List (List UInt8)) (h:∀j,j<ps.length→(ps.getD j []).length=32):∀p∈ps,p.length=32:=by
 intro p hp
 obtain⟨j,hj,e⟩:=QEQ hp
 have:=h j hj
 rw[QCK,QCJ hj]at this
 rw[←e]
 exact this
theorem QpW (us:List UInt8) (ps:List (List UInt8)) (k:Nat) (h:k<ps.length) (hk:(ps.getD k []).length≠32):Qcw us ps=(QCC 32 0,2):=by
 rw[Qcw,if_neg]
 rintro⟨_,ha⟩
 apply hk
 rw[QCK,QCJ h]
 exact ha _ (QD0 h)
set_option maxRecDepth 100000 in
set_option maxHeartbeats 4000000 in
theorem QsK (A B:Option Addr) (n c m d:Nat) (us:List UInt8) (ps:List (List UInt8)) (w:World) (hu:RdB w A n us) (hp:Parts w (fun _=>False) B m ps) (hn:n≤140737488355328) (hm:m≤140737488355328):
 Calls Tryz.prog 94 #[.slice A n c,.slice B m d] w fun e w'=>e= .returned (.tuple #[.agg ((Qcw us ps).1.map W8).toArray,.int .i64 ((Qcw us ps).2:Nat)])∧Later w w':=by
 have hul:=hu.len
 have hpl:=hp.len
 have B0:=QaW w 25 (QCC 32 (Value.int .u8 0))
 have cU:=hid (fun w h=>Qn5 A n c us w h hn)
 by_cases hn32:n=32
 ·subst hn32
  have eU:QbW us=0:=by rw[QbW,if_pos (by omega)]
  rw[eU]at cU
  have cB:Hid (∀ w,Calls Tryz.prog 157 #[E (Qco us)] w fun e w'=>e= .returned (.agg ((nb (Qco us)).map W8).toArray)∧Later w w'):=hid (by
   intro w
   have:=Qiz (Qco us) (Qmv us) w
   rwa [QC1 (Qyn us),BB]at this)
  have hR:=hid (fun (h:∀p∈ps,p.length=32)=>show Qcw us ps=Qd5 ps (nb (Qco us)) by rw[Qcw,if_pos ⟨hul,h⟩])
  have hbad:=hid (fun k h hk=>QpW us ps k h hk)
  generalize hCR:Qcw us ps=CR at *
  generalize Qco us=x1 at *
  go_enter Tryz.func94,Tryz.ntmps94
  go_wp2_with fail
  generalize hW:w.alloc _=w0
  replace B0:Bag w w0 [(w.heap.size,25,QCC 32 (Value.int .u8 0))]:=by rw[←hW];exact QaW w 25 (QCC 32 (Value.int .u8 0))
  clear hW
  (with_reducible refine (cU.out _ (hu.later B0.lat)).mono ?_);rintro e w1 ⟨rfl,j1⟩
  go_wp2_with (first
   | (refine QaA rfl rfl _ _ rfl (Blk.new w1 _ (QCC 4 (.int .u64 0))) rfl rfl rfl ?_;intro w2 hb2 ho2)
   | fail)
  have B1:=B0.push (j1.trans (Qaa w1 _)) j1.size ho2 hb2
  clear j1 hb2 ho2 B0 cU hCR
  generalize w1.heap.size=g6 at *
  go_loopw [24] (fun i wr=>∃k:Nat,k≤m∧i= .int .i64 k∧Hid (∀ j,j<k→(ps.getD j []).length=32)∧Bag w wr [(g6,360,EL x1),(w.heap.size,25,QCC 32 (Value.int .u8 0))]) (fun i _=>m-(intOf i).toNat)
  case atStart=>exact⟨0,by omega,rfl,hid (fun j h=>by omega),B1⟩
  case round=>
   clear B1
   obtain⟨k,hk,rfl,hall,B1⟩:=hrel
   by_cases hlt:k<m
   ·obtain⟨b,o,Ak,nk,ck,rfl,hb,hck,hcap,hrd,_⟩:=(hp.later B1.lat).at_ hlt
    have hlen:=hrd.len
    have hb2:=hid (fun h=>hbad.out k (by omega) h)
    rw[hlen]at hb2
    have hstep:Hid (nk=32→∀j,j<k+1→(ps.getD j []).length=32):=hid (fun h j hj=>by
     by_cases e:j=k
     ·rw[e,hlen,h]
     ·exact hall.out j (by omega))
    clear hrd hlen
    by_cases h32:nk=32
    ·have hne:((nk:Int) != 32)=false:=by simp;omega
     go_wp2_with fail
     go_roundw
     case rel=>exact⟨k+1,by omega,by go_num,hid (hstep.out h32),B1⟩
     case measure=>simp[intOf];omega
    ·have hne:((nk:Int) != 32)=true:=by simp;omega
     go_wp2_with (first
      | (refine Qam rfl 25 _ rfl (QCC 32 (W8 0)) ?hb ?_;(case hb=>kernel_rfl))
      | (refine QaG (bs:=QCC 32 0) rfl rfl _ _ rfl (B1.nth 1 rfl) rfl (by kernel_rfl) rfl rfl ?_;intro w9 hb9 ho9)
      | fail)
     exact bodyPost_ret (Qai rfl _ _ _ _ _ _ hb9 rfl Tryz.underlying25 rfl (by rw[QCF,QCS];exact Qba)) rfl ⟨by rw[hb2.out h32];rfl,(B1.write 1 rfl ho9 hb9).lat⟩
   ·have hall':=hid (Qoc ps (fun j hj=>hall.out j (by omega)))
    have hCR:=hR.out hall'.out
    have hnl:=QbS x1
    have HC:=hid hCR
    clear hCR hR hbad hall
    generalize nb x1=N0 at *
    go_wp2_with (first
     | (refine Qbv rfl _ rfl (B1.nth 0 rfl) rfl ?_)
     | (go_at_call 157;(with_reducible refine (cB.out _).mono ?_);rintro e w3 ⟨rfl,j3⟩)
     | (refine QaG rfl rfl _ _ rfl (Blk.new w3 _ (QCC 32 (.int .u8 0))) rfl rfl hnl rfl ?_;intro w4 hb4 ho4)
     | fail)
    have B2:=B1.push (j3.trans (Qaa w3 _)) j3.size ho4 hb4
    clear j3 hb4 ho4 B1 cB
    generalize w3.heap.size=g10 at *
    go_loopw [37] (fun i wr=>∃(k:Nat) (at_:List UInt8),k≤m∧i= .int .i64 k∧at_.length=32∧Hid (CR=Qd5 (ps.drop k) at_)∧Bag w wr [(g10,25,at_.map W8),(g6,360,EL x1),(w.heap.size,25,QCC 32 (Value.int .u8 0))]) (fun i _=>m-(intOf i).toNat)
    case atStart=>exact⟨0,N0,by omega,rfl,hnl,hid (by rw[QD7];exact HC.out),B2⟩
    case round=>
     clear B2
     obtain⟨k,at_,hk,rfl,hal,hch,B2⟩:=hrel
     by_cases hlt:k<m
     ·obtain⟨b,o,Ak,nk,ck,rfl,hb,hck,hcap,hrd,_⟩:=(hp.later B2.lat).at_ hlt
      have hd:=Qst ps k (by omega)
      have hlen:=hrd.len
      have hl32:(ps.getD k []).length=32:=by
       rw[QCK,QCJ (by omega)]
       exact hall'.out _ (QD0 _)
      have hch':=hch.out
      rw[hd,Qd5]at hch'
      have HCH:=hid hch'
      clear hch hch' hd
      generalize ps.getD k []=p at *
      obtain rfl:nk=32:=by omega
      have cM:=hid (QhF Ak (some ⟨g10,0,none⟩) 32 ck 32 32 p at_ wr hrd (Qcr (B2.nth 0 rfl) hal) (by omega) (by omega))
      have hml:=QaT p at_
      generalize Qbe p at_=M at *
      by_cases he:Qbf p at_=0
      ·have HE:=HCH.out
       rw[if_pos he]at HE
       replace HE:=hid HE
       rw[he]at cM
       clear HCH he
       go_wp2_with fail
       (with_reducible refine cM.out.mono ?_);rintro e w5 ⟨rfl,j5⟩
       go_wp2_with (first
        | (refine QaG rfl rfl _ _ rfl ((B2.later j5).nth 0 rfl) rfl rfl hml (by rw[QCF,hal]) ?_;intro w6 hb6 ho6)
        | fail)
       go_roundw
       case rel=>exact⟨k+1,M,by omega,by go_num,hml,HE,(B2.later j5).write 0 rfl ho6 hb6⟩
       case measure=>simp[intOf];omega
      ·have HE:=HCH.out
       rw[if_neg he]at HE
       replace HE:=hid HE
       generalize Qbf p at_=e5 at *
       have hne:((e5:Int) != 0)=true:=by simp;omega
       clear HCH
       go_wp2_with fail
       (with_reducible refine cM.out.mono ?_);rintro e w5 ⟨rfl,j5⟩
       go_wp2_with (first
        | (refine QaG rfl rfl _ _ rfl ((B2.later j5).nth 0 rfl) rfl rfl hml (by rw[QCF,hal]) ?_;intro w6 hb6 ho6
           have B3:=(B2.later j5).write 0 rfl ho6 hb6)
        | (refine Qam rfl 25 _ rfl (QCC 32 (W8 0)) ?hb ?_;(case hb=>kernel_rfl))
        | (refine QaG (bs:=QCC 32 0) rfl rfl _ _ rfl (B3.nth 2 rfl) rfl (by kernel_rfl) rfl rfl ?_;intro w9 hb9 ho9)
        | fail)
       exact bodyPost_ret (Qai rfl _ _ _ _ _ _ hb9 rfl Tryz.underlying25 rfl (by rw[QCF,QCS];exact Qba)) rfl ⟨by rw[HE.out];rfl,(B3.write 2 rfl ho9 hb9).lat⟩
     ·have hd:ps.drop k=[]:=QDM (by omega)
      have hch':=hch.out
      rw[hd,Qd5]at hch'
      have HE:=hid hch'
      clear hch' hch hd
      go_wp2_with (first
       | (refine QeM rfl _ rfl (B2.nth 0 rfl) hal rfl ?_)
       | (refine QaG rfl rfl _ _ rfl (B2.nth 2 rfl) rfl rfl hal rfl ?_;intro w9 hb9 ho9)
       | fail)
      exact bodyPost_ret (Qai rfl _ _ _ _ _ _ hb9 rfl Tryz.underlying25 rfl (by rw[QCF,hal];exact Qba)) rfl ⟨by rw[HE.out];rfl,(B2.write 2 rfl ho9 hb9).lat⟩
 ·have eU:QbW us=2:=by rw[QbW,if_neg (by omega)]
  rw[eU]at cU
  have hR:=hid (show Qcw us ps=(QCC 32 0,2) by rw[Qcw,if_neg (by rintro⟨h,_⟩;omega)])
  generalize Qcw us ps=CR at *
  generalize Qco us=x1 at *
  go_enter Tryz.func94,Tryz.ntmps94
  go_wp2_with fail
  generalize hW:w.alloc _=w0
  replace B0:Bag w w0 [(w.heap.size,25,QCC 32 (Value.int .u8 0))]:=by rw[←hW];exact QaW w 25 (QCC 32 (Value.int .u8 0))
  clear hW
  (with_reducible refine (cU.out _ (hu.later B0.lat)).mono ?_);rintro e w1 ⟨rfl,j1⟩
  go_wp2_with (first
   | (refine QaA rfl rfl _ _ rfl (Blk.new w1 _ (QCC 4 (.int .u64 0))) rfl rfl rfl ?_;intro w2 hb2 ho2
      have B1:=B0.push (j1.trans (Qaa w1 _)) j1.size ho2 hb2)
   | (refine Qam rfl 25 _ rfl (QCC 32 (W8 0)) ?hb ?_;(case hb=>kernel_rfl))
   | (refine QaG (bs:=QCC 32 0) rfl rfl _ _ rfl (B1.nth 1 rfl) rfl (by kernel_rfl) rfl rfl ?_;intro w9 hb9 ho9)
   | fail)
  exact bodyPost_ret (Qai rfl _ _ _ _ _ _ hb9 rfl Tryz.underlying25 rfl (by rw[QCF,QCS];exact Qba)) rfl ⟨by rw[hR.out];rfl,(B1.write 1 rfl ho9 hb9).lat⟩
end Go.Proofs.YticcbmhcgmhohaaGreat
namespace Go.Proofs.YticcbmhcgmhohaaGreat
namespace Ed
def QvF:List Nat:=[2,3,5,7,11,13,17,19,23,31,41,43,47,61,67,73,79,101,113,181,227,269,307,383,467,487,727]
theorem Qae:∀q∈QvF,Prm q:=fun q hq=>QlO (QDn.1 (show QvF.all small=true by decide +kernel) q hq)
theorem QrJ:Prm 30703∧∀a,a%30703≠0→a^(30703-1)%30703=1:=
 Qat 30703 3 [2,3,7,17,43] (by decide +kernel) (by
  intro q hq
  simp only[QCZ,QC0,or_false]at hq
  rcases hq with rfl|rfl|rfl|rfl|rfl
  ·exact Qae _ (by decide)
  ·exact Qae _ (by decide)
  ·exact Qae _ (by decide)
  ·exact Qae _ (by decide)
  ·exact Qae _ (by decide))
theorem Qsz:Prm 41081∧∀a,a%41081≠0→a^(41081-1)%41081=1:=
 Qat 41081 3 [2,2,2,5,13,79] (by decide +kernel) (by
  intro q hq
  simp only[QCZ,QC0,or_false]at hq
  rcases hq with rfl|rfl|rfl|rfl|rfl|rfl
  ·exact Qae _ (by decide)
  ·exact Qae _ (by decide)
  ·exact Qae _ (by decide)
  ·exact Qae _ (by decide)
  ·exact Qae _ (by decide)
  ·exact Qae _ (by decide))
theorem QsC:Prm 82163∧∀a,a%82163≠0→a^(82163-1)%82163=1:=
 Qat 82163 2 [2,41081] (by decide +kernel) (by
  intro q hq
  simp only[QCZ,QC0,or_false]at hq
  rcases hq with rfl|rfl
  ·exact Qae _ (by decide)
  ·exact Qsz.1)
theorem QkE:Prm 1723∧∀a,a%1723≠0→a^(1723-1)%1723=1:=
 Qat 1723 3 [2,3,7,41] (by decide +kernel) (by
  intro q hq
  simp only[QCZ,QC0,or_false]at hq
  rcases hq with rfl|rfl|rfl|rfl
  ·exact Qae _ (by decide)
  ·exact Qae _ (by decide)
  ·exact Qae _ (by decide)
  ·exact Qae _ (by decide))
theorem QqN:Prm 17231∧∀a,a%17231≠0→a^(17231-1)%17231=1:=
 Qat 17231 13 [2,5,1723] (by decide +kernel) (by
  intro q hq
  simp only[QCZ,QC0,or_false]at hq
  rcases hq with rfl|rfl|rfl
  ·exact Qae _ (by decide)
  ·exact Qae _ (by decide)
  ·exact QkE.1)
theorem Qqa:Prm 137849∧∀a,a%137849≠0→a^(137849-1)%137849=1:=
 Qat 137849 3 [2,2,2,17231] (by decide +kernel) (by
  intro q hq
  simp only[QCZ,QC0,or_false]at hq
  rcases hq with rfl|rfl|rfl|rfl
  ·exact Qae _ (by decide)
  ·exact Qae _ (by decide)
  ·exact Qae _ (by decide)
  ·exact QqN.1)
theorem Qsh:Prm 22111∧∀a,a%22111≠0→a^(22111-1)%22111=1:=
 Qat 22111 6 [2,3,5,11,67] (by decide +kernel) (by
  intro q hq
  simp only[QCZ,QC0,or_false]at hq
  rcases hq with rfl|rfl|rfl|rfl|rfl
  ·exact Qae _ (by decide)
  ·exact Qae _ (by decide)
  ·exact Qae _ (by decide)
  ·exact Qae _ (by decide)
  ·exact Qae _ (by decide))
theorem Qpj:Prm 132667∧∀a,a%132667≠0→a^(132667-1)%132667=1:=
 Qat 132667 5 [2,3,22111] (by decide +kernel) (by
  intro q hq
  simp only[QCZ,QC0,or_false]at hq
  rcases hq with rfl|rfl|rfl
  ·exact Qae _ (by decide)
  ·exact Qae _ (by decide)
  ·exact Qsh.1)
theorem QdG:Prm 3044861653679985063343∧∀a,a%3044861653679985063343≠0→a^(3044861653679985063343-1)%3044861653679985063343=1:=
 Qat 3044861653679985063343 5 [2,3,11,30703,82163,132667,137849] (by decide +kernel) (by
  intro q hq
  simp only[QCZ,QC0,or_false]at hq
  rcases hq with rfl|rfl|rfl|rfl|rfl|rfl|rfl
  ·exact Qae _ (by decide)
  ·exact Qae _ (by decide)
  ·exact Qae _ (by decide)
  ·exact QrJ.1
  ·exact QsC.1
  ·exact Qpj.1
  ·exact Qqa.1)
theorem QrA:Prm 34123∧∀a,a%34123≠0→a^(34123-1)%34123=1:=
 Qat 34123 2 [2,3,11,11,47] (by decide +kernel) (by
  intro q hq
  simp only[QCZ,QC0,or_false]at hq
  rcases hq with rfl|rfl|rfl|rfl|rfl
  ·exact Qae _ (by decide)
  ·exact Qae _ (by decide)
  ·exact Qae _ (by decide)
  ·exact Qae _ (by decide)
  ·exact Qae _ (by decide))
theorem Qpv:Prm 409477∧∀a,a%409477≠0→a^(409477-1)%409477=1:=
 Qat 409477 2 [2,2,3,34123] (by decide +kernel) (by
  intro q hq
  simp only[QCZ,QC0,or_false]at hq
  rcases hq with rfl|rfl|rfl|rfl
  ·exact Qae _ (by decide)
  ·exact Qae _ (by decide)
  ·exact Qae _ (by decide)
  ·exact QrA.1)
theorem Ql0:Prm 14741173∧∀a,a%14741173≠0→a^(14741173-1)%14741173=1:=
 Qat 14741173 2 [2,2,3,3,409477] (by decide +kernel) (by
  intro q hq
  simp only[QCZ,QC0,or_false]at hq
  rcases hq with rfl|rfl|rfl|rfl|rfl
  ·exact Qae _ (by decide)
  ·exact Qae _ (by decide)
  ·exact Qae _ (by decide)
  ·exact Qae _ (by decide)
  ·exact Qpv.1)
theorem Qla:Prm 58964693∧∀a,a%58964693≠0→a^(58964693-1)%58964693=1:=
 Qat 58964693 2 [2,2,14741173] (by decide +kernel) (by
  intro q hq
  simp only[QCZ,QC0,or_false]at hq
  rcases hq with rfl|rfl|rfl
  ·exact Qae _ (by decide)
  ·exact Qae _ (by decide)
  ·exact Ql0.1)
theorem Qct:Prm 198211423230930754013084525763697∧∀a,a%198211423230930754013084525763697≠0→a^(198211423230930754013084525763697-1)%198211423230930754013084525763697=1:=
 Qat 198211423230930754013084525763697 5 [2,2,2,2,3,23,58964693,3044861653679985063343] (by decide +kernel) (by
  intro q hq
  simp only[QCZ,QC0,or_false]at hq
  rcases hq with rfl|rfl|rfl|rfl|rfl|rfl|rfl|rfl
  ·exact Qae _ (by decide)
  ·exact Qae _ (by decide)
  ·exact Qae _ (by decide)
  ·exact Qae _ (by decide)
  ·exact Qae _ (by decide)
  ·exact Qae _ (by decide)
  ·exact Qla.1
  ·exact QdG.1)
theorem QtI:Prm 2939∧∀a,a%2939≠0→a^(2939-1)%2939=1:=
 Qat 2939 2 [2,13,113] (by decide +kernel) (by
  intro q hq
  simp only[QCZ,QC0,or_false]at hq
  rcases hq with rfl|rfl|rfl
  ·exact Qae _ (by decide)
  ·exact Qae _ (by decide)
  ·exact Qae _ (by decide))
theorem Qu6:Prm 5879∧∀a,a%5879≠0→a^(5879-1)%5879=1:=
 Qat 5879 11 [2,2939] (by decide +kernel) (by
  intro q hq
  simp only[QCZ,QC0,or_false]at hq
  rcases hq with rfl|rfl
  ·exact Qae _ (by decide)
  ·exact QtI.1)
theorem QkF:Prm 292386187∧∀a,a%292386187≠0→a^(292386187-1)%292386187=1:=
 Qat 292386187 2 [2,3,3,3,3,307,5879] (by decide +kernel) (by
  intro q hq
  simp only[QCZ,QC0,or_false]at hq
  rcases hq with rfl|rfl|rfl|rfl|rfl|rfl|rfl
  ·exact Qae _ (by decide)
  ·exact Qae _ (by decide)
  ·exact Qae _ (by decide)
  ·exact Qae _ (by decide)
  ·exact Qae _ (by decide)
  ·exact Qae _ (by decide)
  ·exact Qu6.1)
theorem Qhq:Prm 213441916511∧∀a,a%213441916511≠0→a^(213441916511-1)%213441916511=1:=
 Qat 213441916511 13 [2,5,73,292386187] (by decide +kernel) (by
  intro q hq
  simp only[QCZ,QC0,or_false]at hq
  rcases hq with rfl|rfl|rfl|rfl
  ·exact Qae _ (by decide)
  ·exact Qae _ (by decide)
  ·exact Qae _ (by decide)
  ·exact QkF.1)
theorem Qut:Prm 1361∧∀a,a%1361≠0→a^(1361-1)%1361=1:=
 Qat 1361 3 [2,2,2,2,5,17] (by decide +kernel) (by
  intro q hq
  simp only[QCZ,QC0,or_false]at hq
  rcases hq with rfl|rfl|rfl|rfl|rfl|rfl
  ·exact Qae _ (by decide)
  ·exact Qae _ (by decide)
  ·exact Qae _ (by decide)
  ·exact Qae _ (by decide)
  ·exact Qae _ (by decide)
  ·exact Qae _ (by decide))
theorem QtB:Prm 2851∧∀a,a%2851≠0→a^(2851-1)%2851=1:=
 Qat 2851 2 [2,3,5,5,19] (by decide +kernel) (by
  intro q hq
  simp only[QCZ,QC0,or_false]at hq
  rcases hq with rfl|rfl|rfl|rfl|rfl
  ·exact Qae _ (by decide)
  ·exact Qae _ (by decide)
  ·exact Qae _ (by decide)
  ·exact Qae _ (by decide)
  ·exact Qae _ (by decide))
theorem Qvt:Prm 2551∧∀a,a%2551≠0→a^(2551-1)%2551=1:=
 Qat 2551 6 [2,3,5,5,17] (by decide +kernel) (by
  intro q hq
  simp only[QCZ,QC0,or_false]at hq
  rcases hq with rfl|rfl|rfl|rfl|rfl
  ·exact Qae _ (by decide)
  ·exact Qae _ (by decide)
  ·exact Qae _ (by decide)
  ·exact Qae _ (by decide)
  ·exact Qae _ (by decide))
theorem QmE:Prm 1224481∧∀a,a%1224481≠0→a^(1224481-1)%1224481=1:=
 Qat 1224481 13 [2,2,2,2,2,3,5,2551] (by decide +kernel) (by
  intro q hq
  simp only[QCZ,QC0,or_false]at hq
  rcases hq with rfl|rfl|rfl|rfl|rfl|rfl|rfl|rfl
  ·exact Qae _ (by decide)
  ·exact Qae _ (by decide)
  ·exact Qae _ (by decide)
  ·exact Qae _ (by decide)
  ·exact Qae _ (by decide)
  ·exact Qae _ (by decide)
  ·exact Qae _ (by decide)
  ·exact Qvt.1)
theorem Qt7:Prm 3797∧∀a,a%3797≠0→a^(3797-1)%3797=1:=
 Qat 3797 2 [2,2,13,73] (by decide +kernel) (by
  intro q hq
  simp only[QCZ,QC0,or_false]at hq
  rcases hq with rfl|rfl|rfl|rfl
  ·exact Qae _ (by decide)
  ·exact Qae _ (by decide)
  ·exact Qae _ (by decide)
  ·exact Qae _ (by decide))
theorem Qo9:Prm 531581∧∀a,a%531581≠0→a^(531581-1)%531581=1:=
 Qat 531581 2 [2,2,5,7,3797] (by decide +kernel) (by
  intro q hq
  simp only[QCZ,QC0,or_false]at hq
  rcases hq with rfl|rfl|rfl|rfl|rfl
  ·exact Qae _ (by decide)
  ·exact Qae _ (by decide)
  ·exact Qae _ (by decide)
  ·exact Qae _ (by decide)
  ·exact Qt7.1)
theorem Qfz:Prm 1257559732178653∧∀a,a%1257559732178653≠0→a^(1257559732178653-1)%1257559732178653=1:=
 Qat 1257559732178653 2 [2,2,3,7,23,531581,1224481] (by decide +kernel) (by
  intro q hq
  simp only[QCZ,QC0,or_false]at hq
  rcases hq with rfl|rfl|rfl|rfl|rfl|rfl|rfl
  ·exact Qae _ (by decide)
  ·exact Qae _ (by decide)
  ·exact Qae _ (by decide)
  ·exact Qae _ (by decide)
  ·exact Qae _ (by decide)
  ·exact Qo9.1
  ·exact QmE.1)
theorem Qev:Prm 4434155615661930479∧∀a,a%4434155615661930479≠0→a^(4434155615661930479-1)%4434155615661930479=1:=
 Qat 4434155615661930479 17 [2,41,43,1257559732178653] (by decide +kernel) (by
  intro q hq
  simp only[QCZ,QC0,or_false]at hq
  rcases hq with rfl|rfl|rfl|rfl
  ·exact Qae _ (by decide)
  ·exact Qae _ (by decide)
  ·exact Qae _ (by decide)
  ·exact Qfz.1)
theorem Qc1:Prm 172054593956031949258510691∧∀a,a%172054593956031949258510691≠0→a^(172054593956031949258510691-1)%172054593956031949258510691=1:=
 Qat 172054593956031949258510691 2 [2,5,1361,2851,4434155615661930479] (by decide +kernel) (by
  intro q hq
  simp only[QCZ,QC0,or_false]at hq
  rcases hq with rfl|rfl|rfl|rfl|rfl
  ·exact Qae _ (by decide)
  ·exact Qae _ (by decide)
  ·exact Qut.1
  ·exact QtB.1
  ·exact Qev.1)
theorem QbT:Prm 19757330305831588566944191468367130476339∧∀a,a%19757330305831588566944191468367130476339≠0→a^(19757330305831588566944191468367130476339-1)%19757330305831588566944191468367130476339=1:=
 Qat 19757330305831588566944191468367130476339 2 [2,269,213441916511,172054593956031949258510691] (by decide +kernel) (by
  intro q hq
  simp only[QCZ,QC0,or_false]at hq
  rcases hq with rfl|rfl|rfl|rfl
  ·exact Qae _ (by decide)
  ·exact Qae _ (by decide)
  ·exact Qhq.1
  ·exact Qc1.1)
theorem QbN:Prm 276602624281642239937218680557139826668747∧∀a,a%276602624281642239937218680557139826668747≠0→a^(276602624281642239937218680557139826668747-1)%276602624281642239937218680557139826668747=1:=
 Qat 276602624281642239937218680557139826668747 2 [2,7,19757330305831588566944191468367130476339] (by decide +kernel) (by
  intro q hq
  simp only[QCZ,QC0,or_false]at hq
  rcases hq with rfl|rfl|rfl
  ·exact Qae _ (by decide)
  ·exact Qae _ (by decide)
  ·exact QbT.1)
theorem QBw:Prm 7237005577332262213973186563042994240857116359379907606001950938285454250989∧∀a,a%7237005577332262213973186563042994240857116359379907606001950938285454250989≠0→a^(7237005577332262213973186563042994240857116359379907606001950938285454250989-1)%7237005577332262213973186563042994240857116359379907606001950938285454250989=1:=
 Qat 7237005577332262213973186563042994240857116359379907606001950938285454250989 2 [2,2,3,11,198211423230930754013084525763697,276602624281642239937218680557139826668747] (by decide +kernel) (by
  intro q hq
  simp only[QCZ,QC0,or_false]at hq
  rcases hq with rfl|rfl|rfl|rfl|rfl|rfl
  ·exact Qae _ (by decide)
  ·exact Qae _ (by decide)
  ·exact Qae _ (by decide)
  ·exact Qae _ (by decide)
  ·exact Qct.1
  ·exact QbN.1)
end Ed
namespace Ed
theorem QqV (K:List UInt8) (hK:K.length=32):∀j,j≤255→kval K j=num K/2^(255-j)%2^j
 | 0,_=>by rw[QEW,Nat.mod_one];rfl
 | j+1,hj=>by
   have ih:=QqV K hK j (by omega)
   have hb:=Qr0 K (254-j) (by omega)
   have e1:(kbit K (254-j)).toNat=num K/2^(254-j)%2:=by
    unfold kbit
    rw[hb]
    rcases Nat.mod_two_eq_zero_or_one ((K.getD ((254-j)/8) 0).toNat/2^((254-j)%8)) with h|h<;>rw[h]<;>rfl
   show 2*kval K j+(kbit K (254-j)).toNat=_
   rw[e1,ih,show 255-(j+1)=254-j by omega,show 255-j=(254-j)+1 by omega,QDF,←QDt,QDF]
   generalize num K/2^(254-j)=X
   rw[QDD (2^j) 2,Nat.mod_mul]
   omega
theorem Quw (K:List UInt8) (hK:K.length=32):kval K 255=num K%2^255:=by
 rw[QqV K hK 255 (QCP _)]
 simp
theorem QqD (bs:List UInt8):num (QaL bs)%8=0∨bs.length≠32:=by
 by_cases h:bs.length=32
 ·left
  have h1:=Qoy (QaL bs) 0 (by rw[Qbs];omega)
  rw[QD7]at h1
  have h2:(QaL bs).getD 0 0=bs.getD 0 0 &&& 248:=by
   rw[QaL,if_pos h,QCK,QDS (by omega),QEn (by omega)]
   rfl
  have h3:=(Qhy ⟨(bs.getD 0 0).toNat,(bs.getD 0 0).toNat_lt⟩).1
  simp only at h3
  rw[h1,h2,UInt8.toNat_and,show QE4 248=248 from rfl,h3]
  omega
 ·exact .inr h
theorem Qs2 (bs:List UInt8) (h:bs.length=32):2^254≤num (QaL bs)∧num (QaL bs)<2^255:=by
 have h1:=QjU (QaL bs) 31 (by rw[Qbs];omega)
 rw[QCQ (by rw[Qbs];omega)]at h1
 have h2:(QaL bs).getD 31 0=(bs.getD 31 0 &&& 127) ||| 64:=by
  rw[QaL,if_pos h,QCK,QEn (by simp;omega)]
  rfl
 have h3:=(Qhy ⟨(bs.getD 31 0).toNat,(bs.getD 31 0).toNat_lt⟩).2
 simp only at h3
 have h4:((QaL bs).getD 31 0).toNat=(bs.getD 31 0).toNat%64+64:=by
  rw[h2,UInt8.toNat_or,UInt8.toNat_and,show QE4 127=127 from rfl,show QE4 64=64 from rfl,h3]
 have h5:=QlG ((QaL bs).take 31)
 rw[QC5,Qbs]at h5
 rw[h4]at h1
 have e:(256:Nat)^31*64=2^254:=by decide
 have e2:(256:Nat)^31*128=2^255:=by decide
 have h6:(256:Nat)^31*64≤256^31*((bs.getD 31 0).toNat%64+64):=QEg _ (by omega)
 have h7:(256:Nat)^31*((bs.getD 31 0).toNat%64+64)+256^31≤256^31*128:=by
  have hy:(bs.getD 31 0).toNat%64+64+1≤128:=by omega
  generalize (bs.getD 31 0).toNat%64+64=y at hy
  have:=QEg (256^31) hy
  rw[QDT,QEq]at this
  exact this
 rw[QDK (by omega)]at h5
 omega
def ellN:Nat:=7237005577332262213973186563042994240857116359379907606001950938285454250989
def Kl:List UInt8:=[237,211,245,92,26,99,18,88,214,156,247,162,222,249,222,20,0,0,0,0,0,0,0,0,0,0,0,0,0,0,0,16]
theorem QzB:kval Kl 255=ellN:=by decide +kernel
set_option maxRecDepth 100000 in
theorem ord9:(Lad.at 9 Kl 255).z2=0:=by decide +kernel
theorem Qzv {x y d:Fp} (h:x=0) (on:x*x+y*y=1+d*x*x*y*y):y*y=1:=by grobner
theorem QCi {x y d:Fp} (h:x=0):d*x*x*y*y=0:=by grobner
theorem QyM {x y t:Fp} (h:x=0):x*y+x*y=0*t:=by grobner
theorem Qz6 {x y:Fp} (h:x=0) (hy:y*y=1):y*y-x*x=1:=by grobner
section
variable {δ:Fp} (hδ:QgC δ)
include hδ in
theorem QwF {Q:Pt δ} (h:1-Q.y=0):Q=Pt.zero:=by
 have on:=Q.on
 have hy:Q.y=1:=by clear on;grobner
 have:Q.x*Q.x*(1-δ)=0:=by clear h;grobner
 have hx:Q.x=0:=by
  rcases Qdi this with h1|h1
  ·exact (Qdi h1).elim id id
  ·exact absurd h1 (Qin hδ)
 exact Pt.ext hx hy
theorem QtY {Q:Pt δ} (h:Q.x=0):Q.add hδ Q=Pt.zero:=by
 have hy:Q.y*Q.y=1:=Qzv h Q.on
 have ht:tt Q Q=0:=QCi h
 apply Pt.ext
 ·apply QeL (Qgr hδ Q Q)
  rw[QiO]
  exact QyM h
 ·apply QeL (QfQ hδ Q Q)
  rw[Qgk,ht]
  exact (Qz6 h hy).trans (show (1:Fp)=1*(1-0) by decide)
theorem zero_mul (n:Nat):(Pt.zero:Pt δ).mul hδ n=Pt.zero:=by
 induction n with
 | zero=>rfl
 | succ n ih=>show ((Pt.zero:Pt δ).mul hδ n).add hδ Pt.zero=Pt.zero;rw[ih,Qgw]
structure Ell (L:Nat):Prop where
 kl:kval Kl 255=L
 inv:∀n,n%L≠0→∃m,n*m%L=1
 dbl:∀n,n%L≠0→(n+n)%L≠0
 one:1%L≠0
 clamp:∀bs:List UInt8,bs.length=32→kval (QaL bs) 255%L≠0
theorem QxP {L:Nat} (hL:Ell L) {s:Fp} {G:Pt δ} (hp:Par s δ) (hx:toF 9*(1-G.y)=s*(1+G.y)) (hy:1+G.y≠0):G.mul hδ L=Pt.zero:=by
 have h:=(Qtv hδ hp hx hy Kl 255).1
 rw[hL.kl]at h
 obtain⟨k,hk,_,hZ⟩:=h
 rw[ord9,Qf7]at hZ
 have hs:=Qhg hp
 have hsn:s≠0:=by rintro rfl;revert hs;decide
 rcases Qdi hZ.symm with h1|h1
 ·exact absurd h1 (QaU hk hsn)
 ·exact QwF hδ h1
theorem QkQ {L:Nat} (hL:Ell L) {s:Fp} {G:Pt δ} (hp:Par s δ) (hx:toF 9*(1-G.y)=s*(1+G.y)) (hy:1+G.y≠0) {n:Nat} (hn:n%L≠0):(G.mul hδ n).x≠0:=by
 intro h0
 have h1:=QtY hδ h0
 rw[←QdP]at h1
 obtain⟨m,hm⟩:=hL.inv _ (hL.dbl n hn)
 have h3:G.mul hδ ((n+n)*m)=Pt.zero:=by rw[Qga,h1,zero_mul]
 have h4:(n+n)*m=L*((n+n)*m/L)+1:=by
  have:=QDA ((n+n)*m) L
  omega
 rw[h4,QdP,Qga,QxP hδ hL hp hx hy,zero_mul,Qlf,Qhz]at h3
 have hs:=Qhg hp
 rw[h3]at hx hy
 have h5:s*2=0:=by
  have:toF 9*(1-1)=s*(1+1):=hx
  clear hx hy hs hp h0 h1
  grobner
 rcases Qdi h5 with h6|h6
 ·subst h6
  revert hs
  decide
 ·exact Qjy h6
end
theorem Qqr {p n:Nat} (h:∀a,a%p≠0→a^(p-1)%p=1) (hp:2≤p) (hn:n%p≠0):∃m,n*m%p=1:=by
 refine⟨n^(p-2),?_⟩
 rw[←QEx,show (p-2).succ=p-1 by omega]
 exact h n hn
theorem Qvm (a:Nat) (h:a%ellN≠0):a^(ellN-1)%ellN=1:=by
 have:=QBw.2 a (by unfold ellN at h;exact h)
 unfold ellN
 exact this
theorem QnB {n:Nat} (hn:n%ellN≠0):∃m,n*m%ellN=1:=Qqr (p:=ellN) Qvm (by unfold ellN;omega) hn
theorem Qtn (bs:List UInt8) (h:bs.length=32):kval (QaL bs) 255%ellN≠0:=by
 rw[Quw _ (Qbs bs)]
 have h1:=Qs2 bs h
 have h2:=(QqD bs).resolve_right (fun e=>e h)
 rw[QC1 h1.2]
 intro h0
 obtain⟨m,hm⟩:∃m,num (QaL bs)=8*m:=⟨num (QaL bs)/8,by omega⟩
 rw[hm]at h0 h1
 have h3:m<ellN:=by unfold ellN;omega
 have h4:m%ellN≠0:=by rw[QC1 h3];omega
 obtain⟨r,hr⟩:=QnB h4
 have h5:(8*m)*r%ellN=0:=by rw[QDX,h0,QEA,QEO]
 rw[QDR,QDX,hr]at h5
 revert h5
 decide
theorem QwG (n:Nat) (h:n%ellN≠0):(n+n)%ellN≠0:=by
 intro h0
 obtain⟨r,hr⟩:=QnB (n:=2) (by decide)
 have h1:n*(2*r)%ellN=0:=by rw[←QDR,Nat.mul_two,QDX,h0,QEA,QEO]
 rw[QDX,hr,QEq,QD4]at h1
 exact h h1
theorem ell:∃L,Ell L:=
 ⟨ellN,QzB,fun _ h=>QnB h,QwG,by decide,Qtn⟩
theorem Ell.prod {L n m:Nat} (hL:Ell L) (hn:n%L≠0) (hm:m%L≠0):n*m%L≠0:=by
 intro h0
 obtain⟨r,hr⟩:=hL.inv n hn
 have h1:n*r*m%L=0:=by rw[show n*r*m=n*m*r by rw[QDR,QDD r m,QDR],QDX,h0,QEA,QEO]
 rw[QDX,hr,Nat.one_mul,QD4]at h1
 exact hm h1
def From9 (q:Nat):Prop:=q<P25∧∃(L:Nat) (_:Ell L) (s δ:Fp) (hδ:QgC δ) (_:Par s δ) (G:Pt δ) (n:Nat),toF 9*(1-G.y)=s*(1+G.y)∧1+G.y≠0∧n%L≠0∧toF q=(G.mul hδ n).u s
theorem from9_ne {q:Nat} (h:From9 q):q≠0:=by
 obtain⟨_,L,hL,s,δ,hδ,hp,G,n,hx,hy,hn,he⟩:=h
 rintro rfl
 exact QkQ hδ hL hp hx hy hn ((Qsk hδ hp).1 he.symm)
theorem from9_nine:From9 9:=by
 obtain⟨s,δ,hδ,hp,G,hx,hy⟩:=Qml (u:=toF 9) (by decide)
 obtain⟨L,hL⟩:=ell
 refine⟨by decide,L,hL,s,δ,hδ,hp,G,1,hx,hy,hL.one,?_⟩
 rw[Qhz]
 have h1:1-G.y≠0:=by
  intro h0
  have hs:=Qhg hp
  have hsn:s≠0:=by rintro rfl;revert hs;decide
  rw[h0]at hx
  have:s*(1+G.y)=0:=by rw[←hx];clear hx hs hp hy;grobner
  exact QaU hsn hy this
 unfold Pt.u
 rw[if_neg h1,←hx]
 have:=QaO h1
 clear hx hy hp h1
 grobner
theorem from9_step {q:Nat} (h:From9 q) (ks:List UInt8) (hk:ks.length=32):From9 (multN q (QaL ks)):=by
 have hne:=from9_ne h
 obtain⟨hq,L,hL,s,δ,hδ,hp,G,n,hx,hy,hn,he⟩:=h
 have h0:toF q≠0:=fun h=>hne (QsQ hq h)
 rw[he]at h0
 obtain⟨b1,b2⟩:=QvV hp h0
 refine⟨Qhu _ _,L,hL,s,δ,hδ,hp,G,n*kval (QaL ks) 255,hx,hy,hL.prod hn (hL.clamp ks hk),?_⟩
 rw[Qga]
 exact QnS hδ hp (by rw[he];exact b1) b2 (QaL ks)
end Ed
end Go.Proofs.YticcbmhcgmhohaaGreat
namespace Go.Proofs.YticcbmhcgmhohaaGreat
open Go.RowKit
theorem QtM (ks:List UInt8) (q:Nat) (h:q<P25):QiV ks (nb q)=Ed.multN q (QaL ks):=by
 rw[QiV,Qn3 q h]
 rfl
theorem Qfq (ks:List UInt8) (q:Nat) (hk:ks.length=32) (h:q<P25):Qbe ks (nb q)=nb (Ed.multN q (QaL ks))∧Qbf ks (nb q)=if Ed.multN q (QaL ks)=0 then 5 else 0:=by
 unfold Qbe Qbf
 rw[QtM ks q h,if_pos ⟨hk,QbS q⟩,if_pos ⟨hk,QbS q⟩]
 exact⟨rfl,rfl⟩
theorem QvO:9<P25:=by decide
theorem Qzw (ks:List UInt8) (hk:ks.length=32):Qbf ks (nb 9)=0:=by
 rw[(Qfq ks 9 hk QvO).2,if_neg (Ed.from9_ne (Ed.from9_step Ed.from9_nine ks hk))]
end Go.Proofs.YticcbmhcgmhohaaGreat
namespace Go.Proofs.YticcbmhcgmhohaaGreat
open Go.RowKit
open Go.BigFrame
section
variable {ops:Array Oper} {rest:List Oper} {o:Oper} {a:Act} {w:World} {Q:Exit→Act→World→Prop}
end
end Go.Proofs.YticcbmhcgmhohaaGreat
namespace Go.Proofs.YticcbmhcgmhohaaGreat
open Go.RowKit
end Go.Proofs.YticcbmhcgmhohaaGreat
namespace Go.Proofs.YticcbmhcgmhohaaGreat
open Go.RowKit
open Go.BigFrame
end Go.Proofs.YticcbmhcgmhohaaGreat
