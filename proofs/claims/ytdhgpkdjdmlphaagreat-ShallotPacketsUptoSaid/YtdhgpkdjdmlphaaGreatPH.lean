/-
  Lemmas for the last text of this claim (part 8 of 20).
-/
import Derived.ArgAppend
import Derived.BigQuiet
import Derived.BigRegion
import Derived.ChangeOld
import Derived.Deep.RegionWith
import Derived.DeepKeys4
import Derived.JoinedCond
import Derived.LaidMore
import Derived.Laws.BytesArg
import Derived.Laws.CopyOwn
import Derived.Laws.Externs
import Derived.Laws.IdiomStrings
import Derived.Laws.Tables
import Derived.Lib.AppendStr
import Derived.Lib.AppendZerosOnto
import Derived.Lib.Mul64
import Derived.Lib.SlBytesConst
import Derived.LoopN
import Derived.Maps.OwnSet
import Derived.OpenShut
import Derived.OrdersHeld
import Derived.ProofKit
import Derived.Shelf.Spec.BitsCarry
import Derived.ShutString
import Derived.Test.YtdhgpkdjdmlphaaGreatProg
import Derived.Test.YtdhgpkdjdmlphaaGreatRows
import Derived.WalkKit
import Derived.WalkLawsBesides
import Derived.WalkSpells
import Derived.Test.YtdhgpkdjdmlphaaGreatPF
import Derived.Test.YtdhgpkdjdmlphaaGreatPG
open BitVec renaming toNat_ushiftRight → Qzd
open Bool renaming eq_iff_iff → Qy7
open Int renaming toNat_natCast → QAh
open List renaming replicate → Qym, length_map → Qyn, getElem?_cons_succ → Qyo, getElem?_cons_zero → Qyp, getElem?_eq_getElem → Qyq, getD_eq_getElem?_getD → Qys, nil_append → Qyt, cons_append → Qyu, take_of_length_le → Qyx, getElem?_append_right → Qyz, getElem?_eq_some_iff → QyC, setIfInBounds_toArray → QyD, getElem?_map → QyF, getElem?_append_left → QyH, set_cons_zero → QyI, map_toArray → QyK, length_take → QyL, set_cons_succ → QyM, take_succ_eq_append_getElem → QyQ, map_cons → QyT, map_nil → QyU, length_set → Qy2, eq_nil_of_length_eq_zero → Qy5, mem_map → Qzb, drop_of_length_le → Qzm, drop_zero → Qzn, getElem_mem → QzH, flatMap_cons → QzI, drop_eq_getElem_cons → QzT, map_take → QzZ, take_zero → QAs
open Nat renaming lt_of_lt_of_le → QyG, mod_eq_of_lt → QyN, mod_lt → QyS, zero_add → QyY, le_trans → Qy3, shiftRight_eq_div_pow → Qza, div_div_eq_div_mul → Qze, div_add_mod → Qzh, le_mul_of_pos_right → Qzi, mul_comm → Qzj, mul_assoc → Qzr, lt_or_ge → Qzs, sub_self → Qzu, div_eq_of_lt → Qzv, pow_succ → Qzx, div_lt_of_lt_mul → QzA, min_eq_left → QzD, mul_le_mul_left → QzF, pow_le_pow_right → QzJ, add_mul_div_left → QzK, mul_mod → QzL, lt_of_le_of_lt → QzN, add_zero → QzO, lt_trans → QzP, pow_add → QzX, mul_one → QzY, pow_succ' → Qz0, zero_mul → Qz6, pow_mul → QAa, mod_mod → QAb, pow_pos → QAl, add_comm → QAm, add_mod → QAo
open Option renaming toList_some → Qyr, map_some → QzW
open UInt32 renaming ofNat → QyX
open UInt64 renaming ofInt → Qy8
open UInt8 renaming ofNat → QyP, toNat_ofNat' → Qzl, toNat_inj → Qzp, toNat → QAt
set_option linter.all false
namespace Go.Proofs.YtdhgpkdjdmlphaaGreat
open Go.RowKit
def num (bs:List UInt8):Nat:=val 256 (bs.map QAt)
theorem Qln (bs:List UInt8) (j:Nat) (h:j<bs.length):num (bs.drop j)=(bs.getD j 0).toNat+256*num (bs.drop (j+1)):=by
 rw[QzT h,num,QyT,val,num,Qys,Qyq h]
 rfl
def dn:Nat→Int
 | 0=> -1
 | j+1=>j
theorem QkU:dn 0= -1:=rfl
theorem QkV (j:Nat):dn (j+1)=j:=rfl
theorem QfP (j:Nat):(j:Int)-1=dn j:=by
 cases j with
 | zero=>rfl
 | succ j=>simp only[dn];omega
theorem Qpc (x:UInt8) (m:Nat):(shr8 x m &&& 1).toNat=x.toNat/2^m%2:=by
 rw[UInt8.toNat_and]
 have e:(shr8 x m).toNat=x.toNat/2^m:=by
  rw[shr8]
  show (BitVec.toNat _)=_
  rw[Qzd,Qza]
  rfl
 rw[e]
 exact Nat.and_two_pow_sub_one_eq_mod _ 1
theorem Qsi (x:UInt8) (m:Nat):(shr8 x m &&& 1==1)=decide (x.toNat/2^m%2=1):=by
 rw[←Qpc,Qy7,beq_iff_eq,decide_eq_true_eq,←Qzp]
 rfl
theorem pow_two (a e P:Nat):(a^e%P)*(a^e%P)%P=a^(2*e)%P:=by rw[←QzL,←QzX,Nat.two_mul]
theorem QkM (a e P:Nat):(a^e%P)*(a^e%P)*a%P=a^(2*e+1)%P:=by
 rw[Qzx,QzL,pow_two,←QzL]
theorem QqH (N x m:Nat) (hm:m<8):N*2^(8-m)+x/2^m=2*(N*2^(8-(m+1))+x/2^(m+1))+x/2^m%2:=by
 rw[show 8-m=(8-(m+1))+1 by omega,Qzx,Qzx,←Qze,←Qzr]
 omega
theorem of_1 (w:World):Calls Tryz.prog 93 #[.int .u64 1] w fun e w'=>e= .returned (E 1)∧Later w w':=Qn1 1 (by decide) w
set_option maxRecDepth 100000 in
set_option maxHeartbeats 2000000 in
theorem Qph (a:Nat) (ha:a<T256) (A:Option Addr) (n c:Nat) (bs:List UInt8) (w:World) (hr:RdB w A n bs) (hn:n≤140737488355328):
 Calls Tryz.prog 180 #[E a,.slice A n c] w fun e w'=>e= .returned (E (a^num bs%P25))∧Later w w':=by
 have hbl:=hr.len
 have h1:Blk ((w.alloc (.cells (EL a).toArray 211)).alloc (.cells (Qym 4 (.int .u64 0)).toArray 211)) w.heap.size 211 (EL a):=(Blk.new _ _ _).later (Qaa _ _)
 have h2:Blk ((w.alloc (.cells (EL a).toArray 211)).alloc (.cells (Qym 4 (.int .u64 0)).toArray 211)) (w.heap.size+1) 211 (Qym 4 (.int .u64 0)):=Blk.new' _ _ _ (by simp)
 have L0:Later w ((w.alloc (.cells (EL a).toArray 211)).alloc (.cells (Qym 4 (.int .u64 0)).toArray 211)):=(Qaa _ _).trans (Qaa _ _)
 go_enter Tryz.func180,Tryz.ntmps180
 go_wp2_with (first
  | (go_at_call 93;(with_reducible refine (of_1 _).mono ?_);rintro e w2 ⟨rfl,hl2⟩)
  | (refine Qas rfl rfl _ _ rfl (Blk.new w2 _ (Qym 4 (.int .u64 0))) rfl rfl rfl ?_;intro w3 hb3 ho3)
  | fail)
 have h13:=((h1.later hl2).later (Qaa _ (.cells (Qym 4 (.int .u64 0)).toArray 211))).only ho3 (by have:=(h1.later hl2).lt;omega)
 have h23:=((h2.later hl2).later (Qaa _ (.cells (Qym 4 (.int .u64 0)).toArray 211))).only ho3 (by have:=(h2.later hl2).lt;omega)
 have L3:=((L0.trans hl2).alloc (.cells (Qym 4 (.int .u64 0)).toArray 211)).only ho3 (by have:=(L0.trans hl2).size;omega)
 have hg:w.heap.size+1<w2.heap.size:=(h2.later hl2).lt
 generalize w2.heap.size=g at *
 clear h1 h2 L0 hl2 ho3
 go_loopw [6] (fun i wr=>∃k:Nat,k≤n∧i= .int .i64 (dn k)∧Blk wr w.heap.size 211 (EL a)∧Blk wr (w.heap.size+1) 211 (Qym 4 (.int .u64 0))∧Blk wr g 211 (EL (a^num (bs.drop k)%P25))∧Later w wr) (fun i _=>(intOf i+1).toNat)
 case atStart=>
  refine⟨n,by omega,by rw[←QfP],h13,h23,?_,L3⟩
  rw[Qzm (by omega)]
  exact hb3
 case round=>
  clear h13 h23 hb3 L3
  obtain⟨k,hk,rfl,h1,h2,h3,L⟩:=hrel
  cases k with
  | zero=>
    rw[Qzn]at h3
    obtain⟨y,hy⟩:∃y,y=a^num bs%P25:=⟨_,rfl⟩
    rw[←hy]at h3
    have HY:=hid hy
    clear hy
    simp only[QkU]
    go_wp2_with (first
     | (refine Qa2 rfl _ rfl h3 rfl ?_)
     | (refine Qas rfl rfl _ _ rfl h2 rfl rfl rfl ?_;intro w9 hb9 ho9)
     | fail)
    exact bodyPost_ret (Qfx rfl hb9 rfl) rfl ⟨by rw[HY.out],L.only ho9 (by omega)⟩
  | succ j=>
    obtain⟨b,o,rfl,hb,hc⟩:=hr.at_ (by omega)
    have HC:=hid (hc j (by omega))
    have HN:=hid (Qln bs j (by omega))
    clear hc hr
    simp only[QkV]
    generalize bs.getD j 0=x at *
    generalize num (bs.drop (j+1))=N at *
    generalize hNN:num (bs.drop j)=N' at *
    have HNN:=hid hNN
    clear hNN
    go_wp2_with fail
    go_loopw [7] (fun i wr=>∃m:Nat,m≤8∧i= .int .i64 (dn m)∧Blk wr w.heap.size 211 (EL a)∧Blk wr (w.heap.size+1) 211 (Qym 4 (.int .u64 0))∧Blk wr g 211 (EL (a^(N*2^(8-m)+x.toNat/2^m)%P25))∧Later w wr) (fun i _=>(intOf i+1).toNat)
    case atStart=>
     refine⟨8,by omega,rfl,h1,h2,?_,L⟩
     have:x.toNat/2^8=0:=Qzv x.toNat_lt
     rw[this,Qzu,Nat.pow_zero,QzY,QzO]
     exact h3
    case round=>
     clear h1 h2 h3 L
     obtain⟨m,hm,rfl,h1,h2,h3,L⟩:=hrel
     cases m with
     | zero=>
       simp only[QkU]
       go_wp2_with fail
       go_roundw
       case rel=>
        refine⟨j,by omega,by rw[QfP],h1,h2,?_,L⟩
        have e:N*2^(8-0)+x.toNat/2^0=N':=by
         rw[HN.out,Nat.pow_zero,Nat.div_one]
         show N*256+_=_
         omega
        rw[e]at h3
        have hn':num (bs.drop j)=N':=HNN.out
        rw[hn']
        exact h3
       case measure=>simp[intOf]
     | succ m=>
       have d0:wr.cell? ⟨b,o+j,none⟩=some (W8 x):=(L.below.cell (p:=⟨b,o+j,none⟩) hb).trans HC.out
       have HE:=hid (QqH N x.toNat m (by omega))
       obtain⟨y,hy⟩:∃y,y=a^(N*2^(8-(m+1))+x.toNat/2^(m+1))%P25:=⟨_,rfl⟩
       rw[←hy]at h3
       have hyT:y<T256:=by rw[hy];exact QzP (QyS _ Qbw) (by decide)
       have HY:=hid hy
       clear hy
       have hyy:y*y%P25<T256:=QzP (QyS _ Qbw) (by decide)
       have hbe:=Qsi x m
       have hcnt:cnt (Qy8 (m:Int))=m:=by rw[QdX,cnt,tn64 (by unfold B64;omega)]
       simp only[QkV]
       rcases Nat.mod_two_eq_zero_or_one (x.toNat/2^m) with hz|hz
       ·have hd:(shr8 x m &&& 1==1)=false:=by rw[hbe,hz];rfl
        have HZ:=hid hz
        clear hbe hz
        go_wp2_with (first
         | (refine Qa2 rfl _ rfl h3 rfl ?_)
         | (go_at_call 157;(with_reducible refine (QfK y hyT _).mono ?_);rintro e w4 ⟨rfl,hl4⟩)
         | (refine Qas rfl rfl _ _ rfl (h3.later hl4) rfl rfl (Qag _) ?_;intro w5 hb5 ho5
            have d5:w5.cell? ⟨b,o+j,none⟩=some (W8 x):=(((L.trans hl4).only ho5 (by omega)).below.cell (p:=⟨b,o+j,none⟩) hb).trans HC.out)
         | fail)
        go_roundw
        case rel=>
         refine⟨m,by omega,by rw[QfP],(h1.later hl4).only ho5 (by omega),(h2.later hl4).only ho5 (by omega),?_,(L.trans hl4).only ho5 (by omega)⟩
         rw[HE.out,HZ.out,QzO,←pow_two,←HY.out]
         exact hb5
        case measure=>simp[intOf]
       ·have hd:(shr8 x m &&& 1==1)=true:=by rw[hbe,hz];rfl
        have HZ:=hid hz
        clear hbe hz
        go_wp2_with (first
         | (refine Qa2 rfl _ rfl h3 rfl ?_)
         | (go_at_call 157;(with_reducible refine (QfK y hyT _).mono ?_);rintro e w4 ⟨rfl,hl4⟩)
         | (refine Qas rfl rfl _ _ rfl (h3.later hl4) rfl rfl (Qag _) ?_;intro w5 hb5 ho5
            have d5:w5.cell? ⟨b,o+j,none⟩=some (W8 x):=(((L.trans hl4).only ho5 (by omega)).below.cell (p:=⟨b,o+j,none⟩) hb).trans HC.out
            have h15:=(h1.later hl4).only ho5 (by omega))
         | (refine Qa2 rfl _ rfl hb5 rfl ?_)
         | (refine Qa2 rfl _ rfl h15 rfl ?_)
         | (go_at_call 159;(with_reducible refine (Qdc (y*y%P25) a hyy ha _).mono ?_);rintro e w6 ⟨rfl,hl6⟩)
         | (refine Qas rfl rfl _ _ rfl (hb5.later hl6) rfl rfl (Qag _) ?_;intro w7 hb7 ho7)
         | fail)
        go_roundw
        case rel=>
         refine⟨m,by omega,by rw[QfP],(h15.later hl6).only ho7 (by omega),(((h2.later hl4).only ho5 (by omega)).later hl6).only ho7 (by omega),?_,(((L.trans hl4).only ho5 (by omega)).trans hl6).only ho7 (by omega)⟩
         rw[HE.out,HZ.out,←QkM,←HY.out]
         first|exact hb7|(rw [Nat.mod_mul_mod]at hb7;exact hb7)
        case measure=>simp[intOf]
theorem QuT {w:World} {g:Nat} {t:TypeId} {l:List Value} {n:Nat} (h:Blk w g t l) (hn:l.length=n):Rd w (some ⟨g,0,none⟩) n l:=
 ⟨hn,fun _=>⟨g,0,rfl,h.lt,fun j u hu=>by rw[QyY];exact h.cellD j hu⟩⟩
theorem QbY {w:World} {g:Nat} {t:TypeId} {bs:List UInt8} {n:Nat} (h:Blk w g t (bs.map W8)) (hn:bs.length=n):RdB w (some ⟨g,0,none⟩) n bs:=QuT h (by simpa using hn)
def QiR:List UInt8:=235 :: (Qym 30 255++[127])
theorem Qte:num QiR=P25-2:=by decide
def pinv (a:Nat):Nat:=a^(P25-2)%P25
theorem Qrc (l:List Value) (hl:l=Qym 32 (Value.int .u8 255)):(l.set 0 (.int .u8 235)).set 31 (.int .u8 127)=QiR.map W8:=by
 subst hl
 rfl
set_option maxRecDepth 100000 in
set_option maxHeartbeats 2000000 in
theorem Qtk (a:Nat) (ha:a<T256) (w:World):
 Calls Tryz.prog 160 #[E a] w fun e w'=>e= .returned (E (pinv a))∧Later w w':=by
 have h1:Blk ((w.alloc (.cells (EL a).toArray 211)).alloc (.cells (Qym 4 (.int .u64 0)).toArray 211)) w.heap.size 211 (EL a):=(Blk.new _ _ _).later (Qaa _ _)
 have h2:Blk ((w.alloc (.cells (EL a).toArray 211)).alloc (.cells (Qym 4 (.int .u64 0)).toArray 211)) (w.heap.size+1) 211 (Qym 4 (.int .u64 0)):=Blk.new' _ _ _ (by simp)
 have L0:Later w ((w.alloc (.cells (EL a).toArray 211)).alloc (.cells (Qym 4 (.int .u64 0)).toArray 211)):=(Qaa _ _).trans (Qaa _ _)
 have HP:=hid (Qph a ha)
 have HN:=hid Qte
 go_enter Tryz.func160,Tryz.ntmps160
 go_wp2_with (first
  | (refine Qar rfl _ _ 22 rfl 5 (.int .u8 0) 1 Tryz.underlying22 Qcg rfl _ _ _ _ 32 rfl rfl rfl rfl (by omega) (by omega) ?_;intro w2 hb2 hl2)
  | fail)
 have h12:=h1.later hl2
 have h22:=h2.later hl2
 have L2:=L0.trans hl2
 replace hb2:Blk w2 (w.heap.size+1+1) 5 (Qym 32 (.int .u8 0)):=Eq.mp (congrArg (fun g=>Blk w2 g 5 (Qym 32 (.int .u8 0))) (by simp)) hb2
 clear h1 h2 L0 hl2
 go_loopw [8] (fun i wr=>∃k:Nat,k≤32∧i= .int .i64 k∧Blk wr w.heap.size 211 (EL a)∧Blk wr (w.heap.size+1) 211 (Qym 4 (.int .u64 0))∧Blk wr (w.heap.size+1+1) 5 (Qcb (Qym 32 (.int .u8 255)) (Qym 32 (.int .u8 0)) k)∧Later w wr) (fun i _=>32-(intOf i).toNat)
 case atStart=>exact⟨0,by omega,rfl,h12,h22,by rw[Qch];exact hb2,L2⟩
 case round=>
  clear h12 h22 hb2 L2
  obtain⟨k,hk,rfl,h1,h2,h3,L⟩:=hrel
  by_cases hlt:k<32
  ·go_wp2_with (first
    | (refine Qae rfl rfl _ _ _ rfl _ _ _ _ h3 rfl ?hl rfl (by kernel_rfl) ?_;(case hl=>rw[Qa9 _ _ _ (by rfl)];exact hlt);intro v w6 hv hb6 ho6;simp[go_sem]at hv;subst hv)
    | fail)
   go_roundw
   case rel=>
    rw[QbS _ _ _ _ (by rfl) hlt (by rw[List.getElem?_replicate,if_pos hlt])]at hb6
    exact⟨k+1,by omega,by go_num,h1.only ho6 (by omega),h2.only ho6 (by omega),hb6,L.only ho6 (by omega)⟩
   case measure=>simp[intOf];omega
  ·have HF:=hid (Qrc _ (QcI (Qym 32 (Value.int .u8 255)) (Qym 32 (.int .u8 0)) 32 rfl rfl))
   rw[show k=32 by omega]at h3
   have hkf:decide ((k:Int)<32)=false:=by simp;omega
   go_wp2_with (first
    | (refine Qae rfl rfl _ _ _ rfl _ _ _ _ h3 rfl ?hl rfl (by kernel_rfl) ?_;(case hl=>rw[Qa9 _ _ _ (by rfl)];decide);intro v w6 hv hb6 ho6;simp[go_sem]at hv;subst hv)
    | (refine Qae rfl rfl _ _ _ rfl _ _ _ _ hb6 rfl ?hl rfl (by kernel_rfl) ?_;(case hl=>rw[Qy2,Qa9 _ _ _ (by rfl)];decide);intro v w7 hv hb7 ho7;simp[go_sem]at hv;subst hv
       rw[HF.out]at hb7
       have h17:=(h1.only ho6 (by omega)).only ho7 (by omega)
       have h27:=(h2.only ho6 (by omega)).only ho7 (by omega)
       have L7:=(L.only ho6 (by omega)).only ho7 (by omega))
    | (refine Qa2 rfl _ rfl h17 rfl ?_)
    | (go_at_call 180;(with_reducible refine (HP.out _ 32 _ QiR _ (QbY hb7 rfl) (by omega)).mono ?_);rintro e w8 ⟨rfl,hl8⟩
       rw[HN.out])
    | (refine Qas rfl rfl _ _ rfl (h27.later hl8) rfl rfl rfl ?_;intro w9 hb9 ho9)
    | fail)
   exact bodyPost_ret (Qfx rfl hb9 rfl) rfl ⟨rfl,(L7.trans hl8).only ho9 (by omega)⟩
def RdE (w:World) (A:Option Addr) (n:Nat) (ns:List Nat):Prop:=
 ns.length=n∧(0<n→∃b o,A=some ⟨b,o,none⟩∧b<w.heap.size∧∀j i v,j<n→(EL (ns.getD j 0))[i]?=some v→w.cell? ⟨b,o+j*4+i,none⟩=some v)
theorem RdE.later {w w':World} {A:Option Addr} {n:Nat} {ns:List Nat} (h:RdE w A n ns) (hl:Later w w'):RdE w' A n ns:=by
 refine⟨h.1,fun hn=>?_⟩
 obtain⟨b,o,hA,hb,hc⟩:=h.2 hn
 exact⟨b,o,hA,QyG hb hl.size,fun j i v hj hv=>(hl.below.cell (p:=⟨b,o+j*4+i,none⟩) hb).trans (hc j i v hj hv)⟩
theorem Qri (l:List Nat) (k:Nat) (h:k<l.length):(l.take (k+1)).sum=(l.take k).sum+l.getD k 0:=by
 rw[QyQ h,List.sum_append,Qys,Qyq h]
 simp
def QdR:List Nat→Nat
 | []=>1
 | x :: l=>x*QdR l
theorem Qf2:∀l m:List Nat,QdR (l++m)=QdR l*QdR m
 | [],m=>by simp[QdR]
 | x :: l,m=>by rw[Qyu,QdR,Qf2 l m,QdR,Qzr]
theorem Qqb (l:List Nat) (k:Nat) (h:k<l.length):QdR (l.take (k+1))=QdR (l.take k)*l.getD k 0:=by
 rw[QyQ h,Qf2,Qys,Qyq h]
 simp[QdR]
theorem Qid {l:List Nat} {j:Nat} (h:j<l.length):l.getD j 0∈l:=by
 rw[Qys,Qyq h]
 exact QzH h
set_option maxRecDepth 100000 in
set_option maxHeartbeats 2000000 in
theorem Qtw (A:Option Addr) (n c:Nat) (ns:List Nat) (w:World) (hr:RdE w A n ns) (hns:∀x∈ns,x<T256) (hn:n≤140737488355328):
 Calls Tryz.prog 155 #[.slice A n c] w fun e w'=>e= .returned (E (ns.sum%P25))∧Later w w':=by
 have hnl:=hr.1
 go_enter Tryz.func155,Tryz.ntmps155
 go_wp2
 go_loopw [8] (fun i wr=>∃k:Nat,k≤n∧i= .int .i64 k∧Blk wr w.heap.size 211 (Qym 4 (.int .u64 0))∧Blk wr (w.heap.size+1) 211 (EL ((ns.take k).sum%P25))∧Later w wr) (fun i _=>n-(intOf i).toNat)
 case atStart=>exact⟨0,by omega,rfl,(Blk.new w _ (Qym 4 (Value.int .u64 0))).later (Qaa _ _),by rw[QAs];exact Blk.new' _ _ (Qym 4 (Value.int .u64 0)) (by simp),(Qaa _ _).trans (Qaa _ _)⟩
 case round=>
  obtain⟨k,hk,rfl,h1,h2,L⟩:=hrel
  by_cases hlt:k<n
  ·obtain⟨b,o,rfl,hb,hc⟩:=(hr.later L).2 (by omega)
   have HT:=hid (Qri ns k (by omega))
   have hx:ns.getD k 0<T256:=hns _ (Qid (by omega))
   have hc':=fun i v hv=>hc k i v hlt hv
   generalize ns.getD k 0=x at *
   have HC:=hid hc'
   clear hc hc' hr
   generalize hs:(ns.take k).sum=s at *
   have HSS:=hid hs
   clear hs
   go_wp2_with (first
    | (refine Qau rfl 211 _ rfl b (o+k*4) (EL x) ?hc ?hx _ Tryz.underlying211 rfl ?hi ?_;(case hx=>rfl);(case hi=>rw[Qag];exact Qfy);(case hc=>intro j v hv;exact HC.out j v hv))
    | (refine Qas (g:=wr.heap.size) rfl rfl _ _ rfl (Blk.new _ _ (Qym 4 (.int .u64 0))) rfl rfl rfl ?_;intro w3 hb3 ho3)
    | fail)
   have L3:Later wr w3:=(Qaa _ _).only ho3 (by omega)
   have h23:=h2.later L3
   go_wp2_with fail
   refine Qaf [([0,1],2)] [] [3,4] (by as_aux_lemma=>kernel_rfl) (by as_aux_lemma=>kernel_rfl) (by intro _ _ d _ _ h;cases d<;>exact h) ?_
   simp only[Qaj,pick,Qyo,Qyp,Qyr,Qyu,Qyt]
   repeat (first|go_big_quiet_skip|(go_big_quiet_want;(first|refine QbT _ rfl h23.drew rfl ?_|refine QbT _ rfl hb3.drew rfl ?_);simp only[Act.put,QyD,QyM,QyI];go_big_quiet_on)|(go_big_quiet_step (fail)))
   refine wpQuiet_nil ?_
   go_wp2_with fail
   (with_reducible refine (Qc5 x hx _).mono ?_);rintro e w4 ⟨rfl,hl4⟩
   go_wp2_with fail
   try refine⟨by first|assumption|exact Qad _|exact Qaa _ _|exact Later.refl _,?_⟩
   try simp only[Qaj,pick,Qyo,Qyp,Qyr,Qyu,Qyt]
   repeat (go_big_quiet_step (fail))
   refine wpQuiet_nil ?_
   go_wp2_with fail
   (with_reducible refine (Qly (s%P25) (x%P25) (by have:=QyS s Qbw;have:=QyS x Qbw;unfold P25 at *;unfold T256;omega) _).mono ?_);rintro e w5 ⟨rfl,hl5⟩
   have h25:=((h23.drew).later hl4).later hl5
   go_wp2_with (first
    | (refine Qas rfl rfl _ _ rfl h25 rfl rfl (Qag _) ?_;intro w6 hb6 ho6)
    | fail)
   have L5:Later wr w5:=(((L3.trans (Qad _)).trans hl4).trans hl5)
   go_roundw
   case rel=>
    refine⟨k+1,by omega,by go_num,(h1.later L5).only ho6 (by omega),?_,(L.trans L5).only ho6 (by omega)⟩
    rw[HT.out]
    first|exact hb6|(rw [←QAo];exact hb6)|(rw [QAo];exact hb6)
   case measure=>simp[intOf];omega
  ·rw[show k=n by omega,Qyx (by omega)]at h2
   have hkf:decide ((k:Int)<(n:Int))=false:=by simp;omega
   go_wp2_with (first
    | (refine Qa2 rfl _ rfl h2 rfl ?_)
    | (refine Qas rfl rfl _ _ rfl h1 rfl rfl rfl ?_;intro w9 hb9 ho9)
    | fail)
   exact bodyPost_ret (Qfx rfl hb9 rfl) rfl ⟨rfl,L.only ho9 (by omega)⟩
theorem Qgy {P:Program} {t e:TypeId} (s:Nat) (ht:P.underlying t=some (.slice e)) (hs:(P.info? e).map (·.size)=some s) (A:Option Addr) (n c:Nat) (kl:IntKind) (l:Nat) (h1:l≤n) (W:World):
 (Instr.sliceAt t (.slice A n c) (some (.int kl l)) none none).run P W= .ok (.slice (if c=l then A else A.map (·.add (l*s))) (n-l) (c-l)) W:=by
 have he:P.elem t=e:=by unfold Program.elem;rw[ht]
 have ht':P.underlying t=some (.slice (P.elem t)):=by rw[he];exact ht
 rw[run_sliceAt_slice _ _ _ _ _ _ ht',run_slice_l (ht:=ht') (h0:=by omega) (h1:=by omega),he]
 cases hq:P.info? e with
 | none=>simp[hq]at hs
 | some i=>
   have hsz:i.size=s:=by simpa [hq] using hs
   simp[sizeOf,typeInfo,hq,hsz,sliced]
theorem RdE.cut1 {w:World} {A:Option Addr} {n:Nat} {ns:List Nat} (h:RdE w A n ns) (h1:1<n):RdE w (A.map (·.add 4)) (n-1) ns.tail:=by
 refine⟨by rw[List.length_tail,h.1],fun hn=>?_⟩
 obtain⟨b,o,rfl,hb,hc⟩:=h.2 (by omega)
 refine⟨b,o+4,by rw[QzW,Qc3],hb,fun j i v hj hv=>?_⟩
 have e:ns.tail.getD j 0=ns.getD (j+1) 0:=by rw[Qys,Qys,List.getElem?_tail]
 rw[e]at hv
 have:=hc (j+1) i v (by omega) hv
 rw[show o+4+j*4+i=o+(j+1)*4+i by omega]
 exact this
set_option maxRecDepth 100000 in
set_option maxHeartbeats 2000000 in
theorem Qlh (A:Option Addr) (n c:Nat) (ns:List Nat) (w:World) (hr:RdE w A n ns) (hns:∀x∈ns,x<T256) (hn:n≤c) (hc0:n≤140737488355328):
 Calls Tryz.prog 158 #[.slice A n c] w fun e w'=>e= .returned (E (QdR ns%P25))∧Later w w':=by
 have hnl:=hr.1
 have hb0:=Blk.new w 211 (Qym 4 (Value.int .u64 0))
 rcases Nat.eq_zero_or_pos n with hz|hz
 ·subst hz
  obtain rfl:ns=[]:=Qy5 hnl
  go_enter Tryz.func158,Tryz.ntmps158
  go_wp2_with (first
   | (go_at_call 93;(with_reducible refine (of_1 _).mono ?_);rintro e w2 ⟨rfl,hl2⟩)
   | (refine Qas rfl rfl _ _ rfl (hb0.later hl2) rfl rfl rfl ?_;intro w3 hb3 ho3)
   | fail)
  exact bodyPost_ret (Qfx rfl hb3 rfl) rfl ⟨rfl,((Qaa _ _).trans hl2).only ho3 (by omega)⟩
 ·have hne:((n:Int)==0)=false:=by simp;omega
  have hlt0:decide ((0:Int)<(n:Int))=true:=by simp;omega
  obtain⟨T,d,hcutT,hT⟩:∃(T:Option Addr) (d:Nat),(∀ W,(Instr.sliceAt 306 (.slice A n c) (some (.int .i64 1)) none none).run Tryz.prog W= .ok (.slice T (n-1) d) W)∧RdE w T (n-1) ns.tail:=by
   refine⟨_,_,Qgy 4 Tryz.underlying306 Qfy A n c .i64 1 hz,?_⟩
   by_cases h1:1<n
   ·rw[if_neg (by omega)]
    exact hr.cut1 h1
   ·refine⟨by rw[List.length_tail,hnl],fun h=>by omega⟩
  obtain⟨b,o,rfl,hb,hc⟩:=hr.2 hz
  have hx0:ns.getD 0 0<T256:=hns _ (Qid (by omega))
  have hc0':∀i v,(EL (ns.getD 0 0))[i]?=some v→w.cell? ⟨b,o+i,none⟩=some v:=fun i v hv=>by have:=hc 0 i v hz hv;rwa [Qz6,QzO]at this
  have HX:=hid (show ns.take 1=[ns.getD 0 0] by cases ns with|nil=>simp at hnl;omega|cons y l=>rfl)
  have hnt:∀x∈ns.tail,x<T256:=fun x hx=>hns x (List.mem_of_mem_tail hx)
  have HTL:=hid (show ∀k,k<n-1→QdR (ns.take (k+1+1))=QdR (ns.take (k+1))*ns.tail.getD k 0 by
   intro k hk
   rw[Qqb ns (k+1) (by omega)]
   congr 1
   rw[Qys,Qys,List.getElem?_tail])
  have HC0:=hid hc0'
  clear hc hc0' hr
  generalize hX0:ns.getD 0 0=x0 at *
  go_enter Tryz.func158,Tryz.ntmps158
  clear hX0
  go_wp2_with (first
   | (refine Qau rfl 211 _ rfl b o (EL x0) ?hc ?hx _ Tryz.underlying211 rfl ?hi ?_;(case hx=>rfl);(case hi=>rw[Qag];exact Qfy);(case hc=>intro j v hv;exact ((Qaa w _).below.cell (p:=⟨b,o+j,none⟩) hb).trans (HC0.out j v hv)))
   | (go_at_call 123;(with_reducible refine (Qc5 x0 hx0 _).mono ?_);rintro e w2 ⟨rfl,hl2⟩)
   | (refine Qas rfl rfl _ _ rfl (Blk.new w2 _ (Qym 4 (.int .u64 0))) rfl rfl rfl ?_;intro w3 hb3 ho3)
   | fail)
  have hb03:=((hb0.later hl2).later (Qaa _ (.cells (Qym 4 (.int .u64 0)).toArray 211))).only ho3 (Nat.ne_of_lt (hb0.later hl2).lt)
  have L3:Later w w3:=(((Qaa _ _).trans hl2).trans (Qaa _ _)).only ho3 (by have:=((Qaa w _).trans hl2).size;omega)
  have hg:w.heap.size<w2.heap.size:=(hb0.later hl2).lt
  generalize w2.heap.size=g at *
  clear hb0 hl2 ho3 HC0
  go_loopw [17] (fun i wr=>∃k:Nat,k≤n-1∧i= .int .i64 k∧Blk wr w.heap.size 211 (Qym 4 (.int .u64 0))∧Blk wr g 211 (EL (QdR (ns.take (k+1))%P25))∧Later w wr) (fun i _=>n-1-(intOf i).toNat)
  case atStart=>exact⟨0,by omega,rfl,hb03,by rw[QyY,HX.out];simpa [QdR] using hb3,L3⟩
  case round=>
   clear hb03 hb3 L3
   obtain⟨k,hk,rfl,h1,h2,L⟩:=hrel
   by_cases hlt:k<n-1
   ·obtain⟨b1,o1,rfl,hb1,hc1⟩:=(hT.later L).2 (by omega)
    have HT:=hid (HTL.out k hlt)
    have hx:ns.tail.getD k 0<T256:=hnt _ (Qid (by rw[List.length_tail];omega))
    have hc':=fun i v hv=>hc1 k i v hlt hv
    generalize ns.tail.getD k 0=x at *
    have HC:=hid hc'
    clear hc1 hc'
    obtain⟨y,hy⟩:∃y,y=QdR (ns.take (k+1))%P25:=⟨_,rfl⟩
    rw[←hy]at h2
    have hyT:y<T256:=by rw[hy];exact QzP (QyS _ Qbw) (by decide)
    have HY:=hid hy
    clear hy
    have hkb:decide ((k:Int)<((n-1:Nat):Int))=true:=by simp;omega
    have hkx:(k<n-1)=True:=eq_true hlt
    go_wp2_with (first
     | (refine Qau rfl 211 _ rfl b1 (o1+k*4) (EL x) ?hc ?hx _ Tryz.underlying211 rfl ?hi ?_;(case hx=>rfl);(case hi=>rw[Qag];exact Qfy);(case hc=>intro j v hv;exact HC.out j v hv))
     | (refine Qas (g:=wr.heap.size) rfl rfl _ _ rfl (Blk.new _ _ (Qym 4 (.int .u64 0))) rfl rfl rfl ?_;intro w4 hb4 ho4
        have L4:Later wr w4:=(Qaa _ _).only ho4 (by omega)
        have h24:=h2.later L4)
     | (refine Qa2 rfl _ rfl h24 rfl ?_)
     | (refine Qa2 rfl _ rfl hb4 rfl ?_)
     | (go_at_call 159;(with_reducible refine (Qdc y x hyT hx _).mono ?_);rintro e w5 ⟨rfl,hl5⟩)
     | (refine Qas rfl rfl _ _ rfl (h24.later hl5) rfl rfl (Qag _) ?_;intro w6 hb6 ho6)
     | fail)
    go_roundw
    case rel=>
     refine⟨k+1,by omega,by go_num,((h1.later L4).later hl5).only ho6 (by omega),?_,((L.trans L4).trans hl5).only ho6 (by omega)⟩
     rw[HT.out,QzL,←HY.out]
     first|exact hb6|(rw [QzL,HY.out,QAb,←HY.out]at hb6;exact hb6)
    case measure=>simp[intOf];omega
   ·rw[show k+1=n by omega,Qyx (by omega)]at h2
    have hkf:decide ((k:Int)<((n-1:Nat):Int))=false:=by simp;omega
    have hkx:(k<n-1)=False:=eq_false hlt
    go_wp2_with (first
     | (refine Qa2 rfl _ rfl h2 rfl ?_)
     | (refine Qas rfl rfl _ _ rfl h1 rfl rfl rfl ?_;intro w9 hb9 ho9)
     | fail)
    exact bodyPost_ret (Qfx rfl hb9 rfl) rfl ⟨rfl,L.only ho9 (by omega)⟩
def nb (n:Nat):List UInt8:=(dig 256 32 n).map QyP
abbrev BB (n:Nat):Value:=.agg ((nb n).map W8).toArray
theorem Qca (n:Nat):(nb n).length=32:=by rw[nb,Qyn,QaG]
theorem QuB (n i:Nat) (h:i<32):(nb n)[i]?=some (QyP (n/256^i%256)):=by rw[nb,QyF,QeT _ _ _ _ h];rfl
theorem Qd8:∀l:List Nat,(∀ x∈l,x<256)→(l.map QyP).map QAt=l
 | [],_=>rfl
 | x :: l,h=>by
   rw[QyT,QyT,Qd8 l (fun y hy=>h y (by simp[hy])),Qzl,QyN (h x (by simp))]
theorem Qsy (n:Nat) (h:n<T256):num (nb n)=n:=by
 rw[num,nb,Qd8 _ (QeC (by decide) 32 n),QfO,QyN (show n<256^32 from h)]
theorem QsB (bs:List UInt8):num bs<256^bs.length:=by
 have:=Qsa (B:=256) (bs.map QAt) (by intro x hx;obtain⟨y,_,rfl⟩:=Qzb.1 hx;exact y.toNat_lt)
 rwa [Qyn]at this
theorem Ql6 (bs:List UInt8) (k:Nat) (h:k<bs.length):num (bs.take (k+1))=num (bs.take k)+256^k*(bs.getD k 0).toNat:=by
 have:=QdJ 256 (bs.map QAt) k (by simpa using h)
 rw[←QzZ,←QzZ]at this
 have e:(bs.map QAt).getD k 0=(bs.getD k 0).toNat:=by
  rw[Qys,Qys,QyF,Qyq h]
  rfl
 rw[e]at this
 exact this
theorem Qgs (k:Nat):256^k=B64^(k/8)*256^(k%8):=by
 have e:B64=256^8:=by decide
 rw[e,←QAa,←QzX,Qzh]
theorem Qg7 (x a b c:Nat) (ha:0<a) (h:b*c ∣ a) (_hb:0<b):x%a/b%c=x/b%c:=by
 obtain⟨d,rfl⟩:=h
 rw[Qzr,Nat.mod_mul_right_div_self,Nat.mod_mul_right_mod]
theorem Qqt (n k:Nat) (_hk:k<32):lim n (k/8)/2^(8*(k%8))%256=n/256^k%256:=by
 rw[Qgs k,←Qze,lim,QAa]
 generalize n/B64^(k/8)=x
 refine Qg7 x B64 (256^(k%8)) 256 Qaz ?_ (QAl (by decide))
 have:B64=256^8:=by decide
 rw[this,←Qzx]
 exact Nat.pow_dvd_pow 256 (by omega)
theorem Qs2 (V x k:Nat) (_hk:k<32) (hV:V<256^k) (hx:x<256):(EL V).set (k/8) (n64 (lim V (k/8)+x*2^(8*(k%8))))=EL (V+256^k*x):=by
 have hp:=Qgs k
 have hB:B64=256^8:=by decide
 have hlt:V+256^k*x<256^(k+1):=by
  rw[Qzx]
  have:256^k*x≤256^k*255:=QzF _ (by omega)
  omega
 have hbound:256^(k+1)≤B64^(k/8+1):=by
  rw[hB,←QAa]
  exact QzJ (by decide) (by omega)
 apply List.ext_getElem (by rw[Qy2,Qag,Qag])
 intro j h1 h2
 rw[Qag]at h2
 rw[List.getElem_set]
 split
 ·rename_i hj
  subst hj
  rw[Qoj]
  congr 1
  rw[lim,lim,hp,Qzr,QzK _ _ (QAl Qaz),QAa]
  have hV1:V/B64^(k/8)<256^(k%8):=QzA (by rw[←hp];exact hV)
  have hle:256^(k%8)*256≤B64:=by
   rw[hB,←Qzx]
   exact QzJ (by decide) (by omega)
  have hxx:256^(k%8)*x≤256^(k%8)*255:=QzF _ (by omega)
  have e:(2:Nat)^8=256:=by decide
  rw[e,Qzj x]
  rw[QyN (show V/B64^(k/8)<B64 by omega),QyN (show V/B64^(k/8)+256^(k%8)*x<B64 by omega)]
 ·rename_i hj
  rw[Qoj,Qoj]
  congr 1
  rcases Qzs j (k/8) with hl|hl
  ·rw[lim,lim,hp]
   obtain⟨d,hd⟩:∃d,k/8=j+1+d:=⟨k/8-j-1,by omega⟩
   rw[hd,QzX,Qzx,Qzr,Qzr,Qzr,QzK _ _ (QAl Qaz),Nat.add_mul_mod_self_left]
  ·have hjj:k/8+1≤j:=by omega
   have hpp:B64^(k/8+1)≤B64^j:=QzJ (by decide) hjj
   have hVk:V<B64^j:=QyG hV (Qy3 (QzJ (by decide) (by omega)) (Qy3 hbound hpp))
   rw[lim,lim,Qzv hVk,Qzv (QyG hlt (Qy3 hbound hpp))]
theorem Qva (a s y:Nat) (h:a<2^s):a ||| (y*2^s)=a+y*2^s:=by
 have:=Nat.two_pow_add_eq_or_of_lt h y
 rw[Nat.or_comm,Qzj y,←this,QAm]
theorem QtF (V k:Nat) (hV:V<256^k):lim V (k/8)<2^(8*(k%8)):=by
 have hV1:V/B64^(k/8)<256^(k%8):=QzA (by rw[←Qgs];exact hV)
 rw[lim,QAa]
 exact QzN (Nat.mod_le _ _) hV1
@[go_sem] theorem Qwq (T:TypeId) (x:Nat) (hx:x<B64) (k:UInt64):binOp .shr T (n64 x) (W64 k)=pure (n64 (x/2^(cnt k))):=by
  have:=Quf T x hx .u64 (k.toNat:Int) (by omega)
  rw[QAh]at this
  exact this
@[go_sem] theorem QxK (T:TypeId) (x:Nat) (hx:x<B64) (y:UInt64):binOp .or T (n64 x) (W64 y)=pure (n64 (x ||| y.toNat)):=by
  rw[n64,QpD,Qgd]
  rw[UInt64.toNat_or,tn64 hx,QyN (show (x ||| y.toNat)<B64 from Nat.or_lt_two_pow (n:=64) hx y.toNat_lt)]
theorem QlP (i:Nat) (h:i<32):cnt (8*Qy8 ((i:Int)%8))=8*(i%8):=by
 have:∀k:Fin 32,cnt (8*Qy8 ((k.val:Int)%8))=8*(k.val%8):=by decide
 exact this ⟨i,h⟩
theorem Qbn:(Tryz.prog.info? 30).map (·.size)=some 32:=by kernel_rfl
theorem Qxi {n m:Nat} (h:n%256=m%256):n8 n=n8 m:=by
 rw[n8]
 apply n8_w
 rw[Qzl,←h]
set_option maxRecDepth 100000 in
set_option maxHeartbeats 2000000 in
theorem Qgw (n:Nat) (hn:n<T256) (w:World):
 Calls Tryz.prog 92 #[E n] w fun e w'=>e= .returned (BB (n%P25))∧Later w w':=by
 have h1:Blk ((w.alloc (.cells (EL n).toArray 211)).alloc (.cells (Qym 32 (Value.int .u8 0)).toArray 30)) w.heap.size 211 (EL n):=(Blk.new _ _ _).later (Qaa _ _)
 have h2:Blk ((w.alloc (.cells (EL n).toArray 211)).alloc (.cells (Qym 32 (Value.int .u8 0)).toArray 30)) (w.heap.size+1) 30 (Qym 32 (.int .u8 0)):=Blk.new' _ _ _ (by simp)
 have L0:Later w ((w.alloc (.cells (EL n).toArray 211)).alloc (.cells (Qym 32 (Value.int .u8 0)).toArray 30)):=(Qaa _ _).trans (Qaa _ _)
 have hlS:((nb (n%P25)).map W8).length=32:=by rw[Qyn,Qca]
 have HGet:=hid (fun k (h:k<32)=>show ((nb (n%P25)).map W8)[k]?=some (n8 (n%P25/256^k%256)) by rw[QyF,QuB _ _ h];rfl)
 go_enter Tryz.func92,Tryz.ntmps92
 go_wp2_with (first
  | (refine Qa2 rfl _ rfl h1 rfl ?_)
  | (go_at_call 123;(with_reducible refine (Qc5 n hn _).mono ?_);rintro e w2 ⟨rfl,hl2⟩)
  | (refine Qas rfl rfl _ _ rfl (h1.later hl2) rfl rfl (Qag _) ?_;intro w3 hb3 ho3
     have h23:=(h2.later hl2).only ho3 (by omega)
     have L3:=(L0.trans hl2).only ho3 (by omega))
  | fail)
 have hg:w.heap.size+1<w3.heap.size:=h23.lt
 clear h1 h2 L0 hl2 ho3
 generalize hM:n%P25=M at *
 have HM:=hid hM
 clear hM
 go_loopw [7] (fun i wr=>∃k:Nat,k≤32∧i= .int .i64 k∧Blk wr w.heap.size 211 (EL M)∧Blk wr (w.heap.size+1) 30 (Qym 32 (.int .u8 0))∧Blk wr w3.heap.size 30 (Qcb ((nb M).map W8) (Qym 32 (.int .u8 0)) k)∧Later w wr) (fun i _=>32-(intOf i).toNat)
 case atStart=>exact⟨0,by omega,rfl,hb3.later (Qaa _ _),h23.later (Qaa _ _),by rw[Qch];exact Blk.new _ _ (Qym 32 (Value.int .u8 0)),L3.trans (Qaa _ _)⟩
 case round=>
  clear hb3 h23
  have hL3:=L3.size
  clear L3
  obtain⟨k,hk,rfl,h1,h2,h3,L⟩:=hrel
  by_cases hlt:k<32
  ·have d0:=h1.cellD (k/8) (Qb1 M (k/8) (by omega))
   have hct:=QlP k hlt
   have hbl:=hid (Qqt M k hlt)
   go_wp2_with (first
    | (refine Qae rfl rfl _ _ _ rfl _ _ _ _ h3 rfl ?hl rfl (by kernel_rfl) ?_;(case hl=>rw[Qa9 _ _ _ (by rw[hlS];rfl)];exact hlt);intro v w6 hv hb6 ho6;simp[go_sem]at hv;subst hv)
    | fail)
   go_roundw
   case rel=>
    rw[Qxi (show lim M (k/8)/2^(8*(k%8))%256=M/256^k%256%256 by rw[hbl.out,QAb]),QbS _ _ _ _ (by rw[hlS];rfl) hlt (HGet.out k hlt)]at hb6
    exact⟨k+1,by omega,by go_num,h1.only ho6 (by omega),h2.only ho6 (by omega),hb6,L.only ho6 (by omega)⟩
   case measure=>simp[intOf];omega
  ·rw[show k=32 by omega,QcI _ _ _ hlS rfl]at h3
   have hkf:decide ((k:Int)<32)=false:=by simp;omega
   go_wp2_with (first
    | (refine QbD rfl 30 _ rfl _ _ _ h3 rfl _ Tryz.underlying30 rfl 32 Qbn hlS ?_)
    | (refine Qa7 rfl rfl 30 _ _ rfl _ _ _ _ h2 rfl rfl 32 Qbn hlS rfl (QaK _) ?_;intro w9 hb9 ho9)
    | fail)
   exact bodyPost_ret (QaE rfl _ _ _ _ ((nb M).map W8) _ hb9 rfl Tryz.underlying30 rfl (by rw[hlS];exact Qbn)) rfl ⟨by rw[HM.out],L.only ho9 (by omega)⟩
theorem Qqd (x:UInt8) (r:Nat) (hr:r<8):(QjF x.toUInt64 (8*r)).toNat=x.toNat*2^(8*r):=by
 rw[QjF]
 show (BitVec.toNat _)=_
 rw[BitVec.toNat_shiftLeft,Nat.shiftLeft_eq]
 show x.toUInt64.toNat*_%_=_
 rw[UInt8.toNat_toUInt64,QyN]
 have hx:=x.toNat_lt
 have h1:2^(8*r)≤2^56:=QzJ (by decide) (by omega)
 have h2:x.toNat*2^(8*r)≤255*2^56:=Nat.mul_le_mul (by omega) h1
 omega
def QcF (bs:List UInt8):Nat:=if bs.length=32 then num bs%T255%P25 else 0
def Qc1 (bs:List UInt8):Nat:=if bs.length=32 then 0 else 2
set_option maxRecDepth 100000 in
set_option maxHeartbeats 2000000 in
theorem Qlv (A:Option Addr) (n c:Nat) (bs:List UInt8) (w:World) (hr:RdB w A n bs) (hn:n≤140737488355328):
 Calls Tryz.prog 95 #[.slice A n c] w fun e w'=>e= .returned (.tuple #[E (QcF bs),.int .i64 (Qc1 bs:Nat)])∧Later w w':=by
 have hbl:=hr.len
 have hb0:=Blk.new w 211 (Qym 4 (Value.int .u64 0))
 by_cases h32:n=32
 ·subst h32
  have hRN:=hid (show QcF bs=num bs%T255%P25 by rw[QcF,if_pos hbl])
  have hRE:=hid (show Qc1 bs=0 by rw[Qc1,if_pos hbl])
  obtain⟨b,o,rfl,hb,hc⟩:=hr.at_ (by omega)
  have HC:=hid hc
  have HT:=hid (fun k (h:k<32)=>Ql6 bs k (by omega))
  have HL:=hid (fun k (h:k≤32)=>show num (bs.take k)<256^k by have:=QsB (bs.take k);rwa [QyL,QzD (by omega)]at this)
  have HF:=hid (show bs.take 32=bs from Qyx (by omega))
  clear hc hr
  go_enter Tryz.func95,Tryz.ntmps95
  go_wp2
  go_loopw [13] (fun i wr=>∃k:Nat,k≤32∧i= .int .i64 k∧Blk wr w.heap.size 211 (Qym 4 (.int .u64 0))∧Blk wr (w.heap.size+1) 211 (EL (num (bs.take k)))∧Later w wr) (fun i _=>32-(intOf i).toNat)
  case atStart=>exact⟨0,by omega,rfl,hb0.later (Qaa _ _),by rw[QAs];exact Blk.new' _ _ (Qym 4 (Value.int .u64 0)) (by simp),(Qaa _ _).trans (Qaa _ _)⟩
  case round=>
   clear hb0
   obtain⟨k,hk,rfl,h1,h2,L⟩:=hrel
   by_cases hlt:k<32
   ·have d0:=h2.cellD (k/8) (Qb1 _ (k/8) (by omega))
    have c0:wr.cell? ⟨b,o+k,none⟩=some (W8 (bs.getD k 0)):=(L.below.cell (p:=⟨b,o+k,none⟩) hb).trans (HC.out k hlt)
    have hct:=QlP k hlt
    have hsb:=Qqd (bs.getD k 0) (k%8) (by omega)
    have HM:=hid (Qs2 (num (bs.take k)) (bs.getD k 0).toNat k hlt (HL.out k (by omega)) (UInt8.toNat_lt _))
    have HO:=hid (Qva (lim (num (bs.take k)) (k/8)) (8*(k%8)) (bs.getD k 0).toNat (QtF _ k (HL.out k (by omega))))
    have HTk:=hid (HT.out k hlt)
    generalize bs.getD k 0=x at *
    generalize num (bs.take k)=V at *
    go_wp2_with (first
     | (refine Qae rfl rfl _ _ _ rfl _ _ _ _ h2 rfl ?hl rfl (by kernel_rfl) ?_;(case hl=>rw[Qag];omega);intro v w6 hv hb6 ho6;simp[go_sem]at hv;subst hv)
     | fail)
    go_roundw
    case rel=>
     refine⟨k+1,by omega,by go_num,h1.only ho6 (by omega),?_,L.only ho6 (by omega)⟩
     rw[HTk.out,←HM.out,←HO.out]
     first|exact hb6|(rw [hsb]at hb6;exact hb6)
    case measure=>simp[intOf];omega
   ·rw[show k=32 by omega,HF.out]at h2
    have hkf:decide ((k:Int)<32)=false:=by simp;omega
    have d3:=h2.cellD 3 (Qb1 _ 3 (by omega))
    have hlT:num bs%T255<T256:=QzP (QyS _ (by decide)) (by decide)
    go_wp2_with (first
     | (refine Qae rfl rfl _ _ _ rfl _ _ _ _ h2 rfl ?hl rfl (by kernel_rfl) ?_;(case hl=>rw[Qag];omega);intro v w6 hv hb6 ho6;simp[go_sem]at hv;subst hv
        rw[Ql9]at hb6
        have h16:=h1.only ho6 (by omega)
        have L6:=L.only ho6 (by omega))
     | (refine Qa2 rfl _ rfl hb6 rfl ?_)
     | (go_at_call 123;(with_reducible refine (Qc5 (num bs%T255) hlT _).mono ?_);rintro e w7 ⟨rfl,hl7⟩)
     | (refine Qas rfl rfl _ _ rfl (h16.later hl7) rfl rfl rfl ?_;intro w9 hb9 ho9)
     | fail)
    exact bodyPost_ret (Qah rfl _ _ _ _ _ _ hb9 rfl Tryz.underlying211 rfl (by rw[Qag];exact Qfy)) rfl ⟨by rw[hRN.out,hRE.out];rfl,(L6.trans hl7).only ho9 (by omega)⟩
 ·have hRN:=hid (show QcF bs=0 by rw[QcF,if_neg (by omega)])
  have hRE:=hid (show Qc1 bs=2 by rw[Qc1,if_neg (by omega)])
  have hne:((n:Int) != 32)=true:=by simp;omega
  go_enter Tryz.func95,Tryz.ntmps95
  go_wp2_with (first
   | (refine Qap rfl 211 _ rfl (EL 0) ?hb ?_;(case hb=>kernel_rfl))
   | (refine Qas (n:=0) rfl rfl _ _ rfl hb0 rfl rfl rfl ?_;intro w9 hb9 ho9)
   | fail)
  exact bodyPost_ret (Qah rfl _ _ _ _ _ _ hb9 rfl Tryz.underlying211 rfl (by rw[Qag];exact Qfy)) rfl ⟨by rw[hRN.out,hRE.out];rfl,(Qaa _ _).only ho9 (by omega)⟩
theorem Qqv (bs:List UInt8) (j:Nat) (h:j<bs.length):num bs/256^j%256=(bs.getD j 0).toNat:=by
 have e:=QkT (B:=256) (bs.map QAt) (by intro x hx;obtain⟨y,_,rfl⟩:=Qzb.1 hx;exact y.toNat_lt)
 rw[Qyn]at e
 have g:=Qfd 256 bs.length (num bs) j h
 rw[num,e]at g
 rw[num,←g,Qys,Qys,QyF,Qyq h]
 rfl
theorem Qtq (bs:List UInt8) (i:Nat) (h:i/8<bs.length):num bs/2^i%2=(bs.getD (i/8) 0).toNat/2^(i%8)%2:=by
 rw[←Qqv bs _ h]
 have e:(2:Nat)^i=256^(i/8)*2^(i%8):=by
  have:(256:Nat)=2^8:=by decide
  rw[this,←QAa,←QzX,Qzh]
 rw[e,←Qze]
 generalize num bs/256^(i/8)=x
 refine (Qg7 x 256 (2^(i%8)) 2 (by decide) ?_ (QAl (by decide))).symm
 have:(256:Nat)=2^8:=by decide
 rw[this,←Qzx]
 exact Nat.pow_dvd_pow 2 (by omega)
@[go_sem] theorem QxJ (T:TypeId) (x:Nat) (hx:x<B32) (yk:IntKind) (k:Int) (h0:0≤k):binOp .shr T (n32 x) (.int yk k)=pure (n32 (x/2^k.toNat)):=by
  rw[n32,QiG _ _ _ _ h0,QqW]
  rw[QbU]
  show (BitVec.toNat _)=_
  rw[Qzd]
  show (QyX x).toNat >>> _=_
  rw[tn32 hx,Qza]
  have:x/2^k.toNat<B32:=QzN (Nat.div_le_self _ _) hx
  rw[QyN this]
@[go_sem] theorem QlL {P:Program} (w:World) (S D:TypeId) (x:Nat) (hs:(P.underlying S).isSome=true) (hd:P.underlying D=some (.int .u8)):(convert S D (n32 x)).run P w= .ok (n8 x) w:=by
  rw[n32,Qfg _ _ _ _ hs hd,n8_w]
  rw[UInt32.toNat_toUInt8,UInt32.toNat_ofNat']
  omega
@[go_sem] theorem QwB (T:TypeId) (x:Nat) (y:UInt64):binOp .mul T (n64 x) (W64 y)=pure (n64 (x*y.toNat)):=by
  rw[QxI y,Qkk]
@[go_sem] theorem QxL (T:TypeId) (x:Nat) (hx:x<B32):binOp .rem T (n32 x) (.int .u32 2147483648)=pure (n32 (x%2147483648)):=by
  rw[n32,QlC _ _ _ (by omega) (by omega) (by decide),QqW]
  rw[UInt32.toNat_mod,tn32 hx]
  have:x%2147483648<B32:=by unfold B32;omega
  rw[QyN this]
  rfl
theorem QrW (a:Nat) (h:a%P25≠0):a^(P25-1)%P25=1:=by
 have:=QxB.2 a (by unfold P25 at h;exact h)
 unfold P25
 exact this
theorem Qre (a:Nat) (h:a%P25≠0):a*pinv a%P25=1:=by
 rw[pinv,Nat.mul_mod_mod,←Qz0,show (P25-2).succ=P25-1 by unfold P25;rfl]
 exact QrW a h
theorem Qt7 (a:Nat):pinv a<P25:=QyS _ Qbw
theorem QrZ (a:Nat):pinv a<T256:=QzP (Qt7 a) (by decide)
@[go_sem] theorem Qxn (a:Nat):(pinv a<T256)=True:=eq_true (QrZ a)
@[go_sem] theorem one_T:(1<T256)=True:=eq_true (by decide)
@[go_sem] theorem Qyf:(0<T256)=True:=eq_true (by decide)
@[go_sem] theorem T37:(37<T256)=True:=eq_true (by decide)
section
variable {ops:Array Oper} {rest:List Oper} {o:Oper} {a:Act} {w:World} {Q:Exit→Act→World→Prop}
theorem Qf5 (hgd:Region.wanted o (yielded ops a.tmps)=true) (x:Operand) (ho:o.op= .load 30 x) {g:Nat} {t:TypeId} {bs:List UInt8} (hb:Blk w g t (bs.map W8)) (hl:bs.length=32) (hx:a.eval x= .pointer (some ⟨g,0,none⟩))
 (h:wpList Tryz.prog ops Q rest (a.put o.dst (.agg (bs.map W8).toArray)) w):wpList Tryz.prog ops Q (o :: rest) a w:=
 QbD hgd _ x ho g t _ hb hx _ Tryz.underlying30 rfl 32 Qbn (by rw[Qyn,hl]) h
theorem QaV (hgd:o.guard=none) (hd:o.dst=none) (x y:Operand) (ho:o.op= .store 30 x y) {g:Nat} {t:TypeId} {l:List Value} {bs:List UInt8} (hg:Blk w g t l) (hx:a.eval x= .pointer (some ⟨g,0,none⟩)) (hy:a.eval y= .agg (bs.map W8).toArray) (hbl:bs.length=32) (hl:l.length=32)
 (h:∀w',Blk w' g t (bs.map W8)→Only g w w'→wpList Tryz.prog ops Q rest a w'):wpList Tryz.prog ops Q (o :: rest) a w:=
 Qa7 hgd hd _ x y ho g t l _ hg hx hy 32 Qbn (by rw[Qyn,hbl]) hl (QaK _) h
end
theorem Qck (n:Nat):EL n=[n64 (lim n 0),n64 (lim n 1),n64 (lim n 2),n64 (lim n 3)]:=by
 apply List.ext_getElem (Qag n)
 intro i hi1 hi2
 rw[Qoj]
 have:i=0∨i=1∨i=2∨i=3:=by rw[Qag]at hi1;omega
 rcases this with rfl|rfl|rfl|rfl<;>rfl
theorem Qho (a0 a1 a2 a3 b0 b1 b2 b3:Value) (W:World):
 (Instr.buildSlice 306 2 #[(0,.agg #[a0,a1,a2,a3]),(1,.agg #[b0,b1,b2,b3])]).run Tryz.prog W= .ok (.slice (some ⟨W.heap.size,0,none⟩) 2 2) (W.alloc (.cells #[a0,a1,a2,a3,b0,b1,b2,b3] 211)):=by kernel_rfl
theorem Qh4 (a b:Nat) (W:World):
 (Instr.buildSlice 306 2 #[(0,E a),(1,E b)]).run Tryz.prog W= .ok (.slice (some ⟨W.heap.size,0,none⟩) 2 2) (W.alloc (.cells (EL a++EL b).toArray 211)):=by
 rw[E,E,Qck a,Qck b]
 exact Qho ..
section
variable {ops:Array Oper} {rest:List Oper} {o:Oper} {a:Act} {w:World} {Q:Exit→Act→World→Prop}
theorem QcG (hw:Region.wanted o (yielded ops a.tmps)=true) (x y:Operand) (ho:o.op= .buildSlice 306 2 #[(0,x),(1,y)]) (n m:Nat) (hx:a.eval x=E n) (hy:a.eval y=E m)
 (h:wpList Tryz.prog ops Q rest (a.put o.dst (.slice (some ⟨w.heap.size,0,none⟩) 2 2)) (w.alloc (.cells (EL n++EL m).toArray 211))):wpList Tryz.prog ops Q (o :: rest) a w:=
 BigFrame.wpList_want hw fun K hK=>by
  have hr:=Qh4 n m w
  unfold Oper.wp
  simp only[execOp,ho,QyK,QyT,QyU,hx,hy,Sem.run_bind,hr,Result.andThen_ok,Sem.run_pure]
  exact hK _ _ h
end
theorem QnL {w:World} {g:Nat} {t:TypeId} {l:List Value} (ns:List Nat) (n:Nat) (hb:Blk w g t l) (hl:l=ns.flatMap EL) (hn:ns.length=n):RdE w (some ⟨g,0,none⟩) n ns:=by
 refine⟨hn,fun _=>⟨g,0,rfl,hb.lt,fun j i v hj hv=>?_⟩⟩
 refine hb.cellD _ ?_
 rw[hl]
 have key:∀(ns:List Nat) (j:Nat),j<ns.length→(EL (ns.getD j 0))[i]?=some v→(ns.flatMap EL)[0+j*4+i]?=some v:=by
  intro ns
  induction ns with
  | nil=>intro j hj;simp at hj
  | cons x ns ih=>
    intro j hj hv
    cases j with
    | zero=>
      rw[QzI,QyH]
      ·simpa using hv
      ·have:i<(EL x).length:=by
        have:=QyC.1 hv
        exact this.1
       omega
    | succ j=>
      rw[QzI,Qyz (by rw[Qag];omega),Qag]
      have:=ih j (by simpa using hj) (by simpa using hv)
      rw[show 0+(j+1)*4+i-4=0+j*4+i by omega]
      exact this
 exact key ns j (by omega) hv
theorem Qqs (x:Nat) (h:x<P25):QcF (nb x)=x:=by
 have hT:x<T256:=QzP h (by decide)
 rw[QcF,if_pos (Qca x),Qsy x hT,QyN (show x<T255 from QzP h (by decide)),QyN h]
end Go.Proofs.YtdhgpkdjdmlphaaGreat
namespace Go.Proofs.YtdhgpkdjdmlphaaGreat
open Go.RowKit
open Go.BigFrame
def Qhr (l:List Nat):List UInt32:=l.map QyX
theorem QsM (n:Nat):NL n=(Qhr (dig B32 8 n)).map W32:=by rw[NL,Qhr,List.map_map];rfl
theorem QoC {l m:List Nat} (hl:∀x∈l,x<B32) (hm:∀x∈m,x<B32) (h:Qhr l=Qhr m):l=m:=by
 have e:∀l:List Nat,(∀ x∈l,x<B32)→(Qhr l).map UInt32.toNat=l:=by
  intro l hl
  rw[Qhr,List.map_map]
  conv=>rhs;rw[←List.map_id l]
  apply List.map_congr_left
  intro x hx
  exact tn32 (hl x hx)
 rw[←e l hl,←e m hm,h]
theorem Qoi {x y:Nat} (hx:x<T256) (hy:y<T256):(Qhr (dig B32 8 x)==Qhr (dig B32 8 y))=(x==y):=by
 rw[Qy7,beq_iff_eq,beq_iff_eq]
 refine⟨fun h=>?_,fun h=>by rw[h]⟩
 have:=QoC (QeC QfA 8 x) (QeC QfA 8 y) h
 exact QpL (k:=8) (B:=B32) (by rw[QvA];exact hx) (by rw[QvA];exact hy) this
theorem QvT:(Tryz.prog.info? 62).map (·.size)=some 1:=by kernel_rfl
theorem Qxf:Tryz.prog.eqGuardType Tryz.prog.depth 225=false:=by kernel_rfl
@[go_sem high] theorem QuX (op:BinOp) (x y:Operand) (xs ys:Array Value) (w:World):(eqGuard op 225 x y (.agg xs) (.agg ys)).run Tryz.prog w= .ok () w:=run_eqGuard_agg w op _ x y xs ys Qxf
@[go_sem high] theorem Qvi (x y:Nat) (hx:x<T256) (hy:y<T256) (w:World):(binOp .eql 225 (NN x) (NN y)).run Tryz.prog w= .ok (.bool (x==y)) w:=by
  rw[run_eql_struct,QsM,QsM,QaP w 0 W32 9998 225 62 8 Tryz.underlying225 QvT Tryz.underlying62 rfl (Qpf _ _ Tryz.underlying62) _ _ (by rw[Qhr,Qyn,QaG]) (by rw[Qhr,Qyn,QaG]),Qoi hx hy]
  rfl
@[go_sem] theorem Qvn (T:TypeId) (x:Nat) (hx:x<B32):binOp .rem T (n32 x) (.int .u32 2)=pure (n32 (x%2)):=by
  rw[n32,QlC _ _ _ (by omega) (by omega) (by decide),QqW]
  rw[UInt32.toNat_mod,tn32 hx]
  have:x%2<B32:=by unfold B32;omega
  rw[QyN this]
  rfl
@[go_sem] theorem QwU (T:TypeId) (x:Nat) (k:Int) (hx:x<B32) (h0:0≤k) (h1:k<4294967296):binOp .eql T (n32 x) (.int .u32 k)=pure (.bool (x==k.toNat)):=by
  rw[QsY k h0 h1,n32,n32,QkO]
  congr 2
  rw[Qy7]
  simp only[beq_iff_eq,←UInt32.toNat_inj,tn32 hx]
  rw[tn32 (show k.toNat<B32 by unfold B32;omega)]
end Go.Proofs.YtdhgpkdjdmlphaaGreat
namespace Go.Proofs.YtdhgpkdjdmlphaaGreat
open Go.RowKit
section
variable {P:Program} {ops:Array Oper} {rest:List Oper} {o:Oper} {a:Act} {w:World} {Q:Exit→Act→World→Prop}
theorem QcY (hgd:o.guard=none) (s x:Operand) (t:TypeId) (ho:o.op= .call { callee:=.builtin .append,args:= #[s,x],argTypes:= #[t,t] })
 (e:TypeId) (z:Value) (sz bytes:Nat) (ht:P.underlying t=some (.slice e)) (hinfo:(P.info? e).map (fun i=>(i.zero,i.size,i.bytes))=some (some z,sz,bytes)) (hzs:z.cells.size=sz) (hs0:0<sz)
 (w0:World) (v:Value) (n:Nat) (vs:List Value) (hown:w.ownsRow w0.heap.size e sz v n vs) (hl:Later w0 w)
 (g m c:Nat) (t2:TypeId) (news:List Value) (hb:Blk w g t2 news) (hnl:news.length=m*sz) (h1:∀u∈news,u.oneCell'=true) (hs:a.eval s=v) (hx:a.eval x= .slice (some ⟨g,0,none⟩) m c) (hsz:(n+m)*bytes≤140737488355328) (hby:0<bytes)
 (h:∀v' w',w'.ownsRow w0.heap.size e sz v' (n+m) (vs++news)→Later w0 w'→w.grownBy w' v.ownBlock→wpList P ops Q rest (a.put o.dst v') w'):
 wpList P ops Q (o :: rest) a w:=by
 obtain⟨i,hi,hz,hsize,hbytes⟩:=info_parts hinfo
 have hnm:n+m≤140737488355328:=Qy3 (Qzi _ hby) hsz
 have hmax:n+m≤maxLen:=by unfold maxLen;omega
 have hcells:∀j u,news[j]?=some u→w.cell? ((⟨g,0,none⟩:Addr).add j)=some u:=by
  intro j u hu
  rw[Qc3,QyY]
  exact hb.cellD j hu
 obtain⟨v',w',hrun,h2,h3,_⟩:=run_append_own (P:=P) w w0.heap.size t o.type e i z sz bytes ht hi hz hsize hbytes hzs hs0 v n vs hown ⟨g,0,none⟩ m c news hnl hcells h1 hmax hsz hl.size
 refine wpList_plain hgd fun K hK=>?_
 unfold Oper.wp execOp
 simp only[ho,resolve,invoke,builtin,Sem.run_bind,Sem.run_pure,Result.andThen_ok,QyK,QyT,QyU,hs,hx,hrun]
 exact hK _ _ (h v' w' h2 (hl.grownBy h3 (fun k hk=>(hown.lt k hk).1)) h3)
end
end Go.Proofs.YtdhgpkdjdmlphaaGreat
