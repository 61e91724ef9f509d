/-
  Lemmas for the last text of this claim (part 11 of 20).
-/
import Derived.ArgAppend
import Derived.BigQuiet
import Derived.BigRegion
import Derived.ChangeOld
import Derived.Deep.RegionWith
import Derived.DeepKeys4
import Derived.JoinedCond
import Derived.LaidMore
import Derived.Laws.BytesArg
import Derived.Laws.CopyOwn
import Derived.Laws.Externs
import Derived.Laws.IdiomStrings
import Derived.Laws.Tables
import Derived.Lib.AppendStr
import Derived.Lib.AppendZerosOnto
import Derived.Lib.Mul64
import Derived.Lib.SlBytesConst
import Derived.LoopN
import Derived.Maps.OwnSet
import Derived.OpenShut
import Derived.OrdersHeld
import Derived.ProofKit
import Derived.Shelf.Spec.BitsCarry
import Derived.ShutString
import Derived.Test.YtdhgpkdjdmlphaaGreatProg
import Derived.Test.YtdhgpkdjdmlphaaGreatRows
import Derived.WalkKit
import Derived.WalkLawsBesides
import Derived.WalkSpells
import Derived.Test.YtdhgpkdjdmlphaaGreatSB
import Derived.Test.YtdhgpkdjdmlphaaGreatSD
import Derived.Test.YtdhgpkdjdmlphaaGreatSH
import Derived.Test.YtdhgpkdjdmlphaaGreatSI
import Derived.Test.YtdhgpkdjdmlphaaGreatSJ
open List renaming replicate → QCC, length_map → QCG, getElem?_eq_getElem → QCH, getD_eq_getElem?_getD → QCK, length_replicate → QCO, map_toArray → QCS, take_of_length_le → QCT, mem_cons → QCV, not_mem_nil → QCW, getElem?_eq_some_iff → QCX, getElem?_append_left → QC0, map_nil → QC2, length_take → QC5, map_cons → QDa, all_eq_true → QDm, drop_eq_getElem_cons → QDL, drop_of_length_le → QDP, getElem_mem → QDS, getElem?_set_ne → QD1, drop_zero → QD8, getElem?_set_self → QEz, getElem_of_mem → QEO
open Nat renaming le_refl → QCN, mod_eq_of_lt → QC1, zero_add → QC6, mod_lt → QC8, le_trans → QDk, div_div_eq_div_mul → QDs, div_add_mod → QDx, mul_comm → QDz, pow_succ → QDA, min_eq_left → QDG, mul_assoc → QDQ, mul_add → QDR, mul_mod → QDY, pow_add → QD3, mod_mod → QD4, mul_le_mul_left → QEe, mul_one → QEq, pow_succ' → QEv, add_comm → QEF, zero_mod → QEJ, zero_mul → QER, pow_zero → QES, add_mod → QEV
open UInt8 renaming toNat → QEY
set_option linter.all false
namespace Go.Proofs.YtdhgpkdjdmlphaaGreat
open Go.RowKit
open Go.BigFrame
theorem of_9 (w:World):Calls Tryz.prog 93 #[.int .u64 9] w fun e w'=>e= .returned (E 9)∧Later w w':=Qtv 9 (by decide) w
theorem Qzh (w:World):Calls Tryz.prog 92 #[E 9] w fun e w'=>e= .returned (.agg ((nb 9).map W8).toArray)∧Later w w':=by
 have:=QhW 9 (by decide) w
 rwa [show 9%P25=9 by decide,BB]at this
theorem Qo9 (w:World):Calls Tryz.prog 102 #[NN 9] w fun e w'=>e= .returned (.agg ((nb 9).map W8).toArray)∧Later w w':=by
 have:=Qme 9 (by decide) w
 rwa [show 9%P25=9 by decide,BB]at this
theorem Qvb:Program.built Tryz.prog 225 [(0,Value.int .u32 9)]=some (NL 9).toArray:=by kernel_rfl
set_option maxRecDepth 100000 in
set_option maxHeartbeats 2000000 in
theorem Qpv (A:Option Addr) (n c:Nat) (ks:List UInt8) (w:World) (hk:RdB w A n ks) (hn:n≤140737488355328):
 Calls Tryz.prog 56 #[.slice A n c] w fun e w'=>e= .returned (.tuple #[.agg ((Qbj ks (nb 9)).map W8).toArray,.int .i64 (Qa2 ks (nb 9):Nat)])∧Later w w':=by
 have B0:=Qba w 30 (QCC 32 (Value.int .u8 0))
 have cM:=hid (fun (w:World) g d h1 h2=>QhL A (some ⟨g,0,none⟩) n c 32 d ks (nb 9) w h1 h2 hn (by omega))
 have hml:=QaV ks (nb 9)
 have h9:=QbR 9
 have cB:=hid Qzh
 generalize Qbj ks (nb 9)=M at *
 generalize Qa2 ks (nb 9)=e9 at *
 generalize nb 9=N9 at *
 go_enter Tryz.func56,Tryz.ntmps56
 go_wp2_with fail
 generalize hW:w.alloc _=w0
 replace B0:Bag w w0 [(w.heap.size,30,QCC 32 (Value.int .u8 0))]:=by rw[←hW];exact Qba w 30 (QCC 32 (Value.int .u8 0))
 clear hW
 (with_reducible refine (of_9 _).mono ?_);rintro e w1 ⟨rfl,hl1⟩
 go_wp2_with (first
  | (go_at_call 92;(with_reducible refine (cB.out _).mono ?_);rintro e w2 ⟨rfl,hl2⟩)
  | (refine QaK rfl rfl _ _ rfl (Blk.new w2 _ (QCC 32 (.int .u8 0))) rfl rfl h9 rfl ?_;intro w3 hb3 ho3)
  | fail)
 have B1:=B0.push ((hl1.trans hl2).trans (Qaa w2 _)) (hl1.trans hl2).size ho3 hb3
 (with_reducible refine (cM.out _ _ _ (hk.later B1.lat) (Qb9 (B1.nth 0 rfl) h9)).mono ?_);rintro e w4 ⟨rfl,hl4⟩
 go_wp2_with (first
  | (refine QaK rfl rfl _ _ rfl ((B1.later hl4).nth 1 rfl) rfl rfl hml rfl ?_;intro w5 hb5 ho5)
  | fail)
 exact bodyPost_ret (Qaf rfl _ _ _ _ _ _ hb5 rfl Tryz.underlying30 rfl (by rw[QCG,hml];exact Qbe)) rfl ⟨rfl,((B1.later hl4).write 1 rfl ho5 hb5).lat⟩
set_option maxRecDepth 100000 in
set_option maxHeartbeats 2000000 in
theorem QpK (A:Option Addr) (n c:Nat) (ks:List UInt8) (w:World) (hk:RdB w A n ks) (hn:n≤140737488355328):
 Calls Tryz.prog 67 #[.slice A n c] w fun e w'=>e= .returned (.tuple #[.agg ((Qbj ks (nb 9)).map W8).toArray,.int .i64 (Qa2 ks (nb 9):Nat)])∧Later w w':=by
 have B0:=Qba w 30 (QCC 32 (Value.int .u8 0))
 have cM:=hid (fun (w:World) g d h1 h2=>Quj A (some ⟨g,0,none⟩) n c 32 d ks (nb 9) w h1 h2 hn (by omega))
 have hml:=QaV ks (nb 9)
 have h9:=QbR 9
 have cB:=hid Qo9
 generalize Qbj ks (nb 9)=M at *
 generalize Qa2 ks (nb 9)=e9 at *
 generalize nb 9=N9 at *
 go_enter Tryz.func67,Tryz.ntmps67
 go_wp2_with (first
  | (refine Qal rfl 225 _ rfl (NL 9) ?hb ?_;(case hb=>simp only[QCS,QDa,QC2];exact Qvb))
  | fail)
 generalize hW:w.alloc _=w0
 replace B0:Bag w w0 [(w.heap.size,30,QCC 32 (Value.int .u8 0))]:=by rw[←hW];exact Qba w 30 (QCC 32 (Value.int .u8 0))
 clear hW
 (with_reducible refine (cB.out _).mono ?_);rintro e w2 ⟨rfl,hl2⟩
 go_wp2_with (first
  | (refine QaK rfl rfl _ _ rfl (Blk.new w2 _ (QCC 32 (.int .u8 0))) rfl rfl h9 rfl ?_;intro w3 hb3 ho3)
  | fail)
 have B1:=B0.push (hl2.trans (Qaa w2 _)) hl2.size ho3 hb3
 (with_reducible refine (cM.out _ _ _ (hk.later B1.lat) (Qb9 (B1.nth 0 rfl) h9)).mono ?_);rintro e w4 ⟨rfl,hl4⟩
 go_wp2_with (first
  | (refine QaK rfl rfl _ _ rfl ((B1.later hl4).nth 1 rfl) rfl rfl hml rfl ?_;intro w5 hb5 ho5)
  | fail)
 exact bodyPost_ret (Qaf rfl _ _ _ _ _ _ hb5 rfl Tryz.underlying30 rfl (by rw[QCG,hml];exact Qbe)) rfl ⟨rfl,((B1.later hl4).write 1 rfl ho5 hb5).lat⟩
def Qek:List (List UInt8)→List UInt8→List UInt8×Nat
 | [],at_=>(at_,0)
 | k :: ks,at_=>if Qa2 k at_=0 then Qek ks (Qbj k at_) else (QCC 32 0,Qa2 k at_)
def QcA (us:List UInt8) (ps:List (List UInt8)):List UInt8×Nat:=
 if us.length=32∧∀p∈ps,p.length=32 then Qek ps (nb (Qcx us)) else (QCC 32 0,2)
theorem QfN:∀(ps:List (List UInt8)) (at_:List UInt8),at_.length=32→(Qek ps at_).1.length=32
 | [],_,h=>h
 | k :: ks,at_,_=>by
   unfold Qek
   split
   ·exact QfN ks _ (QaV _ _)
   ·simp
theorem Qkt (us:List UInt8) (ps:List (List UInt8)):(QcA us ps).1.length=32:=by
 unfold QcA
 split
 ·exact QfN _ _ (QbR _)
 ·simp
theorem QxB (us:List UInt8):Qcx us<P25:=by
 unfold Qcx
 split
 ·exact QC8 _ Qbi
 ·exact Qbi
theorem Qsu (ps:List (List UInt8)) (k:Nat) (h:k<ps.length):ps.drop k=ps.getD k [] :: ps.drop (k+1):=by
 rw[QDL h,QCK,QCH h]
 rfl
theorem QoF (ps:List (List UInt8)) (h:∀j,j<ps.length→(ps.getD j []).length=32):∀p∈ps,p.length=32:=by
 intro p hp
 obtain⟨j,hj,e⟩:=QEO hp
 have:=h j hj
 rw[QCK,QCH hj]at this
 rw[←e]
 exact this
theorem Qp8 (us:List UInt8) (ps:List (List UInt8)) (k:Nat) (h:k<ps.length) (hk:(ps.getD k []).length≠32):QcA us ps=(QCC 32 0,2):=by
 rw[QcA,if_neg]
 rintro⟨_,ha⟩
 apply hk
 rw[QCK,QCH h]
 exact ha _ (QDS h)
set_option maxRecDepth 100000 in
set_option maxHeartbeats 4000000 in
theorem QrU (A B:Option Addr) (n c m d:Nat) (us:List UInt8) (ps:List (List UInt8)) (w:World) (hu:RdB w A n us) (hp:Parts w (fun _=>False) B m ps) (hn:n≤140737488355328) (hm:m≤140737488355328):
 Calls Tryz.prog 57 #[.slice A n c,.slice B m d] w fun e w'=>e= .returned (.tuple #[.agg ((QcA us ps).1.map W8).toArray,.int .i64 ((QcA us ps).2:Nat)])∧Later w w':=by
 have hul:=hu.len
 have hpl:=hp.len
 have B0:=Qba w 30 (QCC 32 (Value.int .u8 0))
 have cU:=hid (fun w h=>Qos A n c us w h hn)
 by_cases hn32:n=32
 ·subst hn32
  have eU:QbX us=0:=by rw[QbX,if_pos (by omega)]
  rw[eU]at cU
  have cB:Hid (∀ w,Calls Tryz.prog 92 #[E (Qcx us)] w fun e w'=>e= .returned (.agg ((nb (Qcx us)).map W8).toArray)∧Later w w'):=hid (by
   intro w
   have:=QhW (Qcx us) (QnM us) w
   rwa [QC1 (QxB us),BB]at this)
  have hR:=hid (fun (h:∀p∈ps,p.length=32)=>show QcA us ps=Qek ps (nb (Qcx us)) by rw[QcA,if_pos ⟨hul,h⟩])
  have hbad:=hid (fun k h hk=>Qp8 us ps k h hk)
  generalize hCR:QcA us ps=CR at *
  generalize Qcx us=x1 at *
  go_enter Tryz.func57,Tryz.ntmps57
  go_wp2_with fail
  generalize hW:w.alloc _=w0
  replace B0:Bag w w0 [(w.heap.size,30,QCC 32 (Value.int .u8 0))]:=by rw[←hW];exact Qba w 30 (QCC 32 (Value.int .u8 0))
  clear hW
  (with_reducible refine (cU.out _ (hu.later B0.lat)).mono ?_);rintro e w1 ⟨rfl,j1⟩
  go_wp2_with (first
   | (refine QaE rfl rfl _ _ rfl (Blk.new w1 _ (QCC 4 (.int .u64 0))) rfl rfl rfl ?_;intro w2 hb2 ho2)
   | fail)
  have B1:=B0.push (j1.trans (Qaa w1 _)) j1.size ho2 hb2
  clear j1 hb2 ho2 B0 cU hCR
  generalize w1.heap.size=g6 at *
  go_loopw [24] (fun i wr=>∃k:Nat,k≤m∧i= .int .i64 k∧Hid (∀ j,j<k→(ps.getD j []).length=32)∧Bag w wr [(g6,211,EL x1),(w.heap.size,30,QCC 32 (Value.int .u8 0))]) (fun i _=>m-(intOf i).toNat)
  case atStart=>exact⟨0,by omega,rfl,hid (fun j h=>by omega),B1⟩
  case round=>
   clear B1
   obtain⟨k,hk,rfl,hall,B1⟩:=hrel
   by_cases hlt:k<m
   ·obtain⟨b,o,Ak,nk,ck,rfl,hb,hck,hcap,hrd,_⟩:=(hp.later B1.lat).at_ hlt
    have hlen:=hrd.len
    have hb2:=hid (fun h=>hbad.out k (by omega) h)
    rw[hlen]at hb2
    have hstep:Hid (nk=32→∀j,j<k+1→(ps.getD j []).length=32):=hid (fun h j hj=>by
     by_cases e:j=k
     ·rw[e,hlen,h]
     ·exact hall.out j (by omega))
    clear hrd hlen
    by_cases h32:nk=32
    ·have hne:((nk:Int) != 32)=false:=by simp;omega
     go_wp2_with fail
     go_roundw
     case rel=>exact⟨k+1,by omega,by go_num,hid (hstep.out h32),B1⟩
     case measure=>simp[intOf];omega
    ·have hne:((nk:Int) != 32)=true:=by simp;omega
     go_wp2_with (first
      | (refine Qal rfl 30 _ rfl (QCC 32 (W8 0)) ?hb ?_;(case hb=>kernel_rfl))
      | (refine QaK (bs:=QCC 32 0) rfl rfl _ _ rfl (B1.nth 1 rfl) rfl (by kernel_rfl) rfl rfl ?_;intro w9 hb9 ho9)
      | fail)
     exact bodyPost_ret (Qaf rfl _ _ _ _ _ _ hb9 rfl Tryz.underlying30 rfl (by rw[QCG,QCO];exact Qbe)) rfl ⟨by rw[hb2.out h32];rfl,(B1.write 1 rfl ho9 hb9).lat⟩
   ·have hall':=hid (QoF ps (fun j hj=>hall.out j (by omega)))
    have hCR:=hR.out hall'.out
    have hnl:=QbR x1
    have HC:=hid hCR
    clear hCR hR hbad hall
    generalize nb x1=N0 at *
    go_wp2_with (first
     | (refine Qbz rfl _ rfl (B1.nth 0 rfl) rfl ?_)
     | (go_at_call 92;(with_reducible refine (cB.out _).mono ?_);rintro e w3 ⟨rfl,j3⟩)
     | (refine QaK rfl rfl _ _ rfl (Blk.new w3 _ (QCC 32 (.int .u8 0))) rfl rfl hnl rfl ?_;intro w4 hb4 ho4)
     | fail)
    have B2:=B1.push (j3.trans (Qaa w3 _)) j3.size ho4 hb4
    clear j3 hb4 ho4 B1 cB
    generalize w3.heap.size=g10 at *
    go_loopw [37] (fun i wr=>∃(k:Nat) (at_:List UInt8),k≤m∧i= .int .i64 k∧at_.length=32∧Hid (CR=Qek (ps.drop k) at_)∧Bag w wr [(g10,30,at_.map W8),(g6,211,EL x1),(w.heap.size,30,QCC 32 (Value.int .u8 0))]) (fun i _=>m-(intOf i).toNat)
    case atStart=>exact⟨0,N0,by omega,rfl,hnl,hid (by rw[QD8];exact HC.out),B2⟩
    case round=>
     clear B2
     obtain⟨k,at_,hk,rfl,hal,hch,B2⟩:=hrel
     by_cases hlt:k<m
     ·obtain⟨b,o,Ak,nk,ck,rfl,hb,hck,hcap,hrd,_⟩:=(hp.later B2.lat).at_ hlt
      have hd:=Qsu ps k (by omega)
      have hlen:=hrd.len
      have hl32:(ps.getD k []).length=32:=by
       rw[QCK,QCH (by omega)]
       exact hall'.out _ (QDS _)
      have hch':=hch.out
      rw[hd,Qek]at hch'
      have HCH:=hid hch'
      clear hch hch' hd
      generalize ps.getD k []=p at *
      obtain rfl:nk=32:=by omega
      have cM:=hid (QhL Ak (some ⟨g10,0,none⟩) 32 ck 32 32 p at_ wr hrd (Qb9 (B2.nth 0 rfl) hal) (by omega) (by omega))
      have hml:=QaV p at_
      generalize Qbj p at_=M at *
      by_cases he:Qa2 p at_=0
      ·have HE:=HCH.out
       rw[if_pos he]at HE
       replace HE:=hid HE
       rw[he]at cM
       clear HCH he
       go_wp2_with fail
       (with_reducible refine cM.out.mono ?_);rintro e w5 ⟨rfl,j5⟩
       go_wp2_with (first
        | (refine QaK rfl rfl _ _ rfl ((B2.later j5).nth 0 rfl) rfl rfl hml (by rw[QCG,hal]) ?_;intro w6 hb6 ho6)
        | fail)
       go_roundw
       case rel=>exact⟨k+1,M,by omega,by go_num,hml,HE,(B2.later j5).write 0 rfl ho6 hb6⟩
       case measure=>simp[intOf];omega
      ·have HE:=HCH.out
       rw[if_neg he]at HE
       replace HE:=hid HE
       generalize Qa2 p at_=e5 at *
       have hne:((e5:Int) != 0)=true:=by simp;omega
       clear HCH
       go_wp2_with fail
       (with_reducible refine cM.out.mono ?_);rintro e w5 ⟨rfl,j5⟩
       go_wp2_with (first
        | (refine QaK rfl rfl _ _ rfl ((B2.later j5).nth 0 rfl) rfl rfl hml (by rw[QCG,hal]) ?_;intro w6 hb6 ho6
           have B3:=(B2.later j5).write 0 rfl ho6 hb6)
        | (refine Qal rfl 30 _ rfl (QCC 32 (W8 0)) ?hb ?_;(case hb=>kernel_rfl))
        | (refine QaK (bs:=QCC 32 0) rfl rfl _ _ rfl (B3.nth 2 rfl) rfl (by kernel_rfl) rfl rfl ?_;intro w9 hb9 ho9)
        | fail)
       exact bodyPost_ret (Qaf rfl _ _ _ _ _ _ hb9 rfl Tryz.underlying30 rfl (by rw[QCG,QCO];exact Qbe)) rfl ⟨by rw[HE.out];rfl,(B3.write 2 rfl ho9 hb9).lat⟩
     ·have hd:ps.drop k=[]:=QDP (by omega)
      have hch':=hch.out
      rw[hd,Qek]at hch'
      have HE:=hid hch'
      clear hch' hch hd
      go_wp2_with (first
       | (refine QeW rfl _ rfl (B2.nth 0 rfl) hal rfl ?_)
       | (refine QaK rfl rfl _ _ rfl (B2.nth 2 rfl) rfl rfl hal rfl ?_;intro w9 hb9 ho9)
       | fail)
      exact bodyPost_ret (Qaf rfl _ _ _ _ _ _ hb9 rfl Tryz.underlying30 rfl (by rw[QCG,hal];exact Qbe)) rfl ⟨by rw[HE.out];rfl,(B2.write 2 rfl ho9 hb9).lat⟩
 ·have eU:QbX us=2:=by rw[QbX,if_neg (by omega)]
  rw[eU]at cU
  have hR:=hid (show QcA us ps=(QCC 32 0,2) by rw[QcA,if_neg (by rintro⟨h,_⟩;omega)])
  generalize QcA us ps=CR at *
  generalize Qcx us=x1 at *
  go_enter Tryz.func57,Tryz.ntmps57
  go_wp2_with fail
  generalize hW:w.alloc _=w0
  replace B0:Bag w w0 [(w.heap.size,30,QCC 32 (Value.int .u8 0))]:=by rw[←hW];exact Qba w 30 (QCC 32 (Value.int .u8 0))
  clear hW
  (with_reducible refine (cU.out _ (hu.later B0.lat)).mono ?_);rintro e w1 ⟨rfl,j1⟩
  go_wp2_with (first
   | (refine QaE rfl rfl _ _ rfl (Blk.new w1 _ (QCC 4 (.int .u64 0))) rfl rfl rfl ?_;intro w2 hb2 ho2
      have B1:=B0.push (j1.trans (Qaa w1 _)) j1.size ho2 hb2)
   | (refine Qal rfl 30 _ rfl (QCC 32 (W8 0)) ?hb ?_;(case hb=>kernel_rfl))
   | (refine QaK (bs:=QCC 32 0) rfl rfl _ _ rfl (B1.nth 1 rfl) rfl (by kernel_rfl) rfl rfl ?_;intro w9 hb9 ho9)
   | fail)
  exact bodyPost_ret (Qaf rfl _ _ _ _ _ _ hb9 rfl Tryz.underlying30 rfl (by rw[QCG,QCO];exact Qbe)) rfl ⟨by rw[hR.out];rfl,(B1.write 1 rfl ho9 hb9).lat⟩
end Go.Proofs.YtdhgpkdjdmlphaaGreat
namespace Go.Proofs.YtdhgpkdjdmlphaaGreat
namespace Ed
instance neP:NeZero P25:=⟨by decide⟩
abbrev Fp:=Fin P25
def toF (n:Nat):Fp:=Fin.ofNat P25 n
theorem Qca (n:Nat):(toF n).val=n%P25:=rfl
theorem Qrk (a:Fp):toF a.val=a:=Fin.ext (QC1 a.isLt)
theorem Qkq (n:Nat):toF (n%P25)=toF n:=Fin.ext (QD4 _ _)
theorem Qxp (a b:Nat):toF (a+b)=toF a+toF b:=Fin.ext (by rw[Fin.val_add,Qca,Qca,Qca,←QEV])
theorem Qks (a b:Nat):toF (a*b)=toF a*toF b:=Fin.ext (by rw[Fin.val_mul,Qca,Qca,Qca,←QDY])
theorem Qkb (a b:Nat):toF (fadd a b)=toF a+toF b:=by rw[fadd,Qkq,Qxp]
theorem Qgg (a b:Nat):toF (fmul a b)=toF a*toF b:=by rw[fmul,Qkq,Qks]
theorem Qka (a b:Nat):toF (fsub a b)=toF a-toF b:=by
 rw[fsub,Qkq]
 apply Fin.ext
 rw[Fin.sub_def,Qca]
 show _=((P25-(toF b).val)+(toF a).val)%P25
 rw[Qca,Qca,QEF,Nat.add_mod_mod]
theorem Qgv:toF 0=0:=rfl
theorem Qh6 {a:Nat}:toF a=0↔a%P25=0:=by
 rw[←Qgv,Fin.ext_iff,Qca,Qca,QEJ]
theorem Qw1 {a b:Nat} (h:toF a=toF b):a%P25=b%P25:=by
 rw[Fin.ext_iff,Qca,Qca]at h
 exact h
theorem Qit {a:Fp} (h:a≠0):a.val%P25≠0:=by
 intro h0
 apply h
 rw[←Qrk a]
 exact Qh6.2 h0
def finv (a:Fp):Fp:=toF (pinv a.val)
theorem QaR {a:Fp} (h:a≠0):a*finv a=1:=by
 have h1:=QtU a.val (Qit h)
 have h2:toF (a.val*pinv a.val)=toF 1:=Fin.ext (by rw[Qca,Qca,h1];rfl)
 rw[Qks,Qrk]at h2
 exact h2
theorem Qok:(1:Fp)≠0:=by decide
theorem Qjn:(2:Fp)≠0:=by decide
theorem Qdm {a b:Fp} (h:a*b=0):a=0∨b=0:=by
 by_cases ha:a=0
 ·exact .inl ha
 ·have:=QaR ha
  right
  grobner
theorem QaZ {a b:Fp} (ha:a≠0) (hb:b≠0):a*b≠0:=fun h=>(Qdm h).elim ha hb
theorem QeT {a b c:Fp} (hc:c≠0) (h:a*c=b*c):a=b:=by
 have:=QaR hc
 grobner
theorem Qv7 {a:Fp} (h:a*a=1):a=1∨a= -1:=by
 have:(a-1)*(a+1)=0:=by grobner
 rcases Qdm this with h|h
 ·left;grobner
 ·right;grobner
def fpow (a:Fp) (n:Nat):Fp:=toF (a.val^n)
theorem Qfw (a:Fp) (m n:Nat):fpow a (m+n)=fpow a m*fpow a n:=by rw[fpow,QD3,Qks,fpow,fpow]
theorem Qvy (a:Fp):fpow a 1=a:=by rw[fpow,Nat.pow_one,Qrk]
theorem QcU (a b:Fp) (n:Nat):fpow (a*b) n=fpow a n*fpow b n:=by
 rw[fpow,fpow,fpow,←Qks,←Nat.mul_pow]
 apply Fin.ext
 rw[Qca,Qca,Fin.val_mul,←Nat.pow_mod]
theorem Qis {a:Fp} (h:a≠0):fpow a (P25-1)=1:=Fin.ext (by rw[fpow,Qca,Qwb _ (Qit h)];rfl)
def isSq (a:Fp):Prop:=∃r:Fp,r*r=a
def Hp:Nat:=28948022309329048855892746252171976963317496166410141009864396001978282409974
def Qp:Nat:=14474011154664524427946373126085988481658748083205070504932198000989141204987
def Op:Nat:=7237005577332262213973186563042994240829374041602535252466099000494570602494
theorem Qq3 {a:Fp} (h:a≠0):fpow a Hp=1∨fpow a Hp= -1:=by
 apply Qv7
 rw[←Qfw,show Hp+Hp=P25-1 by decide]
 exact Qis h
theorem Qsc {a:Fp} (h:a≠0) (hs:isSq a):fpow a Hp=1:=by
 obtain⟨r,rfl⟩:=hs
 have hr:r≠0:=by rintro rfl;exact h (by decide)
 rw[QcU,←Qfw,show Hp+Hp=P25-1 by decide]
 exact Qis hr
theorem Qsb {i:Fp} (hi:i*i= -1) {a:Fp} (h:fpow a Hp=1):isSq a:=by
 have h1:fpow a Qp*fpow a Qp=1:=by rw[←Qfw,show Qp+Qp=Hp by decide];exact h
 have h2:fpow a Op*fpow a Op=a*fpow a Qp:=by
  rw[←Qfw,show Op+Op=1+Qp by decide,Qfw,Qvy]
 rcases Qv7 h1 with h3|h3
 ·exact⟨fpow a Op,by rw[h2,h3];grobner⟩
 ·exact⟨i*fpow a Op,by rw[h3]at h2;grobner⟩
def Qgn (δ:Fp):Prop:=∀r:Fp,r*r≠δ
@[ext] structure Pt (δ:Fp) where
  x:Fp
  y:Fp
  on:x*x+y*y=1+δ*x*x*y*y
theorem QiL {δ z w:Fp} (hδ:Qgn δ) (h:w*w=δ*(z*z)):z=0:=by
 by_cases hz:z=0
 ·exact hz
 ·have:=QaR hz
  exact absurd (show (w*finv z)*(w*finv z)=δ by grobner) (hδ _)
theorem QoL {δ:Fp} (hδ:Qgn δ) {x1 y1 x2 y2 ε:Fp} (h1:x1*x1+y1*y1=1+δ*x1*x1*y1*y1) (h2:x2*x2+y2*y2=1+δ*x2*x2*y2*y2)
 (ht:δ*x1*x2*y1*y2=ε) (he:ε*ε=1):False:=by
 have a1:(x1+ε*y1)*(x1+ε*y1)=δ*((x1*y1*(x2+y2))*(x1*y1*(x2+y2))):=by grobner
 have a2:(x1-ε*y1)*(x1-ε*y1)=δ*((x1*y1*(x2-y2))*(x1*y1*(x2-y2))):=by grobner
 have b1:=QiL hδ a1
 have b2:=QiL hδ a2
 have c:2*(x1*y1*x2)=0:=by grobner
 have hn:2*(x1*y1*x2)≠0:=by
  refine QaZ Qjn ?_
  intro h0
  have:ε=0:=by rw[←ht];grobner
  rw[this]at he
  revert he
  decide
 exact hn c
section
variable {δ:Fp}
def tt (P Q:Pt δ):Fp:=δ*P.x*Q.x*P.y*Q.y
theorem Qgi (hδ:Qgn δ) (P Q:Pt δ):1+tt P Q≠0:=fun h=>QoL hδ (ε:= -1) P.on Q.on (by unfold tt at h;grobner) (by decide)
theorem Qf2 (hδ:Qgn δ) (P Q:Pt δ):1-tt P Q≠0:=fun h=>QoL hδ (ε:=1) P.on Q.on (by unfold tt at h;grobner) (by decide)
theorem QAb {x1 y1 x2 y2 i j:Fp} (h1:x1*x1+y1*y1=1+δ*x1*x1*y1*y1) (h2:x2*x2+y2*y2=1+δ*x2*x2*y2*y2)
 (hi:(1+δ*x1*x2*y1*y2)*i=1) (hj:(1-δ*x1*x2*y1*y2)*j=1):
 ((x1*y2+x2*y1)*i)*((x1*y2+x2*y1)*i)+((y1*y2-x1*x2)*j)*((y1*y2-x1*x2)*j)=1+δ*((x1*y2+x2*y1)*i)*((x1*y2+x2*y1)*i)*((y1*y2-x1*x2)*j)*((y1*y2-x1*x2)*j):=by
 have key:(x1*y2+x2*y1)*(x1*y2+x2*y1)*((1-δ*x1*x2*y1*y2)*(1-δ*x1*x2*y1*y2))+(y1*y2-x1*x2)*(y1*y2-x1*x2)*((1+δ*x1*x2*y1*y2)*(1+δ*x1*x2*y1*y2))
  = (1+δ*x1*x2*y1*y2)*(1+δ*x1*x2*y1*y2)*((1-δ*x1*x2*y1*y2)*(1-δ*x1*x2*y1*y2))+δ*((x1*y2+x2*y1)*(x1*y2+x2*y1))*((y1*y2-x1*x2)*(y1*y2-x1*x2)):=by grobner
 generalize x1*y2+x2*y1=X at *
 generalize y1*y2-x1*x2=Y at *
 generalize 1+δ*x1*x2*y1*y2=A at *
 generalize 1-δ*x1*x2*y1*y2=B at *
 have k2:(X*X*(B*B)+Y*Y*(A*A))*(i*i*(j*j))=(A*A*(B*B)+δ*(X*X)*(Y*Y))*(i*i*(j*j)):=by rw[key]
 have hi2:A*A*(i*i)=1:=by grobner
 have hj2:B*B*(j*j)=1:=by grobner
 clear key h1 h2 hi hj
 grobner
def Pt.add (hδ:Qgn δ) (P Q:Pt δ):Pt δ:=
 ⟨(P.x*Q.y+Q.x*P.y)*finv (1+tt P Q),(P.y*Q.y-P.x*Q.x)*finv (1-tt P Q),QAb P.on Q.on (QaR (Qgi hδ P Q)) (QaR (Qf2 hδ P Q))⟩
variable (hδ:Qgn δ)
theorem QiZ (P Q:Pt δ):(P.add hδ Q).x*(1+tt P Q)=P.x*Q.y+Q.x*P.y:=by
 have:=QaR (Qgi hδ P Q)
 show (P.x*Q.y+Q.x*P.y)*finv (1+tt P Q)*(1+tt P Q)=_
 grobner
theorem Qga (P Q:Pt δ):(P.add hδ Q).y*(1-tt P Q)=P.y*Q.y-P.x*Q.x:=by
 have:=QaR (Qf2 hδ P Q)
 show (P.y*Q.y-P.x*Q.x)*finv (1-tt P Q)*(1-tt P Q)=_
 grobner
def Pt.zero:Pt δ:=⟨0,1,by grobner⟩
def Pt.neg (P:Pt δ):Pt δ:=⟨-P.x,P.y,by have:=P.on;grobner⟩
theorem QkX (P Q:Pt δ):P.add hδ Q=Q.add hδ P:=by
 have ht:tt P Q=tt Q P:=by unfold tt;grobner
 apply Pt.ext
 ·apply QeT (Qgi hδ P Q)
  rw[QiZ,ht,QiZ]
  grobner
 ·apply QeT (Qf2 hδ P Q)
  rw[Qga,ht,Qga]
  grobner
theorem QgF (P:Pt δ):P.add hδ Pt.zero=P:=by
 have ht:tt P (Pt.zero)=0:=by unfold tt Pt.zero;grobner
 apply Pt.ext
 ·apply QeT (Qgi hδ P Pt.zero)
  rw[QiZ,ht]
  simp only[Pt.zero]
  grobner
 ·apply QeT (Qf2 hδ P Pt.zero)
  rw[Qga,ht]
  simp only[Pt.zero]
  grobner
theorem QtF (P:Pt δ):P.add hδ P.neg=Pt.zero:=by
 have h:=P.on
 apply Pt.ext
 ·apply QeT (Qgi hδ P P.neg)
  rw[QiZ]
  simp only[Pt.zero,Pt.neg]
  grobner
 ·apply QeT (Qf2 hδ P P.neg)
  rw[Qga]
  simp only[Pt.zero,Pt.neg,tt]
  grobner
end
theorem QwQ {d x1 y1 x2 y2 x3 y3:Fp} (h1:x1*x1+y1*y1=1+d*x1*x1*y1*y1) (h2:x2*x2+y2*y2=1+d*x2*x2*y2*y2) (h3:x3*x3+y3*y3=1+d*x3*x3*y3*y3):
 ((x1*y2+x2*y1)*(1-d*x1*x2*y1*y2)*y3+(y1*y2-x1*x2)*(1+d*x1*x2*y1*y2)*x3)*((1+d*x2*x3*y2*y3)*(1-d*x2*x3*y2*y3)+d*x1*y1*(x2*y3+x3*y2)*(y2*y3-x2*x3))
 = (x1*(y2*y3-x2*x3)*(1+d*x2*x3*y2*y3)+y1*(x2*y3+x3*y2)*(1-d*x2*x3*y2*y3))*((1+d*x1*x2*y1*y2)*(1-d*x1*x2*y1*y2)+d*(x1*y2+x2*y1)*(y1*y2-x1*x2)*x3*y3):=by grobner
theorem Qyn {d x1 y1 x2 y2 x3 y3:Fp} (h1:x1*x1+y1*y1=1+d*x1*x1*y1*y1) (h2:x2*x2+y2*y2=1+d*x2*x2*y2*y2) (h3:x3*x3+y3*y3=1+d*x3*x3*y3*y3):
 ((y1*y2-x1*x2)*(1+d*x1*x2*y1*y2)*y3-(x1*y2+x2*y1)*(1-d*x1*x2*y1*y2)*x3)*((1+d*x2*x3*y2*y3)*(1-d*x2*x3*y2*y3)-d*x1*y1*(x2*y3+x3*y2)*(y2*y3-x2*x3))
 = (y1*(y2*y3-x2*x3)*(1+d*x2*x3*y2*y3)-x1*(x2*y3+x3*y2)*(1-d*x2*x3*y2*y3))*((1+d*x1*x2*y1*y2)*(1-d*x1*x2*y1*y2)-d*(x1*y2+x2*y1)*(y1*y2-x1*x2)*x3*y3):=by grobner
theorem Qzz {L q X Y x3 y3 xa ya p m:Fp} (l:L*q=xa*y3+x3*ya) (h1:xa*p=X) (h2:ya*m=Y):L*(p*m*q)=X*m*y3+Y*p*x3:=by grobner
theorem QwB {L q X Y x3 y3 xa ya p m:Fp} (l:L*q=ya*y3-xa*x3) (h1:xa*p=X) (h2:ya*m=Y):L*(p*m*q)=Y*p*y3-X*m*x3:=by grobner
theorem QzJ {d X Y x3 y3 xa ya p m:Fp} (h1:xa*p=X) (h2:ya*m=Y):p*m*(1+d*xa*x3*ya*y3)=p*m+d*X*Y*x3*y3:=by grobner
theorem Qwg {d X Y x3 y3 xa ya p m:Fp} (h1:xa*p=X) (h2:ya*m=Y):p*m*(1-d*xa*x3*ya*y3)=p*m-d*X*Y*x3*y3:=by grobner
theorem QzS {L M d1 d2 n1 n2:Fp} (hd1:d1≠0) (hd2:d2≠0) (h1:L*d1=n1) (h2:M*d2=n2) (h:n1*d2=n2*d1):L=M:=by
 apply QeT (QaZ hd1 hd2)
 clear hd1 hd2
 grobner
section
variable {δ:Fp} (hδ:Qgn δ)
theorem QjP (P Q R:Pt δ):(P.add hδ Q).add hδ R=P.add hδ (Q.add hδ R):=by
 have a1:=QiZ hδ P Q
 have a2:=Qga hδ P Q
 have b1:=QiZ hδ Q R
 have b2:=Qga hδ Q R
 have ex:=QwQ P.on Q.on R.on
 have ey:=Qyn P.on Q.on R.on
 apply Pt.ext
 ·refine QzS (QaZ (QaZ (Qgi hδ P Q) (Qf2 hδ P Q)) (Qgi hδ (P.add hδ Q) R)) (QaZ (QaZ (Qgi hδ Q R) (Qf2 hδ Q R)) (Qgi hδ P (Q.add hδ R)))
   (Qzz (QiZ hδ (P.add hδ Q) R) a1 a2) (Qzz ((QiZ hδ P (Q.add hδ R)).trans (show _=(Q.add hδ R).x*P.y+P.x*(Q.add hδ R).y by clear a1 a2 b1 b2 ex ey;grobner)) b1 b2) ?_
  rw[show (1+tt P Q)*(1-tt P Q)*(1+tt (P.add hδ Q) R)=_ from QzJ a1 a2,show (1+tt Q R)*(1-tt Q R)*(1+tt P (Q.add hδ R))=_ from (show _=(1+tt Q R)*(1-tt Q R)*(1+δ*(Q.add hδ R).x*P.x*(Q.add hδ R).y*P.y) by unfold tt;clear a1 a2 b1 b2 ex ey;grobner).trans (QzJ b1 b2)]
  clear a1 a2 b1 b2 ey
  simp only[tt]
  refine Eq.trans ?_ (ex.trans ?_)
  ·clear ex;grobner
  ·clear ex;grobner
 ·refine QzS (QaZ (QaZ (Qgi hδ P Q) (Qf2 hδ P Q)) (Qf2 hδ (P.add hδ Q) R)) (QaZ (QaZ (Qgi hδ Q R) (Qf2 hδ Q R)) (Qf2 hδ P (Q.add hδ R)))
   (QwB (Qga hδ (P.add hδ Q) R) a1 a2) (QwB ((Qga hδ P (Q.add hδ R)).trans (show _=(Q.add hδ R).y*P.y-(Q.add hδ R).x*P.x by clear a1 a2 b1 b2 ex ey;grobner)) b1 b2) ?_
  rw[show (1+tt P Q)*(1-tt P Q)*(1-tt (P.add hδ Q) R)=_ from Qwg a1 a2,show (1+tt Q R)*(1-tt Q R)*(1-tt P (Q.add hδ R))=_ from (show _=(1+tt Q R)*(1-tt Q R)*(1-δ*(Q.add hδ R).x*P.x*(Q.add hδ R).y*P.y) by unfold tt;clear a1 a2 b1 b2 ex ey;grobner).trans (Qwg b1 b2)]
  clear a1 a2 b1 b2 ex
  simp only[tt]
  refine Eq.trans ?_ (ey.trans ?_)
  ·clear ey;grobner
  ·clear ey;grobner
def Pt.mul (P:Pt δ):Nat→Pt δ
 | 0=>Pt.zero
 | n+1=>(Pt.mul P n).add hδ P
theorem Qmi (P:Pt δ):Pt.zero.add hδ P=P:=by rw[QkX,QgF]
theorem QdV (P:Pt δ) (m:Nat):∀n,P.mul hδ (m+n)=(P.mul hδ m).add hδ (P.mul hδ n)
 | 0=>by rw[Pt.mul,QgF];rfl
 | n+1=>by
   show (P.mul hδ (m+n)).add hδ P=(P.mul hδ m).add hδ ((P.mul hδ n).add hδ P)
   rw[QdV P m n,QjP]
theorem QhM (P:Pt δ):P.mul hδ 1=P:=Qmi hδ P
theorem Qgs (P:Pt δ) (m:Nat):∀n,P.mul hδ (m*n)=(P.mul hδ m).mul hδ n
 | 0=>rfl
 | n+1=>by
   rw[Nat.mul_succ,QdV,Qgs P m n]
   rfl
theorem Quz (P Q:Pt δ):(P.add hδ Q).add hδ Q.neg=P:=by rw[QjP,QtF,QgF]
end
def Par (s δ:Fp):Prop:=(s=1∧δ*121666=121665)∨(s= -1∧δ*121665=121666)
def Rep {δ:Fp} (s X Z:Fp) (P:Pt δ):Prop:=∃k:Fp,k≠0∧X=k*(1+P.y)∧Z=k*s*(1-P.y)
theorem Qhg {s δ:Fp} (h:Par s δ):s*s=1:=by
 rcases h with ⟨rfl,_⟩|⟨rfl,_⟩<;>grobner
section
variable {δ:Fp} (hδ:Qgn δ)
include hδ in
theorem Qem (z:Fp):1-δ*z*z≠0:=by
 intro h
 have h1:(1:Fp)*1=δ*(z*z):=by grobner
 have:=QiL hδ h1
 subst this
 revert h
 grobner
include hδ in
theorem QhY:1-δ≠0:=by
 have:=Qem hδ 1
 grobner
theorem QuU {δ x y y2 k X Z:Fp} (on:x*x+y*y=1+δ*x*x*y*y) (h:δ*121666=121665) (hy:y2*(1-δ*x*x*y*y)=y*y-x*x) (hX:X=k*(1+y)) (hZ:Z=k*1*(1-y)):
 (X+Z)*(X+Z)*((X-Z)*(X-Z))=8*k*k*k*k*121666*(1-δ*y*y)*(1-δ*x*x*y*y)*(1+y2)∧
 ((X+Z)*(X+Z)-(X-Z)*(X-Z))*((X+Z)*(X+Z)+121665*((X+Z)*(X+Z)-(X-Z)*(X-Z)))=8*k*k*k*k*121666*(1-δ*y*y)*(1-δ*x*x*y*y)*1*(1-y2):=by
 have e1:(X+Z)*(X+Z)=4*(k*k):=by rw[hX,hZ];clear on h hy hX hZ;grobner
 have e2:(X-Z)*(X-Z)=4*(k*k)*(y*y):=by rw[hX,hZ];clear on h hy hX hZ;grobner
 rw[e1,e2]
 clear hX hZ e1 e2
 constructor
 ·have:(1-δ*y*y)*((1-δ*x*x*y*y)*(1+y2))=2*(y*y)*(1-δ):=by clear h;grobner
  clear on hy
  grobner
 ·have:(1-δ*y*y)*((1-δ*x*x*y*y)*(1-y2))=2*(1-y*y)*(1-δ*y*y):=by clear h;grobner
  clear on hy
  grobner
theorem QuH {δ x y y2 k X Z:Fp} (on:x*x+y*y=1+δ*x*x*y*y) (h:δ*121665=121666) (hy:y2*(1-δ*x*x*y*y)=y*y-x*x) (hX:X=k*(1+y)) (hZ:Z=k*(-1)*(1-y)):
 (X+Z)*(X+Z)*((X-Z)*(X-Z))= -8*k*k*k*k*121665*(1-δ*y*y)*(1-δ*x*x*y*y)*(1+y2)∧
 ((X+Z)*(X+Z)-(X-Z)*(X-Z))*((X+Z)*(X+Z)+121665*((X+Z)*(X+Z)-(X-Z)*(X-Z)))= -8*k*k*k*k*121665*(1-δ*y*y)*(1-δ*x*x*y*y)*(-1)*(1-y2):=by
 have e1:(X-Z)*(X-Z)=4*(k*k):=by rw[hX,hZ];clear on h hy hX hZ;grobner
 have e2:(X+Z)*(X+Z)=4*(k*k)*(y*y):=by rw[hX,hZ];clear on h hy hX hZ;grobner
 rw[e1,e2]
 clear hX hZ e1 e2
 constructor
 ·have:(1-δ*y*y)*((1-δ*x*x*y*y)*(1+y2))=2*(y*y)*(1-δ):=by clear h;grobner
  clear on hy
  grobner
 ·have:(1-δ*y*y)*((1-δ*x*x*y*y)*(1-y2))=2*(1-y*y)*(1-δ*y*y):=by clear h;grobner
  clear on hy
  grobner
theorem c8:(8:Fp)≠0:=by decide
theorem c8':(-8:Fp)≠0:=by decide
theorem c65:(121665:Fp)≠0:=by decide
theorem c66:(121666:Fp)≠0:=by decide
theorem QxR {s X Z:Fp} {P:Pt δ} (hp:Par s δ) (h:Rep s X Z P):
 Rep s ((X+Z)*(X+Z)*((X-Z)*(X-Z))) (((X+Z)*(X+Z)-(X-Z)*(X-Z))*((X+Z)*(X+Z)+121665*((X+Z)*(X+Z)-(X-Z)*(X-Z)))) (P.add hδ P):=by
 obtain⟨k,hk,hX,hZ⟩:=h
 have hy:=Qga hδ P P
 have n1:1-δ*P.x*P.x*P.y*P.y≠0:=Qf2 hδ P P
 have n2:=Qem hδ P.y
 rcases hp with ⟨rfl,hd⟩|⟨rfl,hd⟩
 ·obtain⟨a,b⟩:=QuU P.on hd (by simpa only[tt] using hy) hX hZ
  exact⟨_,QaZ (QaZ (QaZ (QaZ (QaZ (QaZ (QaZ c8 hk) hk) hk) hk) c66) n2) n1,a,b⟩
 ·obtain⟨a,b⟩:=QuH P.on hd (by simpa only[tt] using hy) hX hZ
  exact⟨_,QaZ (QaZ (QaZ (QaZ (QaZ (QaZ (QaZ c8' hk) hk) hk) hk) c65) n2) n1,a,b⟩
theorem Qxc {δ x2 y2 x3 y3 yp ym:Fp} (on2:x2*x2+y2*y2=1+δ*x2*x2*y2*y2) (on3:x3*x3+y3*y3=1+δ*x3*x3*y3*y3)
 (hp:yp*(1-δ*x2*x3*y2*y3)=y2*y3-x2*x3) (hm:ym*(1+δ*x2*x3*y2*y3)=y2*y3+x2*x3):
 (y2+y3)*(y2+y3)*((1-δ)*(1-δ*(y2*y3)*(y2*y3)))=(1+yp)*(1+ym)*((1-δ*x2*x3*y2*y3)*(1+δ*x2*x3*y2*y3)*(1-δ*y2*y2)*(1-δ*y3*y3))∧
 (y2-y3)*(y2-y3)*((1-δ)*(1-δ*(y2*y3)*(y2*y3)))=(1-yp)*(1-ym)*((1-δ*x2*x3*y2*y3)*(1+δ*x2*x3*y2*y3)*(1-δ*y2*y2)*(1-δ*y3*y3)):=by
 have u2:x2*x2*(1-δ*y2*y2)=1-y2*y2:=by clear on3 hp hm;grobner
 have u3:x3*x3*(1-δ*y3*y3)=1-y3*y3:=by clear u2 on2 hp hm;grobner
 have p1:(1+yp)*(1-δ*x2*x3*y2*y3)=(1-δ*x2*x3*y2*y3)+(y2*y3-x2*x3):=by clear on2 on3 hm u2 u3;grobner
 have m1:(1+ym)*(1+δ*x2*x3*y2*y3)=(1+δ*x2*x3*y2*y3)+(y2*y3+x2*x3):=by clear on2 on3 u2 u3 hp;grobner
 have p2:(1-yp)*(1-δ*x2*x3*y2*y3)=(1-δ*x2*x3*y2*y3)-(y2*y3-x2*x3):=by clear on2 on3 hm u2 u3;grobner
 have m2:(1-ym)*(1+δ*x2*x3*y2*y3)=(1+δ*x2*x3*y2*y3)-(y2*y3+x2*x3):=by clear on2 on3 u2 u3 hp;grobner
 clear on2 on3 hp hm
 constructor
 ·have:(1+yp)*(1+ym)*((1-δ*x2*x3*y2*y3)*(1+δ*x2*x3*y2*y3)*(1-δ*y2*y2)*(1-δ*y3*y3))=((1+yp)*(1-δ*x2*x3*y2*y3))*((1+ym)*(1+δ*x2*x3*y2*y3))*((1-δ*y2*y2)*(1-δ*y3*y3)):=by clear u2 u3 p1 m1 p2 m2;grobner
  rw[this,p1,m1]
  clear this p1 m1 p2 m2
  grobner
 ·have:(1-yp)*(1-ym)*((1-δ*x2*x3*y2*y3)*(1+δ*x2*x3*y2*y3)*(1-δ*y2*y2)*(1-δ*y3*y3))=((1-yp)*(1-δ*x2*x3*y2*y3))*((1-ym)*(1+δ*x2*x3*y2*y3))*((1-δ*y2*y2)*(1-δ*y3*y3)):=by clear u2 u3 p1 m1 p2 m2;grobner
  rw[this,p2,m2]
  clear this p1 m1 p2 m2
  grobner
theorem Quw {s k2 k3 y2 y3 yp ym x1 D E X2 Z2 X3 Z3 w:Fp} (hs:s*s=1) (hx:x1*(1-ym)=s*(1+ym)) (a:(y2+y3)*(y2+y3)*D=(1+yp)*(1+ym)*E) (b:(y2-y3)*(y2-y3)*D=(1-yp)*(1-ym)*E) (hw:D*w=1)
 (hX2:X2=k2*(1+y2)) (hZ2:Z2=k2*s*(1-y2)) (hX3:X3=k3*(1+y3)) (hZ3:Z3=k3*s*(1-y3)):
 ((X3-Z3)*(X2+Z2)+(X3+Z3)*(X2-Z2))*((X3-Z3)*(X2+Z2)+(X3+Z3)*(X2-Z2))=16*k2*k2*k3*k3*E*w*(1+ym)*(1+yp)∧
 x1*(((X3-Z3)*(X2+Z2)-(X3+Z3)*(X2-Z2))*((X3-Z3)*(X2+Z2)-(X3+Z3)*(X2-Z2)))=16*k2*k2*k3*k3*E*w*(1+ym)*s*(1-yp):=by
 have e1:(X3-Z3)*(X2+Z2)+(X3+Z3)*(X2-Z2)=4*(k2*k3)*(y2+y3):=by rw[hX2,hX3,hZ2,hZ3];clear a b hx hw hX2 hX3 hZ2 hZ3;grobner
 have e2:(X3-Z3)*(X2+Z2)-(X3+Z3)*(X2-Z2)= -4*s*(k2*k3)*(y2-y3):=by rw[hX2,hX3,hZ2,hZ3];clear a b hx hw hX2 hX3 hZ2 hZ3;grobner
 rw[e1,e2]
 clear hX2 hX3 hZ2 hZ3 e1 e2
 have a':(y2+y3)*(y2+y3)=(1+yp)*(1+ym)*E*w:=by
  have:(y2+y3)*(y2+y3)*(D*w)=(1+yp)*(1+ym)*E*w:=by clear b hx hs hw;grobner
  rw[hw]at this
  clear a b hx hs hw
  grobner
 have b':(y2-y3)*(y2-y3)=(1-yp)*(1-ym)*E*w:=by
  have:(y2-y3)*(y2-y3)*(D*w)=(1-yp)*(1-ym)*E*w:=by clear a hx hs hw;grobner
  rw[hw]at this
  clear a b hx hs hw
  grobner
 clear a b hw
 constructor
 ·clear b' hx
  grobner
 ·clear a'
  have:x1*((y2-y3)*(y2-y3))=s*(1+ym)*((1-yp)*E*w):=by rw[b',←hx];clear b' hs hx;grobner
  clear b' hx
  grobner
theorem c16:(16:Fp)≠0:=by decide
theorem QwH {s X2 Z2 X3 Z3 x1 ym:Fp} {P Q:Pt δ} (hp:Par s δ) (h2:Rep s X2 Z2 P) (h3:Rep s X3 Z3 Q) (hm:(Q.add hδ P.neg).y=ym) (hx:x1*(1-ym)=s*(1+ym)) (hym:1+ym≠0):
 Rep s (((X3-Z3)*(X2+Z2)+(X3+Z3)*(X2-Z2))*((X3-Z3)*(X2+Z2)+(X3+Z3)*(X2-Z2))) (x1*(((X3-Z3)*(X2+Z2)-(X3+Z3)*(X2-Z2))*((X3-Z3)*(X2+Z2)-(X3+Z3)*(X2-Z2)))) (P.add hδ Q):=by
 obtain⟨k2,hk2,hX2,hZ2⟩:=h2
 obtain⟨k3,hk3,hX3,hZ3⟩:=h3
 have hy:=Qga hδ P Q
 have hy':=Qga hδ Q P.neg
 rw[hm]at hy'
 have ne1:1-δ*P.x*Q.x*P.y*Q.y≠0:=Qf2 hδ P Q
 have ne2:1+δ*P.x*Q.x*P.y*Q.y≠0:=Qgi hδ P Q
 obtain⟨a,b⟩:=Qxc P.on Q.on (by simpa only[tt] using hy) (ym:=ym) (by simp only[tt,Pt.neg]at hy';clear hX2 hX3 hZ2 hZ3 hy hm hx hk2 hk3 ne1 ne2 hym;grobner)
 have hD:(1-δ)*(1-δ*(P.y*Q.y)*(P.y*Q.y))≠0:=QaZ (QhY hδ) (Qem hδ _)
 obtain⟨c,d⟩:=Quw (Qhg hp) hx a b (QaR hD) hX2 hZ2 hX3 hZ3
 refine⟨_,?_,c,d⟩
 refine QaZ (QaZ (QaZ (QaZ (QaZ (QaZ (QaZ c16 hk2) hk2) hk3) hk3) (QaZ (QaZ (QaZ ne1 ne2) (Qem hδ _)) (Qem hδ _))) ?_) hym
 intro h0
 have:=QaR hD
 rw[h0]at this
 revert this
 grobner
end
theorem Qy8:toF 121665=121665:=rfl
section
variable {δ:Fp} (hδ:Qgn δ)
def LRep (s:Fp) (l:Lad) (P Q:Pt δ):Prop:=Rep s (toF l.x2) (toF l.z2) P∧Rep s (toF l.x3) (toF l.z3) Q
theorem Qon {s ym:Fp} {x1:Nat} {l:Lad} {P Q:Pt δ} (hp:Par s δ) (h:LRep s l P Q) (hm:(Q.add hδ P.neg).y=ym) (hx:toF x1*(1-ym)=s*(1+ym)) (hym:1+ym≠0):
 LRep s (l.step x1) (P.add hδ P) (P.add hδ Q):=by
 have a:=QxR hδ hp h.1
 have b:=QwH hδ hp h.1 h.2 hm hx hym
 refine⟨?_,?_⟩
 ·simpa only[Lad.step,Qgg,Qkb,Qka,Qy8] using a
 ·simpa only[Lad.step,Qgg,Qkb,Qka] using b
theorem Qqi (P Q:Pt δ):(Q.add hδ P.neg).y=(P.add hδ Q.neg).y:=by
 have a:=Qga hδ Q P.neg
 have b:=Qga hδ P Q.neg
 have n:=Qf2 hδ Q P.neg
 apply QeT n
 rw[a]
 have e:tt Q P.neg=tt P Q.neg:=by simp only[tt,Pt.neg];clear a b n;grobner
 rw[e,b]
 simp only[Pt.neg]
 clear a b n e
 grobner
def kval (K:List UInt8):Nat→Nat
 | 0=>0
 | j+1=>2*kval K j+(kbit K (254-j)).toNat
theorem QoV (G:Pt δ) (n:Nat):((G.mul hδ (n+1)).add hδ (G.mul hδ n).neg)=G:=by
 show (((G.mul hδ n).add hδ G).add hδ (G.mul hδ n).neg)=G
 rw[QkX hδ (G.mul hδ n) G,Quz]
theorem QqM {s:Fp} {x1:Nat} {G:Pt δ} (hp:Par s δ) (hx:toF x1*(1-G.y)=s*(1+G.y)) (hy:1+G.y≠0) (K:List UInt8):
 ∀j,LRep s (Lad.at x1 K j) (G.mul hδ (kval K j)) (G.mul hδ (kval K j+1))
 | 0=>by
   have hs:=Qhg hp
   have hy1:1-G.y≠0:=by
    intro h0
    rw[h0]at hx
    have:s*(s*(1+G.y))=0:=by rw[←hx];clear hx hs hp hy;grobner
    have h1:1+G.y=0:=by clear hx hp h0 hy;grobner
    exact hy h1
   refine⟨⟨finv 2,?_,?_,?_⟩,⟨s*finv (1-G.y),?_,?_,?_⟩⟩
   ·intro h0
    have:=QaR Qjn
    rw[h0]at this
    revert this
    decide
   ·have:=QaR Qjn
    show (1:Fp)=finv 2*(1+1)
    grobner
   ·show (0:Fp)=finv 2*s*(1-1)
    grobner
   ·intro h0
    have:=QaR hy1
    have:s*s=0:=by
     have h1:s*(s*finv (1-G.y))=0:=by rw[h0];clear h0 this hs hx hp hy;grobner
     clear hx hp hy h0
     grobner
    rw[hs]at this
    exact Qok this
   ·rw[show G.mul hδ (kval K 0+1)=G from QhM hδ G]
    show toF x1=_
    have:=QaR hy1
    clear hp hy hy1
    grobner
   ·rw[show G.mul hδ (kval K 0+1)=G from QhM hδ G]
    show (1:Fp)=_
    have:=QaR hy1
    clear hp hy hy1 hx
    grobner
 | j+1=>by
   have ih:=QqM hp hx hy K j
   have hsub:((G.mul hδ (kval K j+1)).add hδ (G.mul hδ (kval K j)).neg).y=G.y:=by rw[QoV]
   have hsub':((G.mul hδ (kval K j)).add hδ (G.mul hδ (kval K j+1)).neg).y=G.y:=by rw[Qqi,QoV]
   have e0:kval K (j+1)=2*kval K j+(kbit K (254-j)).toNat:=rfl
   rw[e0]
   show LRep s (Lad.round x1 (kbit K (254-j)) (Lad.at x1 K j)) _ _
   generalize kval K j=n at *
   cases kbit K (254-j)
   ·have:=Qon hδ hp ih hsub hx hy
    rw[←QdV,←QdV]at this
    rw[show 2*n+false.toNat=n+n by simp;omega,show n+n+1=n+(n+1) by omega]
    exact this
   ·have:=Qon hδ hp (show LRep s (Lad.at x1 K j).swap (G.mul hδ (n+1)) (G.mul hδ n) from ⟨ih.2,ih.1⟩) hsub' hx hy
    rw[←QdV,←QdV]at this
    rw[show 2*n+true.toNat=n+1+n by simp;omega,show n+1+n+1=n+1+(n+1) by omega]
    exact⟨this.2,this.1⟩
def Pt.u (s:Fp) (Q:Pt δ):Fp:=if 1-Q.y=0 then 0 else s*(1+Q.y)*finv (1-Q.y)
theorem QBu {x y d:Fp} (h:x=0) (on:x*x+y*y=1+d*x*x*y*y):(1+y)*(1-y)=0:=by grobner
theorem QBl {a b:Fp} (h:a=0) (k:b=0) (y z t:Fp):a*y+b*z=0*t:=by grobner
theorem QvF {c d i r:Fp} (h:r*r=c*i) (hi:d*i=1):d*r*(d*r)=c*d:=by grobner
theorem QBR {u a:Fp} (h:u*u+a*u+1=0):(2*u+a)*(2*u+a)=a*a-4:=by grobner
theorem QyM {u a:Fp} (h:u+1=0):u*(u*u+a*u+1)=a-2:=by grobner
theorem Qzo {u a:Fp} (h:u-1=0):u*(u*u+a*u+1)=a+2:=by grobner
theorem Ql3 {a:Nat} (ha:a=0) (n m:Nat) (h:0<n):a^n%m=0:=by rw[ha,Nat.zero_pow h,QEJ]
theorem Qq1 (a:Nat) (ha:a=0):pinv a=0:=Ql3 ha _ _ (by unfold P25;omega)
theorem Ql4:finv 0=0:=by
 unfold finv
 rw[Qq1 _ (show (0:Fp).val=0 from rfl)]
 rfl
theorem QoI (n:Nat):toF (pinv n)=finv (toF n):=by
 show toF (n^(P25-2)%P25)=toF ((n%P25)^(P25-2)%P25)
 rw[←Nat.pow_mod]
theorem QB4 {s X Z:Fp} {Q:Pt δ} (hp:Par s δ) (h:Rep s X Z Q):X*finv Z=Q.u s:=by
 obtain⟨k,hk,hX,hZ⟩:=h
 have hs:=Qhg hp
 unfold Pt.u
 split
 ·rename_i h0
  rw[h0]at hZ
  have:Z=0:=by rw[hZ];clear hs hp hX hZ h0;grobner
  rw[this,Ql4]
  clear hs hp hX hZ h0 this
  grobner
 ·rename_i h0
  have hsn:s≠0:=by rintro rfl;revert hs;decide
  have hz:Z≠0:=by rw[hZ];exact QaZ (QaZ hk hsn) h0
  have i1:=QaR hz
  have i2:=QaR h0
  have i3:=QaR hk
  apply QeT hz
  have e1:X*finv Z*Z=X:=by clear hX hZ hs hp i2 i3;grobner
  have e2:s*(1+Q.y)*finv (1-Q.y)*Z=k*(1+Q.y):=by rw[hZ];clear hX hZ hp i1 i3 e1;grobner
  rw[e1,e2,hX]
def multN (x1:Nat) (K:List UInt8):Nat:=fmul (Lad.at x1 K 255).x2 (pinv (Lad.at x1 K 255).z2)
theorem QnP {s:Fp} {x1:Nat} {G:Pt δ} (hp:Par s δ) (hx:toF x1*(1-G.y)=s*(1+G.y)) (hy:1+G.y≠0) (K:List UInt8):
 toF (multN x1 K)=(G.mul hδ (kval K 255)).u s:=by
 rw[multN,Qgg,QoI]
 exact QB4 hp (QqM hδ hp hx hy K 255).1
include hδ in
theorem Qtj {s:Fp} (hp:Par s δ) {Q:Pt δ}:Q.u s=0↔Q.x=0:=by
 have hs:=Qhg hp
 have hsn:s≠0:=by rintro rfl;revert hs;decide
 have on:=Q.on
 unfold Pt.u
 constructor
 ·intro h
  have hy:Q.y*Q.y=1:=by
   split at h
   ·rename_i h0
    clear h on hs hp hsn
    grobner
   ·rename_i h0
    have hf:finv (1-Q.y)≠0:=by
     intro h1
     have:=QaR h0
     rw[h1]at this
     clear h on hs hp
     have h2:(1:Fp)=0:=by grobner
     exact Qok h2
    rcases Qdm h with h1|h1
    ·rcases Qdm h1 with h2|h2
     ·exact absurd h2 hsn
     ·clear h h1 on hs hp hsn hf
      grobner
    ·exact absurd h1 hf
  have:Q.x*Q.x*(1-δ)=0:=by clear h hs hp hsn;grobner
  rcases Qdm this with h1|h1
  ·exact (Qdm h1).elim id id
  ·exact absurd h1 (QhY hδ)
 ·intro h
  have:(1+Q.y)*(1-Q.y)=0:=QBu h on
  rcases Qdm this with h1|h1
  ·split
   ·rfl
   ·rw[h1]
    clear this on hs hp hsn h h1
    grobner
  ·rw[if_pos h1]
theorem Qol {Q:Pt δ} (h:Q.x=0):∀n,(Q.mul hδ n).x=0
 | 0=>rfl
 | n+1=>by
   have ih:=Qol h n
   apply QeT (Qgi hδ (Q.mul hδ n) Q)
   exact (QiZ hδ (Q.mul hδ n) Q).trans (QBl ih h _ _ _)
theorem QvI {s:Fp} (hp:Par s δ) {Q:Pt δ} (h:Q.u s≠0):Q.u s*(1-Q.y)=s*(1+Q.y)∧1+Q.y≠0:=by
 have hs:=Qhg hp
 unfold Pt.u at h ⊢
 split at h
 ·exact absurd rfl h
 ·rename_i h0
  have:=QaR h0
  rw[if_neg h0]
  refine⟨by clear h hs hp;grobner,fun h1=>h ?_⟩
  rw[h1]
  clear h hs hp this
  grobner
end
theorem QhI (a:Fp) (n:Nat) (h:n<2^256):fpow a n=toF (pwm P25 256 a.val n):=by rw[Qor P25 256 a.val n h,Qkq];rfl
theorem h66:fpow 121666 Hp=1:=by rw[QhI _ _ (by decide)];decide +kernel
theorem h65:fpow 121665 Hp= -1:=by rw[QhI _ _ (by decide)];decide +kernel
theorem h2:fpow 2 Hp= -1:=by rw[QhI _ _ (by decide)];decide +kernel
theorem h4:fpow 4 Hp=1:=by rw[QhI _ _ (by decide)];decide +kernel
theorem hm1:(1:Fp)≠ -1:=by decide
theorem Qjr (r:Fp):r*r≠121665*121666:=by
 intro h
 have h0:(121665*121666:Fp)≠0:=QaZ c65 c66
 have:=Qsc h0 ⟨r,h⟩
 rw[QcU,h65,h66]at this
 revert this
 decide
theorem QxT:∃i:Fp,i*i= -1:=⟨fpow 2 Qp,by rw[←Qfw,show Qp+Qp=Hp by decide,h2]⟩
theorem Qy5:Qgn (121665*finv 121666):=by
 intro r h
 have:=QaR c66
 exact Qjr (121666*r) (QvF h this)
theorem Qzu:Qgn (121666*finv 121665):=by
 intro r h
 have:=QaR c65
 exact Qjr (121665*r) ((QvF h this).trans (by decide))
theorem par1:Par 1 (121665*finv 121666):=.inl ⟨rfl,by have:=QaR c66;grobner⟩
theorem par2:Par (-1) (121666*finv 121665):=.inr ⟨rfl,by have:=QaR c65;grobner⟩
theorem Qyx (u:Fp):u*u+486662*u+1≠0:=by
 intro h
 have e:(2*u+486662)*(2*u+486662)=4*4*(121665*121666):=(QBR h).trans (by decide)
 have n0:(4*4*(121665*121666):Fp)≠0:=by decide
 have:=Qsc n0 ⟨_,e⟩
 rw[QcU,QcU,QcU,h4,h65,h66]at this
 revert this
 decide
theorem Qyo {u h m n r d:Fp} (hh:h=u*u+486662*u+1) (hn:h*n=1) (hm:(u+1)*m=1) (hr:r*r=121666*(u*h)) (hd:d*121666=121665):
 2*r*n*(2*r*n)+(u-1)*m*((u-1)*m)=1+d*(2*r*n)*(2*r*n)*((u-1)*m)*((u-1)*m):=by
 have ex:2*r*n*(2*r*n)=4*121666*u*n:=by clear hm hd hh;grobner
 have ex2:d*(2*r*n)*(2*r*n)=4*121665*u*n:=by clear hm hh hn hr;grobner
 rw[ex,ex2]
 have key:4*121666*u*((u+1)*(u+1))+(u-1)*(u-1)*h=h*((u+1)*(u+1))+4*121665*u*((u-1)*(u-1)):=by rw[hh];clear hn hm hr hd ex ex2 hh;grobner
 have k2:(4*121666*u*((u+1)*(u+1))+(u-1)*(u-1)*h)*(n*(m*m))=(h*((u+1)*(u+1))+4*121665*u*((u-1)*(u-1)))*(n*(m*m)):=by rw[key]
 have hm2:(u+1)*(u+1)*(m*m)=1:=by clear key k2 ex ex2 hn hr hd hh;grobner
 clear key ex ex2 hr hd hh
 generalize (u+1)*(u+1)=v at *
 clear hm
 grobner
theorem Qyd {u h m n r d:Fp} (hh:h=u*u+486662*u+1) (hn:h*n=1) (hm:(u-1)*m=1) (hr:r*r=121665*(u*h)) (hd:d*121665=121666):
 2*r*n*(2*r*n)+(u+1)*m*((u+1)*m)=1+d*(2*r*n)*(2*r*n)*((u+1)*m)*((u+1)*m):=by
 have ex:2*r*n*(2*r*n)=4*121665*u*n:=by clear hm hd hh;grobner
 have ex2:d*(2*r*n)*(2*r*n)=4*121666*u*n:=by clear hm hh hn hr;grobner
 rw[ex,ex2]
 have key:4*121665*u*((u-1)*(u-1))+(u+1)*(u+1)*h=h*((u-1)*(u-1))+4*121666*u*((u+1)*(u+1)):=by rw[hh];clear hn hm hr hd ex ex2 hh;grobner
 have k2:(4*121665*u*((u-1)*(u-1))+(u+1)*(u+1)*h)*(n*(m*m))=(h*((u-1)*(u-1))+4*121666*u*((u+1)*(u+1)))*(n*(m*m)):=by rw[key]
 have hm2:(u-1)*(u-1)*(m*m)=1:=by clear key k2 ex ex2 hn hr hd hh;grobner
 clear key ex ex2 hr hd hh
 generalize (u-1)*(u-1)=v at *
 clear hm
 grobner
theorem Qmn {u:Fp} (hu:u≠0):∃(s δ:Fp) (_:Qgn δ) (_:Par s δ) (P:Pt δ),u*(1-P.y)=s*(1+P.y)∧1+P.y≠0:=by
 obtain⟨i,hi⟩:=QxT
 have hq:=Qyx u
 have hg:u*(u*u+486662*u+1)≠0:=QaZ hu hq
 have hn:=QaR hq
 rcases Qq3 hg with h1|h1
 ·obtain⟨r,hr⟩:=Qsb hi (show fpow (121666*(u*(u*u+486662*u+1))) Hp=1 by rw[QcU,h66,h1];decide)
  have hu1:u+1≠0:=by
   intro h0
   have:u*(u*u+486662*u+1)=4*121665:=(QyM h0).trans (by decide)
   rw[this,QcU,h4,h65]at h1
   revert h1
   decide
  have hm:=QaR hu1
  refine⟨1,_,Qy5,par1,⟨_,_,Qyo rfl hn hm hr (by have:=QaR c66;clear hr hm hn h1 hi;grobner)⟩,?_,?_⟩
  ·show u*(1-(u-1)*finv (u+1))=1*(1+(u-1)*finv (u+1))
   clear hr hn h1 hi
   grobner
  ·show 1+(u-1)*finv (u+1)≠0
   have e:1+(u-1)*finv (u+1)=2*u*finv (u+1):=by clear hr hn h1 hi;grobner
   rw[e]
   refine QaZ (QaZ Qjn hu) fun h0=>?_
   rw[h0]at hm
   exact Qok (by clear hr hn h1 hi e;grobner)
 ·obtain⟨r,hr⟩:=Qsb hi (show fpow (121665*(u*(u*u+486662*u+1))) Hp=1 by rw[QcU,h65,h1];decide)
  have hu1:u-1≠0:=by
   intro h0
   have:u*(u*u+486662*u+1)=4*121666:=(Qzo h0).trans (by decide)
   rw[this,QcU,h4,h66]at h1
   revert h1
   decide
  have hm:=QaR hu1
  refine⟨-1,_,Qzu,par2,⟨_,_,Qyd rfl hn hm hr (by have:=QaR c65;clear hr hm hn h1 hi;grobner)⟩,?_,?_⟩
  ·show u*(1-(u+1)*finv (u-1))= -1*(1+(u+1)*finv (u-1))
   clear hr hn h1 hi
   grobner
  ·show 1+(u+1)*finv (u-1)≠0
   have e:1+(u+1)*finv (u-1)=2*u*finv (u-1):=by clear hr hn h1 hi;grobner
   rw[e]
   refine QaZ (QaZ Qjn hu) fun h0=>?_
   rw[h0]at hm
   exact Qok (by clear hr hn h1 hi e;grobner)
theorem QhG (x1:Nat) (K:List UInt8):multN x1 K<P25:=QC8 _ Qbi
theorem Qmc {x1:Nat} (h:toF x1=0) (K:List UInt8):∀j,toF (Lad.at x1 K j).x2*toF (Lad.at x1 K j).z2=0∧toF (Lad.at x1 K j).x3*toF (Lad.at x1 K j).z3=0
 | 0=>⟨by show toF 1*toF 0=0;rw[Qgv];grobner,by show toF x1*toF 1=0;rw[h];grobner⟩
 | j+1=>by
   have st:∀l:Lad,toF l.x2*toF l.z2=0→toF (l.step x1).x2*toF (l.step x1).z2=0∧toF (l.step x1).x3*toF (l.step x1).z3=0:=by
    intro l hl
    simp only[Lad.step,Qgg,Qkb,Qka,h]
    generalize toF l.x2=a at *
    generalize toF l.z2=b at *
    generalize toF l.x3=c at *
    generalize toF l.z3=d at *
    constructor
    ·have e:(a+b)*(a+b)-(a-b)*(a-b)=0:=by grobner
     rw[e]
     clear e hl
     grobner
    ·clear hl
     grobner
   have ih:=Qmc h K j
   have e0:Lad.at x1 K (j+1)=Lad.round x1 (kbit K (254-j)) (Lad.at x1 K j):=rfl
   rw[e0]
   unfold Lad.round
   cases kbit K (254-j)
   ·exact st _ ih.1
   ·have:=st (Lad.at x1 K j).swap ih.2
    exact⟨this.2,this.1⟩
theorem Qr3 {n:Nat} (hn:n<P25) (h:toF n=0):n=0:=by
 have:=Qh6.1 h
 rwa [QC1 hn]at this
theorem Qdb {x1:Nat} (h:toF x1=0) (K:List UInt8):multN x1 K=0:=by
 apply Qr3 (QhG _ _)
 rw[multN,Qgg,QoI]
 rcases Qdm (Qmc h K 255).1 with h0|h0
 ·rw[h0]
  grobner
 ·rw[h0,Ql4]
  grobner
theorem multN_comm (x1:Nat) (K L:List UInt8):multN (multN x1 K) L=multN (multN x1 L) K:=by
 by_cases h0:toF x1=0
 ·rw[Qdb h0,Qdb h0,Qdb Qgv,Qdb Qgv]
 ·obtain⟨s,δ,hδ,hp,G,hx,hy⟩:=Qmn h0
  have half:∀K L,toF (multN (multN x1 K) L)=(G.mul hδ (kval K 255*kval L 255)).u s:=by
   intro K L
   have e1:=QnP hδ hp hx hy K
   rw[Qgs]
   by_cases h1:toF (multN x1 K)=0
   ·rw[Qdb h1]
    have h2:(G.mul hδ (kval K 255)).x=0:=(Qtj hδ hp).1 (by rw[←e1];exact h1)
    exact ((Qtj hδ hp).2 (Qol hδ h2 _)).symm
   ·have h2:(G.mul hδ (kval K 255)).u s≠0:=by rw[←e1];exact h1
    obtain⟨b1,b2⟩:=QvI hp h2
    exact QnP hδ hp (by rw[e1];exact b1) b2 L
  have:=(half K L).trans ((by rw[QDz]:_=_).trans (half L K).symm)
  have:=Qw1 this
  rwa [QC1 (QhG _ _),QC1 (QhG _ _)]at this
end Ed
namespace Ed
def Qwl:List Nat:=[2,3,5,7,11,13,17,19,23,31,41,43,47,61,67,73,79,101,113,181,227,269,307,383,467,487,727]
theorem Qae:∀q∈Qwl,Prm q:=fun q hq=>Qlj (QDm.1 (show Qwl.all small=true by decide +kernel) q hq)
theorem Qs7:Prm 30703∧∀a,a%30703≠0→a^(30703-1)%30703=1:=
 Qaq 30703 3 [2,3,7,17,43] (by decide +kernel) (by
  intro q hq
  simp only[QCV,QCW,or_false]at hq
  rcases hq with rfl|rfl|rfl|rfl|rfl
  ·exact Qae _ (by decide)
  ·exact Qae _ (by decide)
  ·exact Qae _ (by decide)
  ·exact Qae _ (by decide)
  ·exact Qae _ (by decide))
theorem QqU:Prm 41081∧∀a,a%41081≠0→a^(41081-1)%41081=1:=
 Qaq 41081 3 [2,2,2,5,13,79] (by decide +kernel) (by
  intro q hq
  simp only[QCV,QCW,or_false]at hq
  rcases hq with rfl|rfl|rfl|rfl|rfl|rfl
  ·exact Qae _ (by decide)
  ·exact Qae _ (by decide)
  ·exact Qae _ (by decide)
  ·exact Qae _ (by decide)
  ·exact Qae _ (by decide)
  ·exact Qae _ (by decide))
theorem QsG:Prm 82163∧∀a,a%82163≠0→a^(82163-1)%82163=1:=
 Qaq 82163 2 [2,41081] (by decide +kernel) (by
  intro q hq
  simp only[QCV,QCW,or_false]at hq
  rcases hq with rfl|rfl
  ·exact Qae _ (by decide)
  ·exact QqU.1)
theorem QkH:Prm 1723∧∀a,a%1723≠0→a^(1723-1)%1723=1:=
 Qaq 1723 3 [2,3,7,41] (by decide +kernel) (by
  intro q hq
  simp only[QCV,QCW,or_false]at hq
  rcases hq with rfl|rfl|rfl|rfl
  ·exact Qae _ (by decide)
  ·exact Qae _ (by decide)
  ·exact Qae _ (by decide)
  ·exact Qae _ (by decide))
theorem Qsr:Prm 17231∧∀a,a%17231≠0→a^(17231-1)%17231=1:=
 Qaq 17231 13 [2,5,1723] (by decide +kernel) (by
  intro q hq
  simp only[QCV,QCW,or_false]at hq
  rcases hq with rfl|rfl|rfl
  ·exact Qae _ (by decide)
  ·exact Qae _ (by decide)
  ·exact QkH.1)
theorem Qp7:Prm 137849∧∀a,a%137849≠0→a^(137849-1)%137849=1:=
 Qaq 137849 3 [2,2,2,17231] (by decide +kernel) (by
  intro q hq
  simp only[QCV,QCW,or_false]at hq
  rcases hq with rfl|rfl|rfl|rfl
  ·exact Qae _ (by decide)
  ·exact Qae _ (by decide)
  ·exact Qae _ (by decide)
  ·exact Qsr.1)
theorem Qse:Prm 22111∧∀a,a%22111≠0→a^(22111-1)%22111=1:=
 Qaq 22111 6 [2,3,5,11,67] (by decide +kernel) (by
  intro q hq
  simp only[QCV,QCW,or_false]at hq
  rcases hq with rfl|rfl|rfl|rfl|rfl
  ·exact Qae _ (by decide)
  ·exact Qae _ (by decide)
  ·exact Qae _ (by decide)
  ·exact Qae _ (by decide)
  ·exact Qae _ (by decide))
theorem Qqf:Prm 132667∧∀a,a%132667≠0→a^(132667-1)%132667=1:=
 Qaq 132667 5 [2,3,22111] (by decide +kernel) (by
  intro q hq
  simp only[QCV,QCW,or_false]at hq
  rcases hq with rfl|rfl|rfl
  ·exact Qae _ (by decide)
  ·exact Qae _ (by decide)
  ·exact Qse.1)
theorem QdO:Prm 3044861653679985063343∧∀a,a%3044861653679985063343≠0→a^(3044861653679985063343-1)%3044861653679985063343=1:=
 Qaq 3044861653679985063343 5 [2,3,11,30703,82163,132667,137849] (by decide +kernel) (by
  intro q hq
  simp only[QCV,QCW,or_false]at hq
  rcases hq with rfl|rfl|rfl|rfl|rfl|rfl|rfl
  ·exact Qae _ (by decide)
  ·exact Qae _ (by decide)
  ·exact Qae _ (by decide)
  ·exact Qs7.1
  ·exact QsG.1
  ·exact Qqf.1
  ·exact Qp7.1)
theorem Qrw:Prm 34123∧∀a,a%34123≠0→a^(34123-1)%34123=1:=
 Qaq 34123 2 [2,3,11,11,47] (by decide +kernel) (by
  intro q hq
  simp only[QCV,QCW,or_false]at hq
  rcases hq with rfl|rfl|rfl|rfl|rfl
  ·exact Qae _ (by decide)
  ·exact Qae _ (by decide)
  ·exact Qae _ (by decide)
  ·exact Qae _ (by decide)
  ·exact Qae _ (by decide))
theorem Qqv:Prm 409477∧∀a,a%409477≠0→a^(409477-1)%409477=1:=
 Qaq 409477 2 [2,2,3,34123] (by decide +kernel) (by
  intro q hq
  simp only[QCV,QCW,or_false]at hq
  rcases hq with rfl|rfl|rfl|rfl
  ·exact Qae _ (by decide)
  ·exact Qae _ (by decide)
  ·exact Qae _ (by decide)
  ·exact Qrw.1)
theorem Ql9:Prm 14741173∧∀a,a%14741173≠0→a^(14741173-1)%14741173=1:=
 Qaq 14741173 2 [2,2,3,3,409477] (by decide +kernel) (by
  intro q hq
  simp only[QCV,QCW,or_false]at hq
  rcases hq with rfl|rfl|rfl|rfl|rfl
  ·exact Qae _ (by decide)
  ·exact Qae _ (by decide)
  ·exact Qae _ (by decide)
  ·exact Qae _ (by decide)
  ·exact Qqv.1)
theorem Qla:Prm 58964693∧∀a,a%58964693≠0→a^(58964693-1)%58964693=1:=
 Qaq 58964693 2 [2,2,14741173] (by decide +kernel) (by
  intro q hq
  simp only[QCV,QCW,or_false]at hq
  rcases hq with rfl|rfl|rfl
  ·exact Qae _ (by decide)
  ·exact Qae _ (by decide)
  ·exact Ql9.1)
theorem Qcy:Prm 198211423230930754013084525763697∧∀a,a%198211423230930754013084525763697≠0→a^(198211423230930754013084525763697-1)%198211423230930754013084525763697=1:=
 Qaq 198211423230930754013084525763697 5 [2,2,2,2,3,23,58964693,3044861653679985063343] (by decide +kernel) (by
  intro q hq
  simp only[QCV,QCW,or_false]at hq
  rcases hq with rfl|rfl|rfl|rfl|rfl|rfl|rfl|rfl
  ·exact Qae _ (by decide)
  ·exact Qae _ (by decide)
  ·exact Qae _ (by decide)
  ·exact Qae _ (by decide)
  ·exact Qae _ (by decide)
  ·exact Qae _ (by decide)
  ·exact Qla.1
  ·exact QdO.1)
theorem Qu5:Prm 2939∧∀a,a%2939≠0→a^(2939-1)%2939=1:=
 Qaq 2939 2 [2,13,113] (by decide +kernel) (by
  intro q hq
  simp only[QCV,QCW,or_false]at hq
  rcases hq with rfl|rfl|rfl
  ·exact Qae _ (by decide)
  ·exact Qae _ (by decide)
  ·exact Qae _ (by decide))
theorem Qvp:Prm 5879∧∀a,a%5879≠0→a^(5879-1)%5879=1:=
 Qaq 5879 11 [2,2939] (by decide +kernel) (by
  intro q hq
  simp only[QCV,QCW,or_false]at hq
  rcases hq with rfl|rfl
  ·exact Qae _ (by decide)
  ·exact Qu5.1)
theorem Qkd:Prm 292386187∧∀a,a%292386187≠0→a^(292386187-1)%292386187=1:=
 Qaq 292386187 2 [2,3,3,3,3,307,5879] (by decide +kernel) (by
  intro q hq
  simp only[QCV,QCW,or_false]at hq
  rcases hq with rfl|rfl|rfl|rfl|rfl|rfl|rfl
  ·exact Qae _ (by decide)
  ·exact Qae _ (by decide)
  ·exact Qae _ (by decide)
  ·exact Qae _ (by decide)
  ·exact Qae _ (by decide)
  ·exact Qae _ (by decide)
  ·exact Qvp.1)
theorem Qhu:Prm 213441916511∧∀a,a%213441916511≠0→a^(213441916511-1)%213441916511=1:=
 Qaq 213441916511 13 [2,5,73,292386187] (by decide +kernel) (by
  intro q hq
  simp only[QCV,QCW,or_false]at hq
  rcases hq with rfl|rfl|rfl|rfl
  ·exact Qae _ (by decide)
  ·exact Qae _ (by decide)
  ·exact Qae _ (by decide)
  ·exact Qkd.1)
theorem Qvk:Prm 1361∧∀a,a%1361≠0→a^(1361-1)%1361=1:=
 Qaq 1361 3 [2,2,2,2,5,17] (by decide +kernel) (by
  intro q hq
  simp only[QCV,QCW,or_false]at hq
  rcases hq with rfl|rfl|rfl|rfl|rfl|rfl
  ·exact Qae _ (by decide)
  ·exact Qae _ (by decide)
  ·exact Qae _ (by decide)
  ·exact Qae _ (by decide)
  ·exact Qae _ (by decide)
  ·exact Qae _ (by decide))
theorem Qvs:Prm 2851∧∀a,a%2851≠0→a^(2851-1)%2851=1:=
 Qaq 2851 2 [2,3,5,5,19] (by decide +kernel) (by
  intro q hq
  simp only[QCV,QCW,or_false]at hq
  rcases hq with rfl|rfl|rfl|rfl|rfl
  ·exact Qae _ (by decide)
  ·exact Qae _ (by decide)
  ·exact Qae _ (by decide)
  ·exact Qae _ (by decide)
  ·exact Qae _ (by decide))
theorem QuR:Prm 2551∧∀a,a%2551≠0→a^(2551-1)%2551=1:=
 Qaq 2551 6 [2,3,5,5,17] (by decide +kernel) (by
  intro q hq
  simp only[QCV,QCW,or_false]at hq
  rcases hq with rfl|rfl|rfl|rfl|rfl
  ·exact Qae _ (by decide)
  ·exact Qae _ (by decide)
  ·exact Qae _ (by decide)
  ·exact Qae _ (by decide)
  ·exact Qae _ (by decide))
theorem Qnh:Prm 1224481∧∀a,a%1224481≠0→a^(1224481-1)%1224481=1:=
 Qaq 1224481 13 [2,2,2,2,2,3,5,2551] (by decide +kernel) (by
  intro q hq
  simp only[QCV,QCW,or_false]at hq
  rcases hq with rfl|rfl|rfl|rfl|rfl|rfl|rfl|rfl
  ·exact Qae _ (by decide)
  ·exact Qae _ (by decide)
  ·exact Qae _ (by decide)
  ·exact Qae _ (by decide)
  ·exact Qae _ (by decide)
  ·exact Qae _ (by decide)
  ·exact Qae _ (by decide)
  ·exact QuR.1)
theorem QuE:Prm 3797∧∀a,a%3797≠0→a^(3797-1)%3797=1:=
 Qaq 3797 2 [2,2,13,73] (by decide +kernel) (by
  intro q hq
  simp only[QCV,QCW,or_false]at hq
  rcases hq with rfl|rfl|rfl|rfl
  ·exact Qae _ (by decide)
  ·exact Qae _ (by decide)
  ·exact Qae _ (by decide)
  ·exact Qae _ (by decide))
theorem QpM:Prm 531581∧∀a,a%531581≠0→a^(531581-1)%531581=1:=
 Qaq 531581 2 [2,2,5,7,3797] (by decide +kernel) (by
  intro q hq
  simp only[QCV,QCW,or_false]at hq
  rcases hq with rfl|rfl|rfl|rfl|rfl
  ·exact Qae _ (by decide)
  ·exact Qae _ (by decide)
  ·exact Qae _ (by decide)
  ·exact Qae _ (by decide)
  ·exact QuE.1)
theorem QfF:Prm 1257559732178653∧∀a,a%1257559732178653≠0→a^(1257559732178653-1)%1257559732178653=1:=
 Qaq 1257559732178653 2 [2,2,3,7,23,531581,1224481] (by decide +kernel) (by
  intro q hq
  simp only[QCV,QCW,or_false]at hq
  rcases hq with rfl|rfl|rfl|rfl|rfl|rfl|rfl
  ·exact Qae _ (by decide)
  ·exact Qae _ (by decide)
  ·exact Qae _ (by decide)
  ·exact Qae _ (by decide)
  ·exact Qae _ (by decide)
  ·exact QpM.1
  ·exact Qnh.1)
theorem QeB:Prm 4434155615661930479∧∀a,a%4434155615661930479≠0→a^(4434155615661930479-1)%4434155615661930479=1:=
 Qaq 4434155615661930479 17 [2,41,43,1257559732178653] (by decide +kernel) (by
  intro q hq
  simp only[QCV,QCW,or_false]at hq
  rcases hq with rfl|rfl|rfl|rfl
  ·exact Qae _ (by decide)
  ·exact Qae _ (by decide)
  ·exact Qae _ (by decide)
  ·exact QfF.1)
theorem Qc8:Prm 172054593956031949258510691∧∀a,a%172054593956031949258510691≠0→a^(172054593956031949258510691-1)%172054593956031949258510691=1:=
 Qaq 172054593956031949258510691 2 [2,5,1361,2851,4434155615661930479] (by decide +kernel) (by
  intro q hq
  simp only[QCV,QCW,or_false]at hq
  rcases hq with rfl|rfl|rfl|rfl|rfl
  ·exact Qae _ (by decide)
  ·exact Qae _ (by decide)
  ·exact Qvk.1
  ·exact Qvs.1
  ·exact QeB.1)
theorem QbU:Prm 19757330305831588566944191468367130476339∧∀a,a%19757330305831588566944191468367130476339≠0→a^(19757330305831588566944191468367130476339-1)%19757330305831588566944191468367130476339=1:=
 Qaq 19757330305831588566944191468367130476339 2 [2,269,213441916511,172054593956031949258510691] (by decide +kernel) (by
  intro q hq
  simp only[QCV,QCW,or_false]at hq
  rcases hq with rfl|rfl|rfl|rfl
  ·exact Qae _ (by decide)
  ·exact Qae _ (by decide)
  ·exact Qhu.1
  ·exact Qc8.1)
theorem QbQ:Prm 276602624281642239937218680557139826668747∧∀a,a%276602624281642239937218680557139826668747≠0→a^(276602624281642239937218680557139826668747-1)%276602624281642239937218680557139826668747=1:=
 Qaq 276602624281642239937218680557139826668747 2 [2,7,19757330305831588566944191468367130476339] (by decide +kernel) (by
  intro q hq
  simp only[QCV,QCW,or_false]at hq
  rcases hq with rfl|rfl|rfl
  ·exact Qae _ (by decide)
  ·exact Qae _ (by decide)
  ·exact QbU.1)
theorem QBx:Prm 7237005577332262213973186563042994240857116359379907606001950938285454250989∧∀a,a%7237005577332262213973186563042994240857116359379907606001950938285454250989≠0→a^(7237005577332262213973186563042994240857116359379907606001950938285454250989-1)%7237005577332262213973186563042994240857116359379907606001950938285454250989=1:=
 Qaq 7237005577332262213973186563042994240857116359379907606001950938285454250989 2 [2,2,3,11,198211423230930754013084525763697,276602624281642239937218680557139826668747] (by decide +kernel) (by
  intro q hq
  simp only[QCV,QCW,or_false]at hq
  rcases hq with rfl|rfl|rfl|rfl|rfl|rfl
  ·exact Qae _ (by decide)
  ·exact Qae _ (by decide)
  ·exact Qae _ (by decide)
  ·exact Qae _ (by decide)
  ·exact Qcy.1
  ·exact QbQ.1)
end Ed
namespace Ed
theorem Qrr (K:List UInt8) (hK:K.length=32):∀j,j≤255→kval K j=num K/2^(255-j)%2^j
 | 0,_=>by rw[QES,Nat.mod_one];rfl
 | j+1,hj=>by
   have ih:=Qrr K hK j (by omega)
   have hb:=QrM K (254-j) (by omega)
   have e1:(kbit K (254-j)).toNat=num K/2^(254-j)%2:=by
    unfold kbit
    rw[hb]
    rcases Nat.mod_two_eq_zero_or_one ((K.getD ((254-j)/8) 0).toNat/2^((254-j)%8)) with h|h<;>rw[h]<;>rfl
   show 2*kval K j+(kbit K (254-j)).toNat=_
   rw[e1,ih,show 255-(j+1)=254-j by omega,show 255-j=(254-j)+1 by omega,QDA,←QDs,QDA]
   generalize num K/2^(254-j)=X
   rw[QDz (2^j) 2,Nat.mod_mul]
   omega
theorem Qus (K:List UInt8) (hK:K.length=32):kval K 255=num K%2^255:=by
 rw[Qrr K hK 255 (QCN _)]
 simp
theorem QqY (bs:List UInt8):num (QaO bs)%8=0∨bs.length≠32:=by
 by_cases h:bs.length=32
 ·left
  have h1:=Qn8 (QaO bs) 0 (by rw[Qbv];omega)
  rw[QD8]at h1
  have h2:(QaO bs).getD 0 0=bs.getD 0 0 &&& 248:=by
   rw[QaO,if_pos h,QCK,QD1 (by omega),QEz (by omega)]
   rfl
  have h3:=(QhE ⟨(bs.getD 0 0).toNat,(bs.getD 0 0).toNat_lt⟩).1
  simp only at h3
  rw[h1,h2,UInt8.toNat_and,show QEY 248=248 from rfl,h3]
  omega
 ·exact .inr h
theorem Qq5 (bs:List UInt8) (h:bs.length=32):2^254≤num (QaO bs)∧num (QaO bs)<2^255:=by
 have h1:=QkA (QaO bs) 31 (by rw[Qbv];omega)
 rw[QCT (by rw[Qbv];omega)]at h1
 have h2:(QaO bs).getD 31 0=(bs.getD 31 0 &&& 127) ||| 64:=by
  rw[QaO,if_pos h,QCK,QEz (by simp;omega)]
  rfl
 have h3:=(QhE ⟨(bs.getD 31 0).toNat,(bs.getD 31 0).toNat_lt⟩).2
 simp only at h3
 have h4:((QaO bs).getD 31 0).toNat=(bs.getD 31 0).toNat%64+64:=by
  rw[h2,UInt8.toNat_or,UInt8.toNat_and,show QEY 127=127 from rfl,show QEY 64=64 from rfl,h3]
 have h5:=Qmt ((QaO bs).take 31)
 rw[QC5,Qbv]at h5
 rw[h4]at h1
 have e:(256:Nat)^31*64=2^254:=by decide
 have e2:(256:Nat)^31*128=2^255:=by decide
 have h6:(256:Nat)^31*64≤256^31*((bs.getD 31 0).toNat%64+64):=QEe _ (by omega)
 have h7:(256:Nat)^31*((bs.getD 31 0).toNat%64+64)+256^31≤256^31*128:=by
  have hy:(bs.getD 31 0).toNat%64+64+1≤128:=by omega
  generalize (bs.getD 31 0).toNat%64+64=y at hy
  have:=QEe (256^31) hy
  rw[QDR,QEq]at this
  exact this
 rw[QDG (by omega)]at h5
 omega
def ellN:Nat:=7237005577332262213973186563042994240857116359379907606001950938285454250989
def Kl:List UInt8:=[237,211,245,92,26,99,18,88,214,156,247,162,222,249,222,20,0,0,0,0,0,0,0,0,0,0,0,0,0,0,0,16]
theorem Qy6:kval Kl 255=ellN:=by decide +kernel
set_option maxRecDepth 100000 in
theorem ord9:(Lad.at 9 Kl 255).z2=0:=by decide +kernel
theorem QzY {x y d:Fp} (h:x=0) (on:x*x+y*y=1+d*x*x*y*y):y*y=1:=by grobner
theorem QBM {x y d:Fp} (h:x=0):d*x*x*y*y=0:=by grobner
theorem QyU {x y t:Fp} (h:x=0):x*y+x*y=0*t:=by grobner
theorem QAd {x y:Fp} (h:x=0) (hy:y*y=1):y*y-x*x=1:=by grobner
section
variable {δ:Fp} (hδ:Qgn δ)
include hδ in
theorem QxK {Q:Pt δ} (h:1-Q.y=0):Q=Pt.zero:=by
 have on:=Q.on
 have hy:Q.y=1:=by clear on;grobner
 have:Q.x*Q.x*(1-δ)=0:=by clear h;grobner
 have hx:Q.x=0:=by
  rcases Qdm this with h1|h1
  ·exact (Qdm h1).elim id id
  ·exact absurd h1 (QhY hδ)
 exact Pt.ext hx hy
theorem Qu4 {Q:Pt δ} (h:Q.x=0):Q.add hδ Q=Pt.zero:=by
 have hy:Q.y*Q.y=1:=QzY h Q.on
 have ht:tt Q Q=0:=QBM h
 apply Pt.ext
 ·apply QeT (Qgi hδ Q Q)
  rw[QiZ]
  exact QyU h
 ·apply QeT (Qf2 hδ Q Q)
  rw[Qga,ht]
  exact (QAd h hy).trans (show (1:Fp)=1*(1-0) by decide)
theorem zero_mul (n:Nat):(Pt.zero:Pt δ).mul hδ n=Pt.zero:=by
 induction n with
 | zero=>rfl
 | succ n ih=>show ((Pt.zero:Pt δ).mul hδ n).add hδ Pt.zero=Pt.zero;rw[ih,QgF]
structure Ell (L:Nat):Prop where
 kl:kval Kl 255=L
 inv:∀n,n%L≠0→∃m,n*m%L=1
 dbl:∀n,n%L≠0→(n+n)%L≠0
 one:1%L≠0
 clamp:∀bs:List UInt8,bs.length=32→kval (QaO bs) 255%L≠0
theorem QwP {L:Nat} (hL:Ell L) {s:Fp} {G:Pt δ} (hp:Par s δ) (hx:toF 9*(1-G.y)=s*(1+G.y)) (hy:1+G.y≠0):G.mul hδ L=Pt.zero:=by
 have h:=(QqM hδ hp hx hy Kl 255).1
 rw[hL.kl]at h
 obtain⟨k,hk,_,hZ⟩:=h
 rw[ord9,Qgv]at hZ
 have hs:=Qhg hp
 have hsn:s≠0:=by rintro rfl;revert hs;decide
 rcases Qdm hZ.symm with h1|h1
 ·exact absurd h1 (QaZ hk hsn)
 ·exact QxK hδ h1
theorem Qln {L:Nat} (hL:Ell L) {s:Fp} {G:Pt δ} (hp:Par s δ) (hx:toF 9*(1-G.y)=s*(1+G.y)) (hy:1+G.y≠0) {n:Nat} (hn:n%L≠0):(G.mul hδ n).x≠0:=by
 intro h0
 have h1:=Qu4 hδ h0
 rw[←QdV]at h1
 obtain⟨m,hm⟩:=hL.inv _ (hL.dbl n hn)
 have h3:G.mul hδ ((n+n)*m)=Pt.zero:=by rw[Qgs,h1,zero_mul]
 have h4:(n+n)*m=L*((n+n)*m/L)+1:=by
  have:=QDx ((n+n)*m) L
  omega
 rw[h4,QdV,Qgs,QwP hδ hL hp hx hy,zero_mul,Qmi,QhM]at h3
 have hs:=Qhg hp
 rw[h3]at hx hy
 have h5:s*2=0:=by
  have:toF 9*(1-1)=s*(1+1):=hx
  clear hx hy hs hp h0 h1
  grobner
 rcases Qdm h5 with h6|h6
 ·subst h6
  revert hs
  decide
 ·exact Qjn h6
end
theorem QpH {p n:Nat} (h:∀a,a%p≠0→a^(p-1)%p=1) (hp:2≤p) (hn:n%p≠0):∃m,n*m%p=1:=by
 refine⟨n^(p-2),?_⟩
 rw[←QEv,show (p-2).succ=p-1 by omega]
 exact h n hn
theorem QuQ (a:Nat) (h:a%ellN≠0):a^(ellN-1)%ellN=1:=by
 have:=QBx.2 a (by unfold ellN at h;exact h)
 unfold ellN
 exact this
theorem QmG {n:Nat} (hn:n%ellN≠0):∃m,n*m%ellN=1:=QpH (p:=ellN) QuQ (by unfold ellN;omega) hn
theorem Qtf (bs:List UInt8) (h:bs.length=32):kval (QaO bs) 255%ellN≠0:=by
 rw[Qus _ (Qbv bs)]
 have h1:=Qq5 bs h
 have h2:=(QqY bs).resolve_right (fun e=>e h)
 rw[QC1 h1.2]
 intro h0
 obtain⟨m,hm⟩:∃m,num (QaO bs)=8*m:=⟨num (QaO bs)/8,by omega⟩
 rw[hm]at h0 h1
 have h3:m<ellN:=by unfold ellN;omega
 have h4:m%ellN≠0:=by rw[QC1 h3];omega
 obtain⟨r,hr⟩:=QmG h4
 have h5:(8*m)*r%ellN=0:=by rw[QDY,h0,QER,QEJ]
 rw[QDQ,QDY,hr]at h5
 revert h5
 decide
theorem QwE (n:Nat) (h:n%ellN≠0):(n+n)%ellN≠0:=by
 intro h0
 obtain⟨r,hr⟩:=QmG (n:=2) (by decide)
 have h1:n*(2*r)%ellN=0:=by rw[←QDQ,Nat.mul_two,QDY,h0,QER,QEJ]
 rw[QDY,hr,QEq,QD4]at h1
 exact h h1
theorem ell:∃L,Ell L:=
 ⟨ellN,Qy6,fun _ h=>QmG h,QwE,by decide,Qtf⟩
theorem Ell.prod {L n m:Nat} (hL:Ell L) (hn:n%L≠0) (hm:m%L≠0):n*m%L≠0:=by
 intro h0
 obtain⟨r,hr⟩:=hL.inv n hn
 have h1:n*r*m%L=0:=by rw[show n*r*m=n*m*r by rw[QDQ,QDz r m,QDQ],QDY,h0,QER,QEJ]
 rw[QDY,hr,Nat.one_mul,QD4]at h1
 exact hm h1
def From9 (q:Nat):Prop:=q<P25∧∃(L:Nat) (_:Ell L) (s δ:Fp) (hδ:Qgn δ) (_:Par s δ) (G:Pt δ) (n:Nat),toF 9*(1-G.y)=s*(1+G.y)∧1+G.y≠0∧n%L≠0∧toF q=(G.mul hδ n).u s
theorem from9_ne {q:Nat} (h:From9 q):q≠0:=by
 obtain⟨_,L,hL,s,δ,hδ,hp,G,n,hx,hy,hn,he⟩:=h
 rintro rfl
 exact Qln hδ hL hp hx hy hn ((Qtj hδ hp).1 he.symm)
theorem from9_nine:From9 9:=by
 obtain⟨s,δ,hδ,hp,G,hx,hy⟩:=Qmn (u:=toF 9) (by decide)
 obtain⟨L,hL⟩:=ell
 refine⟨by decide,L,hL,s,δ,hδ,hp,G,1,hx,hy,hL.one,?_⟩
 rw[QhM]
 have h1:1-G.y≠0:=by
  intro h0
  have hs:=Qhg hp
  have hsn:s≠0:=by rintro rfl;revert hs;decide
  rw[h0]at hx
  have:s*(1+G.y)=0:=by rw[←hx];clear hx hs hp hy;grobner
  exact QaZ hsn hy this
 unfold Pt.u
 rw[if_neg h1,←hx]
 have:=QaR h1
 clear hx hy hp h1
 grobner
theorem from9_step {q:Nat} (h:From9 q) (ks:List UInt8) (hk:ks.length=32):From9 (multN q (QaO ks)):=by
 have hne:=from9_ne h
 obtain⟨hq,L,hL,s,δ,hδ,hp,G,n,hx,hy,hn,he⟩:=h
 have h0:toF q≠0:=fun h=>hne (Qr3 hq h)
 rw[he]at h0
 obtain⟨b1,b2⟩:=QvI hp h0
 refine⟨QhG _ _,L,hL,s,δ,hδ,hp,G,n*kval (QaO ks) 255,hx,hy,hL.prod hn (hL.clamp ks hk),?_⟩
 rw[Qgs]
 exact QnP hδ hp (by rw[he];exact b1) b2 (QaO ks)
end Ed
end Go.Proofs.YtdhgpkdjdmlphaaGreat
namespace Go.Proofs.YtdhgpkdjdmlphaaGreat
open Go.RowKit
theorem Qvv (ks:List UInt8) (q:Nat) (h:q<P25):Qi6 ks (nb q)=Ed.multN q (QaO ks):=by
 rw[Qi6,Qom q h]
 rfl
theorem QfB (ks:List UInt8) (q:Nat) (hk:ks.length=32) (h:q<P25):Qbj ks (nb q)=nb (Ed.multN q (QaO ks))∧Qa2 ks (nb q)=if Ed.multN q (QaO ks)=0 then 5 else 0:=by
 unfold Qbj Qa2
 rw[Qvv ks q h,if_pos ⟨hk,QbR q⟩,if_pos ⟨hk,QbR q⟩]
 exact⟨rfl,rfl⟩
theorem Qwo:9<P25:=by decide
theorem QyO (ks:List UInt8) (hk:ks.length=32):Qa2 ks (nb 9)=0:=by
 rw[(QfB ks 9 hk Qwo).2,if_neg (Ed.from9_ne (Ed.from9_step Ed.from9_nine ks hk))]
section
variable {w wk v:World} {ls ls':List (Nat×TypeId×List Value)}
theorem Bag.fresh (h:Bag w wk ls) {k:Nat} {t:TypeId} {l:List Value} (j:Later wk v) (hk:wk.heap.size≤k) (hb:Blk v k t l):Bag w v ((k,t,l) :: ls):=
 h.add j (fun p hp e=>by have:=(h.blk p hp).lt;omega) (QDk h.lat.size hk) hb
theorem Bag.sub (h:Bag w wk ls) (hs:ls'.Sublist ls):Bag w wk ls':=
 ⟨h.lat,fun p hp=>h.blk p (hs.subset hp),fun p hp=>h.low p (hs.subset hp),(hs.map _).nodup h.nd⟩
end
theorem Qfr {w:World} {g n:Nat} {t:TypeId} {bs:List UInt8} {rest:List Value} (h:Blk w g t (bs.map W8++rest)) (hn:bs.length=n):RdB w (some ⟨g,0,none⟩) n bs:=
 ⟨by rw[QCG,hn],fun _=>⟨g,0,rfl,h.lt,fun j u hu=>by
   rw[QC6]
   refine h.cellD j ?_
   rw[QC0 (QCX.1 hu).1]
   exact hu⟩⟩
theorem QgN {w:World} {g:Nat} {t:TypeId} {v:Value} {p:List UInt8} (hb:Blk w g t [v]) (hp:Part w (fun _=>False) v p):Parts w (fun _=>False) (some ⟨g,0,none⟩) 1 [p]:=
 ⟨[v],hb.rd rfl,QbO _ _,rfl,fun j v' p' hv hp'=>by
   cases j with
   | zero=>
     cases hv
     cases hp'
     exact hp
   | succ j=>simp at hv⟩
theorem Qer {w:World} {g:Nat} {t:TypeId} {v1 v2:Value} {p1 p2:List UInt8} (hb:Blk w g t [v1,v2]) (h1:Part w (fun _=>False) v1 p1) (h2:Part w (fun _=>False) v2 p2):Parts w (fun _=>False) (some ⟨g,0,none⟩) 2 [p1,p2]:=
 ⟨[v1,v2],hb.rd rfl,QbO _ _,rfl,fun j v' p' hv hp'=>by
   match j with
   | 0=>
     cases hv
     cases hp'
     exact h1
   | 1=>
     cases hv
     cases hp'
     exact h2
   | j+2=>simp at hv⟩
theorem Qj8 {w:World} {base n c:Nat} {A:Option Addr} {bs:List UInt8} (h:OwnB w base A n c bs) (hn:0<n):∃g rest,A=some ⟨g,0,none⟩∧base≤g∧Blk w g 5 (bs.map W8++rest)∧c=(bs.map W8++rest).length∧n≤c:=by
 rcases QqZ h with ⟨_,h0⟩|⟨g,rest,e,h1,h2,h3⟩
 ·omega
 ·exact⟨g,rest,e,h1,h2,h3,h.cap⟩
theorem QaX {w:World} {A:Option Addr} {n c:Nat} {p:List UInt8} (h:RdB w A n p) (hc:n≤c):Part w (fun _=>False) (.slice A n c) p:=⟨A,n,c,rfl,hc,h,fun _ _ _ h=>h⟩
end Go.Proofs.YtdhgpkdjdmlphaaGreat
namespace Go.Proofs.YtdhgpkdjdmlphaaGreat
open Go.RowKit
open Go.BigFrame
section
variable {ops:Array Oper} {rest:List Oper} {o:Oper} {a:Act} {w:World} {Q:Exit→Act→World→Prop}
end
end Go.Proofs.YtdhgpkdjdmlphaaGreat
