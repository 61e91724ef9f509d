/-
  Lemmas for the last text of this claim (part 11 of 20).
-/
import Derived.ArgAppend
import Derived.BigQuiet
import Derived.BigRegion
import Derived.ChangeOld
import Derived.Deep.RegionWith
import Derived.DeepKeys4
import Derived.JoinedCond
import Derived.LaidMore
import Derived.Laws.BytesArg
import Derived.Laws.CopyOwn
import Derived.Laws.Externs
import Derived.Laws.IdiomStrings
import Derived.Laws.Tables
import Derived.Lib.AppendStr
import Derived.Lib.AppendZerosOnto
import Derived.Lib.Mul64
import Derived.Lib.SlBytesConst
import Derived.LoopN
import Derived.Maps.OwnSet
import Derived.OpenShut
import Derived.OrdersHeld
import Derived.ProofKit
import Derived.Shelf.Spec.BitsCarry
import Derived.ShutString
import Derived.Test.YtdhgpkdjdmlphaaGreatProg
import Derived.Test.YtdhgpkdjdmlphaaGreatRows
import Derived.WalkKit
import Derived.WalkLawsBesides
import Derived.WalkSpells
import Derived.Test.YtdhgpkdjdmlphaaGreatQA
import Derived.Test.YtdhgpkdjdmlphaaGreatQB
import Derived.Test.YtdhgpkdjdmlphaaGreatQC
import Derived.Test.YtdhgpkdjdmlphaaGreatQF
import Derived.Test.YtdhgpkdjdmlphaaGreatQH
import Derived.Test.YtdhgpkdjdmlphaaGreatQI
import Derived.Test.YtdhgpkdjdmlphaaGreatQJ
open List renaming replicate → QCA, length_map → QCE, getElem?_eq_getElem → QCH, getD_eq_getElem?_getD → QCI, length_replicate → QCM, take_of_length_le → QCP, getElem?_eq_some_iff → QCT, getElem?_append_left → QCU, map_toArray → QCW, mem_cons → QCX, not_mem_nil → QCY, length_take → QC1, map_nil → QC2, map_cons → QC7, map_append → QDh, all_eq_true → QDm, range → QDq, mem_map → QDt, drop_of_length_le → QDL, getElem?_set_ne → QDV, getElem_mem → QD2, mem_append → QD8, drop_zero → QEb, getElem?_set_self → QEk, drop_eq_getElem_cons → QEp
open Nat renaming le_refl → QCL, mod_eq_of_lt → QCZ, mod_lt → QC4, zero_add → QC6, le_trans → QDl, div_div_eq_div_mul → QDp, min_eq_left → QDv, div_add_mod → QDw, mul_comm → QDE, pow_succ → QDF, mul_add → QDM, mul_assoc → QDS, mul_mod → QDT, pow_add → QDX, mod_mod → QDZ, mul_le_mul_left → QEa, mul_one → QEs, pow_succ' → QEx, add_comm → QEE, zero_mod → QEG, zero_mul → QEO, pow_zero → QEQ, add_mod → QES
open UInt8 renaming toNat_inj → QDD, lt_iff_toNat_lt → QEu, toNat → QEV
set_option linter.all false
namespace Go.Proofs.YtdhgpkdjdmlphaaGreat
open Go.RowKit
open Go.BigFrame
theorem of_9 (w:World):Calls Tryz.prog 93 #[.int .u64 9] w fun e w'=>e= .returned (E 9)∧Later w w':=Qtn 9 (by decide) w
theorem Qy4 (w:World):Calls Tryz.prog 92 #[E 9] w fun e w'=>e= .returned (.agg ((nb 9).map W8).toArray)∧Later w w':=by
 have:=Qi4 9 (by decide) w
 rwa [show 9%P25=9 by decide,BB]at this
theorem Qpm (w:World):Calls Tryz.prog 102 #[NN 9] w fun e w'=>e= .returned (.agg ((nb 9).map W8).toArray)∧Later w w':=by
 have:=Qmy 9 (by decide) w
 rwa [show 9%P25=9 by decide,BB]at this
theorem QtW:Program.built Tryz.prog 225 [(0,Value.int .u32 9)]=some (NL 9).toArray:=by kernel_rfl
set_option maxRecDepth 100000 in
set_option maxHeartbeats 2000000 in
theorem Qqd (A:Option Addr) (n c:Nat) (ks:List UInt8) (w:World) (hk:RdB w A n ks) (hn:n≤140737488355328):
 Calls Tryz.prog 56 #[.slice A n c] w fun e w'=>e= .returned (.tuple #[.agg ((Qbg ks (nb 9)).map W8).toArray,.int .i64 (QaX ks (nb 9):Nat)])∧Later w w':=by
 have B0:=Qbr w 30 (QCA 32 (Value.int .u8 0))
 have cM:=hid (fun (w:World) g d h1 h2=>QhH A (some ⟨g,0,none⟩) n c 32 d ks (nb 9) w h1 h2 hn (by omega))
 have hml:=QaP ks (nb 9)
 have h9:=QbR 9
 have cB:=hid Qy4
 generalize Qbg ks (nb 9)=M at *
 generalize QaX ks (nb 9)=e9 at *
 generalize nb 9=N9 at *
 go_enter Tryz.func56,Tryz.ntmps56
 go_wp2_with fail
 generalize hW:w.alloc _=w0
 replace B0:Bag w w0 [(w.heap.size,30,QCA 32 (Value.int .u8 0))]:=by rw[←hW];exact Qbr w 30 (QCA 32 (Value.int .u8 0))
 clear hW
 (with_reducible refine (of_9 _).mono ?_);rintro e w1 ⟨rfl,hl1⟩
 go_wp2_with (first
  | (go_at_call 92;(with_reducible refine (cB.out _).mono ?_);rintro e w2 ⟨rfl,hl2⟩)
  | (refine QaJ rfl rfl _ _ rfl (Blk.new w2 _ (QCA 32 (.int .u8 0))) rfl rfl h9 rfl ?_;intro w3 hb3 ho3)
  | fail)
 have B1:=B0.push ((hl1.trans hl2).trans (Qaa w2 _)) (hl1.trans hl2).size ho3 hb3
 (with_reducible refine (cM.out _ _ _ (hk.later B1.lat) (Qb8 (B1.nth 0 rfl) h9)).mono ?_);rintro e w4 ⟨rfl,hl4⟩
 go_wp2_with (first
  | (refine QaJ rfl rfl _ _ rfl ((B1.later hl4).nth 1 rfl) rfl rfl hml rfl ?_;intro w5 hb5 ho5)
  | fail)
 exact bodyPost_ret (Qag rfl _ _ _ _ _ _ hb5 rfl Tryz.underlying30 rfl (by rw[QCE,hml];exact Qbd)) rfl ⟨rfl,((B1.later hl4).write 1 rfl ho5 hb5).lat⟩
set_option maxRecDepth 100000 in
set_option maxHeartbeats 2000000 in
theorem Qp1 (A:Option Addr) (n c:Nat) (ks:List UInt8) (w:World) (hk:RdB w A n ks) (hn:n≤140737488355328):
 Calls Tryz.prog 67 #[.slice A n c] w fun e w'=>e= .returned (.tuple #[.agg ((Qbg ks (nb 9)).map W8).toArray,.int .i64 (QaX ks (nb 9):Nat)])∧Later w w':=by
 have B0:=Qbr w 30 (QCA 32 (Value.int .u8 0))
 have cM:=hid (fun (w:World) g d h1 h2=>Qow A (some ⟨g,0,none⟩) n c 32 d ks (nb 9) w h1 h2 hn (by omega))
 have hml:=QaP ks (nb 9)
 have h9:=QbR 9
 have cB:=hid Qpm
 generalize Qbg ks (nb 9)=M at *
 generalize QaX ks (nb 9)=e9 at *
 generalize nb 9=N9 at *
 go_enter Tryz.func67,Tryz.ntmps67
 go_wp2_with (first
  | (refine Qak rfl 225 _ rfl (NL 9) ?hb ?_;(case hb=>simp only[QCW,QC7,QC2];exact QtW))
  | fail)
 generalize hW:w.alloc _=w0
 replace B0:Bag w w0 [(w.heap.size,30,QCA 32 (Value.int .u8 0))]:=by rw[←hW];exact Qbr w 30 (QCA 32 (Value.int .u8 0))
 clear hW
 (with_reducible refine (cB.out _).mono ?_);rintro e w2 ⟨rfl,hl2⟩
 go_wp2_with (first
  | (refine QaJ rfl rfl _ _ rfl (Blk.new w2 _ (QCA 32 (.int .u8 0))) rfl rfl h9 rfl ?_;intro w3 hb3 ho3)
  | fail)
 have B1:=B0.push (hl2.trans (Qaa w2 _)) hl2.size ho3 hb3
 (with_reducible refine (cM.out _ _ _ (hk.later B1.lat) (Qb8 (B1.nth 0 rfl) h9)).mono ?_);rintro e w4 ⟨rfl,hl4⟩
 go_wp2_with (first
  | (refine QaJ rfl rfl _ _ rfl ((B1.later hl4).nth 1 rfl) rfl rfl hml rfl ?_;intro w5 hb5 ho5)
  | fail)
 exact bodyPost_ret (Qag rfl _ _ _ _ _ _ hb5 rfl Tryz.underlying30 rfl (by rw[QCE,hml];exact Qbd)) rfl ⟨rfl,((B1.later hl4).write 1 rfl ho5 hb5).lat⟩
def Qee:List (List UInt8)→List UInt8→List UInt8×Nat
 | [],at_=>(at_,0)
 | k :: ks,at_=>if QaX k at_=0 then Qee ks (Qbg k at_) else (QCA 32 0,QaX k at_)
def Qcy (us:List UInt8) (ps:List (List UInt8)):List UInt8×Nat:=
 if us.length=32∧∀p∈ps,p.length=32 then Qee ps (nb (Qcv us)) else (QCA 32 0,2)
theorem QfU:∀(ps:List (List UInt8)) (at_:List UInt8),at_.length=32→(Qee ps at_).1.length=32
 | [],_,h=>h
 | k :: ks,at_,_=>by
   unfold Qee
   split
   ·exact QfU ks _ (QaP _ _)
   ·simp
theorem QkJ (us:List UInt8) (ps:List (List UInt8)):(Qcy us ps).1.length=32:=by
 unfold Qcy
 split
 ·exact QfU _ _ (QbR _)
 ·simp
theorem Qxh (us:List UInt8):Qcv us<P25:=by
 unfold Qcv
 split
 ·exact QC4 _ Qbi
 ·exact Qbi
theorem Qtc (ps:List (List UInt8)) (k:Nat) (h:k<ps.length):ps.drop k=ps.getD k [] :: ps.drop (k+1):=by
 rw[QEp h,QCI,QCH h]
 rfl
theorem QoJ (ps:List (List UInt8)) (h:∀j,j<ps.length→(ps.getD j []).length=32):∀p∈ps,p.length=32:=by
 intro p hp
 obtain⟨j,hj,e⟩:=List.getElem_of_mem hp
 have:=h j hj
 rw[QCI,QCH hj]at this
 rw[←e]
 exact this
theorem Qql (us:List UInt8) (ps:List (List UInt8)) (k:Nat) (h:k<ps.length) (hk:(ps.getD k []).length≠32):Qcy us ps=(QCA 32 0,2):=by
 rw[Qcy,if_neg]
 rintro⟨_,ha⟩
 apply hk
 rw[QCI,QCH h]
 exact ha _ (QD2 h)
set_option maxRecDepth 100000 in
set_option maxHeartbeats 4000000 in
theorem QqP (A B:Option Addr) (n c m d:Nat) (us:List UInt8) (ps:List (List UInt8)) (w:World) (hu:RdB w A n us) (hp:Parts w (fun _=>False) B m ps) (hn:n≤140737488355328) (hm:m≤140737488355328):
 Calls Tryz.prog 57 #[.slice A n c,.slice B m d] w fun e w'=>e= .returned (.tuple #[.agg ((Qcy us ps).1.map W8).toArray,.int .i64 ((Qcy us ps).2:Nat)])∧Later w w':=by
 have hul:=hu.len
 have hpl:=hp.len
 have B0:=Qbr w 30 (QCA 32 (Value.int .u8 0))
 have cU:=hid (fun w h=>Qo4 A n c us w h hn)
 by_cases hn32:n=32
 ·subst hn32
  have eU:QbW us=0:=by rw[QbW,if_pos (by omega)]
  rw[eU]at cU
  have cB:Hid (∀ w,Calls Tryz.prog 92 #[E (Qcv us)] w fun e w'=>e= .returned (.agg ((nb (Qcv us)).map W8).toArray)∧Later w w'):=hid (by
   intro w
   have:=Qi4 (Qcv us) (QnI us) w
   rwa [QCZ (Qxh us),BB]at this)
  have hR:=hid (fun (h:∀p∈ps,p.length=32)=>show Qcy us ps=Qee ps (nb (Qcv us)) by rw[Qcy,if_pos ⟨hul,h⟩])
  have hbad:=hid (fun k h hk=>Qql us ps k h hk)
  generalize hCR:Qcy us ps=CR at *
  generalize Qcv us=x1 at *
  go_enter Tryz.func57,Tryz.ntmps57
  go_wp2_with fail
  generalize hW:w.alloc _=w0
  replace B0:Bag w w0 [(w.heap.size,30,QCA 32 (Value.int .u8 0))]:=by rw[←hW];exact Qbr w 30 (QCA 32 (Value.int .u8 0))
  clear hW
  (with_reducible refine (cU.out _ (hu.later B0.lat)).mono ?_);rintro e w1 ⟨rfl,j1⟩
  go_wp2_with (first
   | (refine QaH rfl rfl _ _ rfl (Blk.new w1 _ (QCA 4 (.int .u64 0))) rfl rfl rfl ?_;intro w2 hb2 ho2)
   | fail)
  have B1:=B0.push (j1.trans (Qaa w1 _)) j1.size ho2 hb2
  clear j1 hb2 ho2 B0 cU hCR
  generalize w1.heap.size=g6 at *
  go_loopw [24] (fun i wr=>∃k:Nat,k≤m∧i= .int .i64 k∧Hid (∀ j,j<k→(ps.getD j []).length=32)∧Bag w wr [(g6,211,EL x1),(w.heap.size,30,QCA 32 (Value.int .u8 0))]) (fun i _=>m-(intOf i).toNat)
  case atStart=>exact⟨0,by omega,rfl,hid (fun j h=>by omega),B1⟩
  case round=>
   clear B1
   obtain⟨k,hk,rfl,hall,B1⟩:=hrel
   by_cases hlt:k<m
   ·obtain⟨b,o,Ak,nk,ck,rfl,hb,hck,hcap,hrd,_⟩:=(hp.later B1.lat).at_ hlt
    have hlen:=hrd.len
    have hb2:=hid (fun h=>hbad.out k (by omega) h)
    rw[hlen]at hb2
    have hstep:Hid (nk=32→∀j,j<k+1→(ps.getD j []).length=32):=hid (fun h j hj=>by
     by_cases e:j=k
     ·rw[e,hlen,h]
     ·exact hall.out j (by omega))
    clear hrd hlen
    by_cases h32:nk=32
    ·have hne:((nk:Int) != 32)=false:=by simp;omega
     go_wp2_with fail
     go_roundw
     case rel=>exact⟨k+1,by omega,by go_num,hid (hstep.out h32),B1⟩
     case measure=>simp[intOf];omega
    ·have hne:((nk:Int) != 32)=true:=by simp;omega
     go_wp2_with (first
      | (refine Qak rfl 30 _ rfl (QCA 32 (W8 0)) ?hb ?_;(case hb=>kernel_rfl))
      | (refine QaJ (bs:=QCA 32 0) rfl rfl _ _ rfl (B1.nth 1 rfl) rfl (by kernel_rfl) rfl rfl ?_;intro w9 hb9 ho9)
      | fail)
     exact bodyPost_ret (Qag rfl _ _ _ _ _ _ hb9 rfl Tryz.underlying30 rfl (by rw[QCE,QCM];exact Qbd)) rfl ⟨by rw[hb2.out h32];rfl,(B1.write 1 rfl ho9 hb9).lat⟩
   ·have hall':=hid (QoJ ps (fun j hj=>hall.out j (by omega)))
    have hCR:=hR.out hall'.out
    have hnl:=QbR x1
    have HC:=hid hCR
    clear hCR hR hbad hall
    generalize nb x1=N0 at *
    go_wp2_with (first
     | (refine Qbv rfl _ rfl (B1.nth 0 rfl) rfl ?_)
     | (go_at_call 92;(with_reducible refine (cB.out _).mono ?_);rintro e w3 ⟨rfl,j3⟩)
     | (refine QaJ rfl rfl _ _ rfl (Blk.new w3 _ (QCA 32 (.int .u8 0))) rfl rfl hnl rfl ?_;intro w4 hb4 ho4)
     | fail)
    have B2:=B1.push (j3.trans (Qaa w3 _)) j3.size ho4 hb4
    clear j3 hb4 ho4 B1 cB
    generalize w3.heap.size=g10 at *
    go_loopw [37] (fun i wr=>∃(k:Nat) (at_:List UInt8),k≤m∧i= .int .i64 k∧at_.length=32∧Hid (CR=Qee (ps.drop k) at_)∧Bag w wr [(g10,30,at_.map W8),(g6,211,EL x1),(w.heap.size,30,QCA 32 (Value.int .u8 0))]) (fun i _=>m-(intOf i).toNat)
    case atStart=>exact⟨0,N0,by omega,rfl,hnl,hid (by rw[QEb];exact HC.out),B2⟩
    case round=>
     clear B2
     obtain⟨k,at_,hk,rfl,hal,hch,B2⟩:=hrel
     by_cases hlt:k<m
     ·obtain⟨b,o,Ak,nk,ck,rfl,hb,hck,hcap,hrd,_⟩:=(hp.later B2.lat).at_ hlt
      have hd:=Qtc ps k (by omega)
      have hlen:=hrd.len
      have hl32:(ps.getD k []).length=32:=by
       rw[QCI,QCH (by omega)]
       exact hall'.out _ (QD2 _)
      have hch':=hch.out
      rw[hd,Qee]at hch'
      have HCH:=hid hch'
      clear hch hch' hd
      generalize ps.getD k []=p at *
      obtain rfl:nk=32:=by omega
      have cM:=hid (QhH Ak (some ⟨g10,0,none⟩) 32 ck 32 32 p at_ wr hrd (Qb8 (B2.nth 0 rfl) hal) (by omega) (by omega))
      have hml:=QaP p at_
      generalize Qbg p at_=M at *
      by_cases he:QaX p at_=0
      ·have HE:=HCH.out
       rw[if_pos he]at HE
       replace HE:=hid HE
       rw[he]at cM
       clear HCH he
       go_wp2_with fail
       (with_reducible refine cM.out.mono ?_);rintro e w5 ⟨rfl,j5⟩
       go_wp2_with (first
        | (refine QaJ rfl rfl _ _ rfl ((B2.later j5).nth 0 rfl) rfl rfl hml (by rw[QCE,hal]) ?_;intro w6 hb6 ho6)
        | fail)
       go_roundw
       case rel=>exact⟨k+1,M,by omega,by go_num,hml,HE,(B2.later j5).write 0 rfl ho6 hb6⟩
       case measure=>simp[intOf];omega
      ·have HE:=HCH.out
       rw[if_neg he]at HE
       replace HE:=hid HE
       generalize QaX p at_=e5 at *
       have hne:((e5:Int) != 0)=true:=by simp;omega
       clear HCH
       go_wp2_with fail
       (with_reducible refine cM.out.mono ?_);rintro e w5 ⟨rfl,j5⟩
       go_wp2_with (first
        | (refine QaJ rfl rfl _ _ rfl ((B2.later j5).nth 0 rfl) rfl rfl hml (by rw[QCE,hal]) ?_;intro w6 hb6 ho6
           have B3:=(B2.later j5).write 0 rfl ho6 hb6)
        | (refine Qak rfl 30 _ rfl (QCA 32 (W8 0)) ?hb ?_;(case hb=>kernel_rfl))
        | (refine QaJ (bs:=QCA 32 0) rfl rfl _ _ rfl (B3.nth 2 rfl) rfl (by kernel_rfl) rfl rfl ?_;intro w9 hb9 ho9)
        | fail)
       exact bodyPost_ret (Qag rfl _ _ _ _ _ _ hb9 rfl Tryz.underlying30 rfl (by rw[QCE,QCM];exact Qbd)) rfl ⟨by rw[HE.out];rfl,(B3.write 2 rfl ho9 hb9).lat⟩
     ·have hd:ps.drop k=[]:=QDL (by omega)
      have hch':=hch.out
      rw[hd,Qee]at hch'
      have HE:=hid hch'
      clear hch' hch hd
      go_wp2_with (first
       | (refine Qeo rfl _ rfl (B2.nth 0 rfl) hal rfl ?_)
       | (refine QaJ rfl rfl _ _ rfl (B2.nth 2 rfl) rfl rfl hal rfl ?_;intro w9 hb9 ho9)
       | fail)
      exact bodyPost_ret (Qag rfl _ _ _ _ _ _ hb9 rfl Tryz.underlying30 rfl (by rw[QCE,hal];exact Qbd)) rfl ⟨by rw[HE.out];rfl,(B2.write 2 rfl ho9 hb9).lat⟩
 ·have eU:QbW us=2:=by rw[QbW,if_neg (by omega)]
  rw[eU]at cU
  have hR:=hid (show Qcy us ps=(QCA 32 0,2) by rw[Qcy,if_neg (by rintro⟨h,_⟩;omega)])
  generalize Qcy us ps=CR at *
  generalize Qcv us=x1 at *
  go_enter Tryz.func57,Tryz.ntmps57
  go_wp2_with fail
  generalize hW:w.alloc _=w0
  replace B0:Bag w w0 [(w.heap.size,30,QCA 32 (Value.int .u8 0))]:=by rw[←hW];exact Qbr w 30 (QCA 32 (Value.int .u8 0))
  clear hW
  (with_reducible refine (cU.out _ (hu.later B0.lat)).mono ?_);rintro e w1 ⟨rfl,j1⟩
  go_wp2_with (first
   | (refine QaH rfl rfl _ _ rfl (Blk.new w1 _ (QCA 4 (.int .u64 0))) rfl rfl rfl ?_;intro w2 hb2 ho2
      have B1:=B0.push (j1.trans (Qaa w1 _)) j1.size ho2 hb2)
   | (refine Qak rfl 30 _ rfl (QCA 32 (W8 0)) ?hb ?_;(case hb=>kernel_rfl))
   | (refine QaJ (bs:=QCA 32 0) rfl rfl _ _ rfl (B1.nth 1 rfl) rfl (by kernel_rfl) rfl rfl ?_;intro w9 hb9 ho9)
   | fail)
  exact bodyPost_ret (Qag rfl _ _ _ _ _ _ hb9 rfl Tryz.underlying30 rfl (by rw[QCE,QCM];exact Qbd)) rfl ⟨by rw[hR.out];rfl,(B1.write 1 rfl ho9 hb9).lat⟩
end Go.Proofs.YtdhgpkdjdmlphaaGreat
namespace Go.Proofs.YtdhgpkdjdmlphaaGreat
namespace Ed
instance neP:NeZero P25:=⟨by decide⟩
abbrev Fp:=Fin P25
def toF (n:Nat):Fp:=Fin.ofNat P25 n
theorem Qca (n:Nat):(toF n).val=n%P25:=rfl
theorem Qs4 (a:Fp):toF a.val=a:=Fin.ext (QCZ a.isLt)
theorem Qkd (n:Nat):toF (n%P25)=toF n:=Fin.ext (QDZ _ _)
theorem QxA (a b:Nat):toF (a+b)=toF a+toF b:=Fin.ext (by rw[Fin.val_add,Qca,Qca,Qca,←QES])
theorem Qj9 (a b:Nat):toF (a*b)=toF a*toF b:=Fin.ext (by rw[Fin.val_mul,Qca,Qca,Qca,←QDT])
theorem QkT (a b:Nat):toF (fadd a b)=toF a+toF b:=by rw[fadd,Qkd,QxA]
theorem Qgq (a b:Nat):toF (fmul a b)=toF a*toF b:=by rw[fmul,Qkd,Qj9]
theorem Qkw (a b:Nat):toF (fsub a b)=toF a-toF b:=by
 rw[fsub,Qkd]
 apply Fin.ext
 rw[Fin.sub_def,Qca]
 show _=((P25-(toF b).val)+(toF a).val)%P25
 rw[Qca,Qca,QEE,Nat.add_mod_mod]
theorem Qgw:toF 0=0:=rfl
theorem QiA {a:Nat}:toF a=0↔a%P25=0:=by
 rw[←Qgw,Fin.ext_iff,Qca,Qca,QEG]
theorem QxU {a b:Nat} (h:toF a=toF b):a%P25=b%P25:=by
 rw[Fin.ext_iff,Qca,Qca]at h
 exact h
theorem QiU {a:Fp} (h:a≠0):a.val%P25≠0:=by
 intro h0
 apply h
 rw[←Qs4 a]
 exact QiA.2 h0
def finv (a:Fp):Fp:=toF (pinv a.val)
theorem QaS {a:Fp} (h:a≠0):a*finv a=1:=by
 have h1:=QuR a.val (QiU h)
 have h2:toF (a.val*pinv a.val)=toF 1:=Fin.ext (by rw[Qca,Qca,h1];rfl)
 rw[Qj9,Qs4]at h2
 exact h2
theorem QoI:(1:Fp)≠0:=by decide
theorem Qju:(2:Fp)≠0:=by decide
theorem Qdl {a b:Fp} (h:a*b=0):a=0∨b=0:=by
 by_cases ha:a=0
 ·exact .inl ha
 ·have:=QaS ha
  right
  grobner
theorem QaY {a b:Fp} (ha:a≠0) (hb:b≠0):a*b≠0:=fun h=>(Qdl h).elim ha hb
theorem QeT {a b c:Fp} (hc:c≠0) (h:a*c=b*c):a=b:=by
 have:=QaS hc
 grobner
theorem Qwr {a:Fp} (h:a*a=1):a=1∨a= -1:=by
 have:(a-1)*(a+1)=0:=by grobner
 rcases Qdl this with h|h
 ·left;grobner
 ·right;grobner
def fpow (a:Fp) (n:Nat):Fp:=toF (a.val^n)
theorem Qfq (a:Fp) (m n:Nat):fpow a (m+n)=fpow a m*fpow a n:=by rw[fpow,QDX,Qj9,fpow,fpow]
theorem Qva (a:Fp):fpow a 1=a:=by rw[fpow,Nat.pow_one,Qs4]
theorem QcM (a b:Fp) (n:Nat):fpow (a*b) n=fpow a n*fpow b n:=by
 rw[fpow,fpow,fpow,←Qj9,←Nat.mul_pow]
 apply Fin.ext
 rw[Qca,Qca,Fin.val_mul,←Nat.pow_mod]
theorem QiN {a:Fp} (h:a≠0):fpow a (P25-1)=1:=Fin.ext (by rw[fpow,Qca,Qv1 _ (QiU h)];rfl)
def isSq (a:Fp):Prop:=∃r:Fp,r*r=a
def Hp:Nat:=28948022309329048855892746252171976963317496166410141009864396001978282409974
def Qp:Nat:=14474011154664524427946373126085988481658748083205070504932198000989141204987
def Op:Nat:=7237005577332262213973186563042994240829374041602535252466099000494570602494
theorem QsX {a:Fp} (h:a≠0):fpow a Hp=1∨fpow a Hp= -1:=by
 apply Qwr
 rw[←Qfq,show Hp+Hp=P25-1 by decide]
 exact QiN h
theorem Qrg {a:Fp} (h:a≠0) (hs:isSq a):fpow a Hp=1:=by
 obtain⟨r,rfl⟩:=hs
 have hr:r≠0:=by rintro rfl;exact h (by decide)
 rw[QcM,←Qfq,show Hp+Hp=P25-1 by decide]
 exact QiN hr
theorem QqI {i:Fp} (hi:i*i= -1) {a:Fp} (h:fpow a Hp=1):isSq a:=by
 have h1:fpow a Qp*fpow a Qp=1:=by rw[←Qfq,show Qp+Qp=Hp by decide];exact h
 have h2:fpow a Op*fpow a Op=a*fpow a Qp:=by
  rw[←Qfq,show Op+Op=1+Qp by decide,Qfq,Qva]
 rcases Qwr h1 with h3|h3
 ·exact⟨fpow a Op,by rw[h2,h3];grobner⟩
 ·exact⟨i*fpow a Op,by rw[h3]at h2;grobner⟩
def Qgl (δ:Fp):Prop:=∀r:Fp,r*r≠δ
@[ext] structure Pt (δ:Fp) where
  x:Fp
  y:Fp
  on:x*x+y*y=1+δ*x*x*y*y
theorem Qiv {δ z w:Fp} (hδ:Qgl δ) (h:w*w=δ*(z*z)):z=0:=by
 by_cases hz:z=0
 ·exact hz
 ·have:=QaS hz
  exact absurd (show (w*finv z)*(w*finv z)=δ by grobner) (hδ _)
theorem Qod {δ:Fp} (hδ:Qgl δ) {x1 y1 x2 y2 ε:Fp} (h1:x1*x1+y1*y1=1+δ*x1*x1*y1*y1) (h2:x2*x2+y2*y2=1+δ*x2*x2*y2*y2)
 (ht:δ*x1*x2*y1*y2=ε) (he:ε*ε=1):False:=by
 have a1:(x1+ε*y1)*(x1+ε*y1)=δ*((x1*y1*(x2+y2))*(x1*y1*(x2+y2))):=by grobner
 have a2:(x1-ε*y1)*(x1-ε*y1)=δ*((x1*y1*(x2-y2))*(x1*y1*(x2-y2))):=by grobner
 have b1:=Qiv hδ a1
 have b2:=Qiv hδ a2
 have c:2*(x1*y1*x2)=0:=by grobner
 have hn:2*(x1*y1*x2)≠0:=by
  refine QaY Qju ?_
  intro h0
  have:ε=0:=by rw[←ht];grobner
  rw[this]at he
  revert he
  decide
 exact hn c
section
variable {δ:Fp}
def tt (P Q:Pt δ):Fp:=δ*P.x*Q.x*P.y*Q.y
theorem Qgr (hδ:Qgl δ) (P Q:Pt δ):1+tt P Q≠0:=fun h=>Qod hδ (ε:= -1) P.on Q.on (by unfold tt at h;grobner) (by decide)
theorem Qf7 (hδ:Qgl δ) (P Q:Pt δ):1-tt P Q≠0:=fun h=>Qod hδ (ε:=1) P.on Q.on (by unfold tt at h;grobner) (by decide)
theorem QzT {x1 y1 x2 y2 i j:Fp} (h1:x1*x1+y1*y1=1+δ*x1*x1*y1*y1) (h2:x2*x2+y2*y2=1+δ*x2*x2*y2*y2)
 (hi:(1+δ*x1*x2*y1*y2)*i=1) (hj:(1-δ*x1*x2*y1*y2)*j=1):
 ((x1*y2+x2*y1)*i)*((x1*y2+x2*y1)*i)+((y1*y2-x1*x2)*j)*((y1*y2-x1*x2)*j)=1+δ*((x1*y2+x2*y1)*i)*((x1*y2+x2*y1)*i)*((y1*y2-x1*x2)*j)*((y1*y2-x1*x2)*j):=by
 have key:(x1*y2+x2*y1)*(x1*y2+x2*y1)*((1-δ*x1*x2*y1*y2)*(1-δ*x1*x2*y1*y2))+(y1*y2-x1*x2)*(y1*y2-x1*x2)*((1+δ*x1*x2*y1*y2)*(1+δ*x1*x2*y1*y2))
  = (1+δ*x1*x2*y1*y2)*(1+δ*x1*x2*y1*y2)*((1-δ*x1*x2*y1*y2)*(1-δ*x1*x2*y1*y2))+δ*((x1*y2+x2*y1)*(x1*y2+x2*y1))*((y1*y2-x1*x2)*(y1*y2-x1*x2)):=by grobner
 generalize x1*y2+x2*y1=X at *
 generalize y1*y2-x1*x2=Y at *
 generalize 1+δ*x1*x2*y1*y2=A at *
 generalize 1-δ*x1*x2*y1*y2=B at *
 have k2:(X*X*(B*B)+Y*Y*(A*A))*(i*i*(j*j))=(A*A*(B*B)+δ*(X*X)*(Y*Y))*(i*i*(j*j)):=by rw[key]
 have hi2:A*A*(i*i)=1:=by grobner
 have hj2:B*B*(j*j)=1:=by grobner
 clear key h1 h2 hi hj
 grobner
def Pt.add (hδ:Qgl δ) (P Q:Pt δ):Pt δ:=
 ⟨(P.x*Q.y+Q.x*P.y)*finv (1+tt P Q),(P.y*Q.y-P.x*Q.x)*finv (1-tt P Q),QzT P.on Q.on (QaS (Qgr hδ P Q)) (QaS (Qf7 hδ P Q))⟩
variable (hδ:Qgl δ)
theorem Qi8 (P Q:Pt δ):(P.add hδ Q).x*(1+tt P Q)=P.x*Q.y+Q.x*P.y:=by
 have:=QaS (Qgr hδ P Q)
 show (P.x*Q.y+Q.x*P.y)*finv (1+tt P Q)*(1+tt P Q)=_
 grobner
theorem Qgj (P Q:Pt δ):(P.add hδ Q).y*(1-tt P Q)=P.y*Q.y-P.x*Q.x:=by
 have:=QaS (Qf7 hδ P Q)
 show (P.y*Q.y-P.x*Q.x)*finv (1-tt P Q)*(1-tt P Q)=_
 grobner
def Pt.zero:Pt δ:=⟨0,1,by grobner⟩
def Pt.neg (P:Pt δ):Pt δ:=⟨-P.x,P.y,by have:=P.on;grobner⟩
theorem QmA (P Q:Pt δ):P.add hδ Q=Q.add hδ P:=by
 have ht:tt P Q=tt Q P:=by unfold tt;grobner
 apply Pt.ext
 ·apply QeT (Qgr hδ P Q)
  rw[Qi8,ht,Qi8]
  grobner
 ·apply QeT (Qf7 hδ P Q)
  rw[Qgj,ht,Qgj]
  grobner
theorem Qgy (P:Pt δ):P.add hδ Pt.zero=P:=by
 have ht:tt P (Pt.zero)=0:=by unfold tt Pt.zero;grobner
 apply Pt.ext
 ·apply QeT (Qgr hδ P Pt.zero)
  rw[Qi8,ht]
  simp only[Pt.zero]
  grobner
 ·apply QeT (Qf7 hδ P Pt.zero)
  rw[Qgj,ht]
  simp only[Pt.zero]
  grobner
theorem QtU (P:Pt δ):P.add hδ P.neg=Pt.zero:=by
 have h:=P.on
 apply Pt.ext
 ·apply QeT (Qgr hδ P P.neg)
  rw[Qi8]
  simp only[Pt.zero,Pt.neg]
  grobner
 ·apply QeT (Qf7 hδ P P.neg)
  rw[Qgj]
  simp only[Pt.zero,Pt.neg,tt]
  grobner
end
theorem QwN {d x1 y1 x2 y2 x3 y3:Fp} (h1:x1*x1+y1*y1=1+d*x1*x1*y1*y1) (h2:x2*x2+y2*y2=1+d*x2*x2*y2*y2) (h3:x3*x3+y3*y3=1+d*x3*x3*y3*y3):
 ((x1*y2+x2*y1)*(1-d*x1*x2*y1*y2)*y3+(y1*y2-x1*x2)*(1+d*x1*x2*y1*y2)*x3)*((1+d*x2*x3*y2*y3)*(1-d*x2*x3*y2*y3)+d*x1*y1*(x2*y3+x3*y2)*(y2*y3-x2*x3))
 = (x1*(y2*y3-x2*x3)*(1+d*x2*x3*y2*y3)+y1*(x2*y3+x3*y2)*(1-d*x2*x3*y2*y3))*((1+d*x1*x2*y1*y2)*(1-d*x1*x2*y1*y2)+d*(x1*y2+x2*y1)*(y1*y2-x1*x2)*x3*y3):=by grobner
theorem Qyr {d x1 y1 x2 y2 x3 y3:Fp} (h1:x1*x1+y1*y1=1+d*x1*x1*y1*y1) (h2:x2*x2+y2*y2=1+d*x2*x2*y2*y2) (h3:x3*x3+y3*y3=1+d*x3*x3*y3*y3):
 ((y1*y2-x1*x2)*(1+d*x1*x2*y1*y2)*y3-(x1*y2+x2*y1)*(1-d*x1*x2*y1*y2)*x3)*((1+d*x2*x3*y2*y3)*(1-d*x2*x3*y2*y3)-d*x1*y1*(x2*y3+x3*y2)*(y2*y3-x2*x3))
 = (y1*(y2*y3-x2*x3)*(1+d*x2*x3*y2*y3)-x1*(x2*y3+x3*y2)*(1-d*x2*x3*y2*y3))*((1+d*x1*x2*y1*y2)*(1-d*x1*x2*y1*y2)-d*(x1*y2+x2*y1)*(y1*y2-x1*x2)*x3*y3):=by grobner
theorem Qz7 {L q X Y x3 y3 xa ya p m:Fp} (l:L*q=xa*y3+x3*ya) (h1:xa*p=X) (h2:ya*m=Y):L*(p*m*q)=X*m*y3+Y*p*x3:=by grobner
theorem Qww {L q X Y x3 y3 xa ya p m:Fp} (l:L*q=ya*y3-xa*x3) (h1:xa*p=X) (h2:ya*m=Y):L*(p*m*q)=Y*p*y3-X*m*x3:=by grobner
theorem Qy6 {d X Y x3 y3 xa ya p m:Fp} (h1:xa*p=X) (h2:ya*m=Y):p*m*(1+d*xa*x3*ya*y3)=p*m+d*X*Y*x3*y3:=by grobner
theorem QvJ {d X Y x3 y3 xa ya p m:Fp} (h1:xa*p=X) (h2:ya*m=Y):p*m*(1-d*xa*x3*ya*y3)=p*m-d*X*Y*x3*y3:=by grobner
theorem QzS {L M d1 d2 n1 n2:Fp} (hd1:d1≠0) (hd2:d2≠0) (h1:L*d1=n1) (h2:M*d2=n2) (h:n1*d2=n2*d1):L=M:=by
 apply QeT (QaY hd1 hd2)
 clear hd1 hd2
 grobner
section
variable {δ:Fp} (hδ:Qgl δ)
theorem QjJ (P Q R:Pt δ):(P.add hδ Q).add hδ R=P.add hδ (Q.add hδ R):=by
 have a1:=Qi8 hδ P Q
 have a2:=Qgj hδ P Q
 have b1:=Qi8 hδ Q R
 have b2:=Qgj hδ Q R
 have ex:=QwN P.on Q.on R.on
 have ey:=Qyr P.on Q.on R.on
 apply Pt.ext
 ·refine QzS (QaY (QaY (Qgr hδ P Q) (Qf7 hδ P Q)) (Qgr hδ (P.add hδ Q) R)) (QaY (QaY (Qgr hδ Q R) (Qf7 hδ Q R)) (Qgr hδ P (Q.add hδ R)))
   (Qz7 (Qi8 hδ (P.add hδ Q) R) a1 a2) (Qz7 ((Qi8 hδ P (Q.add hδ R)).trans (show _=(Q.add hδ R).x*P.y+P.x*(Q.add hδ R).y by clear a1 a2 b1 b2 ex ey;grobner)) b1 b2) ?_
  rw[show (1+tt P Q)*(1-tt P Q)*(1+tt (P.add hδ Q) R)=_ from Qy6 a1 a2,show (1+tt Q R)*(1-tt Q R)*(1+tt P (Q.add hδ R))=_ from (show _=(1+tt Q R)*(1-tt Q R)*(1+δ*(Q.add hδ R).x*P.x*(Q.add hδ R).y*P.y) by unfold tt;clear a1 a2 b1 b2 ex ey;grobner).trans (Qy6 b1 b2)]
  clear a1 a2 b1 b2 ey
  simp only[tt]
  refine Eq.trans ?_ (ex.trans ?_)
  ·clear ex;grobner
  ·clear ex;grobner
 ·refine QzS (QaY (QaY (Qgr hδ P Q) (Qf7 hδ P Q)) (Qf7 hδ (P.add hδ Q) R)) (QaY (QaY (Qgr hδ Q R) (Qf7 hδ Q R)) (Qf7 hδ P (Q.add hδ R)))
   (Qww (Qgj hδ (P.add hδ Q) R) a1 a2) (Qww ((Qgj hδ P (Q.add hδ R)).trans (show _=(Q.add hδ R).y*P.y-(Q.add hδ R).x*P.x by clear a1 a2 b1 b2 ex ey;grobner)) b1 b2) ?_
  rw[show (1+tt P Q)*(1-tt P Q)*(1-tt (P.add hδ Q) R)=_ from QvJ a1 a2,show (1+tt Q R)*(1-tt Q R)*(1-tt P (Q.add hδ R))=_ from (show _=(1+tt Q R)*(1-tt Q R)*(1-δ*(Q.add hδ R).x*P.x*(Q.add hδ R).y*P.y) by unfold tt;clear a1 a2 b1 b2 ex ey;grobner).trans (QvJ b1 b2)]
  clear a1 a2 b1 b2 ex
  simp only[tt]
  refine Eq.trans ?_ (ey.trans ?_)
  ·clear ey;grobner
  ·clear ey;grobner
def Pt.mul (P:Pt δ):Nat→Pt δ
 | 0=>Pt.zero
 | n+1=>(Pt.mul P n).add hδ P
theorem Qmz (P:Pt δ):Pt.zero.add hδ P=P:=by rw[QmA,Qgy]
theorem QdR (P:Pt δ) (m:Nat):∀n,P.mul hδ (m+n)=(P.mul hδ m).add hδ (P.mul hδ n)
 | 0=>by rw[Pt.mul,Qgy];rfl
 | n+1=>by
   show (P.mul hδ (m+n)).add hδ P=(P.mul hδ m).add hδ ((P.mul hδ n).add hδ P)
   rw[QdR P m n,QjJ]
theorem QhM (P:Pt δ):P.mul hδ 1=P:=Qmz hδ P
theorem QgE (P:Pt δ) (m:Nat):∀n,P.mul hδ (m*n)=(P.mul hδ m).mul hδ n
 | 0=>rfl
 | n+1=>by
   rw[Nat.mul_succ,QdR,QgE P m n]
   rfl
theorem Quu (P Q:Pt δ):(P.add hδ Q).add hδ Q.neg=P:=by rw[QjJ,QtU,Qgy]
end
def Par (s δ:Fp):Prop:=(s=1∧δ*121666=121665)∨(s= -1∧δ*121665=121666)
def Rep {δ:Fp} (s X Z:Fp) (P:Pt δ):Prop:=∃k:Fp,k≠0∧X=k*(1+P.y)∧Z=k*s*(1-P.y)
theorem Qhq {s δ:Fp} (h:Par s δ):s*s=1:=by
 rcases h with ⟨rfl,_⟩|⟨rfl,_⟩<;>grobner
section
variable {δ:Fp} (hδ:Qgl δ)
include hδ in
theorem Qek (z:Fp):1-δ*z*z≠0:=by
 intro h
 have h1:(1:Fp)*1=δ*(z*z):=by grobner
 have:=Qiv hδ h1
 subst this
 revert h
 grobner
include hδ in
theorem QiT:1-δ≠0:=by
 have:=Qek hδ 1
 grobner
theorem Qvx {δ x y y2 k X Z:Fp} (on:x*x+y*y=1+δ*x*x*y*y) (h:δ*121666=121665) (hy:y2*(1-δ*x*x*y*y)=y*y-x*x) (hX:X=k*(1+y)) (hZ:Z=k*1*(1-y)):
 (X+Z)*(X+Z)*((X-Z)*(X-Z))=8*k*k*k*k*121666*(1-δ*y*y)*(1-δ*x*x*y*y)*(1+y2)∧
 ((X+Z)*(X+Z)-(X-Z)*(X-Z))*((X+Z)*(X+Z)+121665*((X+Z)*(X+Z)-(X-Z)*(X-Z)))=8*k*k*k*k*121666*(1-δ*y*y)*(1-δ*x*x*y*y)*1*(1-y2):=by
 have e1:(X+Z)*(X+Z)=4*(k*k):=by rw[hX,hZ];clear on h hy hX hZ;grobner
 have e2:(X-Z)*(X-Z)=4*(k*k)*(y*y):=by rw[hX,hZ];clear on h hy hX hZ;grobner
 rw[e1,e2]
 clear hX hZ e1 e2
 constructor
 ·have:(1-δ*y*y)*((1-δ*x*x*y*y)*(1+y2))=2*(y*y)*(1-δ):=by clear h;grobner
  clear on hy
  grobner
 ·have:(1-δ*y*y)*((1-δ*x*x*y*y)*(1-y2))=2*(1-y*y)*(1-δ*y*y):=by clear h;grobner
  clear on hy
  grobner
theorem Qu6 {δ x y y2 k X Z:Fp} (on:x*x+y*y=1+δ*x*x*y*y) (h:δ*121665=121666) (hy:y2*(1-δ*x*x*y*y)=y*y-x*x) (hX:X=k*(1+y)) (hZ:Z=k*(-1)*(1-y)):
 (X+Z)*(X+Z)*((X-Z)*(X-Z))= -8*k*k*k*k*121665*(1-δ*y*y)*(1-δ*x*x*y*y)*(1+y2)∧
 ((X+Z)*(X+Z)-(X-Z)*(X-Z))*((X+Z)*(X+Z)+121665*((X+Z)*(X+Z)-(X-Z)*(X-Z)))= -8*k*k*k*k*121665*(1-δ*y*y)*(1-δ*x*x*y*y)*(-1)*(1-y2):=by
 have e1:(X-Z)*(X-Z)=4*(k*k):=by rw[hX,hZ];clear on h hy hX hZ;grobner
 have e2:(X+Z)*(X+Z)=4*(k*k)*(y*y):=by rw[hX,hZ];clear on h hy hX hZ;grobner
 rw[e1,e2]
 clear hX hZ e1 e2
 constructor
 ·have:(1-δ*y*y)*((1-δ*x*x*y*y)*(1+y2))=2*(y*y)*(1-δ):=by clear h;grobner
  clear on hy
  grobner
 ·have:(1-δ*y*y)*((1-δ*x*x*y*y)*(1-y2))=2*(1-y*y)*(1-δ*y*y):=by clear h;grobner
  clear on hy
  grobner
theorem c8:(8:Fp)≠0:=by decide
theorem c8':(-8:Fp)≠0:=by decide
theorem c65:(121665:Fp)≠0:=by decide
theorem c66:(121666:Fp)≠0:=by decide
theorem QxS {s X Z:Fp} {P:Pt δ} (hp:Par s δ) (h:Rep s X Z P):
 Rep s ((X+Z)*(X+Z)*((X-Z)*(X-Z))) (((X+Z)*(X+Z)-(X-Z)*(X-Z))*((X+Z)*(X+Z)+121665*((X+Z)*(X+Z)-(X-Z)*(X-Z)))) (P.add hδ P):=by
 obtain⟨k,hk,hX,hZ⟩:=h
 have hy:=Qgj hδ P P
 have n1:1-δ*P.x*P.x*P.y*P.y≠0:=Qf7 hδ P P
 have n2:=Qek hδ P.y
 rcases hp with ⟨rfl,hd⟩|⟨rfl,hd⟩
 ·obtain⟨a,b⟩:=Qvx P.on hd (by simpa only[tt] using hy) hX hZ
  exact⟨_,QaY (QaY (QaY (QaY (QaY (QaY (QaY c8 hk) hk) hk) hk) c66) n2) n1,a,b⟩
 ·obtain⟨a,b⟩:=Qu6 P.on hd (by simpa only[tt] using hy) hX hZ
  exact⟨_,QaY (QaY (QaY (QaY (QaY (QaY (QaY c8' hk) hk) hk) hk) c65) n2) n1,a,b⟩
theorem QxX {δ x2 y2 x3 y3 yp ym:Fp} (on2:x2*x2+y2*y2=1+δ*x2*x2*y2*y2) (on3:x3*x3+y3*y3=1+δ*x3*x3*y3*y3)
 (hp:yp*(1-δ*x2*x3*y2*y3)=y2*y3-x2*x3) (hm:ym*(1+δ*x2*x3*y2*y3)=y2*y3+x2*x3):
 (y2+y3)*(y2+y3)*((1-δ)*(1-δ*(y2*y3)*(y2*y3)))=(1+yp)*(1+ym)*((1-δ*x2*x3*y2*y3)*(1+δ*x2*x3*y2*y3)*(1-δ*y2*y2)*(1-δ*y3*y3))∧
 (y2-y3)*(y2-y3)*((1-δ)*(1-δ*(y2*y3)*(y2*y3)))=(1-yp)*(1-ym)*((1-δ*x2*x3*y2*y3)*(1+δ*x2*x3*y2*y3)*(1-δ*y2*y2)*(1-δ*y3*y3)):=by
 have u2:x2*x2*(1-δ*y2*y2)=1-y2*y2:=by clear on3 hp hm;grobner
 have u3:x3*x3*(1-δ*y3*y3)=1-y3*y3:=by clear u2 on2 hp hm;grobner
 have p1:(1+yp)*(1-δ*x2*x3*y2*y3)=(1-δ*x2*x3*y2*y3)+(y2*y3-x2*x3):=by clear on2 on3 hm u2 u3;grobner
 have m1:(1+ym)*(1+δ*x2*x3*y2*y3)=(1+δ*x2*x3*y2*y3)+(y2*y3+x2*x3):=by clear on2 on3 u2 u3 hp;grobner
 have p2:(1-yp)*(1-δ*x2*x3*y2*y3)=(1-δ*x2*x3*y2*y3)-(y2*y3-x2*x3):=by clear on2 on3 hm u2 u3;grobner
 have m2:(1-ym)*(1+δ*x2*x3*y2*y3)=(1+δ*x2*x3*y2*y3)-(y2*y3+x2*x3):=by clear on2 on3 u2 u3 hp;grobner
 clear on2 on3 hp hm
 constructor
 ·have:(1+yp)*(1+ym)*((1-δ*x2*x3*y2*y3)*(1+δ*x2*x3*y2*y3)*(1-δ*y2*y2)*(1-δ*y3*y3))=((1+yp)*(1-δ*x2*x3*y2*y3))*((1+ym)*(1+δ*x2*x3*y2*y3))*((1-δ*y2*y2)*(1-δ*y3*y3)):=by clear u2 u3 p1 m1 p2 m2;grobner
  rw[this,p1,m1]
  clear this p1 m1 p2 m2
  grobner
 ·have:(1-yp)*(1-ym)*((1-δ*x2*x3*y2*y3)*(1+δ*x2*x3*y2*y3)*(1-δ*y2*y2)*(1-δ*y3*y3))=((1-yp)*(1-δ*x2*x3*y2*y3))*((1-ym)*(1+δ*x2*x3*y2*y3))*((1-δ*y2*y2)*(1-δ*y3*y3)):=by clear u2 u3 p1 m1 p2 m2;grobner
  rw[this,p2,m2]
  clear this p1 m1 p2 m2
  grobner
theorem Qul {s k2 k3 y2 y3 yp ym x1 D E X2 Z2 X3 Z3 w:Fp} (hs:s*s=1) (hx:x1*(1-ym)=s*(1+ym)) (a:(y2+y3)*(y2+y3)*D=(1+yp)*(1+ym)*E) (b:(y2-y3)*(y2-y3)*D=(1-yp)*(1-ym)*E) (hw:D*w=1)
 (hX2:X2=k2*(1+y2)) (hZ2:Z2=k2*s*(1-y2)) (hX3:X3=k3*(1+y3)) (hZ3:Z3=k3*s*(1-y3)):
 ((X3-Z3)*(X2+Z2)+(X3+Z3)*(X2-Z2))*((X3-Z3)*(X2+Z2)+(X3+Z3)*(X2-Z2))=16*k2*k2*k3*k3*E*w*(1+ym)*(1+yp)∧
 x1*(((X3-Z3)*(X2+Z2)-(X3+Z3)*(X2-Z2))*((X3-Z3)*(X2+Z2)-(X3+Z3)*(X2-Z2)))=16*k2*k2*k3*k3*E*w*(1+ym)*s*(1-yp):=by
 have e1:(X3-Z3)*(X2+Z2)+(X3+Z3)*(X2-Z2)=4*(k2*k3)*(y2+y3):=by rw[hX2,hX3,hZ2,hZ3];clear a b hx hw hX2 hX3 hZ2 hZ3;grobner
 have e2:(X3-Z3)*(X2+Z2)-(X3+Z3)*(X2-Z2)= -4*s*(k2*k3)*(y2-y3):=by rw[hX2,hX3,hZ2,hZ3];clear a b hx hw hX2 hX3 hZ2 hZ3;grobner
 rw[e1,e2]
 clear hX2 hX3 hZ2 hZ3 e1 e2
 have a':(y2+y3)*(y2+y3)=(1+yp)*(1+ym)*E*w:=by
  have:(y2+y3)*(y2+y3)*(D*w)=(1+yp)*(1+ym)*E*w:=by clear b hx hs hw;grobner
  rw[hw]at this
  clear a b hx hs hw
  grobner
 have b':(y2-y3)*(y2-y3)=(1-yp)*(1-ym)*E*w:=by
  have:(y2-y3)*(y2-y3)*(D*w)=(1-yp)*(1-ym)*E*w:=by clear a hx hs hw;grobner
  rw[hw]at this
  clear a b hx hs hw
  grobner
 clear a b hw
 constructor
 ·clear b' hx
  grobner
 ·clear a'
  have:x1*((y2-y3)*(y2-y3))=s*(1+ym)*((1-yp)*E*w):=by rw[b',←hx];clear b' hs hx;grobner
  clear b' hx
  grobner
theorem c16:(16:Fp)≠0:=by decide
theorem Qw0 {s X2 Z2 X3 Z3 x1 ym:Fp} {P Q:Pt δ} (hp:Par s δ) (h2:Rep s X2 Z2 P) (h3:Rep s X3 Z3 Q) (hm:(Q.add hδ P.neg).y=ym) (hx:x1*(1-ym)=s*(1+ym)) (hym:1+ym≠0):
 Rep s (((X3-Z3)*(X2+Z2)+(X3+Z3)*(X2-Z2))*((X3-Z3)*(X2+Z2)+(X3+Z3)*(X2-Z2))) (x1*(((X3-Z3)*(X2+Z2)-(X3+Z3)*(X2-Z2))*((X3-Z3)*(X2+Z2)-(X3+Z3)*(X2-Z2)))) (P.add hδ Q):=by
 obtain⟨k2,hk2,hX2,hZ2⟩:=h2
 obtain⟨k3,hk3,hX3,hZ3⟩:=h3
 have hy:=Qgj hδ P Q
 have hy':=Qgj hδ Q P.neg
 rw[hm]at hy'
 have ne1:1-δ*P.x*Q.x*P.y*Q.y≠0:=Qf7 hδ P Q
 have ne2:1+δ*P.x*Q.x*P.y*Q.y≠0:=Qgr hδ P Q
 obtain⟨a,b⟩:=QxX P.on Q.on (by simpa only[tt] using hy) (ym:=ym) (by simp only[tt,Pt.neg]at hy';clear hX2 hX3 hZ2 hZ3 hy hm hx hk2 hk3 ne1 ne2 hym;grobner)
 have hD:(1-δ)*(1-δ*(P.y*Q.y)*(P.y*Q.y))≠0:=QaY (QiT hδ) (Qek hδ _)
 obtain⟨c,d⟩:=Qul (Qhq hp) hx a b (QaS hD) hX2 hZ2 hX3 hZ3
 refine⟨_,?_,c,d⟩
 refine QaY (QaY (QaY (QaY (QaY (QaY (QaY c16 hk2) hk2) hk3) hk3) (QaY (QaY (QaY ne1 ne2) (Qek hδ _)) (Qek hδ _))) ?_) hym
 intro h0
 have:=QaS hD
 rw[h0]at this
 revert this
 grobner
end
theorem Qy9:toF 121665=121665:=rfl
section
variable {δ:Fp} (hδ:Qgl δ)
def LRep (s:Fp) (l:Lad) (P Q:Pt δ):Prop:=Rep s (toF l.x2) (toF l.z2) P∧Rep s (toF l.x3) (toF l.z3) Q
theorem QoB {s ym:Fp} {x1:Nat} {l:Lad} {P Q:Pt δ} (hp:Par s δ) (h:LRep s l P Q) (hm:(Q.add hδ P.neg).y=ym) (hx:toF x1*(1-ym)=s*(1+ym)) (hym:1+ym≠0):
 LRep s (l.step x1) (P.add hδ P) (P.add hδ Q):=by
 have a:=QxS hδ hp h.1
 have b:=Qw0 hδ hp h.1 h.2 hm hx hym
 refine⟨?_,?_⟩
 ·simpa only[Lad.step,Qgq,QkT,Qkw,Qy9] using a
 ·simpa only[Lad.step,Qgq,QkT,Qkw] using b
theorem Qqt (P Q:Pt δ):(Q.add hδ P.neg).y=(P.add hδ Q.neg).y:=by
 have a:=Qgj hδ Q P.neg
 have b:=Qgj hδ P Q.neg
 have n:=Qf7 hδ Q P.neg
 apply QeT n
 rw[a]
 have e:tt Q P.neg=tt P Q.neg:=by simp only[tt,Pt.neg];clear a b n;grobner
 rw[e,b]
 simp only[Pt.neg]
 clear a b n e
 grobner
def kval (K:List UInt8):Nat→Nat
 | 0=>0
 | j+1=>2*kval K j+(kbit K (254-j)).toNat
theorem QoW (G:Pt δ) (n:Nat):((G.mul hδ (n+1)).add hδ (G.mul hδ n).neg)=G:=by
 show (((G.mul hδ n).add hδ G).add hδ (G.mul hδ n).neg)=G
 rw[QmA hδ (G.mul hδ n) G,Quu]
theorem QsY {s:Fp} {x1:Nat} {G:Pt δ} (hp:Par s δ) (hx:toF x1*(1-G.y)=s*(1+G.y)) (hy:1+G.y≠0) (K:List UInt8):
 ∀j,LRep s (Lad.at x1 K j) (G.mul hδ (kval K j)) (G.mul hδ (kval K j+1))
 | 0=>by
   have hs:=Qhq hp
   have hy1:1-G.y≠0:=by
    intro h0
    rw[h0]at hx
    have:s*(s*(1+G.y))=0:=by rw[←hx];clear hx hs hp hy;grobner
    have h1:1+G.y=0:=by clear hx hp h0 hy;grobner
    exact hy h1
   refine⟨⟨finv 2,?_,?_,?_⟩,⟨s*finv (1-G.y),?_,?_,?_⟩⟩
   ·intro h0
    have:=QaS Qju
    rw[h0]at this
    revert this
    decide
   ·have:=QaS Qju
    show (1:Fp)=finv 2*(1+1)
    grobner
   ·show (0:Fp)=finv 2*s*(1-1)
    grobner
   ·intro h0
    have:=QaS hy1
    have:s*s=0:=by
     have h1:s*(s*finv (1-G.y))=0:=by rw[h0];clear h0 this hs hx hp hy;grobner
     clear hx hp hy h0
     grobner
    rw[hs]at this
    exact QoI this
   ·rw[show G.mul hδ (kval K 0+1)=G from QhM hδ G]
    show toF x1=_
    have:=QaS hy1
    clear hp hy hy1
    grobner
   ·rw[show G.mul hδ (kval K 0+1)=G from QhM hδ G]
    show (1:Fp)=_
    have:=QaS hy1
    clear hp hy hy1 hx
    grobner
 | j+1=>by
   have ih:=QsY hp hx hy K j
   have hsub:((G.mul hδ (kval K j+1)).add hδ (G.mul hδ (kval K j)).neg).y=G.y:=by rw[QoW]
   have hsub':((G.mul hδ (kval K j)).add hδ (G.mul hδ (kval K j+1)).neg).y=G.y:=by rw[Qqt,QoW]
   have e0:kval K (j+1)=2*kval K j+(kbit K (254-j)).toNat:=rfl
   rw[e0]
   show LRep s (Lad.round x1 (kbit K (254-j)) (Lad.at x1 K j)) _ _
   generalize kval K j=n at *
   cases kbit K (254-j)
   ·have:=QoB hδ hp ih hsub hx hy
    rw[←QdR,←QdR]at this
    rw[show 2*n+false.toNat=n+n by simp;omega,show n+n+1=n+(n+1) by omega]
    exact this
   ·have:=QoB hδ hp (show LRep s (Lad.at x1 K j).swap (G.mul hδ (n+1)) (G.mul hδ n) from ⟨ih.2,ih.1⟩) hsub' hx hy
    rw[←QdR,←QdR]at this
    rw[show 2*n+true.toNat=n+1+n by simp;omega,show n+1+n+1=n+1+(n+1) by omega]
    exact⟨this.2,this.1⟩
def Pt.u (s:Fp) (Q:Pt δ):Fp:=if 1-Q.y=0 then 0 else s*(1+Q.y)*finv (1-Q.y)
theorem QCd {x y d:Fp} (h:x=0) (on:x*x+y*y=1+d*x*x*y*y):(1+y)*(1-y)=0:=by grobner
theorem QBz {a b:Fp} (h:a=0) (k:b=0) (y z t:Fp):a*y+b*z=0*t:=by grobner
theorem Qwh {c d i r:Fp} (h:r*r=c*i) (hi:d*i=1):d*r*(d*r)=c*d:=by grobner
theorem QCr {u a:Fp} (h:u*u+a*u+1=0):(2*u+a)*(2*u+a)=a*a-4:=by grobner
theorem Qz2 {u a:Fp} (h:u+1=0):u*(u*u+a*u+1)=a-2:=by grobner
theorem Qzb {u a:Fp} (h:u-1=0):u*(u*u+a*u+1)=a+2:=by grobner
theorem Qmn {a:Nat} (ha:a=0) (n m:Nat) (h:0<n):a^n%m=0:=by rw[ha,Nat.zero_pow h,QEG]
theorem QrA (a:Nat) (ha:a=0):pinv a=0:=Qmn ha _ _ (by unfold P25;omega)
theorem Qls:finv 0=0:=by
 unfold finv
 rw[QrA _ (show (0:Fp).val=0 from rfl)]
 rfl
theorem Qon (n:Nat):toF (pinv n)=finv (toF n):=by
 show toF (n^(P25-2)%P25)=toF ((n%P25)^(P25-2)%P25)
 rw[←Nat.pow_mod]
theorem QBI {s X Z:Fp} {Q:Pt δ} (hp:Par s δ) (h:Rep s X Z Q):X*finv Z=Q.u s:=by
 obtain⟨k,hk,hX,hZ⟩:=h
 have hs:=Qhq hp
 unfold Pt.u
 split
 ·rename_i h0
  rw[h0]at hZ
  have:Z=0:=by rw[hZ];clear hs hp hX hZ h0;grobner
  rw[this,Qls]
  clear hs hp hX hZ h0 this
  grobner
 ·rename_i h0
  have hsn:s≠0:=by rintro rfl;revert hs;decide
  have hz:Z≠0:=by rw[hZ];exact QaY (QaY hk hsn) h0
  have i1:=QaS hz
  have i2:=QaS h0
  have i3:=QaS hk
  apply QeT hz
  have e1:X*finv Z*Z=X:=by clear hX hZ hs hp i2 i3;grobner
  have e2:s*(1+Q.y)*finv (1-Q.y)*Z=k*(1+Q.y):=by rw[hZ];clear hX hZ hp i1 i3 e1;grobner
  rw[e1,e2,hX]
def multN (x1:Nat) (K:List UInt8):Nat:=fmul (Lad.at x1 K 255).x2 (pinv (Lad.at x1 K 255).z2)
theorem Qnm {s:Fp} {x1:Nat} {G:Pt δ} (hp:Par s δ) (hx:toF x1*(1-G.y)=s*(1+G.y)) (hy:1+G.y≠0) (K:List UInt8):
 toF (multN x1 K)=(G.mul hδ (kval K 255)).u s:=by
 rw[multN,Qgq,Qon]
 exact QBI hp (QsY hδ hp hx hy K 255).1
include hδ in
theorem Qsf {s:Fp} (hp:Par s δ) {Q:Pt δ}:Q.u s=0↔Q.x=0:=by
 have hs:=Qhq hp
 have hsn:s≠0:=by rintro rfl;revert hs;decide
 have on:=Q.on
 unfold Pt.u
 constructor
 ·intro h
  have hy:Q.y*Q.y=1:=by
   split at h
   ·rename_i h0
    clear h on hs hp hsn
    grobner
   ·rename_i h0
    have hf:finv (1-Q.y)≠0:=by
     intro h1
     have:=QaS h0
     rw[h1]at this
     clear h on hs hp
     have h2:(1:Fp)=0:=by grobner
     exact QoI h2
    rcases Qdl h with h1|h1
    ·rcases Qdl h1 with h2|h2
     ·exact absurd h2 hsn
     ·clear h h1 on hs hp hsn hf
      grobner
    ·exact absurd h1 hf
  have:Q.x*Q.x*(1-δ)=0:=by clear h hs hp hsn;grobner
  rcases Qdl this with h1|h1
  ·exact (Qdl h1).elim id id
  ·exact absurd h1 (QiT hδ)
 ·intro h
  have:(1+Q.y)*(1-Q.y)=0:=QCd h on
  rcases Qdl this with h1|h1
  ·split
   ·rfl
   ·rw[h1]
    clear this on hs hp hsn h h1
    grobner
  ·rw[if_pos h1]
theorem QoT {Q:Pt δ} (h:Q.x=0):∀n,(Q.mul hδ n).x=0
 | 0=>rfl
 | n+1=>by
   have ih:=QoT h n
   apply QeT (Qgr hδ (Q.mul hδ n) Q)
   exact (Qi8 hδ (Q.mul hδ n) Q).trans (QBz ih h _ _ _)
theorem QvY {s:Fp} (hp:Par s δ) {Q:Pt δ} (h:Q.u s≠0):Q.u s*(1-Q.y)=s*(1+Q.y)∧1+Q.y≠0:=by
 have hs:=Qhq hp
 unfold Pt.u at h ⊢
 split at h
 ·exact absurd rfl h
 ·rename_i h0
  have:=QaS h0
  rw[if_neg h0]
  refine⟨by clear h hs hp;grobner,fun h1=>h ?_⟩
  rw[h1]
  clear h hs hp this
  grobner
end
theorem QhI (a:Fp) (n:Nat) (h:n<2^256):fpow a n=toF (pwm P25 256 a.val n):=by rw[QoH P25 256 a.val n h,Qkd];rfl
theorem h66:fpow 121666 Hp=1:=by rw[QhI _ _ (by decide)];decide +kernel
theorem h65:fpow 121665 Hp= -1:=by rw[QhI _ _ (by decide)];decide +kernel
theorem h2:fpow 2 Hp= -1:=by rw[QhI _ _ (by decide)];decide +kernel
theorem h4:fpow 4 Hp=1:=by rw[QhI _ _ (by decide)];decide +kernel
theorem hm1:(1:Fp)≠ -1:=by decide
theorem QjP (r:Fp):r*r≠121665*121666:=by
 intro h
 have h0:(121665*121666:Fp)≠0:=QaY c65 c66
 have:=Qrg h0 ⟨r,h⟩
 rw[QcM,h65,h66]at this
 revert this
 decide
theorem Qxc:∃i:Fp,i*i= -1:=⟨fpow 2 Qp,by rw[←Qfq,show Qp+Qp=Hp by decide,h2]⟩
theorem QzK:Qgl (121665*finv 121666):=by
 intro r h
 have:=QaS c66
 exact QjP (121666*r) (Qwh h this)
theorem QyU:Qgl (121666*finv 121665):=by
 intro r h
 have:=QaS c65
 exact QjP (121665*r) ((Qwh h this).trans (by decide))
theorem par1:Par 1 (121665*finv 121666):=.inl ⟨rfl,by have:=QaS c66;grobner⟩
theorem par2:Par (-1) (121666*finv 121665):=.inr ⟨rfl,by have:=QaS c65;grobner⟩
theorem QwR (u:Fp):u*u+486662*u+1≠0:=by
 intro h
 have e:(2*u+486662)*(2*u+486662)=4*4*(121665*121666):=(QCr h).trans (by decide)
 have n0:(4*4*(121665*121666):Fp)≠0:=by decide
 have:=Qrg n0 ⟨_,e⟩
 rw[QcM,QcM,QcM,h4,h65,h66]at this
 revert this
 decide
theorem Qxf {u h m n r d:Fp} (hh:h=u*u+486662*u+1) (hn:h*n=1) (hm:(u+1)*m=1) (hr:r*r=121666*(u*h)) (hd:d*121666=121665):
 2*r*n*(2*r*n)+(u-1)*m*((u-1)*m)=1+d*(2*r*n)*(2*r*n)*((u-1)*m)*((u-1)*m):=by
 have ex:2*r*n*(2*r*n)=4*121666*u*n:=by clear hm hd hh;grobner
 have ex2:d*(2*r*n)*(2*r*n)=4*121665*u*n:=by clear hm hh hn hr;grobner
 rw[ex,ex2]
 have key:4*121666*u*((u+1)*(u+1))+(u-1)*(u-1)*h=h*((u+1)*(u+1))+4*121665*u*((u-1)*(u-1)):=by rw[hh];clear hn hm hr hd ex ex2 hh;grobner
 have k2:(4*121666*u*((u+1)*(u+1))+(u-1)*(u-1)*h)*(n*(m*m))=(h*((u+1)*(u+1))+4*121665*u*((u-1)*(u-1)))*(n*(m*m)):=by rw[key]
 have hm2:(u+1)*(u+1)*(m*m)=1:=by clear key k2 ex ex2 hn hr hd hh;grobner
 clear key ex ex2 hr hd hh
 generalize (u+1)*(u+1)=v at *
 clear hm
 grobner
theorem Qyo {u h m n r d:Fp} (hh:h=u*u+486662*u+1) (hn:h*n=1) (hm:(u-1)*m=1) (hr:r*r=121665*(u*h)) (hd:d*121665=121666):
 2*r*n*(2*r*n)+(u+1)*m*((u+1)*m)=1+d*(2*r*n)*(2*r*n)*((u+1)*m)*((u+1)*m):=by
 have ex:2*r*n*(2*r*n)=4*121665*u*n:=by clear hm hd hh;grobner
 have ex2:d*(2*r*n)*(2*r*n)=4*121666*u*n:=by clear hm hh hn hr;grobner
 rw[ex,ex2]
 have key:4*121665*u*((u-1)*(u-1))+(u+1)*(u+1)*h=h*((u-1)*(u-1))+4*121666*u*((u+1)*(u+1)):=by rw[hh];clear hn hm hr hd ex ex2 hh;grobner
 have k2:(4*121665*u*((u-1)*(u-1))+(u+1)*(u+1)*h)*(n*(m*m))=(h*((u-1)*(u-1))+4*121666*u*((u+1)*(u+1)))*(n*(m*m)):=by rw[key]
 have hm2:(u-1)*(u-1)*(m*m)=1:=by clear key k2 ex ex2 hn hr hd hh;grobner
 clear key ex ex2 hr hd hh
 generalize (u-1)*(u-1)=v at *
 clear hm
 grobner
theorem Ql6 {u:Fp} (hu:u≠0):∃(s δ:Fp) (_:Qgl δ) (_:Par s δ) (P:Pt δ),u*(1-P.y)=s*(1+P.y)∧1+P.y≠0:=by
 obtain⟨i,hi⟩:=Qxc
 have hq:=QwR u
 have hg:u*(u*u+486662*u+1)≠0:=QaY hu hq
 have hn:=QaS hq
 rcases QsX hg with h1|h1
 ·obtain⟨r,hr⟩:=QqI hi (show fpow (121666*(u*(u*u+486662*u+1))) Hp=1 by rw[QcM,h66,h1];decide)
  have hu1:u+1≠0:=by
   intro h0
   have:u*(u*u+486662*u+1)=4*121665:=(Qz2 h0).trans (by decide)
   rw[this,QcM,h4,h65]at h1
   revert h1
   decide
  have hm:=QaS hu1
  refine⟨1,_,QzK,par1,⟨_,_,Qxf rfl hn hm hr (by have:=QaS c66;clear hr hm hn h1 hi;grobner)⟩,?_,?_⟩
  ·show u*(1-(u-1)*finv (u+1))=1*(1+(u-1)*finv (u+1))
   clear hr hn h1 hi
   grobner
  ·show 1+(u-1)*finv (u+1)≠0
   have e:1+(u-1)*finv (u+1)=2*u*finv (u+1):=by clear hr hn h1 hi;grobner
   rw[e]
   refine QaY (QaY Qju hu) fun h0=>?_
   rw[h0]at hm
   exact QoI (by clear hr hn h1 hi e;grobner)
 ·obtain⟨r,hr⟩:=QqI hi (show fpow (121665*(u*(u*u+486662*u+1))) Hp=1 by rw[QcM,h65,h1];decide)
  have hu1:u-1≠0:=by
   intro h0
   have:u*(u*u+486662*u+1)=4*121666:=(Qzb h0).trans (by decide)
   rw[this,QcM,h4,h66]at h1
   revert h1
   decide
  have hm:=QaS hu1
  refine⟨-1,_,QyU,par2,⟨_,_,Qyo rfl hn hm hr (by have:=QaS c65;clear hr hm hn h1 hi;grobner)⟩,?_,?_⟩
  ·show u*(1-(u+1)*finv (u-1))= -1*(1+(u+1)*finv (u-1))
   clear hr hn h1 hi
   grobner
  ·show 1+(u+1)*finv (u-1)≠0
   have e:1+(u+1)*finv (u-1)=2*u*finv (u-1):=by clear hr hn h1 hi;grobner
   rw[e]
   refine QaY (QaY Qju hu) fun h0=>?_
   rw[h0]at hm
   exact QoI (by clear hr hn h1 hi e;grobner)
theorem QhR (x1:Nat) (K:List UInt8):multN x1 K<P25:=QC4 _ Qbi
theorem Qmu {x1:Nat} (h:toF x1=0) (K:List UInt8):∀j,toF (Lad.at x1 K j).x2*toF (Lad.at x1 K j).z2=0∧toF (Lad.at x1 K j).x3*toF (Lad.at x1 K j).z3=0
 | 0=>⟨by show toF 1*toF 0=0;rw[Qgw];grobner,by show toF x1*toF 1=0;rw[h];grobner⟩
 | j+1=>by
   have st:∀l:Lad,toF l.x2*toF l.z2=0→toF (l.step x1).x2*toF (l.step x1).z2=0∧toF (l.step x1).x3*toF (l.step x1).z3=0:=by
    intro l hl
    simp only[Lad.step,Qgq,QkT,Qkw,h]
    generalize toF l.x2=a at *
    generalize toF l.z2=b at *
    generalize toF l.x3=c at *
    generalize toF l.z3=d at *
    constructor
    ·have e:(a+b)*(a+b)-(a-b)*(a-b)=0:=by grobner
     rw[e]
     clear e hl
     grobner
    ·clear hl
     grobner
   have ih:=Qmu h K j
   have e0:Lad.at x1 K (j+1)=Lad.round x1 (kbit K (254-j)) (Lad.at x1 K j):=rfl
   rw[e0]
   unfold Lad.round
   cases kbit K (254-j)
   ·exact st _ ih.1
   ·have:=st (Lad.at x1 K j).swap ih.2
    exact⟨this.2,this.1⟩
theorem Qsx {n:Nat} (hn:n<P25) (h:toF n=0):n=0:=by
 have:=QiA.1 h
 rwa [QCZ hn]at this
theorem Qdc {x1:Nat} (h:toF x1=0) (K:List UInt8):multN x1 K=0:=by
 apply Qsx (QhR _ _)
 rw[multN,Qgq,Qon]
 rcases Qdl (Qmu h K 255).1 with h0|h0
 ·rw[h0]
  grobner
 ·rw[h0,Qls]
  grobner
theorem multN_comm (x1:Nat) (K L:List UInt8):multN (multN x1 K) L=multN (multN x1 L) K:=by
 by_cases h0:toF x1=0
 ·rw[Qdc h0,Qdc h0,Qdc Qgw,Qdc Qgw]
 ·obtain⟨s,δ,hδ,hp,G,hx,hy⟩:=Ql6 h0
  have half:∀K L,toF (multN (multN x1 K) L)=(G.mul hδ (kval K 255*kval L 255)).u s:=by
   intro K L
   have e1:=Qnm hδ hp hx hy K
   rw[QgE]
   by_cases h1:toF (multN x1 K)=0
   ·rw[Qdc h1]
    have h2:(G.mul hδ (kval K 255)).x=0:=(Qsf hδ hp).1 (by rw[←e1];exact h1)
    exact ((Qsf hδ hp).2 (QoT hδ h2 _)).symm
   ·have h2:(G.mul hδ (kval K 255)).u s≠0:=by rw[←e1];exact h1
    obtain⟨b1,b2⟩:=QvY hp h2
    exact Qnm hδ hp (by rw[e1];exact b1) b2 L
  have:=(half K L).trans ((by rw[QDE]:_=_).trans (half L K).symm)
  have:=QxU this
  rwa [QCZ (QhR _ _),QCZ (QhR _ _)]at this
end Ed
namespace Ed
def Qwv:List Nat:=[2,3,5,7,11,13,17,19,23,31,41,43,47,61,67,73,79,101,113,181,227,269,307,383,467,487,727]
theorem Qae:∀q∈Qwv,Prm q:=fun q hq=>QlT (QDm.1 (show Qwv.all small=true by decide +kernel) q hq)
theorem QrL:Prm 30703∧∀a,a%30703≠0→a^(30703-1)%30703=1:=
 Qap 30703 3 [2,3,7,17,43] (by decide +kernel) (by
  intro q hq
  simp only[QCX,QCY,or_false]at hq
  rcases hq with rfl|rfl|rfl|rfl|rfl
  ·exact Qae _ (by decide)
  ·exact Qae _ (by decide)
  ·exact Qae _ (by decide)
  ·exact Qae _ (by decide)
  ·exact Qae _ (by decide))
theorem Qry:Prm 41081∧∀a,a%41081≠0→a^(41081-1)%41081=1:=
 Qap 41081 3 [2,2,2,5,13,79] (by decide +kernel) (by
  intro q hq
  simp only[QCX,QCY,or_false]at hq
  rcases hq with rfl|rfl|rfl|rfl|rfl|rfl
  ·exact Qae _ (by decide)
  ·exact Qae _ (by decide)
  ·exact Qae _ (by decide)
  ·exact Qae _ (by decide)
  ·exact Qae _ (by decide)
  ·exact Qae _ (by decide))
theorem QrR:Prm 82163∧∀a,a%82163≠0→a^(82163-1)%82163=1:=
 Qap 82163 2 [2,41081] (by decide +kernel) (by
  intro q hq
  simp only[QCX,QCY,or_false]at hq
  rcases hq with rfl|rfl
  ·exact Qae _ (by decide)
  ·exact Qry.1)
theorem Qkt:Prm 1723∧∀a,a%1723≠0→a^(1723-1)%1723=1:=
 Qap 1723 3 [2,3,7,41] (by decide +kernel) (by
  intro q hq
  simp only[QCX,QCY,or_false]at hq
  rcases hq with rfl|rfl|rfl|rfl
  ·exact Qae _ (by decide)
  ·exact Qae _ (by decide)
  ·exact Qae _ (by decide)
  ·exact Qae _ (by decide))
theorem Qtk:Prm 17231∧∀a,a%17231≠0→a^(17231-1)%17231=1:=
 Qap 17231 13 [2,5,1723] (by decide +kernel) (by
  intro q hq
  simp only[QCX,QCY,or_false]at hq
  rcases hq with rfl|rfl|rfl
  ·exact Qae _ (by decide)
  ·exact Qae _ (by decide)
  ·exact Qkt.1)
theorem Qpw:Prm 137849∧∀a,a%137849≠0→a^(137849-1)%137849=1:=
 Qap 137849 3 [2,2,2,17231] (by decide +kernel) (by
  intro q hq
  simp only[QCX,QCY,or_false]at hq
  rcases hq with rfl|rfl|rfl|rfl
  ·exact Qae _ (by decide)
  ·exact Qae _ (by decide)
  ·exact Qae _ (by decide)
  ·exact Qtk.1)
theorem Qsj:Prm 22111∧∀a,a%22111≠0→a^(22111-1)%22111=1:=
 Qap 22111 6 [2,3,5,11,67] (by decide +kernel) (by
  intro q hq
  simp only[QCX,QCY,or_false]at hq
  rcases hq with rfl|rfl|rfl|rfl|rfl
  ·exact Qae _ (by decide)
  ·exact Qae _ (by decide)
  ·exact Qae _ (by decide)
  ·exact Qae _ (by decide)
  ·exact Qae _ (by decide))
theorem QpZ:Prm 132667∧∀a,a%132667≠0→a^(132667-1)%132667=1:=
 Qap 132667 5 [2,3,22111] (by decide +kernel) (by
  intro q hq
  simp only[QCX,QCY,or_false]at hq
  rcases hq with rfl|rfl|rfl
  ·exact Qae _ (by decide)
  ·exact Qae _ (by decide)
  ·exact Qsj.1)
theorem QdL:Prm 3044861653679985063343∧∀a,a%3044861653679985063343≠0→a^(3044861653679985063343-1)%3044861653679985063343=1:=
 Qap 3044861653679985063343 5 [2,3,11,30703,82163,132667,137849] (by decide +kernel) (by
  intro q hq
  simp only[QCX,QCY,or_false]at hq
  rcases hq with rfl|rfl|rfl|rfl|rfl|rfl|rfl
  ·exact Qae _ (by decide)
  ·exact Qae _ (by decide)
  ·exact Qae _ (by decide)
  ·exact QrL.1
  ·exact QrR.1
  ·exact QpZ.1
  ·exact Qpw.1)
theorem QsV:Prm 34123∧∀a,a%34123≠0→a^(34123-1)%34123=1:=
 Qap 34123 2 [2,3,11,11,47] (by decide +kernel) (by
  intro q hq
  simp only[QCX,QCY,or_false]at hq
  rcases hq with rfl|rfl|rfl|rfl|rfl
  ·exact Qae _ (by decide)
  ·exact Qae _ (by decide)
  ·exact Qae _ (by decide)
  ·exact Qae _ (by decide)
  ·exact Qae _ (by decide))
theorem Qqe:Prm 409477∧∀a,a%409477≠0→a^(409477-1)%409477=1:=
 Qap 409477 2 [2,2,3,34123] (by decide +kernel) (by
  intro q hq
  simp only[QCX,QCY,or_false]at hq
  rcases hq with rfl|rfl|rfl|rfl
  ·exact Qae _ (by decide)
  ·exact Qae _ (by decide)
  ·exact Qae _ (by decide)
  ·exact QsV.1)
theorem Qme:Prm 14741173∧∀a,a%14741173≠0→a^(14741173-1)%14741173=1:=
 Qap 14741173 2 [2,2,3,3,409477] (by decide +kernel) (by
  intro q hq
  simp only[QCX,QCY,or_false]at hq
  rcases hq with rfl|rfl|rfl|rfl|rfl
  ·exact Qae _ (by decide)
  ·exact Qae _ (by decide)
  ·exact Qae _ (by decide)
  ·exact Qae _ (by decide)
  ·exact Qqe.1)
theorem QlM:Prm 58964693∧∀a,a%58964693≠0→a^(58964693-1)%58964693=1:=
 Qap 58964693 2 [2,2,14741173] (by decide +kernel) (by
  intro q hq
  simp only[QCX,QCY,or_false]at hq
  rcases hq with rfl|rfl|rfl
  ·exact Qae _ (by decide)
  ·exact Qae _ (by decide)
  ·exact Qme.1)
theorem Qct:Prm 198211423230930754013084525763697∧∀a,a%198211423230930754013084525763697≠0→a^(198211423230930754013084525763697-1)%198211423230930754013084525763697=1:=
 Qap 198211423230930754013084525763697 5 [2,2,2,2,3,23,58964693,3044861653679985063343] (by decide +kernel) (by
  intro q hq
  simp only[QCX,QCY,or_false]at hq
  rcases hq with rfl|rfl|rfl|rfl|rfl|rfl|rfl|rfl
  ·exact Qae _ (by decide)
  ·exact Qae _ (by decide)
  ·exact Qae _ (by decide)
  ·exact Qae _ (by decide)
  ·exact Qae _ (by decide)
  ·exact Qae _ (by decide)
  ·exact QlM.1
  ·exact QdL.1)
theorem QtT:Prm 2939∧∀a,a%2939≠0→a^(2939-1)%2939=1:=
 Qap 2939 2 [2,13,113] (by decide +kernel) (by
  intro q hq
  simp only[QCX,QCY,or_false]at hq
  rcases hq with rfl|rfl|rfl
  ·exact Qae _ (by decide)
  ·exact Qae _ (by decide)
  ·exact Qae _ (by decide))
theorem Qvc:Prm 5879∧∀a,a%5879≠0→a^(5879-1)%5879=1:=
 Qap 5879 11 [2,2939] (by decide +kernel) (by
  intro q hq
  simp only[QCX,QCY,or_false]at hq
  rcases hq with rfl|rfl
  ·exact Qae _ (by decide)
  ·exact QtT.1)
theorem Qke:Prm 292386187∧∀a,a%292386187≠0→a^(292386187-1)%292386187=1:=
 Qap 292386187 2 [2,3,3,3,3,307,5879] (by decide +kernel) (by
  intro q hq
  simp only[QCX,QCY,or_false]at hq
  rcases hq with rfl|rfl|rfl|rfl|rfl|rfl|rfl
  ·exact Qae _ (by decide)
  ·exact Qae _ (by decide)
  ·exact Qae _ (by decide)
  ·exact Qae _ (by decide)
  ·exact Qae _ (by decide)
  ·exact Qae _ (by decide)
  ·exact Qvc.1)
theorem Qhz:Prm 213441916511∧∀a,a%213441916511≠0→a^(213441916511-1)%213441916511=1:=
 Qap 213441916511 13 [2,5,73,292386187] (by decide +kernel) (by
  intro q hq
  simp only[QCX,QCY,or_false]at hq
  rcases hq with rfl|rfl|rfl|rfl
  ·exact Qae _ (by decide)
  ·exact Qae _ (by decide)
  ·exact Qae _ (by decide)
  ·exact Qke.1)
theorem QuU:Prm 1361∧∀a,a%1361≠0→a^(1361-1)%1361=1:=
 Qap 1361 3 [2,2,2,2,5,17] (by decide +kernel) (by
  intro q hq
  simp only[QCX,QCY,or_false]at hq
  rcases hq with rfl|rfl|rfl|rfl|rfl|rfl
  ·exact Qae _ (by decide)
  ·exact Qae _ (by decide)
  ·exact Qae _ (by decide)
  ·exact Qae _ (by decide)
  ·exact Qae _ (by decide)
  ·exact Qae _ (by decide))
theorem QuX:Prm 2851∧∀a,a%2851≠0→a^(2851-1)%2851=1:=
 Qap 2851 2 [2,3,5,5,19] (by decide +kernel) (by
  intro q hq
  simp only[QCX,QCY,or_false]at hq
  rcases hq with rfl|rfl|rfl|rfl|rfl
  ·exact Qae _ (by decide)
  ·exact Qae _ (by decide)
  ·exact Qae _ (by decide)
  ·exact Qae _ (by decide)
  ·exact Qae _ (by decide))
theorem Qvm:Prm 2551∧∀a,a%2551≠0→a^(2551-1)%2551=1:=
 Qap 2551 6 [2,3,5,5,17] (by decide +kernel) (by
  intro q hq
  simp only[QCX,QCY,or_false]at hq
  rcases hq with rfl|rfl|rfl|rfl|rfl
  ·exact Qae _ (by decide)
  ·exact Qae _ (by decide)
  ·exact Qae _ (by decide)
  ·exact Qae _ (by decide)
  ·exact Qae _ (by decide))
theorem Qn5:Prm 1224481∧∀a,a%1224481≠0→a^(1224481-1)%1224481=1:=
 Qap 1224481 13 [2,2,2,2,2,3,5,2551] (by decide +kernel) (by
  intro q hq
  simp only[QCX,QCY,or_false]at hq
  rcases hq with rfl|rfl|rfl|rfl|rfl|rfl|rfl|rfl
  ·exact Qae _ (by decide)
  ·exact Qae _ (by decide)
  ·exact Qae _ (by decide)
  ·exact Qae _ (by decide)
  ·exact Qae _ (by decide)
  ·exact Qae _ (by decide)
  ·exact Qae _ (by decide)
  ·exact Qvm.1)
theorem QtE:Prm 3797∧∀a,a%3797≠0→a^(3797-1)%3797=1:=
 Qap 3797 2 [2,2,13,73] (by decide +kernel) (by
  intro q hq
  simp only[QCX,QCY,or_false]at hq
  rcases hq with rfl|rfl|rfl|rfl
  ·exact Qae _ (by decide)
  ·exact Qae _ (by decide)
  ·exact Qae _ (by decide)
  ·exact Qae _ (by decide))
theorem Qpt:Prm 531581∧∀a,a%531581≠0→a^(531581-1)%531581=1:=
 Qap 531581 2 [2,2,5,7,3797] (by decide +kernel) (by
  intro q hq
  simp only[QCX,QCY,or_false]at hq
  rcases hq with rfl|rfl|rfl|rfl|rfl
  ·exact Qae _ (by decide)
  ·exact Qae _ (by decide)
  ·exact Qae _ (by decide)
  ·exact Qae _ (by decide)
  ·exact QtE.1)
theorem QfJ:Prm 1257559732178653∧∀a,a%1257559732178653≠0→a^(1257559732178653-1)%1257559732178653=1:=
 Qap 1257559732178653 2 [2,2,3,7,23,531581,1224481] (by decide +kernel) (by
  intro q hq
  simp only[QCX,QCY,or_false]at hq
  rcases hq with rfl|rfl|rfl|rfl|rfl|rfl|rfl
  ·exact Qae _ (by decide)
  ·exact Qae _ (by decide)
  ·exact Qae _ (by decide)
  ·exact Qae _ (by decide)
  ·exact Qae _ (by decide)
  ·exact Qpt.1
  ·exact Qn5.1)
theorem QeM:Prm 4434155615661930479∧∀a,a%4434155615661930479≠0→a^(4434155615661930479-1)%4434155615661930479=1:=
 Qap 4434155615661930479 17 [2,41,43,1257559732178653] (by decide +kernel) (by
  intro q hq
  simp only[QCX,QCY,or_false]at hq
  rcases hq with rfl|rfl|rfl|rfl
  ·exact Qae _ (by decide)
  ·exact Qae _ (by decide)
  ·exact Qae _ (by decide)
  ·exact QfJ.1)
theorem Qc0:Prm 172054593956031949258510691∧∀a,a%172054593956031949258510691≠0→a^(172054593956031949258510691-1)%172054593956031949258510691=1:=
 Qap 172054593956031949258510691 2 [2,5,1361,2851,4434155615661930479] (by decide +kernel) (by
  intro q hq
  simp only[QCX,QCY,or_false]at hq
  rcases hq with rfl|rfl|rfl|rfl|rfl
  ·exact Qae _ (by decide)
  ·exact Qae _ (by decide)
  ·exact QuU.1
  ·exact QuX.1
  ·exact QeM.1)
theorem QbS:Prm 19757330305831588566944191468367130476339∧∀a,a%19757330305831588566944191468367130476339≠0→a^(19757330305831588566944191468367130476339-1)%19757330305831588566944191468367130476339=1:=
 Qap 19757330305831588566944191468367130476339 2 [2,269,213441916511,172054593956031949258510691] (by decide +kernel) (by
  intro q hq
  simp only[QCX,QCY,or_false]at hq
  rcases hq with rfl|rfl|rfl|rfl
  ·exact Qae _ (by decide)
  ·exact Qae _ (by decide)
  ·exact Qhz.1
  ·exact Qc0.1)
theorem QbO:Prm 276602624281642239937218680557139826668747∧∀a,a%276602624281642239937218680557139826668747≠0→a^(276602624281642239937218680557139826668747-1)%276602624281642239937218680557139826668747=1:=
 Qap 276602624281642239937218680557139826668747 2 [2,7,19757330305831588566944191468367130476339] (by decide +kernel) (by
  intro q hq
  simp only[QCX,QCY,or_false]at hq
  rcases hq with rfl|rfl|rfl
  ·exact Qae _ (by decide)
  ·exact Qae _ (by decide)
  ·exact QbS.1)
theorem QBw:Prm 7237005577332262213973186563042994240857116359379907606001950938285454250989∧∀a,a%7237005577332262213973186563042994240857116359379907606001950938285454250989≠0→a^(7237005577332262213973186563042994240857116359379907606001950938285454250989-1)%7237005577332262213973186563042994240857116359379907606001950938285454250989=1:=
 Qap 7237005577332262213973186563042994240857116359379907606001950938285454250989 2 [2,2,3,11,198211423230930754013084525763697,276602624281642239937218680557139826668747] (by decide +kernel) (by
  intro q hq
  simp only[QCX,QCY,or_false]at hq
  rcases hq with rfl|rfl|rfl|rfl|rfl|rfl
  ·exact Qae _ (by decide)
  ·exact Qae _ (by decide)
  ·exact Qae _ (by decide)
  ·exact Qae _ (by decide)
  ·exact Qct.1
  ·exact QbO.1)
end Ed
namespace Ed
theorem QsD (K:List UInt8) (hK:K.length=32):∀j,j≤255→kval K j=num K/2^(255-j)%2^j
 | 0,_=>by rw[QEQ,Nat.mod_one];rfl
 | j+1,hj=>by
   have ih:=QsD K hK j (by omega)
   have hb:=Qsy K (254-j) (by omega)
   have e1:(kbit K (254-j)).toNat=num K/2^(254-j)%2:=by
    unfold kbit
    rw[hb]
    rcases Nat.mod_two_eq_zero_or_one ((K.getD ((254-j)/8) 0).toNat/2^((254-j)%8)) with h|h<;>rw[h]<;>rfl
   show 2*kval K j+(kbit K (254-j)).toNat=_
   rw[e1,ih,show 255-(j+1)=254-j by omega,show 255-j=(254-j)+1 by omega,QDF,←QDp,QDF]
   generalize num K/2^(254-j)=X
   rw[QDE (2^j) 2,Nat.mod_mul]
   omega
theorem QuS (K:List UInt8) (hK:K.length=32):kval K 255=num K%2^255:=by
 rw[QsD K hK 255 (QCL _)]
 simp
theorem QrK (bs:List UInt8):num (QaQ bs)%8=0∨bs.length≠32:=by
 by_cases h:bs.length=32
 ·left
  have h1:=Qou (QaQ bs) 0 (by rw[Qbt];omega)
  rw[QEb]at h1
  have h2:(QaQ bs).getD 0 0=bs.getD 0 0 &&& 248:=by
   rw[QaQ,if_pos h,QCI,QDV (by omega),QEk (by omega)]
   rfl
  have h3:=(QhK ⟨(bs.getD 0 0).toNat,(bs.getD 0 0).toNat_lt⟩).1
  simp only at h3
  rw[h1,h2,UInt8.toNat_and,show QEV 248=248 from rfl,h3]
  omega
 ·exact .inr h
theorem Qtz (bs:List UInt8) (h:bs.length=32):2^254≤num (QaQ bs)∧num (QaQ bs)<2^255:=by
 have h1:=QkZ (QaQ bs) 31 (by rw[Qbt];omega)
 rw[QCP (by rw[Qbt];omega)]at h1
 have h2:(QaQ bs).getD 31 0=(bs.getD 31 0 &&& 127) ||| 64:=by
  rw[QaQ,if_pos h,QCI,QEk (by simp;omega)]
  rfl
 have h3:=(QhK ⟨(bs.getD 31 0).toNat,(bs.getD 31 0).toNat_lt⟩).2
 simp only at h3
 have h4:((QaQ bs).getD 31 0).toNat=(bs.getD 31 0).toNat%64+64:=by
  rw[h2,UInt8.toNat_or,UInt8.toNat_and,show QEV 127=127 from rfl,show QEV 64=64 from rfl,h3]
 have h5:=QlZ ((QaQ bs).take 31)
 rw[QC1,Qbt]at h5
 rw[h4]at h1
 have e:(256:Nat)^31*64=2^254:=by decide
 have e2:(256:Nat)^31*128=2^255:=by decide
 have h6:(256:Nat)^31*64≤256^31*((bs.getD 31 0).toNat%64+64):=QEa _ (by omega)
 have h7:(256:Nat)^31*((bs.getD 31 0).toNat%64+64)+256^31≤256^31*128:=by
  have hy:(bs.getD 31 0).toNat%64+64+1≤128:=by omega
  generalize (bs.getD 31 0).toNat%64+64=y at hy
  have:=QEa (256^31) hy
  rw[QDM,QEs]at this
  exact this
 rw[QDv (by omega)]at h5
 omega
def ellN:Nat:=7237005577332262213973186563042994240857116359379907606001950938285454250989
def Kl:List UInt8:=[237,211,245,92,26,99,18,88,214,156,247,162,222,249,222,20,0,0,0,0,0,0,0,0,0,0,0,0,0,0,0,16]
theorem Qzn:kval Kl 255=ellN:=by decide +kernel
set_option maxRecDepth 100000 in
theorem ord9:(Lad.at 9 Kl 255).z2=0:=by decide +kernel
theorem QyV {x y d:Fp} (h:x=0) (on:x*x+y*y=1+d*x*x*y*y):y*y=1:=by grobner
theorem QB4 {x y d:Fp} (h:x=0):d*x*x*y*y=0:=by grobner
theorem QAa {x y t:Fp} (h:x=0):x*y+x*y=0*t:=by grobner
theorem Qz8 {x y:Fp} (h:x=0) (hy:y*y=1):y*y-x*x=1:=by grobner
section
variable {δ:Fp} (hδ:Qgl δ)
include hδ in
theorem QwX {Q:Pt δ} (h:1-Q.y=0):Q=Pt.zero:=by
 have on:=Q.on
 have hy:Q.y=1:=by clear on;grobner
 have:Q.x*Q.x*(1-δ)=0:=by clear h;grobner
 have hx:Q.x=0:=by
  rcases Qdl this with h1|h1
  ·exact (Qdl h1).elim id id
  ·exact absurd h1 (QiT hδ)
 exact Pt.ext hx hy
theorem Qum {Q:Pt δ} (h:Q.x=0):Q.add hδ Q=Pt.zero:=by
 have hy:Q.y*Q.y=1:=QyV h Q.on
 have ht:tt Q Q=0:=QB4 h
 apply Pt.ext
 ·apply QeT (Qgr hδ Q Q)
  rw[Qi8]
  exact QAa h
 ·apply QeT (Qf7 hδ Q Q)
  rw[Qgj,ht]
  exact (Qz8 h hy).trans (show (1:Fp)=1*(1-0) by decide)
theorem zero_mul (n:Nat):(Pt.zero:Pt δ).mul hδ n=Pt.zero:=by
 induction n with
 | zero=>rfl
 | succ n ih=>show ((Pt.zero:Pt δ).mul hδ n).add hδ Pt.zero=Pt.zero;rw[ih,Qgy]
structure Ell (L:Nat):Prop where
 kl:kval Kl 255=L
 inv:∀n,n%L≠0→∃m,n*m%L=1
 dbl:∀n,n%L≠0→(n+n)%L≠0
 one:1%L≠0
 clamp:∀bs:List UInt8,bs.length=32→kval (QaQ bs) 255%L≠0
theorem QxL {L:Nat} (hL:Ell L) {s:Fp} {G:Pt δ} (hp:Par s δ) (hx:toF 9*(1-G.y)=s*(1+G.y)) (hy:1+G.y≠0):G.mul hδ L=Pt.zero:=by
 have h:=(QsY hδ hp hx hy Kl 255).1
 rw[hL.kl]at h
 obtain⟨k,hk,_,hZ⟩:=h
 rw[ord9,Qgw]at hZ
 have hs:=Qhq hp
 have hsn:s≠0:=by rintro rfl;revert hs;decide
 rcases Qdl hZ.symm with h1|h1
 ·exact absurd h1 (QaY hk hsn)
 ·exact QwX hδ h1
theorem Ql4 {L:Nat} (hL:Ell L) {s:Fp} {G:Pt δ} (hp:Par s δ) (hx:toF 9*(1-G.y)=s*(1+G.y)) (hy:1+G.y≠0) {n:Nat} (hn:n%L≠0):(G.mul hδ n).x≠0:=by
 intro h0
 have h1:=Qum hδ h0
 rw[←QdR]at h1
 obtain⟨m,hm⟩:=hL.inv _ (hL.dbl n hn)
 have h3:G.mul hδ ((n+n)*m)=Pt.zero:=by rw[QgE,h1,zero_mul]
 have h4:(n+n)*m=L*((n+n)*m/L)+1:=by
  have:=QDw ((n+n)*m) L
  omega
 rw[h4,QdR,QgE,QxL hδ hL hp hx hy,zero_mul,Qmz,QhM]at h3
 have hs:=Qhq hp
 rw[h3]at hx hy
 have h5:s*2=0:=by
  have:toF 9*(1-1)=s*(1+1):=hx
  clear hx hy hs hp h0 h1
  grobner
 rcases Qdl h5 with h6|h6
 ·subst h6
  revert hs
  decide
 ·exact Qju h6
end
theorem Qqa {p n:Nat} (h:∀a,a%p≠0→a^(p-1)%p=1) (hp:2≤p) (hn:n%p≠0):∃m,n*m%p=1:=by
 refine⟨n^(p-2),?_⟩
 rw[←QEx,show (p-2).succ=p-1 by omega]
 exact h n hn
theorem Quh (a:Nat) (h:a%ellN≠0):a^(ellN-1)%ellN=1:=by
 have:=QBw.2 a (by unfold ellN at h;exact h)
 unfold ellN
 exact this
theorem QmT {n:Nat} (hn:n%ellN≠0):∃m,n*m%ellN=1:=Qqa (p:=ellN) Quh (by unfold ellN;omega) hn
theorem Qr5 (bs:List UInt8) (h:bs.length=32):kval (QaQ bs) 255%ellN≠0:=by
 rw[QuS _ (Qbt bs)]
 have h1:=Qtz bs h
 have h2:=(QrK bs).resolve_right (fun e=>e h)
 rw[QCZ h1.2]
 intro h0
 obtain⟨m,hm⟩:∃m,num (QaQ bs)=8*m:=⟨num (QaQ bs)/8,by omega⟩
 rw[hm]at h0 h1
 have h3:m<ellN:=by unfold ellN;omega
 have h4:m%ellN≠0:=by rw[QCZ h3];omega
 obtain⟨r,hr⟩:=QmT h4
 have h5:(8*m)*r%ellN=0:=by rw[QDT,h0,QEO,QEG]
 rw[QDS,QDT,hr]at h5
 revert h5
 decide
theorem Qxg (n:Nat) (h:n%ellN≠0):(n+n)%ellN≠0:=by
 intro h0
 obtain⟨r,hr⟩:=QmT (n:=2) (by decide)
 have h1:n*(2*r)%ellN=0:=by rw[←QDS,Nat.mul_two,QDT,h0,QEO,QEG]
 rw[QDT,hr,QEs,QDZ]at h1
 exact h h1
theorem ell:∃L,Ell L:=
 ⟨ellN,Qzn,fun _ h=>QmT h,Qxg,by decide,Qr5⟩
theorem Ell.prod {L n m:Nat} (hL:Ell L) (hn:n%L≠0) (hm:m%L≠0):n*m%L≠0:=by
 intro h0
 obtain⟨r,hr⟩:=hL.inv n hn
 have h1:n*r*m%L=0:=by rw[show n*r*m=n*m*r by rw[QDS,QDE r m,QDS],QDT,h0,QEO,QEG]
 rw[QDT,hr,Nat.one_mul,QDZ]at h1
 exact hm h1
def From9 (q:Nat):Prop:=q<P25∧∃(L:Nat) (_:Ell L) (s δ:Fp) (hδ:Qgl δ) (_:Par s δ) (G:Pt δ) (n:Nat),toF 9*(1-G.y)=s*(1+G.y)∧1+G.y≠0∧n%L≠0∧toF q=(G.mul hδ n).u s
theorem from9_ne {q:Nat} (h:From9 q):q≠0:=by
 obtain⟨_,L,hL,s,δ,hδ,hp,G,n,hx,hy,hn,he⟩:=h
 rintro rfl
 exact Ql4 hδ hL hp hx hy hn ((Qsf hδ hp).1 he.symm)
theorem from9_nine:From9 9:=by
 obtain⟨s,δ,hδ,hp,G,hx,hy⟩:=Ql6 (u:=toF 9) (by decide)
 obtain⟨L,hL⟩:=ell
 refine⟨by decide,L,hL,s,δ,hδ,hp,G,1,hx,hy,hL.one,?_⟩
 rw[QhM]
 have h1:1-G.y≠0:=by
  intro h0
  have hs:=Qhq hp
  have hsn:s≠0:=by rintro rfl;revert hs;decide
  rw[h0]at hx
  have:s*(1+G.y)=0:=by rw[←hx];clear hx hs hp hy;grobner
  exact QaY hsn hy this
 unfold Pt.u
 rw[if_neg h1,←hx]
 have:=QaS h1
 clear hx hy hp h1
 grobner
theorem from9_step {q:Nat} (h:From9 q) (ks:List UInt8) (hk:ks.length=32):From9 (multN q (QaQ ks)):=by
 have hne:=from9_ne h
 obtain⟨hq,L,hL,s,δ,hδ,hp,G,n,hx,hy,hn,he⟩:=h
 have h0:toF q≠0:=fun h=>hne (Qsx hq h)
 rw[he]at h0
 obtain⟨b1,b2⟩:=QvY hp h0
 refine⟨QhR _ _,L,hL,s,δ,hδ,hp,G,n*kval (QaQ ks) 255,hx,hy,hL.prod hn (hL.clamp ks hk),?_⟩
 rw[QgE]
 exact Qnm hδ hp (by rw[he];exact b1) b2 (QaQ ks)
end Ed
end Go.Proofs.YtdhgpkdjdmlphaaGreat
namespace Go.Proofs.YtdhgpkdjdmlphaaGreat
open Go.RowKit
theorem Quq (ks:List UInt8) (q:Nat) (h:q<P25):Qjj ks (nb q)=Ed.multN q (QaQ ks):=by
 rw[Qjj,Qof q h]
 rfl
theorem Qfr (ks:List UInt8) (q:Nat) (hk:ks.length=32) (h:q<P25):Qbg ks (nb q)=nb (Ed.multN q (QaQ ks))∧QaX ks (nb q)=if Ed.multN q (QaQ ks)=0 then 5 else 0:=by
 unfold Qbg QaX
 rw[Quq ks q h,if_pos ⟨hk,QbR q⟩,if_pos ⟨hk,QbR q⟩]
 exact⟨rfl,rfl⟩
theorem Qwt:9<P25:=by decide
theorem Qzq (ks:List UInt8) (hk:ks.length=32):QaX ks (nb 9)=0:=by
 rw[(Qfr ks 9 hk Qwt).2,if_neg (Ed.from9_ne (Ed.from9_step Ed.from9_nine ks hk))]
section
variable {w wk v:World} {ls ls':List (Nat×TypeId×List Value)}
theorem Bag.fresh (h:Bag w wk ls) {k:Nat} {t:TypeId} {l:List Value} (j:Later wk v) (hk:wk.heap.size≤k) (hb:Blk v k t l):Bag w v ((k,t,l) :: ls):=
 h.add j (fun p hp e=>by have:=(h.blk p hp).lt;omega) (QDl h.lat.size hk) hb
theorem Bag.sub (h:Bag w wk ls) (hs:ls'.Sublist ls):Bag w wk ls':=
 ⟨h.lat,fun p hp=>h.blk p (hs.subset hp),fun p hp=>h.low p (hs.subset hp),(hs.map _).nodup h.nd⟩
end
theorem QfC {w:World} {g n:Nat} {t:TypeId} {bs:List UInt8} {rest:List Value} (h:Blk w g t (bs.map W8++rest)) (hn:bs.length=n):RdB w (some ⟨g,0,none⟩) n bs:=
 ⟨by rw[QCE,hn],fun _=>⟨g,0,rfl,h.lt,fun j u hu=>by
   rw[QC6]
   refine h.cellD j ?_
   rw[QCU (QCT.1 hu).1]
   exact hu⟩⟩
theorem QgW {w:World} {g:Nat} {t:TypeId} {v:Value} {p:List UInt8} (hb:Blk w g t [v]) (hp:Part w (fun _=>False) v p):Parts w (fun _=>False) (some ⟨g,0,none⟩) 1 [p]:=
 ⟨[v],hb.rd rfl,QbL _ _,rfl,fun j v' p' hv hp'=>by
   cases j with
   | zero=>
     cases hv
     cases hp'
     exact hp
   | succ j=>simp at hv⟩
theorem Qev {w:World} {g:Nat} {t:TypeId} {v1 v2:Value} {p1 p2:List UInt8} (hb:Blk w g t [v1,v2]) (h1:Part w (fun _=>False) v1 p1) (h2:Part w (fun _=>False) v2 p2):Parts w (fun _=>False) (some ⟨g,0,none⟩) 2 [p1,p2]:=
 ⟨[v1,v2],hb.rd rfl,QbL _ _,rfl,fun j v' p' hv hp'=>by
   match j with
   | 0=>
     cases hv
     cases hp'
     exact h1
   | 1=>
     cases hv
     cases hp'
     exact h2
   | j+2=>simp at hv⟩
theorem QhT {w:World} {base n c:Nat} {A:Option Addr} {bs:List UInt8} (h:OwnB w base A n c bs) (hn:0<n):∃g rest,A=some ⟨g,0,none⟩∧base≤g∧Blk w g 5 (bs.map W8++rest)∧c=(bs.map W8++rest).length∧n≤c:=by
 rcases QsO h with ⟨_,h0⟩|⟨g,rest,e,h1,h2,h3⟩
 ·omega
 ·exact⟨g,rest,e,h1,h2,h3,h.cap⟩
theorem QaW {w:World} {A:Option Addr} {n c:Nat} {p:List UInt8} (h:RdB w A n p) (hc:n≤c):Part w (fun _=>False) (.slice A n c) p:=⟨A,n,c,rfl,hc,h,fun _ _ _ h=>h⟩
theorem QpI {w:World} {g:Nat} {t:TypeId} {l rest:List Value} {n:Nat} (h:Blk w g t (l++rest)) (hn:l.length=n):Rd w (some ⟨g,0,none⟩) n l:=by
 refine⟨hn,fun _=>⟨g,0,rfl,h.lt,fun j u hu=>?_⟩⟩
 rw[QC6]
 refine h.cellD j ?_
 rw[QCU (by have:=(QCT.1 hu).1;omega)]
 exact hu
theorem Qez {w:World} {g:Nat} {t:TypeId} {bs:List UInt8} {rest:List Value} {n:Nat} (h:Blk w g t (bs.map W8++rest)) (hn:bs.length=n):RdB w (some ⟨g,0,none⟩) n bs:=QpI h (by rw[QCE,hn])
structure Prt where
 kd:UInt8
 id:UInt64
 ix:Int
 ct:Int
 da:List UInt8
def PaC (p:Prt) (v:Value):List Value:=[W8 p.kd,W64 p.id,.int .i64 p.ix,.int .i64 p.ct,v]
def prtE (p:Prt):Nat:=
 if p.kd<1∨3<p.kd then 1 else if 450<p.da.length then 2 else if p.ct<1∨16<p.ct∨p.ix<0∨p.ct≤p.ix then 3
 else if p.kd≠1∧p.ct≠1 then 3 else if p.kd=2∧(p.id≠0∨p.da.length≠0) then 3 else 0
abbrev Y16:={l:List UInt8 // l.length=16}
structure Cmd where
 kd:UInt8
 fl:UInt8
 dl:UInt32
 nx:UInt64
 ma:Y16
def QbJ:Y16:=⟨QCA 16 0,by simp⟩
def cmd0:Cmd:=⟨0,0,0,0,QbJ⟩
def CC (c:Cmd):List Value:=W8 c.kd :: W8 c.fl :: W32 c.dl :: W64 c.nx :: c.ma.val.map W8
theorem Qao (c:Cmd):(CC c).length=20:=by simp[CC,c.ma.2]
theorem Qxk (c:Cmd):(CC c).drop 4=c.ma.val.map W8:=rfl
abbrev pid (q:Prt):Prt:=q
section
variable {α:Type} (pr:α→Prt)
def tkE (id:UInt64) (ks:List α) (p:Prt):Nat:=
 if p.kd≠1∨prtE p≠0 then 3 else if p.id≠id then 4 else if ks.any (fun q=>(pr q).ct != p.ct||(pr q).ix==p.ix) then 3 else 0
def tkK (id:UInt64) (ks:List α) (x:α):List α:=if tkE pr id ks (pr x)=0 then ks++[x] else ks
end
structure KeptOk (ks:List Prt):Prop where
 good:∀q∈ks,q.kd=1∧prtE q=0
 same:∀q∈ks,∀r∈ks,q.ct=r.ct
 nd:(ks.map (·.ix)).Nodup
theorem Qrd {p:Prt} (h:prtE p=0):1≤p.ct∧p.ct≤16∧0≤p.ix∧p.ix<p.ct∧p.da.length≤450:=by
 unfold prtE at h
 split at h
 ·cases h
 split at h
 ·cases h
 split at h
 ·cases h
 rename_i h1 h2 h3
 omega
theorem QtO {id:UInt64} {ks:List Prt} {p:Prt} (h:tkE pid id ks p=0):p.kd=1∧prtE p=0∧p.id=id∧(∀ q∈ks,q.ct=p.ct∧q.ix≠p.ix):=by
 unfold tkE at h
 split at h
 ·cases h
 split at h
 ·cases h
 split at h
 ·cases h
 rename_i h1 h2 h3
 refine⟨Classical.not_not.1 fun hc=>h1 (.inl hc),Classical.not_not.1 fun hc=>h1 (.inr hc),Classical.not_not.1 h2,fun q hq=>?_⟩
 have h4:(q.ct != p.ct||q.ix==p.ix)=false:=by
  cases hb:(q.ct != p.ct||q.ix==p.ix) with
  | false=>rfl
  | true=>exact absurd (List.any_eq_true.2 ⟨q,hq,hb⟩) h3
 simp only[Bool.or_eq_false_iff,bne_eq_false_iff_eq,beq_eq_false_iff_ne]at h4
 exact h4
theorem KeptOk.snoc {id:UInt64} {ks:List Prt} {p:Prt} (h:KeptOk ks):KeptOk (tkK pid id ks p):=by
 unfold tkK
 split
 ·rename_i h0
  obtain⟨h1,h2,_,h4⟩:=QtO h0
  refine⟨fun q hq=>?_,fun q hq r hr=>?_,?_⟩
  ·rcases QD8.1 hq with hq|hq
   ·exact h.good q hq
   ·obtain rfl:q=p:=by simpa using hq
    exact⟨h1,h2⟩
  ·rcases QD8.1 hq with hq|hq<;>rcases QD8.1 hr with hr|hr
   ·exact h.same q hq r hr
   ·have e:r=p:=by simpa using hr
    rw[e]
    exact (h4 q hq).1
   ·have e:q=p:=by simpa using hq
    rw[e]
    exact (h4 r hr).1.symm
   ·have e:q=p:=by simpa using hq
    have e':r=p:=by simpa using hr
    rw[e,e']
  ·rw[QDh,List.nodup_append]
   refine⟨h.nd,by simp,fun a ha b hb=>?_⟩
   obtain rfl:b=p.ix:=by simpa using hb
   obtain⟨q,hq,rfl⟩:=QDt.1 ha
   exact (h4 q hq).2
 ·exact h
theorem Qin:∀(n:Nat) (l:List Int),l.Nodup→(∀ i∈l,0≤i∧i<n)→l.length≤n
 | 0,l,_,h=>by
   cases l with
   | nil=>exact QCL _
   | cons i l=>have:=h i (by simp);omega
 | n+1,l,hn,h=>by
   have hb:(l.erase (n:Int)).length≤n:=by
    refine Qin n _ (hn.erase _) fun i hi=>?_
    have h1:=h i (List.mem_of_mem_erase hi)
    have h2:i≠(n:Int):=fun e=>by subst e;exact (List.Nodup.not_mem_erase hn) hi
    omega
   have:=List.length_erase_of_mem (a:=(n:Int)) (l:=l)
   by_cases hm:(n:Int)∈l
   ·rw[this hm]at hb
    omega
   ·rw[List.erase_of_not_mem hm]at hb
    omega
theorem KeptOk.le {ks:List Prt} (h:KeptOk ks) {c:Int} (hc:∀q∈ks,q.ct=c) (h0:0≤c):(ks.length:Int)≤c:=by
 have:=Qin c.toNat (ks.map (·.ix)) h.nd (fun i hi=>by
  obtain⟨q,hq,rfl⟩:=QDt.1 hi
  have:=Qrd (h.good q hq).2
  have:=hc q hq
  omega)
 rw[QCE]at this
 omega
def daAt (ks:List Prt) (i:Nat):List UInt8:=((ks.find? (fun q=>q.ix==(i:Int))).map (·.da)).getD []
def whole (ks:List Prt):List UInt8:=(QDq ks.length).flatMap fun (i:Nat)=>(ks.filter (fun q=>q.ix==(i:Int))).flatMap (·.da)
structure Arr where
 pt:Prt
 kd:UInt8
 to:UInt64
 tk:Int
 ma:Y16
structure Ltr where
 to:UInt64
 id:UInt64
 tk:Int
 tx:List UInt8
structure Arv where
 ar:Arr
 va:Value
def AvOk (w:World) (x:Arv):Prop:=∃A n c,x.va= .slice A n c∧n≤c∧RdB w A n x.ar.pt.da
theorem AvOk.later {w w':World} {x:Arv} (h:AvOk w x) (hl:Later w w'):AvOk w' x:=by
 obtain⟨A,n,c,h1,h2,h3⟩:=h
 exact⟨A,n,c,h1,h2,h3.later hl⟩
structure Vst where
 cm:Cmd
 id:UInt64
 tk:Int
end Go.Proofs.YtdhgpkdjdmlphaaGreat
namespace Go.Proofs.YtdhgpkdjdmlphaaGreat
open Go.RowKit
open Go.BigFrame
section
variable {ops:Array Oper} {rest:List Oper} {o:Oper} {a:Act} {w:World} {Q:Exit→Act→World→Prop}
end
theorem Qze:(Tryz.prog.info? 25).map (·.size)=some 5:=by kernel_rfl
theorem Qpc (p:Prt) (v:Value):(PaC p v).length=5:=rfl
section
variable {ops:Array Oper} {rest:List Oper} {o:Oper} {a:Act} {w:World} {Q:Exit→Act→World→Prop}
theorem QkG (hw:Region.wanted o (yielded ops a.tmps)=true) (x:Operand) (ho:o.op= .load 25 x) {g:Nat} {t:TypeId} {p:Prt} {v:Value} (hb:Blk w g t (PaC p v)) (hx:a.eval x= .pointer (some ⟨g,0,none⟩))
 (h:wpList Tryz.prog ops Q rest (a.put o.dst (.agg (PaC p v).toArray)) w):wpList Tryz.prog ops Q (o :: rest) a w:=
 QaB hw _ x ho g 0 _ (fun j v hv=>by rw[QC6];exact hb.cellD _ hv) hx _ Tryz.underlying25 rfl (by rw[Qpc];exact Qze) h
end
theorem Qb6 {w:World} {g:Nat} {t:TypeId} {p:Prt} {v:Value} (h:Blk w g t (PaC p v)):w.cell? ⟨g,0,none⟩=some (W8 p.kd)∧w.cell? ⟨g,1,none⟩=some (W64 p.id)∧w.cell? ⟨g,2,none⟩=some (.int .i64 p.ix)∧w.cell? ⟨g,3,none⟩=some (.int .i64 p.ct)∧w.cell? ⟨g,4,none⟩=some v:=
 ⟨h.cellD 0 rfl,h.cellD 1 rfl,h.cellD 2 rfl,h.cellD 3 rfl,h.cellD 4 rfl⟩
theorem Qur (k:UInt8):k=1∨k=2∨k=3∨(k<1∨3<k):=by
 have e1:(1:UInt8).toNat=1:=rfl
 have e2:(2:UInt8).toNat=2:=rfl
 have e3:(3:UInt8).toNat=3:=rfl
 rw[QEu,QEu,←QDD,←QDD,←QDD]
 omega
theorem Qzc (id:UInt64) (ix ct:Int) (da:List UInt8):prtE ⟨1,id,ix,ct,da⟩=if 450<da.length then 2 else if ct<1∨16<ct∨ix<0∨ct≤ix then 3 else 0:=by
 rw[prtE,if_neg (show ¬((1:UInt8)<1∨3<(1:UInt8)) by decide)]
 simp
theorem QyT (id:UInt64) (ix ct:Int) (da:List UInt8):prtE ⟨2,id,ix,ct,da⟩=if 450<da.length then 2 else if ct<1∨16<ct∨ix<0∨ct≤ix then 3 else if ct≠1 then 3 else if id≠0∨da.length≠0 then 3 else 0:=by
 rw[prtE,if_neg (show ¬((2:UInt8)<1∨3<(2:UInt8)) by decide)]
 simp
theorem Qz3 (id:UInt64) (ix ct:Int) (da:List UInt8):prtE ⟨3,id,ix,ct,da⟩=if 450<da.length then 2 else if ct<1∨16<ct∨ix<0∨ct≤ix then 3 else if ct≠1 then 3 else 0:=by
 rw[prtE,if_neg (show ¬((3:UInt8)<1∨3<(3:UInt8)) by decide)]
 simp
theorem Qvg {p:Prt} (h:p.kd<1∨3<p.kd):prtE p=1:=by rw[prtE,if_pos h]
set_option maxRecDepth 100000 in
set_option maxHeartbeats 4000000 in
theorem QpN (p:Prt) (A:Option Addr) (n c:Nat) (hn:p.da.length=n) (w:World):Calls Tryz.prog 89 #[.agg (PaC p (.slice A n c)).toArray] w fun e w'=>e= .returned (.int .i64 (prtE p:Nat))∧Later w w':=by
 obtain⟨kd,id,ix,ct,da⟩:=p
 simp only at hn
 have hb:Blk (w.alloc (.cells (PaC ⟨kd,id,ix,ct,da⟩ (.slice A n c)).toArray 25)) w.heap.size 25 (PaC ⟨kd,id,ix,ct,da⟩ (.slice A n c)):=Blk.new _ _ _
 obtain⟨c0,c1,c2,c3,c4⟩:=Qb6 hb
 have L:=Qaa w (.cells (PaC ⟨kd,id,ix,ct,da⟩ (.slice A n c)).toArray 25)
 clear hb
 obtain⟨E,hE⟩:∃E,prtE ⟨kd,id,ix,ct,da⟩=E:=⟨_,rfl⟩
 rw[hE]
 rcases Qur kd with rfl|rfl|rfl|hbad
 case inr.inr.inr=>
  have HE:=hid (hE.symm.trans (Qvg (p:=⟨kd,id,ix,ct,da⟩) hbad))
  clear hE
  rcases hbad with h|h
  ·go_enter Tryz.func89,Tryz.ntmps89
   go_wp2_with fail
   go_ret
   exact⟨by rw[HE.out];rfl,L⟩
  ·by_cases h1:kd<1
   all_goals
    go_enter Tryz.func89,Tryz.ntmps89
    go_wp2_with fail
    go_ret
    exact⟨by rw[HE.out];rfl,L⟩
 all_goals
  have HE:=hE.symm.trans (by first|exact Qzc id ix ct da|exact QyT id ix ct da|exact Qz3 id ix ct da)
  rw[hn]at HE
  replace HE:=hid HE
  clear hE
  by_cases h2:450<n
  ·have hd:decide ((450:Int)<(n:Int))=true:=decide_eq_true (by omega)
   replace HE:=hid (HE.out.trans (if_pos h2))
   go_enter Tryz.func89,Tryz.ntmps89
   go_wp2_with fail
   go_ret
   exact⟨by rw[HE.out];rfl,L⟩
  have hd:decide ((450:Int)<(n:Int))=false:=decide_eq_false (by omega)
  replace HE:=hid (HE.out.trans (if_neg h2))
  by_cases h3:ct<1∨16<ct∨ix<0∨ct≤ix
  ·replace HE:=hid (HE.out.trans (if_pos h3))
   by_cases k1:ct<1
   ·go_enter Tryz.func89,Tryz.ntmps89
    go_wp2_with fail
    go_ret
    exact⟨by rw[HE.out];rfl,L⟩
   by_cases k2:16<ct
   ·go_enter Tryz.func89,Tryz.ntmps89
    go_wp2_with fail
    go_ret
    exact⟨by rw[HE.out];rfl,L⟩
   by_cases k3:ix<0
   ·go_enter Tryz.func89,Tryz.ntmps89
    go_wp2_with fail
    go_ret
    exact⟨by rw[HE.out];rfl,L⟩
   have k4:ct≤ix:=by omega
   go_enter Tryz.func89,Tryz.ntmps89
   go_wp2_with fail
   go_ret
   exact⟨by rw[HE.out];rfl,L⟩
  replace HE:=hid (HE.out.trans (if_neg h3))
  have k1: ¬ct<1:=by omega
  have k2: ¬ 16<ct:=by omega
  have k3: ¬ix<0:=by omega
  have k4: ¬ct≤ix:=by omega
  clear h3
 ·go_enter Tryz.func89,Tryz.ntmps89
  go_wp2_with fail
  go_ret
  exact⟨by rw[HE.out];rfl,L⟩
 all_goals
  by_cases h4:ct=1
  case neg=>
   have hd4:(ct != 1)=true:=by simpa using h4
   replace HE:=hid (HE.out.trans (if_pos h4))
   go_enter Tryz.func89,Tryz.ntmps89
   go_wp2_with fail
   go_ret
   exact⟨by rw[HE.out];rfl,L⟩
  subst h4
  replace HE:=hid (HE.out.trans (if_neg (by simp)))
 ·cases e1:(id==0)
  ·have n1:(id != 0)=true:=by rw[bne,e1];rfl
   have hne:id≠0:=by simpa using e1
   replace HE:=hid (HE.out.trans (if_pos (.inl hne)))
   go_enter Tryz.func89,Tryz.ntmps89
   go_wp2_with fail
   go_ret
   exact⟨by rw[HE.out];rfl,L⟩
  ·have n1:(id != 0)=false:=by rw[bne,e1];rfl
   have heq:id=0:=by simpa using e1
   by_cases h5:n=0
   ·replace HE:=hid (HE.out.trans (if_neg (by simp[heq,h5])))
    have n2:((n:Int) != 0)=false:=by simp[h5]
    clear h5 heq
    go_enter Tryz.func89,Tryz.ntmps89
    go_wp2_with fail
    go_ret
    exact⟨by rw[HE.out];rfl,L⟩
   ·replace HE:=hid (HE.out.trans (if_pos (.inr h5)))
    have n2:((n:Int) != 0)=true:=by simp;omega
    clear h5 heq
    go_enter Tryz.func89,Tryz.ntmps89
    go_wp2_with fail
    go_ret
    exact⟨by rw[HE.out];rfl,L⟩
 ·go_enter Tryz.func89,Tryz.ntmps89
  go_wp2_with fail
  go_ret
  exact⟨by rw[HE.out];rfl,L⟩
end Go.Proofs.YtdhgpkdjdmlphaaGreat
