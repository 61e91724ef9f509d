/-
  Lemmas for the last text of this claim (part 10 of 20).
-/
import Derived.ArgAppend
import Derived.BigQuiet
import Derived.BigRegion
import Derived.ChangeOld
import Derived.Deep.RegionWith
import Derived.DeepKeys4
import Derived.JoinedCond
import Derived.LaidMore
import Derived.Laws.BytesArg
import Derived.Laws.CopyOwn
import Derived.Laws.Externs
import Derived.Laws.IdiomStrings
import Derived.Laws.Tables
import Derived.Lib.AppendStr
import Derived.Lib.AppendZerosOnto
import Derived.Lib.Mul64
import Derived.Lib.SlBytesConst
import Derived.LoopN
import Derived.Maps.OwnSet
import Derived.OpenShut
import Derived.OrdersHeld
import Derived.ProofKit
import Derived.Shelf.Spec.BitsCarry
import Derived.ShutString
import Derived.Test.YtdhgpkdjdmlphaaGreatProg
import Derived.Test.YtdhgpkdjdmlphaaGreatRows
import Derived.WalkKit
import Derived.WalkLawsBesides
import Derived.WalkSpells
import Derived.Test.YtdhgpkdjdmlphaaGreatUA
import Derived.Test.YtdhgpkdjdmlphaaGreatUB
import Derived.Test.YtdhgpkdjdmlphaaGreatUD
import Derived.Test.YtdhgpkdjdmlphaaGreatUE
import Derived.Test.YtdhgpkdjdmlphaaGreatUG
import Derived.Test.YtdhgpkdjdmlphaaGreatUH
import Derived.Test.YtdhgpkdjdmlphaaGreatUI
open Bool renaming and_eq_true → QGM, or_eq_true → QH4
open List renaming replicate → QGn, getD_eq_getElem?_getD → QGq, length_map → QGr, getElem?_eq_getElem → QGt, nil_append → QGv, length_replicate → QGA, map_toArray → QGC, take_of_length_le → QGD, getElem?_append_left → QGG, map_nil → QGH, mem_cons → QGJ, not_mem_nil → QGK, getElem?_eq_some_iff → QGL, length_take → QGP, map_cons → QGR, append_nil → QGW, range → QG0, mem_map → QG2, map_append → QG6, all_eq_true → QHa, mem_append → QHd, length_cons → QHe, mem_range → QHg, getElem_mem → QHi, drop_of_length_le → QHj, drop_eq_getElem_cons → QHw, getElem_of_mem → QHQ, getElem?_set_self → QHS, all_cons → QHT, getElem?_set_ne → QHU, any_eq_true → QHV, replicate_succ → QH2, flatMap_append → QH3, range_succ → QH5, nodup_cons → QIj, drop_zero → QIk, take_add_one → QIr, map_congr_left → QIB
open Nat renaming le_refl → QGx, mod_eq_of_lt → QGO, zero_add → QGT, mod_lt → QGU, le_trans → QG9, lt_or_ge → QHb, div_div_eq_div_mul → QHk, div_add_mod → QHn, mul_comm → QHp, pow_succ → QHq, min_eq_left → QHx, mul_assoc → QHL, mul_add → QHM, mul_mod → QHP, pow_add → QHW, mod_mod → QHX, mul_le_mul_left → QIb, mul_one → QIm, pow_succ' → QIu, add_comm → QID, zero_mod → QII, zero_mul → QIQ, pow_zero → QIR, add_mod → QIT
open UInt8 renaming toNat_inj → QHl, lt_iff_toNat_lt → QIp, toNat → QIW
set_option linter.all false
namespace Go.Proofs.YtdhgpkdjdmlphaaGreat
open Go.RowKit
open Go.BigFrame
theorem of_9 (w:World):Calls Tryz.prog 93 #[.int .u64 9] w fun e w'=>e= .returned (E 9)∧Later w w':=Qt5 9 (by decide) w
theorem QC6 (w:World):Calls Tryz.prog 92 #[E 9] w fun e w'=>e= .returned (.agg ((nb 9).map W8).toArray)∧Later w w':=by
 have:=Qi0 9 (by decide) w
 rwa [show 9%P25=9 by decide,BB]at this
theorem QsD (w:World):Calls Tryz.prog 102 #[NN 9] w fun e w'=>e= .returned (.agg ((nb 9).map W8).toArray)∧Later w w':=by
 have:=QmE 9 (by decide) w
 rwa [show 9%P25=9 by decide,BB]at this
theorem Qw6:Program.built Tryz.prog 225 [(0,Value.int .u32 9)]=some (NL 9).toArray:=by kernel_rfl
set_option maxRecDepth 100000 in
set_option maxHeartbeats 2000000 in
theorem Qrr (A:Option Addr) (n c:Nat) (ks:List UInt8) (w:World) (hk:RdB w A n ks) (hn:n≤140737488355328):
 Calls Tryz.prog 56 #[.slice A n c] w fun e w'=>e= .returned (.tuple #[.agg ((QbB ks (nb 9)).map W8).toArray,.int .i64 (Qbt ks (nb 9):Nat)])∧Later w w':=by
 have B0:=Qbk w 30 (QGn 32 (Value.int .u8 0))
 have cM:=hid (fun (w:World) g d h1 h2=>Qiq A (some ⟨g,0,none⟩) n c 32 d ks (nb 9) w h1 h2 hn (by omega))
 have hml:=QaY ks (nb 9)
 have h9:=Qcj 9
 have cB:=hid QC6
 generalize QbB ks (nb 9)=M at *
 generalize Qbt ks (nb 9)=e9 at *
 generalize nb 9=N9 at *
 go_enter Tryz.func56,Tryz.ntmps56
 go_wp2_with fail
 generalize hW:w.alloc _=w0
 replace B0:Bag w w0 [(w.heap.size,30,QGn 32 (Value.int .u8 0))]:=by rw[←hW];exact Qbk w 30 (QGn 32 (Value.int .u8 0))
 clear hW
 (with_reducible refine (of_9 _).mono ?_);rintro e w1 ⟨rfl,hl1⟩
 go_wp2_with (first
  | (go_at_call 92;(with_reducible refine (cB.out _).mono ?_);rintro e w2 ⟨rfl,hl2⟩)
  | (refine QaO rfl rfl _ _ rfl (Blk.new w2 _ (QGn 32 (.int .u8 0))) rfl rfl h9 rfl ?_;intro w3 hb3 ho3)
  | fail)
 have B1:=B0.push ((hl1.trans hl2).trans (Qaa w2 _)) (hl1.trans hl2).size ho3 hb3
 (with_reducible refine (cM.out _ _ _ (hk.later B1.lat) (Qcv (B1.nth 0 rfl) h9)).mono ?_);rintro e w4 ⟨rfl,hl4⟩
 go_wp2_with (first
  | (refine QaO rfl rfl _ _ rfl ((B1.later hl4).nth 1 rfl) rfl rfl hml rfl ?_;intro w5 hb5 ho5)
  | fail)
 exact bodyPost_ret (Qac rfl _ _ _ _ _ _ hb5 rfl Tryz.underlying30 rfl (by rw[QGr,hml];exact Qbf)) rfl ⟨rfl,((B1.later hl4).write 1 rfl ho5 hb5).lat⟩
set_option maxRecDepth 100000 in
set_option maxHeartbeats 2000000 in
theorem Qrk (A:Option Addr) (n c:Nat) (ks:List UInt8) (w:World) (hk:RdB w A n ks) (hn:n≤140737488355328):
 Calls Tryz.prog 67 #[.slice A n c] w fun e w'=>e= .returned (.tuple #[.agg ((QbB ks (nb 9)).map W8).toArray,.int .i64 (Qbt ks (nb 9):Nat)])∧Later w w':=by
 have B0:=Qbk w 30 (QGn 32 (Value.int .u8 0))
 have cM:=hid (fun (w:World) g d h1 h2=>QwU A (some ⟨g,0,none⟩) n c 32 d ks (nb 9) w h1 h2 hn (by omega))
 have hml:=QaY ks (nb 9)
 have h9:=Qcj 9
 have cB:=hid QsD
 generalize QbB ks (nb 9)=M at *
 generalize Qbt ks (nb 9)=e9 at *
 generalize nb 9=N9 at *
 go_enter Tryz.func67,Tryz.ntmps67
 go_wp2_with (first
  | (refine Qap rfl 225 _ rfl (NL 9) ?hb ?_;(case hb=>simp only[QGC,QGR,QGH];exact Qw6))
  | fail)
 generalize hW:w.alloc _=w0
 replace B0:Bag w w0 [(w.heap.size,30,QGn 32 (Value.int .u8 0))]:=by rw[←hW];exact Qbk w 30 (QGn 32 (Value.int .u8 0))
 clear hW
 (with_reducible refine (cB.out _).mono ?_);rintro e w2 ⟨rfl,hl2⟩
 go_wp2_with (first
  | (refine QaO rfl rfl _ _ rfl (Blk.new w2 _ (QGn 32 (.int .u8 0))) rfl rfl h9 rfl ?_;intro w3 hb3 ho3)
  | fail)
 have B1:=B0.push (hl2.trans (Qaa w2 _)) hl2.size ho3 hb3
 (with_reducible refine (cM.out _ _ _ (hk.later B1.lat) (Qcv (B1.nth 0 rfl) h9)).mono ?_);rintro e w4 ⟨rfl,hl4⟩
 go_wp2_with (first
  | (refine QaO rfl rfl _ _ rfl ((B1.later hl4).nth 1 rfl) rfl rfl hml rfl ?_;intro w5 hb5 ho5)
  | fail)
 exact bodyPost_ret (Qac rfl _ _ _ _ _ _ hb5 rfl Tryz.underlying30 rfl (by rw[QGr,hml];exact Qbf)) rfl ⟨rfl,((B1.later hl4).write 1 rfl ho5 hb5).lat⟩
def QeG:List (List UInt8)→List UInt8→List UInt8×Nat
 | [],at_=>(at_,0)
 | k :: ks,at_=>if Qbt k at_=0 then QeG ks (QbB k at_) else (QGn 32 0,Qbt k at_)
def QcQ (us:List UInt8) (ps:List (List UInt8)):List UInt8×Nat:=
 if us.length=32∧∀p∈ps,p.length=32 then QeG ps (nb (QcM us)) else (QGn 32 0,2)
theorem Qgu:∀(ps:List (List UInt8)) (at_:List UInt8),at_.length=32→(QeG ps at_).1.length=32
 | [],_,h=>h
 | k :: ks,at_,_=>by
   unfold QeG
   split
   ·exact Qgu ks _ (QaY _ _)
   ·simp
theorem Qmf (us:List UInt8) (ps:List (List UInt8)):(QcQ us ps).1.length=32:=by
 unfold QcQ
 split
 ·exact Qgu _ _ (Qcj _)
 ·simp
theorem QAq (us:List UInt8):QcM us<P25:=by
 unfold QcM
 split
 ·exact QGU _ Qbp
 ·exact Qbp
theorem Qs9 (ps:List (List UInt8)) (k:Nat) (h:k<ps.length):ps.drop k=ps.getD k [] :: ps.drop (k+1):=by
 rw[QHw h,QGq,QGt h]
 rfl
theorem Qq9 (ps:List (List UInt8)) (h:∀j,j<ps.length→(ps.getD j []).length=32):∀p∈ps,p.length=32:=by
 intro p hp
 obtain⟨j,hj,e⟩:=QHQ hp
 have:=h j hj
 rw[QGq,QGt hj]at this
 rw[←e]
 exact this
theorem Qsl (us:List UInt8) (ps:List (List UInt8)) (k:Nat) (h:k<ps.length) (hk:(ps.getD k []).length≠32):QcQ us ps=(QGn 32 0,2):=by
 rw[QcQ,if_neg]
 rintro⟨_,ha⟩
 apply hk
 rw[QGq,QGt h]
 exact ha _ (QHi h)
set_option maxRecDepth 100000 in
set_option maxHeartbeats 4000000 in
theorem Quv (A B:Option Addr) (n c m d:Nat) (us:List UInt8) (ps:List (List UInt8)) (w:World) (hu:RdB w A n us) (hp:Parts w (fun _=>False) B m ps) (hn:n≤140737488355328) (hm:m≤140737488355328):
 Calls Tryz.prog 57 #[.slice A n c,.slice B m d] w fun e w'=>e= .returned (.tuple #[.agg ((QcQ us ps).1.map W8).toArray,.int .i64 ((QcQ us ps).2:Nat)])∧Later w w':=by
 have hul:=hu.len
 have hpl:=hp.len
 have B0:=Qbk w 30 (QGn 32 (Value.int .u8 0))
 have cU:=hid (fun w h=>QqT A n c us w h hn)
 by_cases hn32:n=32
 ·subst hn32
  have eU:Qck us=0:=by rw[Qck,if_pos (by omega)]
  rw[eU]at cU
  have cB:Hid (∀ w,Calls Tryz.prog 92 #[E (QcM us)] w fun e w'=>e= .returned (.agg ((nb (QcM us)).map W8).toArray)∧Later w w'):=hid (by
   intro w
   have:=Qi0 (QcM us) (QoV us) w
   rwa [QGO (QAq us),BB]at this)
  have hR:=hid (fun (h:∀p∈ps,p.length=32)=>show QcQ us ps=QeG ps (nb (QcM us)) by rw[QcQ,if_pos ⟨hul,h⟩])
  have hbad:=hid (fun k h hk=>Qsl us ps k h hk)
  generalize hCR:QcQ us ps=CR at *
  generalize QcM us=x1 at *
  go_enter Tryz.func57,Tryz.ntmps57
  go_wp2_with fail
  generalize hW:w.alloc _=w0
  replace B0:Bag w w0 [(w.heap.size,30,QGn 32 (Value.int .u8 0))]:=by rw[←hW];exact Qbk w 30 (QGn 32 (Value.int .u8 0))
  clear hW
  (with_reducible refine (cU.out _ (hu.later B0.lat)).mono ?_);rintro e w1 ⟨rfl,j1⟩
  go_wp2_with (first
   | (refine QaI rfl rfl _ _ rfl (Blk.new w1 _ (QGn 4 (.int .u64 0))) rfl rfl rfl ?_;intro w2 hb2 ho2)
   | fail)
  have B1:=B0.push (j1.trans (Qaa w1 _)) j1.size ho2 hb2
  clear j1 hb2 ho2 B0 cU hCR
  generalize w1.heap.size=g6 at *
  go_loopw [24] (fun i wr=>∃k:Nat,k≤m∧i= .int .i64 k∧Hid (∀ j,j<k→(ps.getD j []).length=32)∧Bag w wr [(g6,211,EL x1),(w.heap.size,30,QGn 32 (Value.int .u8 0))]) (fun i _=>m-(intOf i).toNat)
  case atStart=>exact⟨0,by omega,rfl,hid (fun j h=>by omega),B1⟩
  case round=>
   clear B1
   obtain⟨k,hk,rfl,hall,B1⟩:=hrel
   by_cases hlt:k<m
   ·obtain⟨b,o,Ak,nk,ck,rfl,hb,hck,hcap,hrd,_⟩:=(hp.later B1.lat).at_ hlt
    have hlen:=hrd.len
    have hb2:=hid (fun h=>hbad.out k (by omega) h)
    rw[hlen]at hb2
    have hstep:Hid (nk=32→∀j,j<k+1→(ps.getD j []).length=32):=hid (fun h j hj=>by
     by_cases e:j=k
     ·rw[e,hlen,h]
     ·exact hall.out j (by omega))
    clear hrd hlen
    by_cases h32:nk=32
    ·have hne:((nk:Int) != 32)=false:=by simp;omega
     go_wp2_with fail
     go_roundw
     case rel=>exact⟨k+1,by omega,by go_num,hid (hstep.out h32),B1⟩
     case measure=>simp[intOf];omega
    ·have hne:((nk:Int) != 32)=true:=by simp;omega
     go_wp2_with (first
      | (refine Qap rfl 30 _ rfl (QGn 32 (W8 0)) ?hb ?_;(case hb=>kernel_rfl))
      | (refine QaO (bs:=QGn 32 0) rfl rfl _ _ rfl (B1.nth 1 rfl) rfl (by kernel_rfl) rfl rfl ?_;intro w9 hb9 ho9)
      | fail)
     exact bodyPost_ret (Qac rfl _ _ _ _ _ _ hb9 rfl Tryz.underlying30 rfl (by rw[QGr,QGA];exact Qbf)) rfl ⟨by rw[hb2.out h32];rfl,(B1.write 1 rfl ho9 hb9).lat⟩
   ·have hall':=hid (Qq9 ps (fun j hj=>hall.out j (by omega)))
    have hCR:=hR.out hall'.out
    have hnl:=Qcj x1
    have HC:=hid hCR
    clear hCR hR hbad hall
    generalize nb x1=N0 at *
    go_wp2_with (first
     | (refine QbK rfl _ rfl (B1.nth 0 rfl) rfl ?_)
     | (go_at_call 92;(with_reducible refine (cB.out _).mono ?_);rintro e w3 ⟨rfl,j3⟩)
     | (refine QaO rfl rfl _ _ rfl (Blk.new w3 _ (QGn 32 (.int .u8 0))) rfl rfl hnl rfl ?_;intro w4 hb4 ho4)
     | fail)
    have B2:=B1.push (j3.trans (Qaa w3 _)) j3.size ho4 hb4
    clear j3 hb4 ho4 B1 cB
    generalize w3.heap.size=g10 at *
    go_loopw [37] (fun i wr=>∃(k:Nat) (at_:List UInt8),k≤m∧i= .int .i64 k∧at_.length=32∧Hid (CR=QeG (ps.drop k) at_)∧Bag w wr [(g10,30,at_.map W8),(g6,211,EL x1),(w.heap.size,30,QGn 32 (Value.int .u8 0))]) (fun i _=>m-(intOf i).toNat)
    case atStart=>exact⟨0,N0,by omega,rfl,hnl,hid (by rw[QIk];exact HC.out),B2⟩
    case round=>
     clear B2
     obtain⟨k,at_,hk,rfl,hal,hch,B2⟩:=hrel
     by_cases hlt:k<m
     ·obtain⟨b,o,Ak,nk,ck,rfl,hb,hck,hcap,hrd,_⟩:=(hp.later B2.lat).at_ hlt
      have hd:=Qs9 ps k (by omega)
      have hlen:=hrd.len
      have hl32:(ps.getD k []).length=32:=by
       rw[QGq,QGt (by omega)]
       exact hall'.out _ (QHi _)
      have hch':=hch.out
      rw[hd,QeG]at hch'
      have HCH:=hid hch'
      clear hch hch' hd
      generalize ps.getD k []=p at *
      obtain rfl:nk=32:=by omega
      have cM:=hid (Qiq Ak (some ⟨g10,0,none⟩) 32 ck 32 32 p at_ wr hrd (Qcv (B2.nth 0 rfl) hal) (by omega) (by omega))
      have hml:=QaY p at_
      generalize QbB p at_=M at *
      by_cases he:Qbt p at_=0
      ·have HE:=HCH.out
       rw[if_pos he]at HE
       replace HE:=hid HE
       rw[he]at cM
       clear HCH he
       go_wp2_with fail
       (with_reducible refine cM.out.mono ?_);rintro e w5 ⟨rfl,j5⟩
       go_wp2_with (first
        | (refine QaO rfl rfl _ _ rfl ((B2.later j5).nth 0 rfl) rfl rfl hml (by rw[QGr,hal]) ?_;intro w6 hb6 ho6)
        | fail)
       go_roundw
       case rel=>exact⟨k+1,M,by omega,by go_num,hml,HE,(B2.later j5).write 0 rfl ho6 hb6⟩
       case measure=>simp[intOf];omega
      ·have HE:=HCH.out
       rw[if_neg he]at HE
       replace HE:=hid HE
       generalize Qbt p at_=e5 at *
       have hne:((e5:Int) != 0)=true:=by simp;omega
       clear HCH
       go_wp2_with fail
       (with_reducible refine cM.out.mono ?_);rintro e w5 ⟨rfl,j5⟩
       go_wp2_with (first
        | (refine QaO rfl rfl _ _ rfl ((B2.later j5).nth 0 rfl) rfl rfl hml (by rw[QGr,hal]) ?_;intro w6 hb6 ho6
           have B3:=(B2.later j5).write 0 rfl ho6 hb6)
        | (refine Qap rfl 30 _ rfl (QGn 32 (W8 0)) ?hb ?_;(case hb=>kernel_rfl))
        | (refine QaO (bs:=QGn 32 0) rfl rfl _ _ rfl (B3.nth 2 rfl) rfl (by kernel_rfl) rfl rfl ?_;intro w9 hb9 ho9)
        | fail)
       exact bodyPost_ret (Qac rfl _ _ _ _ _ _ hb9 rfl Tryz.underlying30 rfl (by rw[QGr,QGA];exact Qbf)) rfl ⟨by rw[HE.out];rfl,(B3.write 2 rfl ho9 hb9).lat⟩
     ·have hd:ps.drop k=[]:=QHj (by omega)
      have hch':=hch.out
      rw[hd,QeG]at hch'
      have HE:=hid hch'
      clear hch' hch hd
      go_wp2_with (first
       | (refine Qft rfl _ rfl (B2.nth 0 rfl) hal rfl ?_)
       | (refine QaO rfl rfl _ _ rfl (B2.nth 2 rfl) rfl rfl hal rfl ?_;intro w9 hb9 ho9)
       | fail)
      exact bodyPost_ret (Qac rfl _ _ _ _ _ _ hb9 rfl Tryz.underlying30 rfl (by rw[QGr,hal];exact Qbf)) rfl ⟨by rw[HE.out];rfl,(B2.write 2 rfl ho9 hb9).lat⟩
 ·have eU:Qck us=2:=by rw[Qck,if_neg (by omega)]
  rw[eU]at cU
  have hR:=hid (show QcQ us ps=(QGn 32 0,2) by rw[QcQ,if_neg (by rintro⟨h,_⟩;omega)])
  generalize QcQ us ps=CR at *
  generalize QcM us=x1 at *
  go_enter Tryz.func57,Tryz.ntmps57
  go_wp2_with fail
  generalize hW:w.alloc _=w0
  replace B0:Bag w w0 [(w.heap.size,30,QGn 32 (Value.int .u8 0))]:=by rw[←hW];exact Qbk w 30 (QGn 32 (Value.int .u8 0))
  clear hW
  (with_reducible refine (cU.out _ (hu.later B0.lat)).mono ?_);rintro e w1 ⟨rfl,j1⟩
  go_wp2_with (first
   | (refine QaI rfl rfl _ _ rfl (Blk.new w1 _ (QGn 4 (.int .u64 0))) rfl rfl rfl ?_;intro w2 hb2 ho2
      have B1:=B0.push (j1.trans (Qaa w1 _)) j1.size ho2 hb2)
   | (refine Qap rfl 30 _ rfl (QGn 32 (W8 0)) ?hb ?_;(case hb=>kernel_rfl))
   | (refine QaO (bs:=QGn 32 0) rfl rfl _ _ rfl (B1.nth 1 rfl) rfl (by kernel_rfl) rfl rfl ?_;intro w9 hb9 ho9)
   | fail)
  exact bodyPost_ret (Qac rfl _ _ _ _ _ _ hb9 rfl Tryz.underlying30 rfl (by rw[QGr,QGA];exact Qbf)) rfl ⟨by rw[hR.out];rfl,(B1.write 1 rfl ho9 hb9).lat⟩
end Go.Proofs.YtdhgpkdjdmlphaaGreat
namespace Go.Proofs.YtdhgpkdjdmlphaaGreat
namespace Ed
instance neP:NeZero P25:=⟨by decide⟩
abbrev Fp:=Fin P25
def toF (n:Nat):Fp:=Fin.ofNat P25 n
theorem Qcu (n:Nat):(toF n).val=n%P25:=rfl
theorem Qs8 (a:Fp):toF a.val=a:=Fin.ext (QGO a.isLt)
theorem Qlk (n:Nat):toF (n%P25)=toF n:=Fin.ext (QHX _ _)
theorem Qz0 (a b:Nat):toF (a+b)=toF a+toF b:=Fin.ext (by rw[Fin.val_add,Qcu,Qcu,Qcu,←QIT])
theorem Qma (a b:Nat):toF (a*b)=toF a*toF b:=Fin.ext (by rw[Fin.val_mul,Qcu,Qcu,Qcu,←QHP])
theorem Qmc (a b:Nat):toF (fadd a b)=toF a+toF b:=by rw[fadd,Qlk,Qz0]
theorem Qg7 (a b:Nat):toF (fmul a b)=toF a*toF b:=by rw[fmul,Qlk,Qma]
theorem QlB (a b:Nat):toF (fsub a b)=toF a-toF b:=by
 rw[fsub,Qlk]
 apply Fin.ext
 rw[Fin.sub_def,Qcu]
 show _=((P25-(toF b).val)+(toF a).val)%P25
 rw[Qcu,Qcu,QID,Nat.add_mod_mod]
theorem QgU:toF 0=0:=rfl
theorem Qjj {a:Nat}:toF a=0↔a%P25=0:=by
 rw[←QgU,Fin.ext_iff,Qcu,Qcu,QII]
theorem QAb {a b:Nat} (h:toF a=toF b):a%P25=b%P25:=by
 rw[Fin.ext_iff,Qcu,Qcu]at h
 exact h
theorem Qj0 {a:Fp} (h:a≠0):a.val%P25≠0:=by
 intro h0
 apply h
 rw[←Qs8 a]
 exact Qjj.2 h0
def finv (a:Fp):Fp:=toF (pinv a.val)
theorem Qa3 {a:Fp} (h:a≠0):a*finv a=1:=by
 have h1:=QxC a.val (Qj0 h)
 have h2:toF (a.val*pinv a.val)=toF 1:=Fin.ext (by rw[Qcu,Qcu,h1];rfl)
 rw[Qma,Qs8]at h2
 exact h2
theorem Qqn:(1:Fp)≠0:=by decide
theorem Qks:(2:Fp)≠0:=by decide
theorem QdQ {a b:Fp} (h:a*b=0):a=0∨b=0:=by
 by_cases ha:a=0
 ·exact .inl ha
 ·have:=Qa3 ha
  right
  grobner
theorem Qbb {a b:Fp} (ha:a≠0) (hb:b≠0):a*b≠0:=fun h=>(QdQ h).elim ha hb
theorem Qfw {a b c:Fp} (hc:c≠0) (h:a*c=b*c):a=b:=by
 have:=Qa3 hc
 grobner
theorem Qzj {a:Fp} (h:a*a=1):a=1∨a= -1:=by
 have:(a-1)*(a+1)=0:=by grobner
 rcases QdQ this with h|h
 ·left;grobner
 ·right;grobner
def fpow (a:Fp) (n:Nat):Fp:=toF (a.val^n)
theorem Qgi (a:Fp) (m n:Nat):fpow a (m+n)=fpow a m*fpow a n:=by rw[fpow,QHW,Qma,fpow,fpow]
theorem Qyy (a:Fp):fpow a 1=a:=by rw[fpow,Nat.pow_one,Qs8]
theorem Qdd (a b:Fp) (n:Nat):fpow (a*b) n=fpow a n*fpow b n:=by
 rw[fpow,fpow,fpow,←Qma,←Nat.mul_pow]
 apply Fin.ext
 rw[Qcu,Qcu,Fin.val_mul,←Nat.pow_mod]
theorem Qj2 {a:Fp} (h:a≠0):fpow a (P25-1)=1:=Fin.ext (by rw[fpow,Qcu,Qzw _ (Qj0 h)];rfl)
def isSq (a:Fp):Prop:=∃r:Fp,r*r=a
def Hp:Nat:=28948022309329048855892746252171976963317496166410141009864396001978282409974
def Qp:Nat:=14474011154664524427946373126085988481658748083205070504932198000989141204987
def Op:Nat:=7237005577332262213973186563042994240829374041602535252466099000494570602494
theorem Qvs {a:Fp} (h:a≠0):fpow a Hp=1∨fpow a Hp= -1:=by
 apply Qzj
 rw[←Qgi,show Hp+Hp=P25-1 by decide]
 exact Qj2 h
theorem Qum {a:Fp} (h:a≠0) (hs:isSq a):fpow a Hp=1:=by
 obtain⟨r,rfl⟩:=hs
 have hr:r≠0:=by rintro rfl;exact h (by decide)
 rw[Qdd,←Qgi,show Hp+Hp=P25-1 by decide]
 exact Qj2 hr
theorem QwC {i:Fp} (hi:i*i= -1) {a:Fp} (h:fpow a Hp=1):isSq a:=by
 have h1:fpow a Qp*fpow a Qp=1:=by rw[←Qgi,show Qp+Qp=Hp by decide];exact h
 have h2:fpow a Op*fpow a Op=a*fpow a Qp:=by
  rw[←Qgi,show Op+Op=1+Qp by decide,Qgi,Qyy]
 rcases Qzj h1 with h3|h3
 ·exact⟨fpow a Op,by rw[h2,h3];grobner⟩
 ·exact⟨i*fpow a Op,by rw[h3]at h2;grobner⟩
def Qhk (δ:Fp):Prop:=∀r:Fp,r*r≠δ
@[ext] structure Pt (δ:Fp) where
  x:Fp
  y:Fp
  on:x*x+y*y=1+δ*x*x*y*y
theorem QiW {δ z w:Fp} (hδ:Qhk δ) (h:w*w=δ*(z*z)):z=0:=by
 by_cases hz:z=0
 ·exact hz
 ·have:=Qa3 hz
  exact absurd (show (w*finv z)*(w*finv z)=δ by grobner) (hδ _)
theorem QqZ {δ:Fp} (hδ:Qhk δ) {x1 y1 x2 y2 ε:Fp} (h1:x1*x1+y1*y1=1+δ*x1*x1*y1*y1) (h2:x2*x2+y2*y2=1+δ*x2*x2*y2*y2)
 (ht:δ*x1*x2*y1*y2=ε) (he:ε*ε=1):False:=by
 have a1:(x1+ε*y1)*(x1+ε*y1)=δ*((x1*y1*(x2+y2))*(x1*y1*(x2+y2))):=by grobner
 have a2:(x1-ε*y1)*(x1-ε*y1)=δ*((x1*y1*(x2-y2))*(x1*y1*(x2-y2))):=by grobner
 have b1:=QiW hδ a1
 have b2:=QiW hδ a2
 have c:2*(x1*y1*x2)=0:=by grobner
 have hn:2*(x1*y1*x2)≠0:=by
  refine Qbb Qks ?_
  intro h0
  have:ε=0:=by rw[←ht];grobner
  rw[this]at he
  revert he
  decide
 exact hn c
section
variable {δ:Fp}
def tt (P Q:Pt δ):Fp:=δ*P.x*Q.x*P.y*Q.y
theorem QgY (hδ:Qhk δ) (P Q:Pt δ):1+tt P Q≠0:=fun h=>QqZ hδ (ε:= -1) P.on Q.on (by unfold tt at h;grobner) (by decide)
theorem QgF (hδ:Qhk δ) (P Q:Pt δ):1-tt P Q≠0:=fun h=>QqZ hδ (ε:=1) P.on Q.on (by unfold tt at h;grobner) (by decide)
theorem QCv {x1 y1 x2 y2 i j:Fp} (h1:x1*x1+y1*y1=1+δ*x1*x1*y1*y1) (h2:x2*x2+y2*y2=1+δ*x2*x2*y2*y2)
 (hi:(1+δ*x1*x2*y1*y2)*i=1) (hj:(1-δ*x1*x2*y1*y2)*j=1):
 ((x1*y2+x2*y1)*i)*((x1*y2+x2*y1)*i)+((y1*y2-x1*x2)*j)*((y1*y2-x1*x2)*j)=1+δ*((x1*y2+x2*y1)*i)*((x1*y2+x2*y1)*i)*((y1*y2-x1*x2)*j)*((y1*y2-x1*x2)*j):=by
 have key:(x1*y2+x2*y1)*(x1*y2+x2*y1)*((1-δ*x1*x2*y1*y2)*(1-δ*x1*x2*y1*y2))+(y1*y2-x1*x2)*(y1*y2-x1*x2)*((1+δ*x1*x2*y1*y2)*(1+δ*x1*x2*y1*y2))
  = (1+δ*x1*x2*y1*y2)*(1+δ*x1*x2*y1*y2)*((1-δ*x1*x2*y1*y2)*(1-δ*x1*x2*y1*y2))+δ*((x1*y2+x2*y1)*(x1*y2+x2*y1))*((y1*y2-x1*x2)*(y1*y2-x1*x2)):=by grobner
 generalize x1*y2+x2*y1=X at *
 generalize y1*y2-x1*x2=Y at *
 generalize 1+δ*x1*x2*y1*y2=A at *
 generalize 1-δ*x1*x2*y1*y2=B at *
 have k2:(X*X*(B*B)+Y*Y*(A*A))*(i*i*(j*j))=(A*A*(B*B)+δ*(X*X)*(Y*Y))*(i*i*(j*j)):=by rw[key]
 have hi2:A*A*(i*i)=1:=by grobner
 have hj2:B*B*(j*j)=1:=by grobner
 clear key h1 h2 hi hj
 grobner
def Pt.add (hδ:Qhk δ) (P Q:Pt δ):Pt δ:=
 ⟨(P.x*Q.y+Q.x*P.y)*finv (1+tt P Q),(P.y*Q.y-P.x*Q.x)*finv (1-tt P Q),QCv P.on Q.on (Qa3 (QgY hδ P Q)) (Qa3 (QgF hδ P Q))⟩
variable (hδ:Qhk δ)
theorem Qkj (P Q:Pt δ):(P.add hδ Q).x*(1+tt P Q)=P.x*Q.y+Q.x*P.y:=by
 have:=Qa3 (QgY hδ P Q)
 show (P.x*Q.y+Q.x*P.y)*finv (1+tt P Q)*(1+tt P Q)=_
 grobner
theorem Qhj (P Q:Pt δ):(P.add hδ Q).y*(1-tt P Q)=P.y*Q.y-P.x*Q.x:=by
 have:=Qa3 (QgF hδ P Q)
 show (P.y*Q.y-P.x*Q.x)*finv (1-tt P Q)*(1-tt P Q)=_
 grobner
def Pt.zero:Pt δ:=⟨0,1,by grobner⟩
def Pt.neg (P:Pt δ):Pt δ:=⟨-P.x,P.y,by have:=P.on;grobner⟩
theorem QnT (P Q:Pt δ):P.add hδ Q=Q.add hδ P:=by
 have ht:tt P Q=tt Q P:=by unfold tt;grobner
 apply Pt.ext
 ·apply Qfw (QgY hδ P Q)
  rw[Qkj,ht,Qkj]
  grobner
 ·apply Qfw (QgF hδ P Q)
  rw[Qhj,ht,Qhj]
  grobner
theorem Qg2 (P:Pt δ):P.add hδ Pt.zero=P:=by
 have ht:tt P (Pt.zero)=0:=by unfold tt Pt.zero;grobner
 apply Pt.ext
 ·apply Qfw (QgY hδ P Pt.zero)
  rw[Qkj,ht]
  simp only[Pt.zero]
  grobner
 ·apply Qfw (QgF hδ P Pt.zero)
  rw[Qhj,ht]
  simp only[Pt.zero]
  grobner
theorem QxG (P:Pt δ):P.add hδ P.neg=Pt.zero:=by
 have h:=P.on
 apply Pt.ext
 ·apply Qfw (QgY hδ P P.neg)
  rw[Qkj]
  simp only[Pt.zero,Pt.neg]
  grobner
 ·apply Qfw (QgF hδ P P.neg)
  rw[Qhj]
  simp only[Pt.zero,Pt.neg,tt]
  grobner
end
theorem QBN {d x1 y1 x2 y2 x3 y3:Fp} (h1:x1*x1+y1*y1=1+d*x1*x1*y1*y1) (h2:x2*x2+y2*y2=1+d*x2*x2*y2*y2) (h3:x3*x3+y3*y3=1+d*x3*x3*y3*y3):
 ((x1*y2+x2*y1)*(1-d*x1*x2*y1*y2)*y3+(y1*y2-x1*x2)*(1+d*x1*x2*y1*y2)*x3)*((1+d*x2*x3*y2*y3)*(1-d*x2*x3*y2*y3)+d*x1*y1*(x2*y3+x3*y2)*(y2*y3-x2*x3))
 = (x1*(y2*y3-x2*x3)*(1+d*x2*x3*y2*y3)+y1*(x2*y3+x3*y2)*(1-d*x2*x3*y2*y3))*((1+d*x1*x2*y1*y2)*(1-d*x1*x2*y1*y2)+d*(x1*y2+x2*y1)*(y1*y2-x1*x2)*x3*y3):=by grobner
theorem QAG {d x1 y1 x2 y2 x3 y3:Fp} (h1:x1*x1+y1*y1=1+d*x1*x1*y1*y1) (h2:x2*x2+y2*y2=1+d*x2*x2*y2*y2) (h3:x3*x3+y3*y3=1+d*x3*x3*y3*y3):
 ((y1*y2-x1*x2)*(1+d*x1*x2*y1*y2)*y3-(x1*y2+x2*y1)*(1-d*x1*x2*y1*y2)*x3)*((1+d*x2*x3*y2*y3)*(1-d*x2*x3*y2*y3)-d*x1*y1*(x2*y3+x3*y2)*(y2*y3-x2*x3))
 = (y1*(y2*y3-x2*x3)*(1+d*x2*x3*y2*y3)-x1*(x2*y3+x3*y2)*(1-d*x2*x3*y2*y3))*((1+d*x1*x2*y1*y2)*(1-d*x1*x2*y1*y2)-d*(x1*y2+x2*y1)*(y1*y2-x1*x2)*x3*y3):=by grobner
theorem QDv {L q X Y x3 y3 xa ya p m:Fp} (l:L*q=xa*y3+x3*ya) (h1:xa*p=X) (h2:ya*m=Y):L*(p*m*q)=X*m*y3+Y*p*x3:=by grobner
theorem QzG {L q X Y x3 y3 xa ya p m:Fp} (l:L*q=ya*y3-xa*x3) (h1:xa*p=X) (h2:ya*m=Y):L*(p*m*q)=Y*p*y3-X*m*x3:=by grobner
theorem QDC {d X Y x3 y3 xa ya p m:Fp} (h1:xa*p=X) (h2:ya*m=Y):p*m*(1+d*xa*x3*ya*y3)=p*m+d*X*Y*x3*y3:=by grobner
theorem QyZ {d X Y x3 y3 xa ya p m:Fp} (h1:xa*p=X) (h2:ya*m=Y):p*m*(1-d*xa*x3*ya*y3)=p*m-d*X*Y*x3*y3:=by grobner
theorem QC7 {L M d1 d2 n1 n2:Fp} (hd1:d1≠0) (hd2:d2≠0) (h1:L*d1=n1) (h2:M*d2=n2) (h:n1*d2=n2*d1):L=M:=by
 apply Qfw (Qbb hd1 hd2)
 clear hd1 hd2
 grobner
section
variable {δ:Fp} (hδ:Qhk δ)
theorem QkA (P Q R:Pt δ):(P.add hδ Q).add hδ R=P.add hδ (Q.add hδ R):=by
 have a1:=Qkj hδ P Q
 have a2:=Qhj hδ P Q
 have b1:=Qkj hδ Q R
 have b2:=Qhj hδ Q R
 have ex:=QBN P.on Q.on R.on
 have ey:=QAG P.on Q.on R.on
 apply Pt.ext
 ·refine QC7 (Qbb (Qbb (QgY hδ P Q) (QgF hδ P Q)) (QgY hδ (P.add hδ Q) R)) (Qbb (Qbb (QgY hδ Q R) (QgF hδ Q R)) (QgY hδ P (Q.add hδ R)))
   (QDv (Qkj hδ (P.add hδ Q) R) a1 a2) (QDv ((Qkj hδ P (Q.add hδ R)).trans (show _=(Q.add hδ R).x*P.y+P.x*(Q.add hδ R).y by clear a1 a2 b1 b2 ex ey;grobner)) b1 b2) ?_
  rw[show (1+tt P Q)*(1-tt P Q)*(1+tt (P.add hδ Q) R)=_ from QDC a1 a2,show (1+tt Q R)*(1-tt Q R)*(1+tt P (Q.add hδ R))=_ from (show _=(1+tt Q R)*(1-tt Q R)*(1+δ*(Q.add hδ R).x*P.x*(Q.add hδ R).y*P.y) by unfold tt;clear a1 a2 b1 b2 ex ey;grobner).trans (QDC b1 b2)]
  clear a1 a2 b1 b2 ey
  simp only[tt]
  refine Eq.trans ?_ (ex.trans ?_)
  ·clear ex;grobner
  ·clear ex;grobner
 ·refine QC7 (Qbb (Qbb (QgY hδ P Q) (QgF hδ P Q)) (QgF hδ (P.add hδ Q) R)) (Qbb (Qbb (QgY hδ Q R) (QgF hδ Q R)) (QgF hδ P (Q.add hδ R)))
   (QzG (Qhj hδ (P.add hδ Q) R) a1 a2) (QzG ((Qhj hδ P (Q.add hδ R)).trans (show _=(Q.add hδ R).y*P.y-(Q.add hδ R).x*P.x by clear a1 a2 b1 b2 ex ey;grobner)) b1 b2) ?_
  rw[show (1+tt P Q)*(1-tt P Q)*(1-tt (P.add hδ Q) R)=_ from QyZ a1 a2,show (1+tt Q R)*(1-tt Q R)*(1-tt P (Q.add hδ R))=_ from (show _=(1+tt Q R)*(1-tt Q R)*(1-δ*(Q.add hδ R).x*P.x*(Q.add hδ R).y*P.y) by unfold tt;clear a1 a2 b1 b2 ex ey;grobner).trans (QyZ b1 b2)]
  clear a1 a2 b1 b2 ex
  simp only[tt]
  refine Eq.trans ?_ (ey.trans ?_)
  ·clear ey;grobner
  ·clear ey;grobner
def Pt.mul (P:Pt δ):Nat→Pt δ
 | 0=>Pt.zero
 | n+1=>(Pt.mul P n).add hδ P
theorem Qn4 (P:Pt δ):Pt.zero.add hδ P=P:=by rw[QnT,Qg2]
theorem QeA (P:Pt δ) (m:Nat):∀n,P.mul hδ (m+n)=(P.mul hδ m).add hδ (P.mul hδ n)
 | 0=>by rw[Pt.mul,Qg2];rfl
 | n+1=>by
   show (P.mul hδ (m+n)).add hδ P=(P.mul hδ m).add hδ ((P.mul hδ n).add hδ P)
   rw[QeA P m n,QkA]
theorem Qiy (P:Pt δ):P.mul hδ 1=P:=Qn4 hδ P
theorem Qhl (P:Pt δ) (m:Nat):∀n,P.mul hδ (m*n)=(P.mul hδ m).mul hδ n
 | 0=>rfl
 | n+1=>by
   rw[Nat.mul_succ,QeA,Qhl P m n]
   rfl
theorem Qyh (P Q:Pt δ):(P.add hδ Q).add hδ Q.neg=P:=by rw[QkA,QxG,Qg2]
end
def Par (s δ:Fp):Prop:=(s=1∧δ*121666=121665)∨(s= -1∧δ*121665=121666)
def Rep {δ:Fp} (s X Z:Fp) (P:Pt δ):Prop:=∃k:Fp,k≠0∧X=k*(1+P.y)∧Z=k*s*(1-P.y)
theorem Qh8 {s δ:Fp} (h:Par s δ):s*s=1:=by
 rcases h with ⟨rfl,_⟩|⟨rfl,_⟩<;>grobner
section
variable {δ:Fp} (hδ:Qhk δ)
include hδ in
theorem QeS (z:Fp):1-δ*z*z≠0:=by
 intro h
 have h1:(1:Fp)*1=δ*(z*z):=by grobner
 have:=QiW hδ h1
 subst this
 revert h
 grobner
include hδ in
theorem QiV:1-δ≠0:=by
 have:=QeS hδ 1
 grobner
theorem Qx3 {δ x y y2 k X Z:Fp} (on:x*x+y*y=1+δ*x*x*y*y) (h:δ*121666=121665) (hy:y2*(1-δ*x*x*y*y)=y*y-x*x) (hX:X=k*(1+y)) (hZ:Z=k*1*(1-y)):
 (X+Z)*(X+Z)*((X-Z)*(X-Z))=8*k*k*k*k*121666*(1-δ*y*y)*(1-δ*x*x*y*y)*(1+y2)∧
 ((X+Z)*(X+Z)-(X-Z)*(X-Z))*((X+Z)*(X+Z)+121665*((X+Z)*(X+Z)-(X-Z)*(X-Z)))=8*k*k*k*k*121666*(1-δ*y*y)*(1-δ*x*x*y*y)*1*(1-y2):=by
 have e1:(X+Z)*(X+Z)=4*(k*k):=by rw[hX,hZ];clear on h hy hX hZ;grobner
 have e2:(X-Z)*(X-Z)=4*(k*k)*(y*y):=by rw[hX,hZ];clear on h hy hX hZ;grobner
 rw[e1,e2]
 clear hX hZ e1 e2
 constructor
 ·have:(1-δ*y*y)*((1-δ*x*x*y*y)*(1+y2))=2*(y*y)*(1-δ):=by clear h;grobner
  clear on hy
  grobner
 ·have:(1-δ*y*y)*((1-δ*x*x*y*y)*(1-y2))=2*(1-y*y)*(1-δ*y*y):=by clear h;grobner
  clear on hy
  grobner
theorem QwO {δ x y y2 k X Z:Fp} (on:x*x+y*y=1+δ*x*x*y*y) (h:δ*121665=121666) (hy:y2*(1-δ*x*x*y*y)=y*y-x*x) (hX:X=k*(1+y)) (hZ:Z=k*(-1)*(1-y)):
 (X+Z)*(X+Z)*((X-Z)*(X-Z))= -8*k*k*k*k*121665*(1-δ*y*y)*(1-δ*x*x*y*y)*(1+y2)∧
 ((X+Z)*(X+Z)-(X-Z)*(X-Z))*((X+Z)*(X+Z)+121665*((X+Z)*(X+Z)-(X-Z)*(X-Z)))= -8*k*k*k*k*121665*(1-δ*y*y)*(1-δ*x*x*y*y)*(-1)*(1-y2):=by
 have e1:(X-Z)*(X-Z)=4*(k*k):=by rw[hX,hZ];clear on h hy hX hZ;grobner
 have e2:(X+Z)*(X+Z)=4*(k*k)*(y*y):=by rw[hX,hZ];clear on h hy hX hZ;grobner
 rw[e1,e2]
 clear hX hZ e1 e2
 constructor
 ·have:(1-δ*y*y)*((1-δ*x*x*y*y)*(1+y2))=2*(y*y)*(1-δ):=by clear h;grobner
  clear on hy
  grobner
 ·have:(1-δ*y*y)*((1-δ*x*x*y*y)*(1-y2))=2*(1-y*y)*(1-δ*y*y):=by clear h;grobner
  clear on hy
  grobner
theorem c8:(8:Fp)≠0:=by decide
theorem c8':(-8:Fp)≠0:=by decide
theorem c65:(121665:Fp)≠0:=by decide
theorem c66:(121666:Fp)≠0:=by decide
theorem QBs {s X Z:Fp} {P:Pt δ} (hp:Par s δ) (h:Rep s X Z P):
 Rep s ((X+Z)*(X+Z)*((X-Z)*(X-Z))) (((X+Z)*(X+Z)-(X-Z)*(X-Z))*((X+Z)*(X+Z)+121665*((X+Z)*(X+Z)-(X-Z)*(X-Z)))) (P.add hδ P):=by
 obtain⟨k,hk,hX,hZ⟩:=h
 have hy:=Qhj hδ P P
 have n1:1-δ*P.x*P.x*P.y*P.y≠0:=QgF hδ P P
 have n2:=QeS hδ P.y
 rcases hp with ⟨rfl,hd⟩|⟨rfl,hd⟩
 ·obtain⟨a,b⟩:=Qx3 P.on hd (by simpa only[tt] using hy) hX hZ
  exact⟨_,Qbb (Qbb (Qbb (Qbb (Qbb (Qbb (Qbb c8 hk) hk) hk) hk) c66) n2) n1,a,b⟩
 ·obtain⟨a,b⟩:=QwO P.on hd (by simpa only[tt] using hy) hX hZ
  exact⟨_,Qbb (Qbb (Qbb (Qbb (Qbb (Qbb (Qbb c8' hk) hk) hk) hk) c65) n2) n1,a,b⟩
theorem QAf {δ x2 y2 x3 y3 yp ym:Fp} (on2:x2*x2+y2*y2=1+δ*x2*x2*y2*y2) (on3:x3*x3+y3*y3=1+δ*x3*x3*y3*y3)
 (hp:yp*(1-δ*x2*x3*y2*y3)=y2*y3-x2*x3) (hm:ym*(1+δ*x2*x3*y2*y3)=y2*y3+x2*x3):
 (y2+y3)*(y2+y3)*((1-δ)*(1-δ*(y2*y3)*(y2*y3)))=(1+yp)*(1+ym)*((1-δ*x2*x3*y2*y3)*(1+δ*x2*x3*y2*y3)*(1-δ*y2*y2)*(1-δ*y3*y3))∧
 (y2-y3)*(y2-y3)*((1-δ)*(1-δ*(y2*y3)*(y2*y3)))=(1-yp)*(1-ym)*((1-δ*x2*x3*y2*y3)*(1+δ*x2*x3*y2*y3)*(1-δ*y2*y2)*(1-δ*y3*y3)):=by
 have u2:x2*x2*(1-δ*y2*y2)=1-y2*y2:=by clear on3 hp hm;grobner
 have u3:x3*x3*(1-δ*y3*y3)=1-y3*y3:=by clear u2 on2 hp hm;grobner
 have p1:(1+yp)*(1-δ*x2*x3*y2*y3)=(1-δ*x2*x3*y2*y3)+(y2*y3-x2*x3):=by clear on2 on3 hm u2 u3;grobner
 have m1:(1+ym)*(1+δ*x2*x3*y2*y3)=(1+δ*x2*x3*y2*y3)+(y2*y3+x2*x3):=by clear on2 on3 u2 u3 hp;grobner
 have p2:(1-yp)*(1-δ*x2*x3*y2*y3)=(1-δ*x2*x3*y2*y3)-(y2*y3-x2*x3):=by clear on2 on3 hm u2 u3;grobner
 have m2:(1-ym)*(1+δ*x2*x3*y2*y3)=(1+δ*x2*x3*y2*y3)-(y2*y3+x2*x3):=by clear on2 on3 u2 u3 hp;grobner
 clear on2 on3 hp hm
 constructor
 ·have:(1+yp)*(1+ym)*((1-δ*x2*x3*y2*y3)*(1+δ*x2*x3*y2*y3)*(1-δ*y2*y2)*(1-δ*y3*y3))=((1+yp)*(1-δ*x2*x3*y2*y3))*((1+ym)*(1+δ*x2*x3*y2*y3))*((1-δ*y2*y2)*(1-δ*y3*y3)):=by clear u2 u3 p1 m1 p2 m2;grobner
  rw[this,p1,m1]
  clear this p1 m1 p2 m2
  grobner
 ·have:(1-yp)*(1-ym)*((1-δ*x2*x3*y2*y3)*(1+δ*x2*x3*y2*y3)*(1-δ*y2*y2)*(1-δ*y3*y3))=((1-yp)*(1-δ*x2*x3*y2*y3))*((1-ym)*(1+δ*x2*x3*y2*y3))*((1-δ*y2*y2)*(1-δ*y3*y3)):=by clear u2 u3 p1 m1 p2 m2;grobner
  rw[this,p2,m2]
  clear this p1 m1 p2 m2
  grobner
theorem QyM {s k2 k3 y2 y3 yp ym x1 D E X2 Z2 X3 Z3 w:Fp} (hs:s*s=1) (hx:x1*(1-ym)=s*(1+ym)) (a:(y2+y3)*(y2+y3)*D=(1+yp)*(1+ym)*E) (b:(y2-y3)*(y2-y3)*D=(1-yp)*(1-ym)*E) (hw:D*w=1)
 (hX2:X2=k2*(1+y2)) (hZ2:Z2=k2*s*(1-y2)) (hX3:X3=k3*(1+y3)) (hZ3:Z3=k3*s*(1-y3)):
 ((X3-Z3)*(X2+Z2)+(X3+Z3)*(X2-Z2))*((X3-Z3)*(X2+Z2)+(X3+Z3)*(X2-Z2))=16*k2*k2*k3*k3*E*w*(1+ym)*(1+yp)∧
 x1*(((X3-Z3)*(X2+Z2)-(X3+Z3)*(X2-Z2))*((X3-Z3)*(X2+Z2)-(X3+Z3)*(X2-Z2)))=16*k2*k2*k3*k3*E*w*(1+ym)*s*(1-yp):=by
 have e1:(X3-Z3)*(X2+Z2)+(X3+Z3)*(X2-Z2)=4*(k2*k3)*(y2+y3):=by rw[hX2,hX3,hZ2,hZ3];clear a b hx hw hX2 hX3 hZ2 hZ3;grobner
 have e2:(X3-Z3)*(X2+Z2)-(X3+Z3)*(X2-Z2)= -4*s*(k2*k3)*(y2-y3):=by rw[hX2,hX3,hZ2,hZ3];clear a b hx hw hX2 hX3 hZ2 hZ3;grobner
 rw[e1,e2]
 clear hX2 hX3 hZ2 hZ3 e1 e2
 have a':(y2+y3)*(y2+y3)=(1+yp)*(1+ym)*E*w:=by
  have:(y2+y3)*(y2+y3)*(D*w)=(1+yp)*(1+ym)*E*w:=by clear b hx hs hw;grobner
  rw[hw]at this
  clear a b hx hs hw
  grobner
 have b':(y2-y3)*(y2-y3)=(1-yp)*(1-ym)*E*w:=by
  have:(y2-y3)*(y2-y3)*(D*w)=(1-yp)*(1-ym)*E*w:=by clear a hx hs hw;grobner
  rw[hw]at this
  clear a b hx hs hw
  grobner
 clear a b hw
 constructor
 ·clear b' hx
  grobner
 ·clear a'
  have:x1*((y2-y3)*(y2-y3))=s*(1+ym)*((1-yp)*E*w):=by rw[b',←hx];clear b' hs hx;grobner
  clear b' hx
  grobner
theorem c16:(16:Fp)≠0:=by decide
theorem Qz1 {s X2 Z2 X3 Z3 x1 ym:Fp} {P Q:Pt δ} (hp:Par s δ) (h2:Rep s X2 Z2 P) (h3:Rep s X3 Z3 Q) (hm:(Q.add hδ P.neg).y=ym) (hx:x1*(1-ym)=s*(1+ym)) (hym:1+ym≠0):
 Rep s (((X3-Z3)*(X2+Z2)+(X3+Z3)*(X2-Z2))*((X3-Z3)*(X2+Z2)+(X3+Z3)*(X2-Z2))) (x1*(((X3-Z3)*(X2+Z2)-(X3+Z3)*(X2-Z2))*((X3-Z3)*(X2+Z2)-(X3+Z3)*(X2-Z2)))) (P.add hδ Q):=by
 obtain⟨k2,hk2,hX2,hZ2⟩:=h2
 obtain⟨k3,hk3,hX3,hZ3⟩:=h3
 have hy:=Qhj hδ P Q
 have hy':=Qhj hδ Q P.neg
 rw[hm]at hy'
 have ne1:1-δ*P.x*Q.x*P.y*Q.y≠0:=QgF hδ P Q
 have ne2:1+δ*P.x*Q.x*P.y*Q.y≠0:=QgY hδ P Q
 obtain⟨a,b⟩:=QAf P.on Q.on (by simpa only[tt] using hy) (ym:=ym) (by simp only[tt,Pt.neg]at hy';clear hX2 hX3 hZ2 hZ3 hy hm hx hk2 hk3 ne1 ne2 hym;grobner)
 have hD:(1-δ)*(1-δ*(P.y*Q.y)*(P.y*Q.y))≠0:=Qbb (QiV hδ) (QeS hδ _)
 obtain⟨c,d⟩:=QyM (Qh8 hp) hx a b (Qa3 hD) hX2 hZ2 hX3 hZ3
 refine⟨_,?_,c,d⟩
 refine Qbb (Qbb (Qbb (Qbb (Qbb (Qbb (Qbb c16 hk2) hk2) hk3) hk3) (Qbb (Qbb (Qbb ne1 ne2) (QeS hδ _)) (QeS hδ _))) ?_) hym
 intro h0
 have:=Qa3 hD
 rw[h0]at this
 revert this
 grobner
end
theorem QDs:toF 121665=121665:=rfl
section
variable {δ:Fp} (hδ:Qhk δ)
def LRep (s:Fp) (l:Lad) (P Q:Pt δ):Prop:=Rep s (toF l.x2) (toF l.z2) P∧Rep s (toF l.x3) (toF l.z3) Q
theorem Qqh {s ym:Fp} {x1:Nat} {l:Lad} {P Q:Pt δ} (hp:Par s δ) (h:LRep s l P Q) (hm:(Q.add hδ P.neg).y=ym) (hx:toF x1*(1-ym)=s*(1+ym)) (hym:1+ym≠0):
 LRep s (l.step x1) (P.add hδ P) (P.add hδ Q):=by
 have a:=QBs hδ hp h.1
 have b:=Qz1 hδ hp h.1 h.2 hm hx hym
 refine⟨?_,?_⟩
 ·simpa only[Lad.step,Qg7,Qmc,QlB,QDs] using a
 ·simpa only[Lad.step,Qg7,Qmc,QlB] using b
theorem Qr1 (P Q:Pt δ):(Q.add hδ P.neg).y=(P.add hδ Q.neg).y:=by
 have a:=Qhj hδ Q P.neg
 have b:=Qhj hδ P Q.neg
 have n:=QgF hδ Q P.neg
 apply Qfw n
 rw[a]
 have e:tt Q P.neg=tt P Q.neg:=by simp only[tt,Pt.neg];clear a b n;grobner
 rw[e,b]
 simp only[Pt.neg]
 clear a b n e
 grobner
def kval (K:List UInt8):Nat→Nat
 | 0=>0
 | j+1=>2*kval K j+(kbit K (254-j)).toNat
theorem QqC (G:Pt δ) (n:Nat):((G.mul hδ (n+1)).add hδ (G.mul hδ n).neg)=G:=by
 show (((G.mul hδ n).add hδ G).add hδ (G.mul hδ n).neg)=G
 rw[QnT hδ (G.mul hδ n) G,Qyh]
theorem QuD {s:Fp} {x1:Nat} {G:Pt δ} (hp:Par s δ) (hx:toF x1*(1-G.y)=s*(1+G.y)) (hy:1+G.y≠0) (K:List UInt8):
 ∀j,LRep s (Lad.at x1 K j) (G.mul hδ (kval K j)) (G.mul hδ (kval K j+1))
 | 0=>by
   have hs:=Qh8 hp
   have hy1:1-G.y≠0:=by
    intro h0
    rw[h0]at hx
    have:s*(s*(1+G.y))=0:=by rw[←hx];clear hx hs hp hy;grobner
    have h1:1+G.y=0:=by clear hx hp h0 hy;grobner
    exact hy h1
   refine⟨⟨finv 2,?_,?_,?_⟩,⟨s*finv (1-G.y),?_,?_,?_⟩⟩
   ·intro h0
    have:=Qa3 Qks
    rw[h0]at this
    revert this
    decide
   ·have:=Qa3 Qks
    show (1:Fp)=finv 2*(1+1)
    grobner
   ·show (0:Fp)=finv 2*s*(1-1)
    grobner
   ·intro h0
    have:=Qa3 hy1
    have:s*s=0:=by
     have h1:s*(s*finv (1-G.y))=0:=by rw[h0];clear h0 this hs hx hp hy;grobner
     clear hx hp hy h0
     grobner
    rw[hs]at this
    exact Qqn this
   ·rw[show G.mul hδ (kval K 0+1)=G from Qiy hδ G]
    show toF x1=_
    have:=Qa3 hy1
    clear hp hy hy1
    grobner
   ·rw[show G.mul hδ (kval K 0+1)=G from Qiy hδ G]
    show (1:Fp)=_
    have:=Qa3 hy1
    clear hp hy hy1 hx
    grobner
 | j+1=>by
   have ih:=QuD hp hx hy K j
   have hsub:((G.mul hδ (kval K j+1)).add hδ (G.mul hδ (kval K j)).neg).y=G.y:=by rw[QqC]
   have hsub':((G.mul hδ (kval K j)).add hδ (G.mul hδ (kval K j+1)).neg).y=G.y:=by rw[Qr1,QqC]
   have e0:kval K (j+1)=2*kval K j+(kbit K (254-j)).toNat:=rfl
   rw[e0]
   show LRep s (Lad.round x1 (kbit K (254-j)) (Lad.at x1 K j)) _ _
   generalize kval K j=n at *
   cases kbit K (254-j)
   ·have:=Qqh hδ hp ih hsub hx hy
    rw[←QeA,←QeA]at this
    rw[show 2*n+false.toNat=n+n by simp;omega,show n+n+1=n+(n+1) by omega]
    exact this
   ·have:=Qqh hδ hp (show LRep s (Lad.at x1 K j).swap (G.mul hδ (n+1)) (G.mul hδ n) from ⟨ih.2,ih.1⟩) hsub' hx hy
    rw[←QeA,←QeA]at this
    rw[show 2*n+true.toNat=n+1+n by simp;omega,show n+1+n+1=n+1+(n+1) by omega]
    exact⟨this.2,this.1⟩
def Pt.u (s:Fp) (Q:Pt δ):Fp:=if 1-Q.y=0 then 0 else s*(1+Q.y)*finv (1-Q.y)
theorem QFz {x y d:Fp} (h:x=0) (on:x*x+y*y=1+d*x*x*y*y):(1+y)*(1-y)=0:=by grobner
theorem QF6 {a b:Fp} (h:a=0) (k:b=0) (y z t:Fp):a*y+b*z=0*t:=by grobner
theorem Qzi {c d i r:Fp} (h:r*r=c*i) (hi:d*i=1):d*r*(d*r)=c*d:=by grobner
theorem QGd {u a:Fp} (h:u*u+a*u+1=0):(2*u+a)*(2*u+a)=a*a-4:=by grobner
theorem QC2 {u a:Fp} (h:u+1=0):u*(u*u+a*u+1)=a-2:=by grobner
theorem QCU {u a:Fp} (h:u-1=0):u*(u*u+a*u+1)=a+2:=by grobner
theorem Qm8 {a:Nat} (ha:a=0) (n m:Nat) (h:0<n):a^n%m=0:=by rw[ha,Nat.zero_pow h,QII]
theorem Qtb (a:Nat) (ha:a=0):pinv a=0:=Qm8 ha _ _ (by unfold P25;omega)
theorem Qmx:finv 0=0:=by
 unfold finv
 rw[Qtb _ (show (0:Fp).val=0 from rfl)]
 rfl
theorem Qqy (n:Nat):toF (pinv n)=finv (toF n):=by
 show toF (n^(P25-2)%P25)=toF ((n%P25)^(P25-2)%P25)
 rw[←Nat.pow_mod]
theorem QFd {s X Z:Fp} {Q:Pt δ} (hp:Par s δ) (h:Rep s X Z Q):X*finv Z=Q.u s:=by
 obtain⟨k,hk,hX,hZ⟩:=h
 have hs:=Qh8 hp
 unfold Pt.u
 split
 ·rename_i h0
  rw[h0]at hZ
  have:Z=0:=by rw[hZ];clear hs hp hX hZ h0;grobner
  rw[this,Qmx]
  clear hs hp hX hZ h0 this
  grobner
 ·rename_i h0
  have hsn:s≠0:=by rintro rfl;revert hs;decide
  have hz:Z≠0:=by rw[hZ];exact Qbb (Qbb hk hsn) h0
  have i1:=Qa3 hz
  have i2:=Qa3 h0
  have i3:=Qa3 hk
  apply Qfw hz
  have e1:X*finv Z*Z=X:=by clear hX hZ hs hp i2 i3;grobner
  have e2:s*(1+Q.y)*finv (1-Q.y)*Z=k*(1+Q.y):=by rw[hZ];clear hX hZ hp i1 i3 e1;grobner
  rw[e1,e2,hX]
def multN (x1:Nat) (K:List UInt8):Nat:=fmul (Lad.at x1 K 255).x2 (pinv (Lad.at x1 K 255).z2)
theorem QpH {s:Fp} {x1:Nat} {G:Pt δ} (hp:Par s δ) (hx:toF x1*(1-G.y)=s*(1+G.y)) (hy:1+G.y≠0) (K:List UInt8):
 toF (multN x1 K)=(G.mul hδ (kval K 255)).u s:=by
 rw[multN,Qg7,Qqy]
 exact QFd hp (QuD hδ hp hx hy K 255).1
include hδ in
theorem QvG {s:Fp} (hp:Par s δ) {Q:Pt δ}:Q.u s=0↔Q.x=0:=by
 have hs:=Qh8 hp
 have hsn:s≠0:=by rintro rfl;revert hs;decide
 have on:=Q.on
 unfold Pt.u
 constructor
 ·intro h
  have hy:Q.y*Q.y=1:=by
   split at h
   ·rename_i h0
    clear h on hs hp hsn
    grobner
   ·rename_i h0
    have hf:finv (1-Q.y)≠0:=by
     intro h1
     have:=Qa3 h0
     rw[h1]at this
     clear h on hs hp
     have h2:(1:Fp)=0:=by grobner
     exact Qqn h2
    rcases QdQ h with h1|h1
    ·rcases QdQ h1 with h2|h2
     ·exact absurd h2 hsn
     ·clear h h1 on hs hp hsn hf
      grobner
    ·exact absurd h1 hf
  have:Q.x*Q.x*(1-δ)=0:=by clear h hs hp hsn;grobner
  rcases QdQ this with h1|h1
  ·exact (QdQ h1).elim id id
  ·exact absurd h1 (QiV hδ)
 ·intro h
  have:(1+Q.y)*(1-Q.y)=0:=QFz h on
  rcases QdQ this with h1|h1
  ·split
   ·rfl
   ·rw[h1]
    clear this on hs hp hsn h h1
    grobner
  ·rw[if_pos h1]
theorem QqP {Q:Pt δ} (h:Q.x=0):∀n,(Q.mul hδ n).x=0
 | 0=>rfl
 | n+1=>by
   have ih:=QqP h n
   apply Qfw (QgY hδ (Q.mul hδ n) Q)
   exact (Qkj hδ (Q.mul hδ n) Q).trans (QF6 ih h _ _ _)
theorem QzE {s:Fp} (hp:Par s δ) {Q:Pt δ} (h:Q.u s≠0):Q.u s*(1-Q.y)=s*(1+Q.y)∧1+Q.y≠0:=by
 have hs:=Qh8 hp
 unfold Pt.u at h ⊢
 split at h
 ·exact absurd rfl h
 ·rename_i h0
  have:=Qa3 h0
  rw[if_neg h0]
  refine⟨by clear h hs hp;grobner,fun h1=>h ?_⟩
  rw[h1]
  clear h hs hp this
  grobner
end
theorem QiC (a:Fp) (n:Nat) (h:n<2^256):fpow a n=toF (pwm P25 256 a.val n):=by rw[QqO P25 256 a.val n h,Qlk];rfl
theorem h66:fpow 121666 Hp=1:=by rw[QiC _ _ (by decide)];decide +kernel
theorem h65:fpow 121665 Hp= -1:=by rw[QiC _ _ (by decide)];decide +kernel
theorem h2:fpow 2 Hp= -1:=by rw[QiC _ _ (by decide)];decide +kernel
theorem h4:fpow 4 Hp=1:=by rw[QiC _ _ (by decide)];decide +kernel
theorem hm1:(1:Fp)≠ -1:=by decide
theorem QkJ (r:Fp):r*r≠121665*121666:=by
 intro h
 have h0:(121665*121666:Fp)≠0:=Qbb c65 c66
 have:=Qum h0 ⟨r,h⟩
 rw[Qdd,h65,h66]at this
 revert this
 decide
theorem QBn:∃i:Fp,i*i= -1:=⟨fpow 2 Qp,by rw[←Qgi,show Qp+Qp=Hp by decide,h2]⟩
theorem QDc:Qhk (121665*finv 121666):=by
 intro r h
 have:=Qa3 c66
 exact QkJ (121666*r) (Qzi h this)
theorem QCD:Qhk (121666*finv 121665):=by
 intro r h
 have:=Qa3 c65
 exact QkJ (121665*r) ((Qzi h this).trans (by decide))
theorem par1:Par 1 (121665*finv 121666):=.inl ⟨rfl,by have:=Qa3 c66;grobner⟩
theorem par2:Par (-1) (121666*finv 121665):=.inr ⟨rfl,by have:=Qa3 c65;grobner⟩
theorem QAa (u:Fp):u*u+486662*u+1≠0:=by
 intro h
 have e:(2*u+486662)*(2*u+486662)=4*4*(121665*121666):=(QGd h).trans (by decide)
 have n0:(4*4*(121665*121666):Fp)≠0:=by decide
 have:=Qum n0 ⟨_,e⟩
 rw[Qdd,Qdd,Qdd,h4,h65,h66]at this
 revert this
 decide
theorem QAt {u h m n r d:Fp} (hh:h=u*u+486662*u+1) (hn:h*n=1) (hm:(u+1)*m=1) (hr:r*r=121666*(u*h)) (hd:d*121666=121665):
 2*r*n*(2*r*n)+(u-1)*m*((u-1)*m)=1+d*(2*r*n)*(2*r*n)*((u-1)*m)*((u-1)*m):=by
 have ex:2*r*n*(2*r*n)=4*121666*u*n:=by clear hm hd hh;grobner
 have ex2:d*(2*r*n)*(2*r*n)=4*121665*u*n:=by clear hm hh hn hr;grobner
 rw[ex,ex2]
 have key:4*121666*u*((u+1)*(u+1))+(u-1)*(u-1)*h=h*((u+1)*(u+1))+4*121665*u*((u-1)*(u-1)):=by rw[hh];clear hn hm hr hd ex ex2 hh;grobner
 have k2:(4*121666*u*((u+1)*(u+1))+(u-1)*(u-1)*h)*(n*(m*m))=(h*((u+1)*(u+1))+4*121665*u*((u-1)*(u-1)))*(n*(m*m)):=by rw[key]
 have hm2:(u+1)*(u+1)*(m*m)=1:=by clear key k2 ex ex2 hn hr hd hh;grobner
 clear key ex ex2 hr hd hh
 generalize (u+1)*(u+1)=v at *
 clear hm
 grobner
theorem QAk {u h m n r d:Fp} (hh:h=u*u+486662*u+1) (hn:h*n=1) (hm:(u-1)*m=1) (hr:r*r=121665*(u*h)) (hd:d*121665=121666):
 2*r*n*(2*r*n)+(u+1)*m*((u+1)*m)=1+d*(2*r*n)*(2*r*n)*((u+1)*m)*((u+1)*m):=by
 have ex:2*r*n*(2*r*n)=4*121665*u*n:=by clear hm hd hh;grobner
 have ex2:d*(2*r*n)*(2*r*n)=4*121666*u*n:=by clear hm hh hn hr;grobner
 rw[ex,ex2]
 have key:4*121665*u*((u-1)*(u-1))+(u+1)*(u+1)*h=h*((u-1)*(u-1))+4*121666*u*((u+1)*(u+1)):=by rw[hh];clear hn hm hr hd ex ex2 hh;grobner
 have k2:(4*121665*u*((u-1)*(u-1))+(u+1)*(u+1)*h)*(n*(m*m))=(h*((u-1)*(u-1))+4*121666*u*((u+1)*(u+1)))*(n*(m*m)):=by rw[key]
 have hm2:(u-1)*(u-1)*(m*m)=1:=by clear key k2 ex ex2 hn hr hd hh;grobner
 clear key ex ex2 hr hd hh
 generalize (u-1)*(u-1)=v at *
 clear hm
 grobner
theorem QnR {u:Fp} (hu:u≠0):∃(s δ:Fp) (_:Qhk δ) (_:Par s δ) (P:Pt δ),u*(1-P.y)=s*(1+P.y)∧1+P.y≠0:=by
 obtain⟨i,hi⟩:=QBn
 have hq:=QAa u
 have hg:u*(u*u+486662*u+1)≠0:=Qbb hu hq
 have hn:=Qa3 hq
 rcases Qvs hg with h1|h1
 ·obtain⟨r,hr⟩:=QwC hi (show fpow (121666*(u*(u*u+486662*u+1))) Hp=1 by rw[Qdd,h66,h1];decide)
  have hu1:u+1≠0:=by
   intro h0
   have:u*(u*u+486662*u+1)=4*121665:=(QC2 h0).trans (by decide)
   rw[this,Qdd,h4,h65]at h1
   revert h1
   decide
  have hm:=Qa3 hu1
  refine⟨1,_,QDc,par1,⟨_,_,QAt rfl hn hm hr (by have:=Qa3 c66;clear hr hm hn h1 hi;grobner)⟩,?_,?_⟩
  ·show u*(1-(u-1)*finv (u+1))=1*(1+(u-1)*finv (u+1))
   clear hr hn h1 hi
   grobner
  ·show 1+(u-1)*finv (u+1)≠0
   have e:1+(u-1)*finv (u+1)=2*u*finv (u+1):=by clear hr hn h1 hi;grobner
   rw[e]
   refine Qbb (Qbb Qks hu) fun h0=>?_
   rw[h0]at hm
   exact Qqn (by clear hr hn h1 hi e;grobner)
 ·obtain⟨r,hr⟩:=QwC hi (show fpow (121665*(u*(u*u+486662*u+1))) Hp=1 by rw[Qdd,h65,h1];decide)
  have hu1:u-1≠0:=by
   intro h0
   have:u*(u*u+486662*u+1)=4*121666:=(QCU h0).trans (by decide)
   rw[this,Qdd,h4,h66]at h1
   revert h1
   decide
  have hm:=Qa3 hu1
  refine⟨-1,_,QCD,par2,⟨_,_,QAk rfl hn hm hr (by have:=Qa3 c65;clear hr hm hn h1 hi;grobner)⟩,?_,?_⟩
  ·show u*(1-(u+1)*finv (u-1))= -1*(1+(u+1)*finv (u-1))
   clear hr hn h1 hi
   grobner
  ·show 1+(u+1)*finv (u-1)≠0
   have e:1+(u+1)*finv (u-1)=2*u*finv (u-1):=by clear hr hn h1 hi;grobner
   rw[e]
   refine Qbb (Qbb Qks hu) fun h0=>?_
   rw[h0]at hm
   exact Qqn (by clear hr hn h1 hi e;grobner)
theorem QiG (x1:Nat) (K:List UInt8):multN x1 K<P25:=QGU _ Qbp
theorem Qmy {x1:Nat} (h:toF x1=0) (K:List UInt8):∀j,toF (Lad.at x1 K j).x2*toF (Lad.at x1 K j).z2=0∧toF (Lad.at x1 K j).x3*toF (Lad.at x1 K j).z3=0
 | 0=>⟨by show toF 1*toF 0=0;rw[QgU];grobner,by show toF x1*toF 1=0;rw[h];grobner⟩
 | j+1=>by
   have st:∀l:Lad,toF l.x2*toF l.z2=0→toF (l.step x1).x2*toF (l.step x1).z2=0∧toF (l.step x1).x3*toF (l.step x1).z3=0:=by
    intro l hl
    simp only[Lad.step,Qg7,Qmc,QlB,h]
    generalize toF l.x2=a at *
    generalize toF l.z2=b at *
    generalize toF l.x3=c at *
    generalize toF l.z3=d at *
    constructor
    ·have e:(a+b)*(a+b)-(a-b)*(a-b)=0:=by grobner
     rw[e]
     clear e hl
     grobner
    ·clear hl
     grobner
   have ih:=Qmy h K j
   have e0:Lad.at x1 K (j+1)=Lad.round x1 (kbit K (254-j)) (Lad.at x1 K j):=rfl
   rw[e0]
   unfold Lad.round
   cases kbit K (254-j)
   ·exact st _ ih.1
   ·have:=st (Lad.at x1 K j).swap ih.2
    exact⟨this.2,this.1⟩
theorem Qux {n:Nat} (hn:n<P25) (h:toF n=0):n=0:=by
 have:=Qjj.1 h
 rwa [QGO hn]at this
theorem QdH {x1:Nat} (h:toF x1=0) (K:List UInt8):multN x1 K=0:=by
 apply Qux (QiG _ _)
 rw[multN,Qg7,Qqy]
 rcases QdQ (Qmy h K 255).1 with h0|h0
 ·rw[h0]
  grobner
 ·rw[h0,Qmx]
  grobner
theorem multN_comm (x1:Nat) (K L:List UInt8):multN (multN x1 K) L=multN (multN x1 L) K:=by
 by_cases h0:toF x1=0
 ·rw[QdH h0,QdH h0,QdH QgU,QdH QgU]
 ·obtain⟨s,δ,hδ,hp,G,hx,hy⟩:=QnR h0
  have half:∀K L,toF (multN (multN x1 K) L)=(G.mul hδ (kval K 255*kval L 255)).u s:=by
   intro K L
   have e1:=QpH hδ hp hx hy K
   rw[Qhl]
   by_cases h1:toF (multN x1 K)=0
   ·rw[QdH h1]
    have h2:(G.mul hδ (kval K 255)).x=0:=(QvG hδ hp).1 (by rw[←e1];exact h1)
    exact ((QvG hδ hp).2 (QqP hδ h2 _)).symm
   ·have h2:(G.mul hδ (kval K 255)).u s≠0:=by rw[←e1];exact h1
    obtain⟨b1,b2⟩:=QzE hp h2
    exact QpH hδ hp (by rw[e1];exact b1) b2 L
  have:=(half K L).trans ((by rw[QHp]:_=_).trans (half L K).symm)
  have:=QAb this
  rwa [QGO (QiG _ _),QGO (QiG _ _)]at this
end Ed
namespace Ed
theorem Qu1 (K:List UInt8) (hK:K.length=32):∀j,j≤255→kval K j=num K/2^(255-j)%2^j
 | 0,_=>by rw[QIR,Nat.mod_one];rfl
 | j+1,hj=>by
   have ih:=Qu1 K hK j (by omega)
   have hb:=Qt7 K (254-j) (by omega)
   have e1:(kbit K (254-j)).toNat=num K/2^(254-j)%2:=by
    unfold kbit
    rw[hb]
    rcases Nat.mod_two_eq_zero_or_one ((K.getD ((254-j)/8) 0).toNat/2^((254-j)%8)) with h|h<;>rw[h]<;>rfl
   show 2*kval K j+(kbit K (254-j)).toNat=_
   rw[e1,ih,show 255-(j+1)=254-j by omega,show 255-j=(254-j)+1 by omega,QHq,←QHk,QHq]
   generalize num K/2^(254-j)=X
   rw[QHp (2^j) 2,Nat.mod_mul]
   omega
theorem QyB (K:List UInt8) (hK:K.length=32):kval K 255=num K%2^255:=by
 rw[Qu1 K hK 255 (QGx _)]
 simp
theorem QwD (bs:List UInt8):num (QaZ bs)%8=0∨bs.length≠32:=by
 by_cases h:bs.length=32
 ·left
  have h1:=Qp2 (QaZ bs) 0 (by rw[QbI];omega)
  rw[QIk]at h1
  have h2:(QaZ bs).getD 0 0=bs.getD 0 0 &&& 248:=by
   rw[QaZ,if_pos h,QGq,QHU (by omega),QHS (by omega)]
   rfl
  have h3:=(Qix ⟨(bs.getD 0 0).toNat,(bs.getD 0 0).toNat_lt⟩).1
  simp only at h3
  rw[h1,h2,UInt8.toNat_and,show QIW 248=248 from rfl,h3]
  omega
 ·exact .inr h
theorem Quq (bs:List UInt8) (h:bs.length=32):2^254≤num (QaZ bs)∧num (QaZ bs)<2^255:=by
 have h1:=QlW (QaZ bs) 31 (by rw[QbI];omega)
 rw[QGD (by rw[QbI];omega)]at h1
 have h2:(QaZ bs).getD 31 0=(bs.getD 31 0 &&& 127) ||| 64:=by
  rw[QaZ,if_pos h,QGq,QHS (by simp;omega)]
  rfl
 have h3:=(Qix ⟨(bs.getD 31 0).toNat,(bs.getD 31 0).toNat_lt⟩).2
 simp only at h3
 have h4:((QaZ bs).getD 31 0).toNat=(bs.getD 31 0).toNat%64+64:=by
  rw[h2,UInt8.toNat_or,UInt8.toNat_and,show QIW 127=127 from rfl,show QIW 64=64 from rfl,h3]
 have h5:=Qnt ((QaZ bs).take 31)
 rw[QGP,QbI]at h5
 rw[h4]at h1
 have e:(256:Nat)^31*64=2^254:=by decide
 have e2:(256:Nat)^31*128=2^255:=by decide
 have h6:(256:Nat)^31*64≤256^31*((bs.getD 31 0).toNat%64+64):=QIb _ (by omega)
 have h7:(256:Nat)^31*((bs.getD 31 0).toNat%64+64)+256^31≤256^31*128:=by
  have hy:(bs.getD 31 0).toNat%64+64+1≤128:=by omega
  generalize (bs.getD 31 0).toNat%64+64=y at hy
  have:=QIb (256^31) hy
  rw[QHM,QIm]at this
  exact this
 rw[QHx (by omega)]at h5
 omega
def ellN:Nat:=7237005577332262213973186563042994240857116359379907606001950938285454250989
def Kl:List UInt8:=[237,211,245,92,26,99,18,88,214,156,247,162,222,249,222,20,0,0,0,0,0,0,0,0,0,0,0,0,0,0,0,16]
theorem QDO:kval Kl 255=ellN:=by decide +kernel
set_option maxRecDepth 100000 in
theorem ord9:(Lad.at 9 Kl 255).z2=0:=by decide +kernel
theorem QCt {x y d:Fp} (h:x=0) (on:x*x+y*y=1+d*x*x*y*y):y*y=1:=by grobner
theorem QFC {x y d:Fp} (h:x=0):d*x*x*y*y=0:=by grobner
theorem QCP {x y t:Fp} (h:x=0):x*y+x*y=0*t:=by grobner
theorem QCZ {x y:Fp} (h:x=0) (hy:y*y=1):y*y-x*x=1:=by grobner
section
variable {δ:Fp} (hδ:Qhk δ)
include hδ in
theorem QBc {Q:Pt δ} (h:1-Q.y=0):Q=Pt.zero:=by
 have on:=Q.on
 have hy:Q.y=1:=by clear on;grobner
 have:Q.x*Q.x*(1-δ)=0:=by clear h;grobner
 have hx:Q.x=0:=by
  rcases QdQ this with h1|h1
  ·exact (QdQ h1).elim id id
  ·exact absurd h1 (QiV hδ)
 exact Pt.ext hx hy
theorem Qyr {Q:Pt δ} (h:Q.x=0):Q.add hδ Q=Pt.zero:=by
 have hy:Q.y*Q.y=1:=QCt h Q.on
 have ht:tt Q Q=0:=QFC h
 apply Pt.ext
 ·apply Qfw (QgY hδ Q Q)
  rw[Qkj]
  exact QCP h
 ·apply Qfw (QgF hδ Q Q)
  rw[Qhj,ht]
  exact (QCZ h hy).trans (show (1:Fp)=1*(1-0) by decide)
theorem zero_mul (n:Nat):(Pt.zero:Pt δ).mul hδ n=Pt.zero:=by
 induction n with
 | zero=>rfl
 | succ n ih=>show ((Pt.zero:Pt δ).mul hδ n).add hδ Pt.zero=Pt.zero;rw[ih,Qg2]
structure Ell (L:Nat):Prop where
 kl:kval Kl 255=L
 inv:∀n,n%L≠0→∃m,n*m%L=1
 dbl:∀n,n%L≠0→(n+n)%L≠0
 one:1%L≠0
 clamp:∀bs:List UInt8,bs.length=32→kval (QaZ bs) 255%L≠0
theorem QBq {L:Nat} (hL:Ell L) {s:Fp} {G:Pt δ} (hp:Par s δ) (hx:toF 9*(1-G.y)=s*(1+G.y)) (hy:1+G.y≠0):G.mul hδ L=Pt.zero:=by
 have h:=(QuD hδ hp hx hy Kl 255).1
 rw[hL.kl]at h
 obtain⟨k,hk,_,hZ⟩:=h
 rw[ord9,QgU]at hZ
 have hs:=Qh8 hp
 have hsn:s≠0:=by rintro rfl;revert hs;decide
 rcases QdQ hZ.symm with h1|h1
 ·exact absurd h1 (Qbb hk hsn)
 ·exact QBc hδ h1
theorem Qoe {L:Nat} (hL:Ell L) {s:Fp} {G:Pt δ} (hp:Par s δ) (hx:toF 9*(1-G.y)=s*(1+G.y)) (hy:1+G.y≠0) {n:Nat} (hn:n%L≠0):(G.mul hδ n).x≠0:=by
 intro h0
 have h1:=Qyr hδ h0
 rw[←QeA]at h1
 obtain⟨m,hm⟩:=hL.inv _ (hL.dbl n hn)
 have h3:G.mul hδ ((n+n)*m)=Pt.zero:=by rw[Qhl,h1,zero_mul]
 have h4:(n+n)*m=L*((n+n)*m/L)+1:=by
  have:=QHn ((n+n)*m) L
  omega
 rw[h4,QeA,Qhl,QBq hδ hL hp hx hy,zero_mul,Qn4,Qiy]at h3
 have hs:=Qh8 hp
 rw[h3]at hx hy
 have h5:s*2=0:=by
  have:toF 9*(1-1)=s*(1+1):=hx
  clear hx hy hs hp h0 h1
  grobner
 rcases QdQ h5 with h6|h6
 ·subst h6
  revert hs
  decide
 ·exact Qks h6
end
theorem QsW {p n:Nat} (h:∀a,a%p≠0→a^(p-1)%p=1) (hp:2≤p) (hn:n%p≠0):∃m,n*m%p=1:=by
 refine⟨n^(p-2),?_⟩
 rw[←QIu,show (p-2).succ=p-1 by omega]
 exact h n hn
theorem Qw2 (a:Nat) (h:a%ellN≠0):a^(ellN-1)%ellN=1:=by
 have:=QE3.2 a (by unfold ellN at h;exact h)
 unfold ellN
 exact this
theorem QoF {n:Nat} (hn:n%ellN≠0):∃m,n*m%ellN=1:=QsW (p:=ellN) Qw2 (by unfold ellN;omega) hn
theorem Qvm (bs:List UInt8) (h:bs.length=32):kval (QaZ bs) 255%ellN≠0:=by
 rw[QyB _ (QbI bs)]
 have h1:=Quq bs h
 have h2:=(QwD bs).resolve_right (fun e=>e h)
 rw[QGO h1.2]
 intro h0
 obtain⟨m,hm⟩:∃m,num (QaZ bs)=8*m:=⟨num (QaZ bs)/8,by omega⟩
 rw[hm]at h0 h1
 have h3:m<ellN:=by unfold ellN;omega
 have h4:m%ellN≠0:=by rw[QGO h3];omega
 obtain⟨r,hr⟩:=QoF h4
 have h5:(8*m)*r%ellN=0:=by rw[QHP,h0,QIQ,QII]
 rw[QHL,QHP,hr]at h5
 revert h5
 decide
theorem QAZ (n:Nat) (h:n%ellN≠0):(n+n)%ellN≠0:=by
 intro h0
 obtain⟨r,hr⟩:=QoF (n:=2) (by decide)
 have h1:n*(2*r)%ellN=0:=by rw[←QHL,Nat.mul_two,QHP,h0,QIQ,QII]
 rw[QHP,hr,QIm,QHX]at h1
 exact h h1
theorem ell:∃L,Ell L:=
 ⟨ellN,QDO,fun _ h=>QoF h,QAZ,by decide,Qvm⟩
theorem Ell.prod {L n m:Nat} (hL:Ell L) (hn:n%L≠0) (hm:m%L≠0):n*m%L≠0:=by
 intro h0
 obtain⟨r,hr⟩:=hL.inv n hn
 have h1:n*r*m%L=0:=by rw[show n*r*m=n*m*r by rw[QHL,QHp r m,QHL],QHP,h0,QIQ,QII]
 rw[QHP,hr,Nat.one_mul,QHX]at h1
 exact hm h1
def From9 (q:Nat):Prop:=q<P25∧∃(L:Nat) (_:Ell L) (s δ:Fp) (hδ:Qhk δ) (_:Par s δ) (G:Pt δ) (n:Nat),toF 9*(1-G.y)=s*(1+G.y)∧1+G.y≠0∧n%L≠0∧toF q=(G.mul hδ n).u s
theorem from9_ne {q:Nat} (h:From9 q):q≠0:=by
 obtain⟨_,L,hL,s,δ,hδ,hp,G,n,hx,hy,hn,he⟩:=h
 rintro rfl
 exact Qoe hδ hL hp hx hy hn ((QvG hδ hp).1 he.symm)
theorem from9_nine:From9 9:=by
 obtain⟨s,δ,hδ,hp,G,hx,hy⟩:=QnR (u:=toF 9) (by decide)
 obtain⟨L,hL⟩:=ell
 refine⟨by decide,L,hL,s,δ,hδ,hp,G,1,hx,hy,hL.one,?_⟩
 rw[Qiy]
 have h1:1-G.y≠0:=by
  intro h0
  have hs:=Qh8 hp
  have hsn:s≠0:=by rintro rfl;revert hs;decide
  rw[h0]at hx
  have:s*(1+G.y)=0:=by rw[←hx];clear hx hs hp hy;grobner
  exact Qbb hsn hy this
 unfold Pt.u
 rw[if_neg h1,←hx]
 have:=Qa3 h1
 clear hx hy hp h1
 grobner
theorem from9_step {q:Nat} (h:From9 q) (ks:List UInt8) (hk:ks.length=32):From9 (multN q (QaZ ks)):=by
 have hne:=from9_ne h
 obtain⟨hq,L,hL,s,δ,hδ,hp,G,n,hx,hy,hn,he⟩:=h
 have h0:toF q≠0:=fun h=>hne (Qux hq h)
 rw[he]at h0
 obtain⟨b1,b2⟩:=QzE hp h0
 refine⟨QiG _ _,L,hL,s,δ,hδ,hp,G,n*kval (QaZ ks) 255,hx,hy,hL.prod hn (hL.clamp ks hk),?_⟩
 rw[Qhl]
 exact QpH hδ hp (by rw[he];exact b1) b2 (QaZ ks)
end Ed
end Go.Proofs.YtdhgpkdjdmlphaaGreat
namespace Go.Proofs.YtdhgpkdjdmlphaaGreat
open Go.RowKit
theorem QyA (ks:List UInt8) (q:Nat) (h:q<P25):Qkl ks (nb q)=Ed.multN q (QaZ ks):=by
 rw[Qkl,Qq2 q h]
 rfl
theorem Qf8 (ks:List UInt8) (q:Nat) (hk:ks.length=32) (h:q<P25):QbB ks (nb q)=nb (Ed.multN q (QaZ ks))∧Qbt ks (nb q)=if Ed.multN q (QaZ ks)=0 then 5 else 0:=by
 unfold QbB Qbt
 rw[QyA ks q h,if_pos ⟨hk,Qcj q⟩,if_pos ⟨hk,Qcj q⟩]
 exact⟨rfl,rfl⟩
theorem Qza:9<P25:=by decide
theorem QzK (ks:List UInt8) (hk:ks.length=32):Qbt ks (nb 9)=0:=by
 rw[(Qf8 ks 9 hk Qza).2,if_neg (Ed.from9_ne (Ed.from9_step Ed.from9_nine ks hk))]
section
variable {w wk v:World} {ls ls':List (Nat×TypeId×List Value)}
theorem Bag.fresh (h:Bag w wk ls) {k:Nat} {t:TypeId} {l:List Value} (j:Later wk v) (hk:wk.heap.size≤k) (hb:Blk v k t l):Bag w v ((k,t,l) :: ls):=
 h.add j (fun p hp e=>by have:=(h.blk p hp).lt;omega) (QG9 h.lat.size hk) hb
theorem Bag.sub (h:Bag w wk ls) (hs:ls'.Sublist ls):Bag w wk ls':=
 ⟨h.lat,fun p hp=>h.blk p (hs.subset hp),fun p hp=>h.low p (hs.subset hp),(hs.map _).nodup h.nd⟩
end
theorem Qmi {w:World} {base g n:Nat} {e:TypeId} {l:List Value} (h:Blk w g e l) (hb:base≤g) (hl:l.length=n) (hm:n≤140737488355328):w.ownsRow base e 1 (.slice (some ⟨g,0,none⟩) n n) n l:=by
 have:=Qdj h hb (by omega)
 rwa [hl]at this
theorem Qf7 {w:World} {g n:Nat} {t:TypeId} {bs:List UInt8} {rest:List Value} (h:Blk w g t (bs.map W8++rest)) (hn:bs.length=n):RdB w (some ⟨g,0,none⟩) n bs:=
 ⟨by rw[QGr,hn],fun _=>⟨g,0,rfl,h.lt,fun j u hu=>by
   rw[QGT]
   refine h.cellD j ?_
   rw[QGG (QGL.1 hu).1]
   exact hu⟩⟩
theorem Qhv {w:World} {g:Nat} {t:TypeId} {v:Value} {p:List UInt8} (hb:Blk w g t [v]) (hp:Part w (fun _=>False) v p):Parts w (fun _=>False) (some ⟨g,0,none⟩) 1 [p]:=
 ⟨[v],hb.rd rfl,Qb6 _ _,rfl,fun j v' p' hv hp'=>by
   cases j with
   | zero=>
     cases hv
     cases hp'
     exact hp
   | succ j=>simp at hv⟩
theorem Qe4 {w:World} {g:Nat} {t:TypeId} {v1 v2:Value} {p1 p2:List UInt8} (hb:Blk w g t [v1,v2]) (h1:Part w (fun _=>False) v1 p1) (h2:Part w (fun _=>False) v2 p2):Parts w (fun _=>False) (some ⟨g,0,none⟩) 2 [p1,p2]:=
 ⟨[v1,v2],hb.rd rfl,Qb6 _ _,rfl,fun j v' p' hv hp'=>by
   match j with
   | 0=>
     cases hv
     cases hp'
     exact h1
   | 1=>
     cases hv
     cases hp'
     exact h2
   | j+2=>simp at hv⟩
theorem QlZ {w:World} {base n c:Nat} {A:Option Addr} {bs:List UInt8} (h:OwnB w base A n c bs) (hn:0<n):∃g rest,A=some ⟨g,0,none⟩∧base≤g∧Blk w g 5 (bs.map W8++rest)∧c=(bs.map W8++rest).length∧n≤c:=by
 rcases Qud h with ⟨_,h0⟩|⟨g,rest,e,h1,h2,h3⟩
 ·omega
 ·exact⟨g,rest,e,h1,h2,h3,h.cap⟩
theorem Qx2 {ls:List (Nat×TypeId×List Value)} {t:TypeId} (h: ¬t∈ls.map (·.2.1)):∀p∈ls,p.2.1≠t:=fun p hp e=>h (QG2.2 ⟨p,hp,e⟩)
theorem Qba {w:World} {A:Option Addr} {n c:Nat} {p:List UInt8} (h:RdB w A n p) (hc:n≤c):Part w (fun _=>False) (.slice A n c) p:=⟨A,n,c,rfl,hc,h,fun _ _ _ h=>h⟩
structure Prt where
 kd:UInt8
 id:UInt64
 ix:Int
 ct:Int
 da:List UInt8
def prt0:Prt:=⟨0,0,0,0,[]⟩
def PaC (p:Prt) (v:Value):List Value:=[W8 p.kd,W64 p.id,.int .i64 p.ix,.int .i64 p.ct,v]
def prtE (p:Prt):Nat:=
 if p.kd<1∨3<p.kd then 1 else if 450<p.da.length then 2 else if p.ct<1∨16<p.ct∨p.ix<0∨p.ct≤p.ix then 3
 else if p.kd≠1∧p.ct≠1 then 3 else if p.kd=2∧(p.id≠0∨p.da.length≠0) then 3 else 0
abbrev Y16:={l:List UInt8 // l.length=16}
structure Cmd where
 kd:UInt8
 fl:UInt8
 dl:UInt32
 nx:UInt64
 ma:Y16
def QaH:Y16:=⟨QGn 16 0,by simp⟩
def cmd0:Cmd:=⟨0,0,0,0,QaH⟩
def CC (c:Cmd):List Value:=W8 c.kd :: W8 c.fl :: W32 c.dl :: W64 c.nx :: c.ma.val.map W8
theorem Qao (c:Cmd):(CC c).length=20:=by simp[CC,c.ma.2]
theorem QAz (c:Cmd):(CC c).drop 4=c.ma.val.map W8:=rfl
abbrev pid (q:Prt):Prt:=q
section
variable {α:Type} (pr:α→Prt)
def tkE (id:UInt64) (ks:List α) (p:Prt):Nat:=
 if p.kd≠1∨prtE p≠0 then 3 else if p.id≠id then 4 else if ks.any (fun q=>(pr q).ct != p.ct||(pr q).ix==p.ix) then 3 else 0
def tkK (id:UInt64) (ks:List α) (x:α):List α:=if tkE pr id ks (pr x)=0 then ks++[x] else ks
def tksK (id:UInt64) (ks xs:List α):List α:=xs.foldl (tkK pr id) ks
theorem QuM (id:UInt64) (ks xs:List α) (x:α):tksK pr id ks (xs++[x])=tkK pr id (tksK pr id ks xs) x:=by simp[tksK]
end
structure KeptOk (ks:List Prt):Prop where
 good:∀q∈ks,q.kd=1∧prtE q=0
 same:∀q∈ks,∀r∈ks,q.ct=r.ct
 nd:(ks.map (·.ix)).Nodup
theorem QsZ:KeptOk []:=⟨by simp,by simp,by simp⟩
theorem QiT {p:Prt} (h:prtE p=0):1≤p.ct∧p.ct≤16∧0≤p.ix∧p.ix<p.ct∧p.da.length≤450:=by
 unfold prtE at h
 split at h
 ·cases h
 split at h
 ·cases h
 split at h
 ·cases h
 rename_i h1 h2 h3
 omega
theorem Qiz {id:UInt64} {ks:List Prt} {p:Prt} (h:tkE pid id ks p=0):p.kd=1∧prtE p=0∧p.id=id∧(∀ q∈ks,q.ct=p.ct∧q.ix≠p.ix):=by
 unfold tkE at h
 split at h
 ·cases h
 split at h
 ·cases h
 split at h
 ·cases h
 rename_i h1 h2 h3
 refine⟨Classical.not_not.1 fun hc=>h1 (.inl hc),Classical.not_not.1 fun hc=>h1 (.inr hc),Classical.not_not.1 h2,fun q hq=>?_⟩
 have h4:(q.ct != p.ct||q.ix==p.ix)=false:=by
  cases hb:(q.ct != p.ct||q.ix==p.ix) with
  | false=>rfl
  | true=>exact absurd (QHV.2 ⟨q,hq,hb⟩) h3
 simp only[Bool.or_eq_false_iff,bne_eq_false_iff_eq,beq_eq_false_iff_ne]at h4
 exact h4
theorem KeptOk.snoc {id:UInt64} {ks:List Prt} {p:Prt} (h:KeptOk ks):KeptOk (tkK pid id ks p):=by
 unfold tkK
 split
 ·rename_i h0
  obtain⟨h1,h2,_,h4⟩:=Qiz h0
  refine⟨fun q hq=>?_,fun q hq r hr=>?_,?_⟩
  ·rcases QHd.1 hq with hq|hq
   ·exact h.good q hq
   ·obtain rfl:q=p:=by simpa using hq
    exact⟨h1,h2⟩
  ·rcases QHd.1 hq with hq|hq<;>rcases QHd.1 hr with hr|hr
   ·exact h.same q hq r hr
   ·have e:r=p:=by simpa using hr
    rw[e]
    exact (h4 q hq).1
   ·have e:q=p:=by simpa using hq
    rw[e]
    exact (h4 r hr).1.symm
   ·have e:q=p:=by simpa using hq
    have e':r=p:=by simpa using hr
    rw[e,e']
  ·rw[QG6,List.nodup_append]
   refine⟨h.nd,by simp,fun a ha b hb=>?_⟩
   obtain rfl:b=p.ix:=by simpa using hb
   obtain⟨q,hq,rfl⟩:=QG2.1 ha
   exact (h4 q hq).2
 ·exact h
theorem Qrc {id:UInt64} (xs:List Prt):∀ {ks:List Prt},KeptOk ks→KeptOk (tksK pid id ks xs):=by
 induction xs with
 | nil=>exact fun h=>h
 | cons x xs ih=>exact fun h=>ih h.snoc
theorem Qgv:∀(n:Nat) (l:List Int),l.Nodup→(∀ i∈l,0≤i∧i<n)→l.length≤n
 | 0,l,_,h=>by
   cases l with
   | nil=>exact QGx _
   | cons i l=>have:=h i (by simp);omega
 | n+1,l,hn,h=>by
   have hb:(l.erase (n:Int)).length≤n:=by
    refine Qgv n _ (hn.erase _) fun i hi=>?_
    have h1:=h i (List.mem_of_mem_erase hi)
    have h2:i≠(n:Int):=fun e=>by subst e;exact (List.Nodup.not_mem_erase hn) hi
    omega
   have:=List.length_erase_of_mem (a:=(n:Int)) (l:=l)
   by_cases hm:(n:Int)∈l
   ·rw[this hm]at hb
    omega
   ·rw[List.erase_of_not_mem hm]at hb
    omega
theorem KeptOk.le {ks:List Prt} (h:KeptOk ks) {c:Int} (hc:∀q∈ks,q.ct=c) (h0:0≤c):(ks.length:Int)≤c:=by
 have:=Qgv c.toNat (ks.map (·.ix)) h.nd (fun i hi=>by
  obtain⟨q,hq,rfl⟩:=QG2.1 hi
  have:=QiT (h.good q hq).2
  have:=hc q hq
  omega)
 rw[QGr]at this
 omega
def daAt (ks:List Prt) (i:Nat):List UInt8:=((ks.find? (fun q=>q.ix==(i:Int))).map (·.da)).getD []
def Qmr (ks:List Prt):List UInt8:=(QG0 ks.length).flatMap fun (i:Nat)=>(ks.filter (fun q=>q.ix==(i:Int))).flatMap (·.da)
theorem Qlj {i:Int}:∀ {ks:List Prt},(ks.map (·.ix)).Nodup→(ks.filter (fun q=>q.ix==i)).flatMap (·.da)=((ks.find? (fun q=>q.ix==i)).map (·.da)).getD []
 | [],_=>rfl
 | q :: ks,h=>by
   rw[QGR,QIj]at h
   by_cases hq:q.ix=i
   ·have hno:ks.filter (fun q=>q.ix==i)=[]:=by
     rw[List.filter_eq_nil_iff]
     intro r hr hc
     exact h.1 (QG2.2 ⟨r,hr,(by simpa using hc:r.ix=i).trans hq.symm⟩)
    simp[hq,hno]
   ·have hb:(q.ix==i)=false:=by simpa using hq
    rw[List.filter_cons,List.find?_cons,hb]
    exact Qlj h.2
theorem Qqo {ks:List Prt} (h:KeptOk ks):Qmr ks=(QG0 ks.length).flatMap (daAt ks):=by
 unfold Qmr daAt
 congr 1
 funext i
 exact Qlj h.nd
structure Arr where
 pt:Prt
 kd:UInt8
 to:UInt64
 tk:Int
 ma:Y16
structure Ltr where
 to:UInt64
 id:UInt64
 tk:Int
 tx:List UInt8
def mine (x:UInt64×UInt64) (a:Arr):Bool:=a.kd==2&&a.pt.kd==1&&a.to==x.1&&a.pt.id==x.2
def QbD (qas:List Arr) (x:UInt64×UInt64):List Prt:=tksK pid x.2 [] ((qas.filter (mine x)).map (·.pt))
def QjX (qas:List Arr) (a:Arr):List Ltr:=
 if a.kd=2∧a.pt.kd=1∧tkE pid a.pt.id (QbD qas (a.to,a.pt.id)) a.pt=0∧((QbD qas (a.to,a.pt.id)).length:Int)+1=a.pt.ct then [⟨a.to,a.pt.id,a.tk,Qmr (QbD qas (a.to,a.pt.id)++[a.pt])⟩] else []
def ltrs (qas:List Arr) (k:Nat):List Ltr:=(QG0 k).flatMap fun i=>match qas[i]? with|some a=>QjX (qas.take i) a|none=>[]
theorem Qm7 (qas:List Arr) (k:Nat) (a:Arr) (h:qas[k]?=some a):ltrs qas (k+1)=ltrs qas k++QjX (qas.take k) a:=by
 unfold ltrs
 rw[QH5,QH3]
 simp[h]
theorem Qjt (qas:List Arr) (x:UInt64×UInt64):KeptOk (QbD qas x):=Qrc _ QsZ
theorem QiQ (qas:List Arr) (x:UInt64×UInt64) (a:Arr):QbD (qas++[a]) x=if mine x a then tkK pid x.2 (QbD qas x) a.pt else QbD qas x:=by
 unfold QbD
 rw[List.filter_append,QG6]
 by_cases h:mine x a=true
 ·rw[if_pos h]
  simp only[List.filter_cons,h,if_true,List.filter_nil,QGR,QGH]
  exact QuM pid _ _ _ _
 ·rw[if_neg h]
  simp[h]
end Go.Proofs.YtdhgpkdjdmlphaaGreat
namespace Go.Proofs.YtdhgpkdjdmlphaaGreat
open Go.RowKit
open Go.BigFrame
section
variable {ops:Array Oper} {rest:List Oper} {o:Oper} {a:Act} {w:World} {Q:Exit→Act→World→Prop}
end
abbrev pz0:List Value:=[.int .u8 0,.int .u64 0,.int .i64 0,.int .i64 0,.slice none 0 0]
theorem Qy1:(Tryz.prog.info? 25).bind (·.zero)=some (.agg (PaC prt0 (.slice none 0 0)).toArray):=by kernel_rfl
theorem QdN:(Tryz.prog.info? 25).map (·.size)=some 5:=by kernel_rfl
theorem Qa9 (p:Prt) (v:Value):(PaC p v).length=5:=rfl
theorem QhK (p:Prt) {v:Value} (h:v.oneCell'=true):∀u∈PaC p v,u.oneCell'=true:=by
 intro u hu
 simp only[PaC,QGJ,QGK,or_false]at hu
 rcases hu with rfl|rfl|rfl|rfl|rfl<;>first|rfl|exact h
theorem Qwp:Tryz.prog.built 25 []=some (PaC prt0 (.slice none 0 0)).toArray:=by
 rw[QaQ (pl:=[(0,1),(1,1),(2,1),(3,1),(4,1)]) Tryz.underlying25 Qy1 (by kernel_rfl),Qb0]
theorem Qvi (kd:UInt8) (id:UInt64) (ix ct:Int):Tryz.prog.built 25 [(0,W8 kd),(1,W64 id),(2,.int .i64 ix),(3,.int .i64 ct)]=some (PaC ⟨kd,id,ix,ct,[]⟩ (.slice none 0 0)).toArray:=by
 rw[QaQ (pl:=[(0,1),(1,1),(2,1),(3,1),(4,1)]) Tryz.underlying25 Qy1 (by kernel_rfl),QaR (vs:=[W8 kd]) (off:=0) rfl rfl (by simp[PaC]),QaR (vs:=[W64 id]) (off:=1) rfl rfl (by simp[PaC,Qar]),QaR (vs:=[.int .i64 ix]) (off:=2) rfl rfl (by simp[PaC,Qar]),QaR (vs:=[.int .i64 ct]) (off:=3) rfl rfl (by simp[PaC,Qar]),Qb0]
 rfl
section
variable {ops:Array Oper} {rest:List Oper} {o:Oper} {a:Act} {w:World} {Q:Exit→Act→World→Prop}
theorem Qco (hgd:o.guard=none) (hd:o.dst=none) (x y:Operand) (ho:o.op= .store 25 x y) {g:Nat} {t:TypeId} {l:List Value} {p:Prt} {v:Value} (hg:Blk w g t l) (hx:a.eval x= .pointer (some ⟨g,0,none⟩)) (hy:a.eval y= .agg (PaC p v).toArray) (hv:v.oneCell'=true) (hl:l.length=5)
 (h:∀w',Blk w' g t (PaC p v)→Only g w w'→wpList Tryz.prog ops Q rest a w'):wpList Tryz.prog ops Q (o :: rest) a w:=
 Qai hgd hd _ x y ho g t l _ hg hx hy 5 QdN rfl hl (QhK p hv) h
theorem QdP (hw:Region.wanted o (yielded ops a.tmps)=true) (x:Operand) (ho:o.op= .load 25 x) {g:Nat} {t:TypeId} {p:Prt} {v:Value} (hb:Blk w g t (PaC p v)) (hx:a.eval x= .pointer (some ⟨g,0,none⟩))
 (h:wpList Tryz.prog ops Q rest (a.put o.dst (.agg (PaC p v).toArray)) w):wpList Tryz.prog ops Q (o :: rest) a w:=
 Qan hw _ x ho g 0 _ (fun j v hv=>by rw[QGT];exact hb.cellD _ hv) hx _ Tryz.underlying25 rfl (by rw[Qa9];exact QdN) h
end
theorem Qbx {w:World} {g:Nat} {t:TypeId} {p:Prt} {v:Value} (h:Blk w g t (PaC p v)):w.cell? ⟨g,0,none⟩=some (W8 p.kd)∧w.cell? ⟨g,1,none⟩=some (W64 p.id)∧w.cell? ⟨g,2,none⟩=some (.int .i64 p.ix)∧w.cell? ⟨g,3,none⟩=some (.int .i64 p.ct)∧w.cell? ⟨g,4,none⟩=some v:=
 ⟨h.cellD 0 rfl,h.cellD 1 rfl,h.cellD 2 rfl,h.cellD 3 rfl,h.cellD 4 rfl⟩
theorem QwY (k:UInt8):k=1∨k=2∨k=3∨(k<1∨3<k):=by
 have e1:(1:UInt8).toNat=1:=rfl
 have e2:(2:UInt8).toNat=2:=rfl
 have e3:(3:UInt8).toNat=3:=rfl
 rw[QIp,QIp,←QHl,←QHl,←QHl]
 omega
theorem QDY (id:UInt64) (ix ct:Int) (da:List UInt8):prtE ⟨1,id,ix,ct,da⟩=if 450<da.length then 2 else if ct<1∨16<ct∨ix<0∨ct≤ix then 3 else 0:=by
 rw[prtE,if_neg (show ¬((1:UInt8)<1∨3<(1:UInt8)) by decide)]
 simp
theorem QDW (id:UInt64) (ix ct:Int) (da:List UInt8):prtE ⟨2,id,ix,ct,da⟩=if 450<da.length then 2 else if ct<1∨16<ct∨ix<0∨ct≤ix then 3 else if ct≠1 then 3 else if id≠0∨da.length≠0 then 3 else 0:=by
 rw[prtE,if_neg (show ¬((2:UInt8)<1∨3<(2:UInt8)) by decide)]
 simp
theorem QDu (id:UInt64) (ix ct:Int) (da:List UInt8):prtE ⟨3,id,ix,ct,da⟩=if 450<da.length then 2 else if ct<1∨16<ct∨ix<0∨ct≤ix then 3 else if ct≠1 then 3 else 0:=by
 rw[prtE,if_neg (show ¬((3:UInt8)<1∨3<(3:UInt8)) by decide)]
 simp
theorem QwR {p:Prt} (h:p.kd<1∨3<p.kd):prtE p=1:=by rw[prtE,if_pos h]
set_option maxRecDepth 100000 in
set_option maxHeartbeats 4000000 in
theorem Qhy (p:Prt) (A:Option Addr) (n c:Nat) (hn:p.da.length=n) (w:World):Calls Tryz.prog 89 #[.agg (PaC p (.slice A n c)).toArray] w fun e w'=>e= .returned (.int .i64 (prtE p:Nat))∧Later w w':=by
 obtain⟨kd,id,ix,ct,da⟩:=p
 simp only at hn
 have hb:Blk (w.alloc (.cells (PaC ⟨kd,id,ix,ct,da⟩ (.slice A n c)).toArray 25)) w.heap.size 25 (PaC ⟨kd,id,ix,ct,da⟩ (.slice A n c)):=Blk.new _ _ _
 obtain⟨c0,c1,c2,c3,c4⟩:=Qbx hb
 have L:=Qaa w (.cells (PaC ⟨kd,id,ix,ct,da⟩ (.slice A n c)).toArray 25)
 clear hb
 obtain⟨E,hE⟩:∃E,prtE ⟨kd,id,ix,ct,da⟩=E:=⟨_,rfl⟩
 rw[hE]
 rcases QwY kd with rfl|rfl|rfl|hbad
 case inr.inr.inr=>
  have HE:=hid (hE.symm.trans (QwR (p:=⟨kd,id,ix,ct,da⟩) hbad))
  clear hE
  rcases hbad with h|h
  ·go_enter Tryz.func89,Tryz.ntmps89
   go_wp2_with fail
   go_ret
   exact⟨by rw[HE.out];rfl,L⟩
  ·by_cases h1:kd<1
   all_goals
    go_enter Tryz.func89,Tryz.ntmps89
    go_wp2_with fail
    go_ret
    exact⟨by rw[HE.out];rfl,L⟩
 all_goals
  have HE:=hE.symm.trans (by first|exact QDY id ix ct da|exact QDW id ix ct da|exact QDu id ix ct da)
  rw[hn]at HE
  replace HE:=hid HE
  clear hE
  by_cases h2:450<n
  ·have hd:decide ((450:Int)<(n:Int))=true:=decide_eq_true (by omega)
   replace HE:=hid (HE.out.trans (if_pos h2))
   go_enter Tryz.func89,Tryz.ntmps89
   go_wp2_with fail
   go_ret
   exact⟨by rw[HE.out];rfl,L⟩
  have hd:decide ((450:Int)<(n:Int))=false:=decide_eq_false (by omega)
  replace HE:=hid (HE.out.trans (if_neg h2))
  by_cases h3:ct<1∨16<ct∨ix<0∨ct≤ix
  ·replace HE:=hid (HE.out.trans (if_pos h3))
   by_cases k1:ct<1
   ·go_enter Tryz.func89,Tryz.ntmps89
    go_wp2_with fail
    go_ret
    exact⟨by rw[HE.out];rfl,L⟩
   by_cases k2:16<ct
   ·go_enter Tryz.func89,Tryz.ntmps89
    go_wp2_with fail
    go_ret
    exact⟨by rw[HE.out];rfl,L⟩
   by_cases k3:ix<0
   ·go_enter Tryz.func89,Tryz.ntmps89
    go_wp2_with fail
    go_ret
    exact⟨by rw[HE.out];rfl,L⟩
   have k4:ct≤ix:=by omega
   go_enter Tryz.func89,Tryz.ntmps89
   go_wp2_with fail
   go_ret
   exact⟨by rw[HE.out];rfl,L⟩
  replace HE:=hid (HE.out.trans (if_neg h3))
  have k1: ¬ct<1:=by omega
  have k2: ¬ 16<ct:=by omega
  have k3: ¬ix<0:=by omega
  have k4: ¬ct≤ix:=by omega
  clear h3
 ·go_enter Tryz.func89,Tryz.ntmps89
  go_wp2_with fail
  go_ret
  exact⟨by rw[HE.out];rfl,L⟩
 all_goals
  by_cases h4:ct=1
  case neg=>
   have hd4:(ct != 1)=true:=by simpa using h4
   replace HE:=hid (HE.out.trans (if_pos h4))
   go_enter Tryz.func89,Tryz.ntmps89
   go_wp2_with fail
   go_ret
   exact⟨by rw[HE.out];rfl,L⟩
  subst h4
  replace HE:=hid (HE.out.trans (if_neg (by simp)))
 ·cases e1:(id==0)
  ·have n1:(id != 0)=true:=by rw[bne,e1];rfl
   have hne:id≠0:=by simpa using e1
   replace HE:=hid (HE.out.trans (if_pos (.inl hne)))
   go_enter Tryz.func89,Tryz.ntmps89
   go_wp2_with fail
   go_ret
   exact⟨by rw[HE.out];rfl,L⟩
  ·have n1:(id != 0)=false:=by rw[bne,e1];rfl
   have heq:id=0:=by simpa using e1
   by_cases h5:n=0
   ·replace HE:=hid (HE.out.trans (if_neg (by simp[heq,h5])))
    have n2:((n:Int) != 0)=false:=by simp[h5]
    clear h5 heq
    go_enter Tryz.func89,Tryz.ntmps89
    go_wp2_with fail
    go_ret
    exact⟨by rw[HE.out];rfl,L⟩
   ·replace HE:=hid (HE.out.trans (if_pos (.inr h5)))
    have n2:((n:Int) != 0)=true:=by simp;omega
    clear h5 heq
    go_enter Tryz.func89,Tryz.ntmps89
    go_wp2_with fail
    go_ret
    exact⟨by rw[HE.out];rfl,L⟩
 ·go_enter Tryz.func89,Tryz.ntmps89
  go_wp2_with fail
  go_ret
  exact⟨by rw[HE.out];rfl,L⟩
def allZ (bs:List UInt8):Bool:=bs.all (· ==0)
theorem QlI:∀(bs:List UInt8),allZ bs=true↔bs=QGn bs.length 0
 | []=>by simp[allZ]
 | b :: bs=>by
   have ih:=QlI bs
   rw[allZ]at ih
   rw[allZ,QHT,QGM,ih,QHe,QH2,List.cons.injEq,beq_iff_eq]
theorem QBF {bs:List UInt8} {k:Nat} (hk:k<bs.length) (h:bs.getD k 0≠0):allZ bs=false:=by
 rw[allZ,List.all_eq_false]
 refine⟨bs[k],QHi hk,?_⟩
 rw[QGq,QGt hk]at h
 simpa using h
theorem Qya {bs:List UInt8} (h:∀k,k<bs.length→bs.getD k 0=0):allZ bs=true:=by
 rw[allZ,QHa]
 intro x hx
 obtain⟨k,hk,rfl⟩:=QHQ hx
 have:=h k hk
 rw[QGq,QGt hk]at this
 simpa using this
set_option maxRecDepth 100000 in
theorem QqY (A:Option Addr) (n c:Nat) (bs:List UInt8) (w:World) (hb:RdB w A n bs) (hn:n≤140737488355328):
 Calls Tryz.prog 111 #[.slice A n c] w fun e w'=>e= .returned (.bool (allZ bs))∧Later w w':=by
 have hl:=hb.len
 go_enter Tryz.func111,Tryz.ntmps111
 go_wp2
 go_loopw [7] (fun i wr=>∃k:Nat,i= .int .i64 k∧k≤n∧Hid (∀ j,j<k→bs.getD j 0=0)∧Later w wr) (fun i _=>n-(intOf i).toNat)
 case atStart=>exact⟨0,rfl,by omega,hid (fun j hj=>absurd hj (by omega)),Later.refl w⟩
 case round=>
  obtain⟨k,rfl,hk,hp,L⟩:=hrel
  by_cases hlt:k<n
  ·obtain⟨b,o,rfl,hb2,hc2⟩:=RdB.at_ (hb.later L) (by omega)
   have c1:=hc2 k hlt
   have hno:=hid (fun h=>QBF (bs:=bs) (k:=k) (by omega) h)
   have hgo:=hid (fun h:bs.getD k 0=0=>Qbn (p:=fun j=>bs.getD j 0=0) hp.out h)
   clear hc2
   generalize bs.getD k 0=x at *
   cases hx:(x==0)
   ·have n1:(x != 0)=true:=by rw[bne,hx];rfl
    have hE:=hid (hno.out (by simpa using hx))
    go_wp2
    go_ret
    exact⟨by rw[hE.out];rfl,L⟩
   ·have n1:(x != 0)=false:=by rw[bne,hx];rfl
    have hG:=hid (hgo.out (by simpa using hx))
    go_wp2
    exact⟨⟨k+1,by go_num,by omega,hG,L⟩,by simp[intOf];omega⟩
  ·obtain rfl:k=n:=by omega
   have hE:=hid (Qya (bs:=bs) (by rw[hl];exact hp.out))
   go_wp2
   go_ret
   exact⟨by rw[hE.out];rfl,L⟩
set_option maxRecDepth 100000 in
theorem Qe2 (A:Option Addr) (n c:Nat) (bs:List UInt8) (w:World) (hb:RdB w A n bs) (hn:n≤1048576):
 Calls Tryz.prog 82 #[.slice A n c] w fun e w'=>e= .returned (.slice (some ⟨w.heap.size,0,none⟩) n n)∧Blk w' w.heap.size 5 (bs.map W8)∧Later w w':=by
 have hl:=hb.len
 go_enter Tryz.func82,Tryz.ntmps82
 go_wp2_with (first
  | (refine QaA rfl _ _ _ rfl 5 _ 1 Tryz.underlying22 Qc4 rfl _ _ _ _ n rfl rfl rfl rfl (by omega) (by omega) ?_;intro w1 hb1 hl1)
  | (refine Qax rfl _ _ _ _ rfl 5 Tryz.underlying22 Qb2 w.heap.size 0 n n _ _ hb1 A n c (bs.map W8) (RdB.later hb hl1) (QaX _) rfl rfl (by simp) ?_;intro w4 hb4 ho4
     rw[QGD (by rw[QGr,hl];omega),Qav _ _ (by rw[QGr,QGA,hl])]at hb4)
  | fail)
 go_ret
 exact⟨rfl,hb4,hl1.only ho4 (QGx _)⟩
end Go.Proofs.YtdhgpkdjdmlphaaGreat
namespace Go.Proofs.YtdhgpkdjdmlphaaGreat
open Go.RowKit
def Qa0 (msg:List UInt8) (i:Nat):List UInt8:=(msg.drop (i*450)).take 450
def QbN (n:Nat):Nat:=if n=0 then 1 else (n+449)/450
def Qb7 (id:UInt64) (msg:List UInt8) (i:Nat):Prt:=⟨1,id,i,QbN msg.length,Qa0 msg i⟩
def QdG (id:UInt64) (msg:List UInt8):List Prt:=(QG0 (QbN msg.length)).map (Qb7 id msg)
theorem Qje (msg:List UInt8):∀n,(QG0 n).flatMap (Qa0 msg)=msg.take (n*450)
 | 0=>by simp
 | n+1=>by
   rw[QH5,QH3,Qje msg n,show (n+1)*450=n*450+450 by omega,List.take_add]
   simp[Qa0]
theorem Qgh {n:Nat} (h:n≤7200):1≤QbN n∧QbN n≤16∧n≤QbN n*450:=by
 unfold QbN
 split<;>omega
theorem Qp0:∀(n:Nat) (l:List Int),(∀ i:Nat,i<n→(i:Int)∈l)→n≤l.length
 | 0,_,_=>Nat.zero_le _
 | n+1,l,h=>by
   have hn:=h n (by omega)
   have:=Qp0 n (l.erase (n:Int)) (fun i hi=>(List.mem_erase_of_ne (by omega)).2 (h i (by omega)))
   rw[List.length_erase_of_mem hn]at this
   have:=List.length_pos_of_mem hn
   omega
theorem Qu2 {n:Nat} {l:List Int} (hn:l.Nodup) (hb:∀i∈l,0≤i∧i<n) (hl:l.length=n) (i:Nat) (hi:i<n):(i:Int)∈l:=by
 by_cases hm:(i:Int)∈l
 ·exact hm
 ·have:=Qgv n ((i:Int) :: l) (QIj.2 ⟨hm,hn⟩) (fun j hj=>by
   rcases QGJ.1 hj with rfl|hj
   ·omega
   ·exact hb j hj)
  rw[QHe]at this
  omega
section
variable {id:UInt64} {msg:List UInt8} (hm:msg.length≤7200)
include hm
theorem Qge {p:Prt} (h:p∈QdG id msg):∃i:Nat,i<QbN msg.length∧p=Qb7 id msg i∧prtE p=0:=by
 obtain⟨i,hi,rfl⟩:=QG2.1 h
 have hi':=QHg.1 hi
 obtain⟨h1,h2,_⟩:=Qgh hm
 refine⟨i,hi',rfl,?_⟩
 have hl:(Qa0 msg i).length≤450:=by
  unfold Qa0
  rw[QGP]
  omega
 unfold prtE Qb7
 rw[if_neg (show ¬((1:UInt8)<1∨3<(1:UInt8)) by decide),if_neg (show ¬ 450<(Qa0 msg i).length by omega)]
 rw[if_neg (by show ¬((QbN msg.length:Int)<1∨16<(QbN msg.length:Int)∨(i:Int)<0∨(QbN msg.length:Int)≤(i:Int));omega)]
 simp
theorem Qo4 {ks:List Prt} (hk:KeptOk ks) (hs:∀q∈ks,q∈QdG id msg) (hl:ks.length=QbN msg.length):Qmr ks=msg:=by
 have hb:∀i∈ks.map (·.ix),0≤i∧i<((QbN msg.length:Nat):Int):=by
  intro i hi
  obtain⟨q,hq,rfl⟩:=QG2.1 hi
  obtain⟨j,hj,rfl,_⟩:=Qge hm (hs q hq)
  show 0≤(j:Int)∧(j:Int)<_
  omega
 rw[Qqo hk,hl]
 have e:∀i∈QG0 (QbN msg.length),daAt ks i=Qa0 msg i:=by
  intro i hi
  have hi':=QHg.1 hi
  have hin:=Qu2 hk.nd hb (by rw[QGr];exact hl) i hi'
  obtain⟨q,hq,hqi⟩:=QG2.1 hin
  unfold daAt
  cases hf:ks.find? (fun q=>q.ix==(i:Int)) with
  | none=>
    have:=List.find?_eq_none.1 hf q hq
    exact absurd hqi (by simpa using this)
  | some r=>
    have hr:=List.mem_of_find?_eq_some hf
    have hri:=List.find?_some hf
    obtain⟨j,hj,rfl,_⟩:=Qge hm (hs r hr)
    have:(j:Int)=(i:Int):=by simpa [Qb7] using hri
    obtain rfl:j=i:=by omega
    rfl
 have e2:(QG0 (QbN msg.length)).flatMap (daAt ks)=(QG0 (QbN msg.length)).flatMap (Qa0 msg):=by
  rw[List.flatMap_def,List.flatMap_def,QIB e]
 rw[e2,Qje,QGD (Qgh hm).2.2]
theorem Qo0 {to:UInt64} {tk:Nat→Int} {ps:List Prt} (h1:∀p∈ps,p∈QdG id msg) (h2:∀p∈QdG id msg,p∈ps) {qas:List Arr} {z:Y16} (ha:∀(i:Nat) p,ps[i]?=some p→qas[i]?=some ⟨p,2,to,tk i,z⟩):
 ∃t:Nat,t<ps.length∧ltrs qas ps.length=[⟨to,id,tk t,msg⟩]:=by
 have hc:=Qgh hm
 have H:∀k,k≤ps.length→(∀ q∈QbD (qas.take k) (to,id),q∈QdG id msg)∧(∀ j,j<k→∀p,ps[j]?=some p→p.ix∈(QbD (qas.take k) (to,id)).map (·.ix))∧
  (((QbD (qas.take k) (to,id)).length<QbN msg.length∧ltrs qas k=[])∨((QbD (qas.take k) (to,id)).length=QbN msg.length∧∃t:Nat,t<k∧ltrs qas k=[⟨to,id,tk t,msg⟩])):=by
  intro k
  induction k with
  | zero=>exact fun _=>⟨by simp[QbD,tksK],by omega,.inl ⟨by simp[QbD,tksK];omega,rfl⟩⟩
  | succ k ih=>
    intro hk
    obtain⟨i1,i2,i3⟩:=ih (by omega)
    have hp:ps[k]?=some (ps[k]'(by omega)):=QGt _
    have hmem:ps[k]'(by omega)∈QdG id msg:=h1 _ (QHi _)
    generalize ps[k]'(by omega)=p at hp hmem
    have hak:=ha k p hp
    obtain⟨i,hi,hpi,hp0⟩:=Qge hm hmem
    have hpid:p.id=id:=by rw[hpi];rfl
    have hpkd:p.kd=1:=by rw[hpi];rfl
    have hpix:p.ix=(i:Int):=by rw[hpi];rfl
    have hpct:p.ct=(QbN msg.length:Nat):=by rw[hpi];rfl
    have hmine:mine (to,id) ⟨p,2,to,tk k,z⟩=true:=by simp[mine,hpid,hpkd]
    have htake:qas.take (k+1)=qas.take k++[⟨p,2,to,tk k,z⟩]:=by
     rw[QIr,hak]
     rfl
    have hks:=QiQ (qas.take k) (to,id) ⟨p,2,to,tk k,z⟩
    rw[←htake,if_pos hmine]at hks
    have hl:=Qm7 qas k _ hak
    have hok:=Qjt (qas.take k) (to,id)
    have hok':=Qjt (qas.take (k+1)) (to,id)
    have hct:∀q∈QbD (qas.take k) (to,id),q.ct=(QbN msg.length:Nat):=fun q hq=>by
     obtain⟨j,_,rfl,_⟩:=Qge hm (i1 q hq)
     rfl
    by_cases hin:(i:Int)∈(QbD (qas.take k) (to,id)).map (·.ix)
    ·have hE:tkE pid id (QbD (qas.take k) (to,id)) p≠0:=by
      intro h0
      obtain⟨q,hq,hqi⟩:=QG2.1 hin
      exact ((Qiz h0).2.2.2 q hq).2 (hqi.trans hpix.symm)
     have hkk:QbD (qas.take (k+1)) (to,id)=QbD (qas.take k) (to,id):=by
      rw[hks,tkK,if_neg hE]
     have hno:QjX (qas.take k) ⟨p,2,to,tk k,z⟩=[]:=by
      unfold QjX
      rw[if_neg]
      rintro⟨_,_,h3,_⟩
      rw[hpid]at h3
      exact hE h3
     rw[hkk,hl,hno,QGW]
     refine⟨i1,fun j hj q hq=>?_,?_⟩
     ·rcases QHb j k with hjk|hjk
      ·exact i2 j hjk q hq
      ·obtain rfl:j=k:=by omega
       obtain rfl:q=p:=Option.some.inj (hq.symm.trans hp)
       rw[hpix]
       exact hin
     ·rcases i3 with h|⟨h,t,ht,e⟩
      ·exact .inl h
      ·exact .inr ⟨h,t,by omega,e⟩
    ·have hE:tkE pid id (QbD (qas.take k) (to,id)) p=0:=by
      unfold tkE
      rw[if_neg (by rintro (h|h)<;>first|exact h hpkd|exact h hp0),if_neg (by rw[hpid];exact fun h=>h rfl),if_neg]
      intro hany
      obtain⟨q,hq,hb⟩:=QHV.1 hany
      simp only[QH4,bne_iff_ne,beq_iff_eq]at hb
      rcases hb with hb|hb
      ·exact hb ((hct q hq).trans hpct.symm)
      ·exact hin (QG2.2 ⟨q,hq,hb.trans hpix⟩)
     have hkk:QbD (qas.take (k+1)) (to,id)=QbD (qas.take k) (to,id)++[p]:=by
      rw[hks,tkK,if_pos hE]
     have hsub:∀q∈QbD (qas.take (k+1)) (to,id),q∈QdG id msg:=by
      rw[hkk]
      intro q hq
      rcases QHd.1 hq with hq|hq
      ·exact i1 q hq
      ·obtain rfl:q=p:=by simpa using hq
       exact hmem
     have hle:=hok'.le (c:=(QbN msg.length:Nat)) (fun q hq=>by
      obtain⟨j,_,rfl,_⟩:=Qge hm (hsub q hq)
      rfl) (by omega)
     have hlen:(QbD (qas.take (k+1)) (to,id)).length=(QbD (qas.take k) (to,id)).length+1:=by rw[hkk];simp
     have hlt:(QbD (qas.take k) (to,id)).length<QbN msg.length:=by omega
     have i3':ltrs qas k=[]:=by
      rcases i3 with h|⟨h,_⟩
      ·exact h.2
      ·omega
     refine⟨hsub,fun j hj q hq=>?_,?_⟩
     ·rw[hkk,QG6,QHd]
      rcases QHb j k with hjk|hjk
      ·exact .inl (i2 j hjk q hq)
      ·obtain rfl:j=k:=by omega
       obtain rfl:q=p:=Option.some.inj (hq.symm.trans hp)
       exact .inr (by simp)
     ·rw[hl,i3',QGv]
      by_cases hfull:(QbD (qas.take k) (to,id)).length+1=QbN msg.length
      ·refine .inr ⟨by omega,k,by omega,?_⟩
       unfold QjX
       rw[if_pos ⟨rfl,hpkd,by rw[hpid];exact hE,by rw[hpid,hpct];exact_mod_cast hfull⟩,hpid,←hkk,Qo4 hm hok' hsub (by omega)]
      ·refine .inl ⟨by omega,?_⟩
       unfold QjX
       rw[if_neg]
       rintro⟨_,_,_,h4⟩
       rw[hpid,hpct]at h4
       exact hfull (by exact_mod_cast h4)
 obtain⟨_,j2,j3⟩:=H ps.length (QGx _)
 rcases j3 with ⟨h,_⟩|⟨_,h⟩
 ·have:=Qp0 (QbN msg.length) ((QbD (qas.take ps.length) (to,id)).map (·.ix)) (fun i hi=>by
   have hin:=h2 (Qb7 id msg i) (QG2.2 ⟨i,QHg.2 hi,rfl⟩)
   obtain⟨j,hj⟩:=List.getElem?_of_mem hin
   exact j2 j (QGL.1 hj).1 _ hj)
  rw[QGr]at this
  omega
 ·exact h
end
end Go.Proofs.YtdhgpkdjdmlphaaGreat
