/-
  Lemmas for the last text of this claim (part 20 of 20).
-/
import Derived.ArgAppend
import Derived.BigQuiet
import Derived.BigRegion
import Derived.ChangeOld
import Derived.Deep.RegionWith
import Derived.DeepKeys4
import Derived.JoinedCond
import Derived.LaidMore
import Derived.Laws.BytesArg
import Derived.Laws.CopyOwn
import Derived.Laws.Externs
import Derived.Laws.IdiomStrings
import Derived.Laws.Tables
import Derived.Lib.AppendStr
import Derived.Lib.AppendZerosOnto
import Derived.Lib.Mul64
import Derived.Lib.SlBytesConst
import Derived.LoopN
import Derived.Maps.OwnSet
import Derived.OpenShut
import Derived.OrdersHeld
import Derived.ProofKit
import Derived.Shelf.Spec.BitsCarry
import Derived.ShutString
import Derived.Test.YtdhgpkdjdmlphaaGreatProg
import Derived.Test.YtdhgpkdjdmlphaaGreatRows
import Derived.WalkKit
import Derived.WalkLawsBesides
import Derived.WalkSpells
import Derived.Test.YtdhgpkdjdmlphaaGreatUB
import Derived.Test.YtdhgpkdjdmlphaaGreatUJ
import Derived.Test.YtdhgpkdjdmlphaaGreatUN
import Derived.Test.YtdhgpkdjdmlphaaGreatUO
import Derived.Test.YtdhgpkdjdmlphaaGreatUQ
import Derived.Test.YtdhgpkdjdmlphaaGreatUR
import Derived.Test.YtdhgpkdjdmlphaaGreatUS
open Bool renaming and_eq_true → QGM, not_eq_true' → QHs, not_eq_false' → QIv
open Int renaming tmod_eq_emod_of_nonneg → QIc
open List renaming replicate → QGn, getElem?_cons_succ → QGo, getElem?_cons_zero → QGp, getD_eq_getElem?_getD → QGq, length_map → QGr, getElem?_eq_getElem → QGt, cons_append → QGu, nil_append → QGv, setIfInBounds_toArray → QGw, length_append → QGy, set_cons_zero → QGz, length_replicate → QGA, set_cons_succ → QGB, map_toArray → QGC, take_of_length_le → QGD, getElem?_append_right → QGE, getElem?_map → QGF, getElem?_append_left → QGG, map_nil → QGH, length_take → QGP, map_cons → QGR, length_set → QGV, append_nil → QGW, mem_map → QG2, eq_nil_of_length_eq_zero → QG7, map_replicate → QG8, mem_append → QHd, mem_range → QHg, flatMap_cons → QHB, getElem?_range → QHD, mem_singleton → QHO, any_eq_true → QHV, flatMap_append → QH3, take_add_one → QIr, map_congr_left → QIB, length_singleton → QIE
open Nat renaming le_refl → QGx, lt_of_lt_of_le → QGN, zero_add → QGT, mod_lt → QGU, le_trans → QG9, lt_or_ge → QHb, le_mul_of_pos_right → QHE, sub_self → QHG, eq_zero_or_pos → QH8
open Option renaming toList_some → QGs, bind_some → QHN
open UInt8 renaming ofInt → QG4
set_option linter.all false
namespace Go.Proofs.YtdhgpkdjdmlphaaGreat
open Go.RowKit
open Go.BigFrame
set_option maxRecDepth 100000 in
theorem Qsb (s:ByteArray) (w:World) (hs:s.size≤9223372036854775807):
 Calls Tryz.prog 118 #[.string s] w fun e w'=>e= .returned (.bool (QdU s))∧Later w w':=by
 go_enter Tryz.func118,Tryz.ntmps118
 by_cases hb:s.size<1∨16<s.size
 ·have hbb:(decide ((s.size:Int)<1)||decide (16<(s.size:Int)))=true:=by simp;omega
  rw[QhC hb]
  go_wp2
  all_goals
   go_ret
   exact⟨rfl,Later.refl w⟩
 ·go_wp2
  go_loopw [3,4,5] (fun i _ _ wr=>∃k:Nat,i= .int .i64 k∧k≤s.size∧(∀ j,j<k→okAt s j=true)∧Later w wr) (fun i _ _ _=>s.size-(intOf i).toNat)
  case atStart=>exact⟨0,rfl,by omega,fun j hj=>absurd hj (by omega),Later.refl w⟩
  case round=>
   obtain⟨k,rfl,hk,hp,hl⟩:=hrel
   by_cases hlt:k<s.size
   ·rcases QH8 k with rfl|hk0
    ·go_wp2
     all_goals
      try simp only[QHs,QIv,decide_eq_true_eq,decide_eq_false_iff_not]at *
      first
       | exact⟨⟨0+1,rfl,by omega,QfH hlt hp (by omega),hl⟩,by simp[intOf];omega⟩
       | (go_ret;refine⟨?_,hl⟩;rw[QeR hlt (by omega)];rfl)
    ·have hkb:((k:Int)==0)=false:=by simp;omega
     go_wp2
     all_goals
      try simp only[QHs,QIv,decide_eq_true_eq,decide_eq_false_iff_not,hkb,Bool.false_eq_true,false_or]at *
      first
       | exact⟨⟨k+1,rfl,by omega,QfH hlt hp (by omega),hl⟩,by simp[intOf];omega⟩
       | (go_ret;refine⟨?_,hl⟩;rw[QeR hlt (by omega)];rfl)
   ·obtain rfl:k=s.size:=by omega
    go_wp2
    go_ret
    refine⟨?_,hl⟩
    rw[QhD hb hp]
    rfl
set_option maxRecDepth 100000 in
theorem QoO (A:Option Addr) (n c:Nat) (xs:List Nod) (w:World) (hx:RdN w A n xs) (hs:∀x∈xs,x.nm.size≤9223372036854775807):
 Calls Tryz.prog 80 #[.slice A n c] w fun e w'=>e= .returned (.int .i64 (QaG xs:Nat))∧Later w w':=by
 have hl0:=hx.1
 go_enter Tryz.func80,Tryz.ntmps80
 by_cases h64:64<n
 ·go_wp2
  go_ret
  exact⟨by rw[QeW (by omega)];rfl,Later.refl w⟩
 ·go_wp2
  go_loopw [3] (fun i wr=>∃k:Nat,i= .int .i64 k∧k≤n∧(∀ j,j<k→badN (xs.getD j nod0)=false)∧Later w wr) (fun i _=>n-(intOf i).toNat)
  case atStart=>exact⟨0,rfl,by omega,fun j hj=>absurd hj (by omega),Later.refl w⟩
  case round=>
   obtain⟨k,rfl,hk,hp,hl⟩:=hrel
   by_cases hlt:k<n
   ·obtain⟨b,o,rfl,hb,hc0,hc1⟩:=Qhi (hx.later hl) hlt
    have hwf:=hid (Qsb (xs.getD k nod0).nm wr (hs _ (QiJ (by omega))))
    have hbad:=hid (fun (h:badN (xs.getD k nod0)=true)=>QhX (xs:=xs) (by omega) (by omega) h)
    have hgood:=hid (fun (h:badN (xs.getD k nod0)=false)=>Qbn (p:=fun j=>badN (xs.getD j nod0)=false) hp h)
    generalize xs.getD k nod0=x at *
    clear hp
    go_wp2_with fail
    refine (hwf.out).mono ?_
    rintro e w1 ⟨rfl,hl1⟩
    replace hc1:=(hl1.below.cell (p:=⟨b,o+k*66+1,none⟩) hb).trans hc1
    cases hok:QdU x.nm
    ·go_wp2
     go_ret
     exact⟨by rw[hbad.out (by rw[badN,hok,Bool.not_false,Bool.or_true])];rfl,hl.trans hl1⟩
    ·by_cases hid0:x.id=0
     ·go_wp2
      go_ret
      exact⟨by rw[hbad.out (by rw[badN,hid0];rfl)];rfl,hl.trans hl1⟩
     ·have hid1:(x.id==0)=false:=by simpa using hid0
      go_wp2
      exact⟨⟨k+1,by go_num,by omega,hgood.out (by rw[badN,hid1,hok];rfl),hl.trans hl1⟩,by simp[intOf];omega⟩
   ·obtain rfl:k=n:=by omega
    replace hp:=hid (show ∀j,j<xs.length→badN (xs.getD j nod0)=false by rw[hl0];exact hp)
    go_wp2
    go_loopw [4,5] (fun i _ wr=>∃m:Nat,i= .int .i64 m∧m≤k∧Hid (∀ j,j<m→Qjf xs j=false)∧Later w wr) (fun i _ _=>k-(intOf i).toNat)
    case atStart=>exact⟨0,rfl,by omega,hid (fun j hj=>absurd hj (by omega)),hl⟩
    case round=>
     clear hl
     obtain⟨i,rfl,hi,hq,hl⟩:=hrel
     by_cases hik:i<k
     ·go_wp2
      go_loopw [5] (fun j wr=>∃m:Nat,j= .int .i64 m∧m≤i∧Hid (∀ j,j<m→Qdo (xs.getD i nod0) (xs.getD j nod0)=false)∧Later w wr) (fun j _=>i-(intOf j).toNat)
      case atStart=>exact⟨0,rfl,by omega,hid (fun j hj=>absurd hj (by omega)),hl⟩
      case round=>
       clear hl
       obtain⟨m,rfl,hm,hr,hl⟩:=hrel
       by_cases hmi:m<i
       ·obtain⟨b,o,rfl,hb,hi0,hi1⟩:=Qhi (hx.later hl) hik
        obtain⟨b',o',he,hb',hm0,hm1⟩:=Qhi (hx.later hl) (show m<k by omega)
        simp only[Option.some.injEq,Addr.mk.injEq,and_true]at he
        obtain⟨rfl,rfl⟩:=he
        have hdup:=hid (fun (h:Qdo (xs.getD i nod0) (xs.getD m nod0)=true)=>QhS (xs:=xs) (by omega) hp.out (by omega) hmi h)
        have hgood:=hid (fun (h:Qdo (xs.getD i nod0) (xs.getD m nod0)=false)=>Qbn (p:=fun j=>Qdo (xs.getD i nod0) (xs.getD j nod0)=false) hr.out h)
        generalize xs.getD i nod0=x at *
        generalize xs.getD m nod0=y at *
        cases hnm:(x.nm.toList==y.nm.toList)
        ·go_wp2_with fail
         refine Qaf [] [0,1,2,3,4,5,6,7,8,9,10,11,12,13,14,15,16,17,18,19,20,21,22,23] [] (by as_aux_lemma=>kernel_rfl) (by as_aux_lemma=>kernel_rfl) (by intro _ _ d _ _ h;cases d<;>exact h) ?_
         simp only[Qaj,pick,QGo,QGp,QGs,QGu,QGv]
         repeat (go_big_quiet_step (fail))
         refine wpQuiet_nil ?_
         cases hie:(x.id==y.id)
         ·go_wp2
          exact⟨⟨m+1,rfl,by omega,hid (hgood.out (by rw[Qdo,hnm,hie];rfl)),hl.trans (Qab _)⟩,by simp[intOf];omega⟩
         ·go_wp2
          go_ret
          exact⟨by rw[hdup.out (by rw[Qdo,hnm,hie];rfl)];rfl,hl.trans (Qab _)⟩
        ·go_wp2_with fail
         refine Qaf [] [0,1,2,3,4,5,6,7,8,9,10,11,12,13,14,15,16,17,18,19,20,21,22,23] [] (by as_aux_lemma=>kernel_rfl) (by as_aux_lemma=>kernel_rfl) (by intro _ _ d _ _ h;cases d<;>exact h) ?_
         simp only[Qaj,pick,QGo,QGp,QGs,QGu,QGv]
         repeat (go_big_quiet_step (fail))
         refine wpQuiet_nil ?_
         go_wp2
         go_ret
         exact⟨by rw[hdup.out (by rw[Qdo,hnm];rfl)];rfl,hl.trans (Qab _)⟩
       ·obtain rfl:m=i:=by omega
        have hnext:Hid (∀ j,j<m+1→Qjf xs j=false):=hid (Qbn (p:=fun j=>Qjf xs j=false) hq.out (Qfe hr.out))
        go_wp2
        exact⟨⟨m+1,rfl,by omega,hnext,hl⟩,by simp[intOf];omega⟩
     ·obtain rfl:i=k:=by omega
      go_wp2
      go_ret
      refine⟨?_,hl⟩
      rw[Qls (by omega) hp.out (by rw[hl0];exact hq.out)]
      rfl
set_option maxRecDepth 100000 in
theorem Qrf (A:Option Addr) (n c:Nat) (xs:List Nod) (w:World) (hx:RdN w A n xs) (hs:∀x∈xs,x.nm.size≤9223372036854775807):
 Calls Tryz.prog 79 #[.slice A n c] w fun e w'=>e= .returned (.tuple #[.bool (Qfh xs),.int .i64 (QaG xs:Nat)])∧Later w w':=by
 have hl0:=hx.1
 have hC:=hid (QoO A n c xs w hx hs)
 go_enter Tryz.func79,Tryz.ntmps79
 go_wp2_with fail
 refine (hC.out).mono ?_
 rintro e w1 ⟨rfl,L⟩
 by_cases h0:QaG xs=0
 ·have h00:=hid h0
  have hn:n≤64:=by
   rcases QHb 64 n with h|h
   ·rw[QeW (by omega)]at h0
    cases h0
   ·exact h
  rw[h0]
  clear h0
  go_wp2
  go_loopw [5] (fun i wr=>∃k:Nat,i= .int .i64 k∧k≤n∧Hid (∀ j,j<k→fitB (xs.getD j nod0)=true)∧Later w wr) (fun i _=>n-(intOf i).toNat)
  case atStart=>exact⟨0,rfl,by omega,hid (fun j hj=>absurd hj (by omega)),L⟩
  case round=>
   clear L
   obtain⟨k,rfl,hk,hp,L⟩:=hrel
   by_cases hlt:k<n
   ·obtain⟨b,o,rfl,hb,hc2,hc34⟩:=QxF (hx.later L) hlt
    have hbad:=hid (fun (h:fitB (xs.getD k nod0)=false)=>Qxn (xs:=xs) (by omega) h)
    have hgood:=hid (fun (h:fitB (xs.getD k nod0)=true)=>Qbn (p:=fun j=>fitB (xs.getD j nod0)=true) hp.out h)
    generalize xs.getD k nod0=x at *
    have hrd:RdB wr (some ⟨b,o+k*66+2,none⟩) 32 x.priv.val:=QjG hb hc2 x.priv.2
    go_wp2_with fail
    (with_reducible refine (Qrk _ 32 32 x.priv.val _ hrd (by omega)).mono ?_);rintro e w3 ⟨rfl,l3⟩
    rw[QzK _ x.priv.2]
    have hfit:fitB x=(QbB x.priv.val (nb 9)==x.pub.val):=rfl
    obtain⟨y,hy⟩:=QBD (QaY x.priv.val (nb 9))
    rw[←hy]at hfit
    rw[←hy]
    clear hy
    go_wp2_with (first
     | (refine QaO rfl rfl _ _ rfl (Blk.new w3 _ (QGn 32 (.int .u8 0))) rfl rfl y.2 rfl ?_;intro w4 hb4 ho4)
     | fail)
    have hb3:b<w3.heap.size:=QGN hb l3.size
    have L4:Later wr w4:=(l3.trans (Qaa _ _)).only ho4 l3.size
    have hc34':=fun j v hv=>(L4.drew.below.cell (p:=⟨b,o+k*66+34+j,none⟩) hb).trans (hc34 j v hv)
    have hb4':b<w4.drew.heap.size:=QGN hb L4.drew.size
    refine Qaf [] [0,1,2,3,4,5,6] [] (by as_aux_lemma=>kernel_rfl) (by as_aux_lemma=>kernel_rfl) (by intro _ _ d _ _ h;cases d<;>exact h) ?_
    simp only[Qaj,pick,QGo,QGp,QGs,QGu,QGv]
    repeat (first|go_big_quiet_skip|(go_big_quiet_want;(first|refine QB9 _ rfl hb4.drew y.2 rfl ?_|refine Qxm _ rfl hc34' hb4' x.pub.2 rfl ?_);simp only[Act.put,QGw,QGB,QGz];go_big_quiet_on)|(go_big_quiet_step (fail)))
    refine wpQuiet_nil ?_
    replace L:=(L.trans L4).drew
    go_wp2
    all_goals
     rename_i he
     first
      | exact⟨⟨k+1,by go_num,by omega,hid (hgood.out (by rw[hfit];simpa using he)),L⟩,by simp[intOf];omega⟩
      | (go_ret2;exact⟨by rw[hbad.out (by rw[hfit];simpa using he),h00.out];rfl,L⟩)
   ·obtain rfl:k=n:=by omega
    have hf:Qfh xs=true:=QBg h00.out (by rw[hl0];exact hp.out)
    go_wp2
    go_ret2
    exact⟨by rw[hf,h00.out];rfl,L⟩
 ·have hf:=hid (QAl h0)
  have hne:((QaG xs:Int) != 0)=true:=by simpa using h0
  clear h0
  go_wp2
  go_ret2
  exact⟨by rw[hf.out];rfl,L⟩
set_option maxRecDepth 100000 in
set_option maxHeartbeats 8000000 in
theorem QoQ (A B:Option Addr) (n c m d:Nat) (xs:List Nod) (ts:List Stp) (w:World) (hx:RdN w A n xs) (hn:n≤1099511627776) (hs:∀x∈xs,x.nm.size≤140737488355328) (ht:RdS w B m ts) (hm:m≤9223372036854775807):
 Calls Tryz.prog 44 #[.slice A n c,.slice B m d] w fun e w'=>∃v,e= .returned (.tuple #[v,.int .i64 (QbR xs ts:Nat)])∧(QbR xs ts≠0→v= .slice none 0 0)∧(QbR xs ts=0→∃A' c',v= .slice A' m c'∧RdH w' A' m (QaD xs ts))∧Later w w':=by
 have hml:=ht.1
 have hnl:=hx.1
 go_enter Tryz.func44,Tryz.ntmps44
 go_wp2
 go_loopw [6] (fun i wr=>∃k:Nat,i= .int .i64 k∧k≤m∧Hid (∀ j,j<k→badS (ts.getD j stp0)=false)∧Later w wr) (fun i _=>m-(intOf i).toNat)
 case atStart=>exact⟨0,rfl,by omega,hid (fun j hj=>absurd hj (by omega)),Later.refl w⟩
 case round=>
  obtain⟨k,rfl,hk,hp,L⟩:=hrel
  by_cases hlt:k<m
  ·obtain⟨b,o,rfl,hb,hc⟩:=(ht.later L).at_ hlt
   have hbad:=hid (fun h:badS (ts.getD k stp0)=true=>QtK (xs:=xs) (by omega) h)
   have hgood:=hid (fun h:badS (ts.getD k stp0)=false=>QzV (p:=fun j=>badS (ts.getD j stp0)=false) hp.out h)
   generalize ts.getD k stp0=t at *
   go_wp2_with (first
    | (refine Qyo rfl _ rfl hc rfl ?_)
    | (refine QuL rfl rfl _ _ rfl (Blk.new wr _ (SC stp0)) rfl rfl (QmT _) ?_;intro w2 hb2 ho2;have d1:=hb2.cellD 1 (u:=.int .i64 t.delay) rfl;have d2:=hb2.cellD 2 (u:=.int .i64 t.flags) rfl;have L2:=(L.trans (Qaa wr _)).only ho2 L.size)
    | fail)
   all_goals
    try simp only[QHs,QIv,decide_eq_true_eq,decide_eq_false_iff_not]at *
    first
     | exact⟨⟨k+1,by go_num,by omega,hid (hgood.out (QAc (by omega))),L2⟩,by simp[intOf];omega⟩
     | (go_ret2;exact⟨.slice none 0 0,by rw[hbad.out ((Ql1 t).2 (by omega))];rfl,fun _=>rfl,fun h=>absurd (h.symm.trans (hbad.out ((Ql1 t).2 (by omega)))) (by decide),L2⟩)
  ·obtain rfl:k=m:=by omega
   have hall:=hid (show ∀j,j<ts.length→badS (ts.getD j stp0)=false by rw[hml];exact hp.out)
   clear hp
   by_cases h5:k<1∨5<k
   ·have hE:=hid (QrN (xs:=xs) hall.out (by omega))
    have hdec:(((k:Int)==0)||decide (5<(k:Int)))=true:=by simp;omega
    go_wp2
    all_goals
     go_ret2
     exact⟨.slice none 0 0,by rw[hE.out];rfl,fun _=>rfl,fun h=>absurd (h.symm.trans hE.out) (by decide),L⟩
   ·have hk0:((k:Int)==0)=false:=by simp;omega
    have hC:=hid (Qko A n c xs wr (hx.later L) hn hs)
    go_wp2_with fail
    refine (hC.out).mono ?_
    rintro e w2 ⟨rfl,l2⟩
    replace L:=L.trans l2
    clear l2
    by_cases hc0:QaG xs=0
    ·have hcc:=hid hc0
     rw[hc0]
     clear hc0
     go_wp2
     go_loopw [9,10] (fun v i wr=>∃(j c9:Nat) (A9:Option Addr),i= .int .i64 j∧j≤k∧v= .slice A9 j c9∧Hid (∀ i,i<j→Qgn xs (ts.getD i stp0)=false)∧wr.ownsRow w.heap.size 76 68 (.slice A9 j c9) j (((QaD xs ts).take j).flatMap HC)∧Later w wr) (fun _ i _=>k-(intOf i).toNat)
     case atStart=>exact⟨0,0,none,rfl,by omega,rfl,hid (fun j hj=>absurd hj (by omega)),World.ownsRow_nil w2 _ _ 68,L⟩
     case round=>
      clear L
      obtain⟨j,c9,A9,rfl,hj,rfl,hmm,hown,L⟩:=hrel
      by_cases hlt:j<k
      ·obtain⟨b,o,rfl,hb,hc⟩:=(ht.later L).at_ hlt
       have hmiss:=hid (fun h:Qgn xs (ts.getD j stp0)=true=>Qsm (xs:=xs) (ts:=ts) hall.out (by omega) hcc.out (by omega) h)
       have hgood:=hid (fun h:Qgn xs (ts.getD j stp0)=false=>QzV (p:=fun j=>Qgn xs (ts.getD j stp0)=false) hmm.out h)
       have hst:=hid (Qpf xs ts j (by omega))
       generalize ts.getD j stp0=t at *
       have c0:wr.cell? ⟨b,o+j*3,none⟩=some (.string t.nm):=hc 0 _ rfl
       go_wp2
       go_loopw [11,12] (fun at_ q wr'=>∃q':Nat,q= .int .i64 q'∧q'≤n∧Hid ((at_= .int .i64 (-1)∧∀i,i<q'→Qdf t.nm (xs.getD i nod0)=false)∨∃i,i<q'∧at_= .int .i64 (i:Nat)∧Qdf t.nm (xs.getD i nod0)=true)∧Later wr wr') (fun _ q _=>n-(intOf q).toNat)
       case atStart=>exact⟨0,rfl,by omega,hid (.inl ⟨rfl,fun j hj=>absurd hj (by omega)⟩),Later.refl _⟩
       case round=>
        obtain⟨q,rfl,hq,hat,L2⟩:=hrel
        by_cases hqn:q<n
        ·obtain⟨b',o',rfl,hb',hc'⟩:=((hx.later L).later L2).at_ hqn
         have c0':=(L2.below.cell (p:=⟨b,o+j*3,none⟩) hb).trans c0
         have c1':wr.cell? ⟨b',o'+q*66,none⟩=some (.string (xs.getD q nod0).nm):=hc' 0 _ rfl
         have hby:=hid (show Qdf t.nm (xs.getD q nod0)=((xs.getD q nod0).nm.toList==t.nm.toList) from rfl)
         generalize hxq:(xs.getD q nod0).nm=nmq at *
         clear hxq
         cases hnm:(nmq.toList==t.nm.toList)
         ·have hnext:Hid _:=hid (show (_=Value.int .i64 (-1)∧∀i,i<q+1→Qdf t.nm (xs.getD i nod0)=false)∨∃i,i<q+1∧_=Value.int .i64 (i:Nat)∧Qdf t.nm (xs.getD i nod0)=true from hat.out.imp (fun h=>⟨h.1,Qbn h.2 (hby.out.trans hnm)⟩) (fun ⟨i,h1,h2⟩=>⟨i,by omega,h2⟩))
          go_wp2_with fail
          refine Qaf [] [0,1,2,3,4,5,6,7,8,9,10] [] (by as_aux_lemma=>kernel_rfl) (by as_aux_lemma=>kernel_rfl) (by intro _ _ d _ _ h;cases d<;>exact h) ?_
          simp only[Qaj,pick,QGo,QGp,QGs,QGu,QGv]
          repeat (go_big_quiet_step (fail))
          refine wpQuiet_nil ?_
          go_wp2
          exact⟨⟨q+1,by go_num,by omega,hnext,L2.drew⟩,by simp[intOf];omega⟩
         ·have hnext:Hid _:=hid (show (Value.int .i64 (q:Nat)=Value.int .i64 (-1)∧∀i,i<q+1→Qdf t.nm (xs.getD i nod0)=false)∨∃i,i<q+1∧Value.int .i64 (q:Nat)=Value.int .i64 (i:Nat)∧Qdf t.nm (xs.getD i nod0)=true from .inr ⟨q,by omega,rfl,hby.out.trans hnm⟩)
          go_wp2_with fail
          refine Qaf [] [0,1,2,3,4,5,6,7,8,9,10] [] (by as_aux_lemma=>kernel_rfl) (by as_aux_lemma=>kernel_rfl) (by intro _ _ d _ _ h;cases d<;>exact h) ?_
          simp only[Qaj,pick,QGo,QGp,QGs,QGu,QGv]
          repeat (go_big_quiet_step (fail))
          refine wpQuiet_nil ?_
          go_wp2
          exact⟨⟨q+1,by go_num,by omega,hnext,L2.drew⟩,by simp[intOf];omega⟩
        ·obtain rfl:q=n:=by omega
         have hatt:=hat.out
         clear hat
         rcases hatt with ⟨rfl,hnone⟩|⟨i,hi,rfl,hby⟩
         ·have hE4:=hid (hmiss.out (by rw[Qgn,Qlp (by rw[hnl];exact hnone)];rfl))
          clear hnone
          go_wp2
          go_ret2
          exact⟨.slice none 0 0,by rw[hE4.out];rfl,fun _=>rfl,fun h=>absurd (h.symm.trans hE4.out) (by decide),L.trans L2⟩
         ·have hfb:=QuB (s:=t.nm) hcc.out (by rw[hnl];exact hi) hby
          have hgood':=hid (hgood.out (by rw[Qgn,hfb];rfl))
          have hHo:=hid (show Qny xs t=⟨xs.getD i nod0,t.delay,t.flags⟩ by rw[Qny,hfb])
          clear hfb hby
          have L3:=(L.trans L2).drew
          obtain⟨b',o',rfl,hb',hc'⟩:=(hx.later L3).at_ hi
          generalize xs.getD i nod0=y at *
          have d1:wr.drew.cell? ⟨b,o+j*3+1,none⟩=some (.int .i64 t.delay):=(L2.drew.below.cell (p:=⟨b,o+j*3+1,none⟩) hb).trans (hc 1 _ rfl)
          have d2:wr.drew.cell? ⟨b,o+j*3+2,none⟩=some (.int .i64 t.flags):=(L2.drew.below.cell (p:=⟨b,o+j*3+2,none⟩) hb).trans (hc 2 _ rfl)
          have hown':=QaB hown L2.drew
          go_wp2_with fail
          refine Qaf [([0,1,2,3,4,5,6,7,8,9,10,11,12,13,14,15],16)] [] [17,18] (by as_aux_lemma=>kernel_rfl) (by as_aux_lemma=>kernel_rfl) (by intro _ _ d _ _ h;cases d<;>exact h) ?_
          simp only[Qaj,pick,QGo,QGp,QGs,QGu,QGv]
          repeat (first|go_big_quiet_skip|(go_big_quiet_want;(first|refine QuK _ rfl hc' hb' rfl ?_|refine Qcr _ _ rfl (HC ⟨y,t.delay,t.flags⟩) (by simp only[QGC,QGR,QGH];exact Qrv _ _ _) ?_);simp only[Act.put,QGw,QGB,QGz];go_big_quiet_on)|(go_big_quiet_step (fail)))
          refine wpQuiet_nil ?_
          go_wp2_with (first
           | (refine Qc1 rfl 26 _ rfl 76 68 _ (HC ⟨y,t.delay,t.flags⟩) Tryz.underlying26 QA6 (by omega) (by omega) (Qa4 _) rfl ?_)
           | fail)
          simp only[Act.put,QGw,QGB,QGz]
          try refine⟨by first|assumption|exact Qab _|exact Qaa _ _|exact Later.refl _,?_⟩
          try simp only[Qaj,pick,QGo,QGp,QGs,QGu,QGv]
          repeat (go_big_quiet_step (fail))
          refine wpQuiet_nil ?_
          go_wp2_with (first
           | (refine Qci Qa4 QtC (by omega) rfl _ _ _ rfl 76 _ 104 Tryz.underlying26 QDG rfl w _ j _ (QaB hown' (Qaa _ _)) (L3.alloc _) _ 1 1 [⟨y,t.delay,t.flags⟩] (QhG (d:=hp0) Qa4 (QxL wr.drew _ _) rfl) rfl rfl (by omega) (by omega) ?_;intro A3 c3 w3 hown3 hl3 hg3)
           | fail)
          rw[←hHo.out,←QH3,←hst.out]at hown3
          exact⟨⟨j+1,c3,A3,by go_num,by omega,rfl,hgood',hown3,hl3⟩,by simp[intOf];omega⟩
      ·obtain rfl:j=k:=by omega
       have hE:=hid (Qx5 (xs:=xs) (ts:=ts) hall.out (by omega) hcc.out (by rw[hml];exact hmm.out))
       rw[QGD (by rw[QaD,QGr];omega)]at hown
       go_wp2
       go_ret2
       exact⟨.slice A9 j c9,by rw[hE.out];rfl,fun h=>absurd hE.out h,fun _=>⟨A9,c9,rfl,QdO Qa4 hown (by rw[QaD,QGr,hml])⟩,L⟩
    ·have hE:=hid (QoG (xs:=xs) (ts:=ts) hall.out (by omega) hc0)
     have hne:((QaG xs:Int) != 0)=true:=by simpa using hc0
     have hcc:=hid hc0
     clear hc0
     go_wp2
     go_ret2
     exact⟨.slice none 0 0,by rw[hE.out];rfl,fun _=>rfl,fun h=>absurd (hE.out.symm.trans h) hcc.out,L⟩
section
variable {P:Program} {ops:Array Oper} {rest:List Oper} {o:Oper} {a:Act} {w:World} {Q:Exit→Act→World→Prop} {α:Type} {F:α→List Value} {sz:Nat} {d:α}
theorem Qjo (hF:∀x,(F x).length=sz) (h0:0<sz) (hgd:o.guard=none) (s x:Operand) (t:TypeId) (ho:o.op= .call { callee:=.builtin .append,args:= #[s,x],argTypes:= #[t,t] })
 (e:TypeId) (z:Value) (bytes:Nat) (ht:P.underlying t=some (.slice e)) (hinfo:(P.info? e).map (fun i=>(i.zero,i.size,i.bytes))=some (some z,sz,bytes)) (hzs:z.cells.size=sz) (g:Nat)
 (A:Option Addr) (m c:Nat) (xs:List α) (hr:RdF F sz d w A m xs) (hs:a.eval s= .slice (some ⟨g,0,none⟩) 0 0) (hx:a.eval x= .slice A m c) (hsz:m*bytes≤140737488355328) (hby:0<bytes)
 (h:∀A' c' w',RdF F sz d w' A' m xs→Later w w'→wpList P ops Q rest (a.put o.dst (.slice A' m c')) w'):wpList P ops Q (o :: rest) a w:=by
 obtain⟨i,hi,hz,hsize,hbytes⟩:=info_parts hinfo
 have hm:m≤140737488355328:=QG9 (QHE _ hby) hsz
 refine wpList_plain hgd fun K hK=>?_
 rcases QH8 m with hm0|hm0
 ·subst hm0
  have hrun:(Builtin.append_ #[t,t] o.type #[.slice (some ⟨g,0,none⟩) 0 0,.slice A 0 c]).run P w= .ok (.slice (some ⟨g,0,none⟩) 0 0) w:=by
   cases A<;>simp[Builtin.append_,run_underlying ht,sizeOf,typeInfo,hi,Builtin.lenOf,Builtin.firstCells,loadCells,loadCellsFrom,storeCells]
  unfold Oper.wp execOp
  simp only[ho,resolve,invoke,builtin,Sem.run_bind,Sem.run_pure,Result.andThen_ok,QGC,QGR,QGH,hs,hx,hrun]
  exact hK _ _ (h _ _ _ ⟨hr.1,fun h=>absurd h (by omega)⟩ (Later.refl w))
 ·obtain⟨b,o2,rfl,_,_⟩:=hr.2 hm0
  have hlen:(xs.flatMap F).length=m*sz:=by rw[Qb4 hF,hr.1]
  have hrun:=run_append_grow (P:=P) w t o.type e i z ht hi hz ⟨g,0,none⟩ 0 0 [] (by simp) (by simp) ⟨b,o2,none⟩ m c (xs.flatMap F) (by rw[hsize,hlen]) (hr.cells hF h0) (by omega) (by omega) (growslice_fits (by omega) (by rw[hbytes,QGT];exact hsz))
  have hge:=grownCap_ge w (0+m) 0 e
  have hcm:grownCap w (0+m) 0 e≤maxLen:=grownCap_le_maxLen w (0+m) 0 e (by unfold maxLen;omega)
  unfold Oper.wp execOp
  simp only[ho,resolve,invoke,builtin,Sem.run_bind,Sem.run_pure,Result.andThen_ok,QGC,QGR,QGH,hs,hx,hrun]
  generalize grownCap w (0+m) 0 e=cp at *
  rw[QGT]at *
  have hown:(w.drew.alloc (.cells (#[]++(xs.flatMap F).toArray++Builtin.zeroCells z.cells (cp-m)) e)).ownsRow w.heap.size e sz (.slice (some ⟨w.heap.size,0,none⟩) m cp) m (xs.flatMap F):=by
   refine⟨hlen,.inr ⟨w.heap.size,_,_,rfl,QGx _,heap_alloc_new w.drew _,hge,hcm,?_,?_⟩⟩
   ·simp only[Array.size_append,List.size_toArray,size_zeroCells,hzs,hlen]
    rw[Nat.sub_mul,List.length_nil]
    have:=Nat.mul_le_mul_right sz hge
    omega
   ·simp only[Array.toList_append,←hlen]
    rw[QGv,List.take_left]
  exact hK _ _ (h _ _ _ (QdO hF hown hr.1) ((Qab w).trans (Qaa w.drew _)))
end
set_option maxRecDepth 100000 in
theorem Qwq (A:Option Addr) (n c:Nat) (xs:List Nod) (w:World) (hx:RdN w A n xs) (hs:∀x∈xs,x.nm.size≤9223372036854775807):
 Calls Tryz.prog 43 #[.slice A n c] w fun e w'=>e= .returned (.bool (Qfh xs))∧Later w w':=by
 have hF:=hid (Qrf A n c xs w hx hs)
 have h0:Hid (Qfh xs=true→QaG xs=0):=hid (fun h=>by
  rw[Qfh,QGM,beq_iff_eq]at h
  exact h.1)
 generalize Qfh xs=F at *
 generalize QaG xs=E at *
 go_enter Tryz.func43,Tryz.ntmps43
 go_wp2_with fail
 (refine hF.out.mono ?_);rintro e w1 ⟨rfl,j1⟩
 cases F
 ·go_wp2_with fail
  go_ret
  exact⟨rfl,j1⟩
 ·obtain rfl:=h0.out rfl
  go_wp2_with fail
  go_ret
  exact⟨rfl,j1⟩
theorem QC8:(Tryz.prog.info? 74).map (fun i=>(i.zero,i.size,i.bytes))=some (some (.agg (NC nod0).toArray),66,88):=by kernel_rfl
set_option maxRecDepth 100000 in
theorem Qrs (A:Option Addr) (n c:Nat) (xs:List Nod) (w:World) (hx:RdN w A n xs) (hn:n≤64):
 Calls Tryz.prog 47 #[.slice A n c] w fun e w'=>∃A' c',e= .returned (.slice A' n c')∧RdN w' A' n xs∧Later w w':=by
 go_enter Tryz.func47,Tryz.ntmps47
 go_wp2_with (first
  | (refine Qjo (F:=NC) (d:=nod0) Qas (by omega) rfl _ _ _ rfl 74 _ 88 Tryz.underlying111 QC8 rfl w.heap.size A n c _ (hx.later (Qaa _ _)) rfl rfl (by omega) (by omega) ?_;intro A1 c1 w1 h1 l1)
  | fail)
 go_ret
 exact⟨A1,c1,rfl,h1,(Qaa _ _).trans l1⟩
def byS (xs:List UInt8):ByteArray:=⟨xs.toArray⟩
theorem Qlg (xs:List UInt8):(byS xs).toList=xs:=by rw[ByteArray.toList_eq];rfl
theorem QDS (xs ys:List UInt8):((byS xs).toList==(byS ys).toList)=decide (xs=ys):=by
 rw[Qlg,Qlg]
 by_cases h:xs=ys
 ·subst h
  simp
 ·rw[decide_eq_false h,beq_eq_false_iff_ne]
  exact h
theorem Qwi {P:Program} {w:World} {A:Option Addr} {n:Nat} {xs:List UInt8} (h:RdB w A n xs) (src e:TypeId) (hs:P.underlying src=some (.slice e)) (he:P.underlying e=some (.int .u8)) (dst:TypeId) (hd:P.underlying dst=some .string) (c:Nat):
 (convert src dst (.slice A n c)).run P w= .ok (.string (byS xs)) w:=by
 have hl:=h.len
 by_cases h0:0<n
 ·obtain⟨b,o,rfl,hb,hc⟩:=h.2 h0
  have:=run_convert_bytes_arg w src e hs he b o n c (xs.map fun x=>(x.toNat:Int)) (by rw[QGr,hl]) (fun i hi=>by
   have hx:xs[i]?=some (xs[i]'(by omega)):=QGt _
   have:=hc i (W8 (xs[i]'(by omega))) (by rw[QGF,hx];rfl)
   rw[this,QGq,QGF,hx]
   rfl) dst hd
  rw[this]
  congr 2
  rw[strOfNums,byS,List.map_map]
  congr 2
  conv=>rhs;rw[←List.map_id xs]
  refine QIB fun x _=>?_
  simp
 ·obtain rfl:n=0:=by omega
  obtain rfl:xs=[]:=QG7 hl
  cases A with
  | none=>exact run_convert_bytes_nil w src e hs he 0 c dst hd
  | some a=>
    rw[run_convert_bytes_string w src dst e _ 0 c hs he hd,run_bytesToString w a 0 c [] (by simp[loadCells,loadCellsFrom])]
    rfl
theorem Qwb (A B:Option Addr) (n m c d:Nat) (xs ys:List UInt8) (w:World) (hx:RdB w A n xs) (hy:RdB w B m ys):
 Calls Tryz.prog 21 #[.slice A n c,.slice B m d] w fun e w'=>e= .returned (.bool (decide (xs=ys)))∧w'=w:=by
 have h1:=Qwi hx 22 5 Tryz.underlying22 Tryz.underlying5 9 Tryz.underlying9 c
 have h2:=Qwi hy 22 5 Tryz.underlying22 Tryz.underlying5 9 Tryz.underlying9 d
 have hE:=hid (QDS xs ys)
 generalize decide (xs=ys)=R at *
 generalize byS xs=S at *
 generalize byS ys=T at *
 go_enter Tryz.func21,Tryz.ntmps21
 go_wp2_with fail
 go_ret
 exact⟨by rw[←hE.out];rfl,rfl⟩
theorem Qwo:(Tryz.prog.info? 76).map (·.size)=some 68:=by kernel_rfl
theorem QBP:(Tryz.prog.info? 147).map (fun i=>(i.zero,i.size))=some (some (.agg (HC hp0).toArray),68):=by kernel_rfl
set_option maxRecDepth 100000 in
set_option maxHeartbeats 4000000 in
theorem Qxx (A:Option Addr) (n c:Nat) (hs:List Hp) (w:World) (hh:RdH w A n hs) (hn:n≤1048576):
 Calls Tryz.prog 12 #[.slice A n c] w fun e w'=>∃A' c',e= .returned (.slice A' n c')∧RdH w' A' n hs∧Later w w':=by
 have hl:=hh.1
 go_enter Tryz.func12,Tryz.ntmps12
 go_wp2_with fail
 go_loopw [3,8] (fun v i wr=>∃(k:Nat) (A':Option Addr) (c':Nat),k≤n∧i= .int .i64 k∧v= .slice A' k c'∧wr.ownsRow w.heap.size 147 68 (.slice A' k c') k ((hs.take k).flatMap HC)∧Later w wr) (fun _ i _=>n-(intOf i).toNat)
 case atStart=>exact⟨0,none,0,by omega,rfl,rfl,World.ownsRow_nil w _ _ 68,Later.refl w⟩
 case round=>
  obtain⟨k,A1,c1,hk,rfl,rfl,hown,L⟩:=hrel
  by_cases hlt:k<n
  ·obtain⟨b,o,rfl,hb,hc⟩:=(hh.later L).at_ hlt
   have htk:(hs.take (k+1)).flatMap HC=(hs.take k).flatMap HC++[hs.getD k hp0].flatMap HC:=by
    rw[QIr,QH3,QGq,QGt (by omega)]
    rfl
   generalize hs.getD k hp0=z at *
   replace htk:=hid htk
   replace hc:=hid hc
   have hzz:Tryz.zeroCells76.toList.length=68:=by kernel_rfl
   replace hzz:=hid hzz
   have hbn:=hid (QjM z.nod)
   have hbh:=hid (QtN z.nod z.delay z.flags)
   go_wp2_with (first
    | (refine go_l rfl ?_;refine Qan rfl 76 _ rfl b (o+k*68) (HC z) hc.out rfl _ Tryz.underlying76 rfl (by rw[Qa4];exact Qwo) ?_)
    | (refine Qa1 rfl ?_;refine Qai rfl rfl 76 _ _ rfl wr.heap.size _ _ (HC z) (Blk.new wr _ Tryz.zeroCells76.toList) rfl rfl 68 Qwo (Qa4 _) hzz.out (QtC _) ?_;intro w3 hb3 ho3
       have l3:Later wr w3:=(Qaa wr _).only ho3 (QGx _)
       have c66:=hb3.cellD 66 (QlD z)
       have c67:=hb3.cellD 67 (Qmk z)
       have hb3l:=hb3.lt)
    | (refine go_l rfl ?_;refine QlC rfl _ rfl (y:=z.nod) (off:=0) (fun i v hv=>by rw[QGT];exact hb3.cellD i (Qqp z hv)) rfl ?_)
    | (refine go_b rfl ?_;refine Qah ?hw 86 _ rfl (NC z.nod) (by simp only[QGC,QGR,QGH];exact hbn.out) ?_;(case hw=>rfl))
    | (refine go_b rfl ?_;refine Qah ?hw 147 _ rfl (HC z) (by simp only[QGC,QGR,QGH];exact hbh.out) ?_;(case hw=>rfl))
    | (refine Qc1 rfl 41 _ rfl 147 68 _ (HC z) Tryz.underlying41 QBP (by omega) (by omega) (Qa4 z) rfl ?_
       have hz4:Blk (w3.alloc (.cells (HC z).toArray 147)) w3.heap.size 147 ([z].flatMap HC):=by simp only[QHB,List.flatMap_nil,QGW];exact Blk.new w3 _ _)
    | (refine go_a rfl ?_;refine Qci (F:=HC) (d:=hp0) Qa4 QtC (by omega) rfl _ _ _ rfl 147 _ 104 Tryz.underlying41 QFJ rfl w _ k _ (QaB hown (l3.trans (Qaa _ _))) ((L.trans l3).trans (Qaa _ _)) _ 1 1 [z] (QhG Qa4 hz4 rfl) rfl rfl (by omega) (by omega) ?_;intro A4 c4 w4 hown4 hl4 _)
    | fail)
   rw[←htk.out]at hown4
   exact⟨⟨k+1,A4,c4,by omega,by go_num,rfl,hown4,hl4⟩,by simp[intOf];omega⟩
  ·obtain rfl:k=n:=by omega
   rw[QGD (by omega)]at hown
   go_wp2_with fail
   go_ret
   exact⟨A1,c1,rfl,QdO (d:=hp0) Qa4 hown hl,L⟩
theorem QoW (x:List UInt8) (p:Prt) (hs:List Hp):(sndP x p hs).length=768:=by
 by_cases h:Qgy x p hs=0
 ·rw[(QjV x p hs).2 h]
  exact QjT _ _ _ (QfL p)
 ·rw[sndP,if_neg h]
  exact QGA
theorem QvL:Tryz.prog.built 119 []=some (tr1 none 0 0 none 0 0 0).toArray:=by kernel_rfl
theorem Qu5 (tk:Int):arvE [] []=2∧arvA [] [] tk=arr0:=by
 constructor<;>rfl
theorem QDD {w:World} {A:Option Addr} {n:Nat} {ys:List Wy} (h:RdF WyC 1 wy0 w A n ys) {k:Nat} (hk:k<n):∃b o,A=some ⟨b,o,none⟩∧b<w.heap.size∧w.cell? ⟨b,o+k,none⟩=some (.slice (ys.getD k wy0).A (ys.getD k wy0).n (ys.getD k wy0).c):=by
 obtain⟨b,o,h1,h2,h3⟩:=h.at_ hk
 refine⟨b,o,h1,h2,?_⟩
 have:=h3 0 _ rfl
 simpa using this
theorem Qu9 (tk:Int) (id:UInt64) (A:Option Addr) (n c:Nat):Tryz.prog.built 131 [(0,.int .i64 tk),(1,W64 id),(2,.slice A n c)]=some (emC tk id A n c).toArray:=by kernel_rfl
theorem Qsr {ops:Array Oper} {o:Oper} {a:Act} (hw:Region.wanted o (yielded ops a.tmps)=true) (ho:o.op= .alloc 37):
 Makes Tryz.prog ops o (fun g=>.pointer (some ⟨g,0,none⟩)) (.cells Tryz.zeroCells37 37) a:=
 ⟨hw,fun w=>by
   unfold execOp
   rw[ho]
   simp[go_sem]⟩
theorem Qmt {P:Program} {C:World→Prop} {a:Act} {o:Oper} {K:Act→Prop} (t:TypeId) (parts:Array (Nat×Operand)) (ho:o.op= .build t parts) (vs:List Value) (hb:P.built t (parts.map fun (i,x)=>(i,a.eval x)).toList=some vs.toArray)
 (h:K (a.put o.dst (.agg vs.toArray))):o.quiet P a C K:=QnQ t parts ho vs hb h
theorem QBw:(Tryz.prog.info? 131).map (fun i=>(i.zero,i.size))=some (some (.agg (EmC emt0).toArray),3):=by kernel_rfl
theorem QBI:(Tryz.prog.info? 131).map (fun i=>(i.zero,i.size,i.bytes))=some (some (.agg (EmC emt0).toArray),3,40):=by kernel_rfl
theorem QA9 (i:Nat):((QGn 32 (Value.int .u8 0)).set 0 (W8 (QG4 i))).set 1 (.int .u8 5)=(((QGn 32 (0:UInt8)).set 0 (QG4 i)).set 1 5).map W8:=by
 rw[←Qcx,←Qcx,QG8]
 rfl
theorem QwS {α β:Type} (f:α→β) {l:List α} {b:β} (h:l.map f=[b]):∃y,l=[y]∧f y=b:=by
 rcases l with _|⟨y,_|⟨z,zs⟩⟩
 ·simp at h
 ·exact⟨y,rfl,by simpa using h⟩
 ·simp at h
theorem QDl (N i:Nat) (h:i<N):N-(intOf (.int .i64 ((i:Int)+1))).toNat<N-(intOf (.int .i64 (i:Int))).toNat:=by
 simp[intOf]
 omega
def Qpq (ts:List Stp):ByteArray:=(ts.getD (ts.length-1) stp0).nm
set_option maxRecDepth 100000 in
set_option maxHeartbeats 16000000 in
theorem Qn6 (A B M:Option Addr) (n c m d nm cm:Nat) (xs:List Nod) (ys:List Wy) (msg:List UInt8) (w:World) (hx:RdN w A n xs) (hs:∀x∈xs,x.nm.size≤9223372036854775807) (hy:RdF WyC 1 wy0 w B m ys) (hyo:∀y∈ys,WyOk w y) (hM:RdB w M nm msg) (hmc:nm≤cm):
 Calls Tryz.prog 7 #[.slice A n c,.slice B m d,.slice M nm cm] w fun e w'=>e= .returned (.bool true)∧Later w w':=by
 have hbt:=hid QvL
 have hAr:=hid (fun w=>Qqu none none 0 0 0 0 [] [] 0 w (Qfo w) (by omega) (QiE w) (by omega))
 rw[(Qu5 0).1,(Qu5 0).2]at hAr
 obtain⟨AA,hAA,hA0⟩:∃AA:Arr,AA=arr0∧AA.pt.da.length=0:=⟨_,rfl,rfl⟩
 rw[←hAA,hA0]at hAr
 clear hAA hA0
 have hFi:=hid (fun w h=>Qwq A n c xs w h hs)
 go_enter Tryz.func7,Tryz.ntmps7
 go_wp2_with (first
  | (refine go_b rfl ?_;refine Qah ?hw 119 _ rfl (tr1 none 0 0 none 0 0 0) (by simp only[QGC,QGH];exact hbt.out) ?_;(case hw=>rfl))
  | fail)
 (refine (hAr.out _).mono ?_);rintro e w1 ⟨A1,c1,rfl,_,j1⟩
 by_cases h0:m=0
 ·subst h0
  go_wp2_with (first
   | (refine Qa1 rfl ?_;refine Qai rfl rfl _ _ _ rfl w1.heap.size _ _ (AvC ⟨AA,.slice A1 0 c1⟩) (Blk.new w1 _ (AvC av0)) rfl rfl 24 QaN (Qam _) (Qam av0) (Qbv _ _ _ _) ?_;intro w2 hb2 ho2
      have l2:Later w w2:=j1.trans ((Qaa w1 _).only ho2 (QGx _)))
   | fail)
  go_ret
  exact⟨rfl,l2⟩
 have f0:((m:Int)==0)=false:=beq_eq_false_iff_ne.2 (by omega)
 by_cases h3:3<m
 ·have f1:decide (3<(m:Int))=true:=decide_eq_true (by omega)
  have f1':decide (3<m)=true:=decide_eq_true h3
  go_wp2_with (first
   | (refine Qa1 rfl ?_;refine Qai rfl rfl _ _ _ rfl w1.heap.size _ _ (AvC ⟨AA,.slice A1 0 c1⟩) (Blk.new w1 _ (AvC av0)) rfl rfl 24 QaN (Qam _) (Qam av0) (Qbv _ _ _ _) ?_;intro w2 hb2 ho2
      have l2:Later w w2:=j1.trans ((Qaa w1 _).only ho2 (QGx _)))
   | fail)
  go_ret
  exact⟨rfl,l2⟩
 have f1:decide (3<(m:Int))=false:=decide_eq_false (by omega)
 have f1':decide (3<m)=false:=decide_eq_false h3
 by_cases hm:1350<nm
 ·have f2:decide (1350<(nm:Int))=true:=decide_eq_true (by omega)
  have f2':decide (1350<nm)=true:=decide_eq_true hm
  go_wp2_with (first
   | (refine Qa1 rfl ?_;refine Qai rfl rfl _ _ _ rfl w1.heap.size _ _ (AvC ⟨AA,.slice A1 0 c1⟩) (Blk.new w1 _ (AvC av0)) rfl rfl 24 QaN (Qam _) (Qam av0) (Qbv _ _ _ _) ?_;intro w2 hb2 ho2
      have l2:Later w w2:=j1.trans ((Qaa w1 _).only ho2 (QGx _)))
   | fail)
  go_ret
  exact⟨rfl,l2⟩
 have f2:decide (1350<(nm:Int))=false:=decide_eq_false (by omega)
 have f2':decide (1350<nm)=false:=decide_eq_false hm
 go_wp2_with (first
  | (refine Qa1 rfl ?_;refine Qai rfl rfl _ _ _ rfl w1.heap.size _ _ (AvC ⟨AA,.slice A1 0 c1⟩) (Blk.new w1 _ (AvC av0)) rfl rfl 24 QaN (Qam _) (Qam av0) (Qbv _ _ _ _) ?_;intro w2 hb2 ho2
     have l2:Later w w2:=j1.trans ((Qaa w1 _).only ho2 (QGx _)))
  | fail)
 (refine (hFi.out _ (hx.later l2)).mono ?_);rintro e w3 ⟨rfl,j3⟩
 have L3:=l2.trans j3
 clear j1 l2 ho2 hb2 hAr hFi j3
 cases hF:Qfh xs
 ·go_wp2_with fail
  go_ret
  exact⟨rfl,L3⟩
 have hck:QaG xs=0:=by
  rw[Qfh,QGM,beq_iff_eq]at hF
  exact hF.1
 have hn64:n≤64:=by
  rcases QHb 64 n with h|h
  ·rw[QeW (by have:=hx.1;omega)]at hck
   cases hck
  ·exact h
 have hs':∀x∈xs,x.nm.size≤140737488355328:=fun x hx=>by
  have hb:badN x=false:=by
   cases e:badN x
   ·rfl
   ·rw[QaG]at hck
    split at hck
    ·cases hck
    rw[if_pos (QHV.2 ⟨x,hx,e⟩)]at hck
    cases hck
  rw[badN,Bool.or_eq_false_iff]at hb
  have:=hb.2
  have h16:QdU x.nm=true:=by simpa using this
  have:=(Qf2 _).1 h16
  omega
 replace hF:=hid hF
 replace hck:=hid hck
 have hyl:=hy.1
 have hRo:=hid (fun (y:Wy) w h1 (h2:WyOk w y)=>QoQ A y.A n c y.n y.c xs y.ts w h1 (by omega) hs' h2.2 h2.1)
 clear f0 f1 f1' f2 f2'
 go_wp2_with fail
 go_loopw [9,57] (fun v9 v57 wr=>∃(k:Nat) (en:ByteArray),k≤m∧v57= .int .i64 k∧v9= .string en∧Hid (k=0→en=⟨#[]⟩)∧Hid (∀ j,j<k→QbR xs (ys.getD j wy0).ts=0∧Qpq (ys.getD j wy0).ts=en)∧Later w wr) (fun _ i _=>m-(intOf i).toNat)
 case atStart=>exact⟨0,_,by omega,rfl,rfl,hid (fun _=>rfl),hid (fun j hj=>absurd hj (by omega)),L3⟩
 case round=>
  clear L3
  obtain⟨k,en,hk,rfl,rfl,hen,hall,L⟩:=hrel
  by_cases hlt:k<m
  ·obtain⟨b,o,rfl,hb,hc⟩:=QDD (hy.later L) hlt
   have hyk:=(hyo _ (Qfq wy0 (l:=ys) (i:=k) (by omega))).later L
   have hR:=hid (hRo.out (ys.getD k wy0) wr (hx.later L) hyk)
   have hgo:=hid (fun (h1:QbR xs (ys.getD k wy0).ts=0) (h2:k=0∨Qpq (ys.getD k wy0).ts=en)=>(fun j hj=>by
    rcases QHb j k with h|h
    ·obtain⟨a,b⟩:=hall.out j h
     rcases h2 with h2|h2
     ·omega
     ·exact⟨a,b.trans h2.symm⟩
    ·obtain rfl:j=k:=by omega
     exact⟨h1,rfl⟩:∀j,j<k+1→QbR xs (ys.getD j wy0).ts=0∧Qpq (ys.getD j wy0).ts=Qpq (ys.getD k wy0).ts))
   have hk0:Hid (en.toList=[]→k=0):=hid (fun h=>by
    rcases QH8 k with h0|h0
    ·exact h0
    ·obtain⟨a,b⟩:=hall.out (k-1) (by omega)
     have:=(QkB a (s:=en) (by rw[←b];rfl)).2
     rw[ByteArray.toList_eq]at h
     have h2:en.data.toList.length=0:=by rw[h];rfl
     rw[Array.length_toList]at h2
     exact absurd h2 this)
   generalize ys.getD k wy0=y at *
   obtain⟨ts,yA,yn,yc⟩:=y
   obtain⟨_,hst⟩:=hyk
   simp only at hst hR hc
   go_wp2_with fail
   refine hR.out.mono ?_
   rintro e w4 ⟨v,rfl,hv0,hv1,j4⟩
   replace hv0:=hid hv0
   by_cases hE:QbR xs ts=0
   case neg=>
    obtain rfl:=hv0.out hE
    have fE:((QbR xs ts:Int) != 0)=true:=bne_iff_ne.2 (by omega)
    generalize QbR xs ts=E at *
    go_wp2_with fail
    go_ret
    exact⟨rfl,L.trans j4⟩
   obtain⟨A5,c5,rfl,hL⟩:=hv1 hE
   obtain⟨_,hq1,_,_,_⟩:=QdJ hE
   rw[hE]
   have htl:ts.length=yn:=hst.1
   obtain⟨q,rfl⟩:∃q,yn=q+1:=⟨yn-1,by omega⟩
   obtain⟨b2,o2,rfl,hb2,hc2⟩:=(hst.later j4).at_ (k:=q) (by omega)
   have x0:w4.cell? ⟨b2,o2+q*3,none⟩=some (.string (Qpq ts)):=by
    have:=hc2 0 _ rfl
    rw[Qpq,htl,Nat.add_sub_cancel]
    exact this
   replace hE:=hid hE
   clear hc2 hv0 hv1 hL hR hq1
   generalize Qpq ts=sn at *
   go_wp2_with fail
   ·rename_i h
    exact⟨⟨k+1,sn,by omega,by go_num,rfl,hid (fun e=>by omega),hid (hgo.out hE.out (.inl (hk0.out h))),L.trans j4⟩,by simp[intOf];omega⟩
   ·go_ret
    exact⟨rfl,L.trans j4⟩
   ·rename_i h1 _ h
    have he:sn=en:=by
     rcases h with h|h
     ·simp only[QIv,List.isEmpty_iff]at h
      exact absurd h h1
     ·simp only[QIv,beq_iff_eq]at h
      rw[ByteArray.toList_eq,ByteArray.toList_eq]at h
      exact ByteArray.ext (Array.toList_inj.1 h)
    exact⟨⟨k+1,sn,by omega,by go_num,rfl,hid (fun e=>by omega),hid (hgo.out hE.out (.inr he)),L.trans j4⟩,by simp[intOf];omega⟩
  ·obtain rfl:k=m:=by omega
   have hm1:1≤k:=by omega
   have hbl:=hM.len
   obtain⟨hc1,hc16,_⟩:=Qgh (n:=nm) (by omega)
   have hSpl:=hid (fun w h=>QrF 7 M nm cm msg w h (by omega) hmc)
   obtain⟨N0,hN0⟩:∃N0,QbN nm=N0:=⟨_,rfl⟩
   rw[hN0]at hSpl hc1 hc16
   go_wp2_with fail
   (refine (hSpl.out _ (hM.later L)).mono ?_);rintro e w4 ⟨g,Ps,rfl,hPs,hown,hPo,j4⟩
   have hPl:Ps.length=N0:=by rw[←QGr (f:=Pv.p),hPs,QdG,QGr,List.length_range,hbl,hN0]
   have hr5:=QdO (d:=pvz) Qd5 hown hPl
   have hPr:∀q∈Ps,RdB w4 q.va q.vn q.p.da:=fun q hq=>OwnB.rd (hPo q hq)
   have hsp:Hid (∀ r,r<N0→(Ps.getD r pvz).p=Qb7 7 msg r∧prtE (Qb7 7 msg r)=0∧(Qb7 7 msg r).kd=1∧(Qb7 7 msg r).da.length≤450):=hid (fun r hr=>by
    have h1:(Ps.getD r pvz).p=Qb7 7 msg r:=by
     have h2:(Ps.map Pv.p)[r]?=(QdG 7 msg)[r]?:=by rw[hPs]
     rw[QdG,QGF,QGF,QHD (by rw[hbl,hN0];exact hr),QGt (by omega)]at h2
     rw[QGq,QGt (by omega)]
     simpa using h2
    obtain⟨_,_,_,h3⟩:=Qge (id:=7) (msg:=msg) (by omega) (QG2.2 ⟨r,QHg.2 (by rw[hbl,hN0];exact hr),rfl⟩)
    refine⟨h1,h3,rfl,?_⟩
    show ((msg.drop (r*450)).take 450).length≤450
    rw[QGP]
    omega)
   have L4:=L.trans j4
   obtain⟨to,hto⟩:∃to,(QbA (QbX en 0) xs).1.id=to:=⟨_,rfl⟩
   have hlast:Hid (∀ j,j<k→QbR xs (ys.getD j wy0).ts=0∧((QaD xs (ys.getD j wy0).ts).getD ((ys.getD j wy0).ts.length-1) hp0).nod.id=to):=hid (fun j hj=>⟨(hall.out j hj).1,by rw[←hto];exact ((QkB (hall.out j hj).1 (s:=en) (by rw[←(hall.out j hj).2];rfl)).1).symm⟩)
   obtain⟨tkf,htkf⟩:∃tkf:Nat→Int,∀j,tkf j=tkR (Qb7 7 msg (j%N0)) (QaD xs (ys.getD (j%k) wy0).ts) (10*(j:Int)) (ys.getD (j%k) wy0).ts.length:=⟨_,fun _=>rfl⟩
   replace hto:=hid hto
   replace htkf:=hid htkf
   replace hN0:=hid hN0
   have hN1:((N0:Int)+1).toNat=N0+1:=by omega
   clear hown hPo hPs hall hen hSpl L j4
   go_wp2_with fail
   go_loopw [16,17] (fun v16 v17 wr2=>∃(i:Nat) (es:List Emt) (A8:Option Addr) (c8:Nat),i≤N0+1∧v17= .int .i64 i∧v16= .slice A8 i c8∧es.length=i∧Later w4 wr2∧wr2.ownsRow w4.heap.size 131 3 (.slice A8 i c8) i (es.flatMap EmC)∧(∀ y∈es,OwnB wr2 w4.heap.size y.A y.n y.c y.bs)∧
    Hid (∀ j,j<i→dlv1 xs (es.getD j emt0)=[⟨Qb7 7 msg (j%N0),2,to,tkf j,QaH⟩]∧0≤tkf j)) (fun _ v17 _=>N0+1-(intOf v17).toNat)
   case atStart=>exact⟨0,[],none,0,by omega,rfl,rfl,rfl,Later.refl _,⟨by simp,.inl ⟨rfl,rfl⟩⟩,by simp,hid (fun j hj=>absurd hj (by omega))⟩
   case round=>
    obtain⟨i,es,A8,c8,hi,rfl,rfl,hel,L5,hoE,hoB,hdl⟩:=hrel
    by_cases hlt2:i<N0+1
    ·have g1:(i:Int)<(N0:Int)+1:=by omega
     obtain⟨r1,hr1⟩:∃r,i%k=r:=⟨_,rfl⟩
     obtain⟨r2,hr2⟩:∃r,i%N0=r:=⟨_,rfl⟩
     have hr1k:r1<k:=by rw[←hr1];exact QGU _ (by omega)
     have hr2N:r2<N0:=by rw[←hr2];exact QGU _ (by omega)
     have q1:(i:Int).tmod (k:Int)=(r1:Int):=by rw[QIc (by omega),←hr1];rfl
     have q2:(i:Int)%(k:Int)=(r1:Int):=by rw[←hr1];rfl
     have q3:(i:Int).tmod (N0:Int)=(r2:Int):=by rw[QIc (by omega),←hr2];rfl
     have q4:(i:Int)%(N0:Int)=(r2:Int):=by rw[←hr2];rfl
     have kne:(k:Int)≠0:=by omega
     have nne:(N0:Int)≠0:=by omega
     have LL:=L4.trans L5
     obtain⟨b,o,rfl,hb,hc⟩:=QDD (hy.later LL) hr1k
     have hyk:=(hyo _ (Qfq wy0 (l:=ys) (i:=r1) (by omega))).later LL
     have hR:=hid (hRo.out (ys.getD r1 wy0) wr (hx.later LL) hyk)
     obtain⟨e1,e2⟩:=hlast.out r1 hr1k
     obtain⟨e3,e4,e5,e6⟩:=hsp.out r2 hr2N
     have hdv:=hid (fun (x:List UInt8) (h32:x.length=32) (e:Emt) (h1:e.tk=10*(i:Int)) (h2:e.id=((QaD xs (ys.getD r1 wy0).ts).getD 0 hp0).nod.id) (h3:e.bs=Qhb x (Qb7 7 msg r2) (QaD xs (ys.getD r1 wy0).ts))=>(by
      obtain⟨a,b⟩:=Qvk e1 hF.out h32 e4 e5 (e:=e) (by omega) (by omega) h2 h3
      rw[e2,h1,←hr1,←hr2,←htkf.out]at a
      rw[h1,←hr1,←hr2,←htkf.out]at b
      exact⟨a,b⟩:dlv1 xs e=[⟨Qb7 7 msg (i%N0),2,to,tkf i,QaH⟩]∧0≤tkf i))
     have hsd:=hid (fun (x:List UInt8) (h32:x.length=32)=>QnW e1 hF.out h32 e4 e5)
     have hll:=hid (Qfc xs (ys.getD r1 wy0).ts)
     have hq1:=(QdJ e1).2.1
     have hq5:=(QdJ e1).2.2.1
     rw[e1]at hR
     clear e1 e2 hr1 hr2
     generalize ys.getD r1 wy0=y at *
     obtain⟨ts,yA,yn,yc⟩:=y
     obtain⟨_,hst⟩:=hyk
     simp only at hst hR hc hdv hsd hq1 hq5 hll
     have htl:ts.length=yn:=hst.1
     have hpqm:Ps.getD r2 pvz∈Ps:=Qfq pvz (l:=Ps) (i:=r2) (by omega)
     have hcP:Hid (∀ w',Later w4 w'→∀j v,(PvC (Ps.getD r2 pvz))[j]?=some v→w'.cell? ⟨g,r2*5+j,none⟩=some v):=by
      obtain⟨bp,op,hbo,hbp,hcp⟩:=hr5.at_ hr2N
      obtain⟨rfl,rfl⟩:g=bp∧0=op:=by simpa using hbo
      exact hid (fun w' l j v hv=>(l.below.cell (p:=⟨g,r2*5+j,none⟩) hbp).trans (by have:=hcp j v hv;rwa [QGT]at this))
     have hpr:=hPr _ hpqm
     generalize hPq:Ps.getD r2 pvz=pq at *
     obtain⟨pp,pva,pvn,pvc⟩:=pq
     simp only at e3 hpr
     rw[e3]at hpr hcP
     replace hcP:Hid (∀ w',Later w4 w'→∀j v,(PaC (Qb7 7 msg r2) (.slice pva pvn pvc))[j]?=some v→w'.cell? ⟨g,r2*5+j,none⟩=some v):=hcP
     have hpn:pvn≤450:=by have:=hpr.len;omega
     replace hPq:=hid hPq
     generalize Qb7 7 msg r2=P0 at *
     clear e3 e4 e5 e6 hPq
     go_wp2_with fail
     refine hR.out.mono ?_
     rintro e w6 ⟨v,rfl,_,hv1,j6⟩
     obtain⟨A6,c6,rfl,hL6⟩:=hv1 trivial
     clear hv1 hR
     generalize QaD xs ts=RL at *
     have l32:(QGn 32 (Value.int .u8 0)).length=32:=QGA
     go_wp2_with (first
      | (refine QaA rfl _ _ _ rfl 5 _ 1 Tryz.underlying22 Qc4 rfl _ _ _ _ 32 rfl rfl rfl rfl (by omega) (by omega) ?_;intro w7 hb7 hl7
         have X7:=(Bag.none w6).fresh hl7 (QGx _) hb7)
      | (refine Qa1 rfl ?_;refine Qad rfl rfl _ _ _ rfl w6.heap.size 0 _ _ (X7.nth 0 rfl) rfl (by rw[l32];omega) rfl (by kernel_rfl) ?_;intro v8 w8 hv8 hb8 ho8;simp[go_sem]at hv8;subst hv8
         have X8:=X7.write 0 rfl ho8 hb8)
      | (refine Qa1 rfl ?_;refine Qad rfl rfl _ _ _ rfl w6.heap.size 1 _ _ (X8.nth 0 rfl) rfl (by rw[QGV,l32];omega) rfl (by kernel_rfl) ?_;intro v9 w9 hv9 hb9 ho9;simp[go_sem]at hv9;subst hv9
         have X9:=X8.write 0 rfl ho9 hb9)
      | fail)
     have hX32:(((QGn 32 (0:UInt8)).set 0 (QG4 i)).set 1 5).length=32:=by rw[QGV,QGV,QGA]
     have XA:Bag w6 w9 [(w6.heap.size,5,(((QGn 32 (0:UInt8)).set 0 (QG4 i)).set 1 5).map W8)]:=by
      rw[←QA9]
      exact X9
     have J9:Later w4 w9:=L5.trans (j6.trans XA.lat)
     clear X7 X8 X9 hb7 hl7 hb8 ho8 hb9 ho9 l32
     have hdv':=hid (hdv.out _ hX32)
     have hSe:=hid (hsd.out _ hX32)
     generalize ((QGn 32 (0:UInt8)).set 0 (QG4 i)).set 1 5=X at *
     have hSn:=hid (fun H2 h2 w h1 h2' h3=>Qul (some ⟨w6.heap.size,0,none⟩) pva H2 32 32 pvn pvc yn h2 X P0 RL w h1 (by omega) h2' (by omega) h3 (by omega))
     have hsv:sndP X P0 RL=Qhb X P0 RL:=by rw[sndP,if_pos hSe.out]
     have hSl:=QoW X P0 RL
     rw[hSe.out,hsv]at hSn
     rw[hsv]at hSl
     clear hsv hsd hdv hSe
     have hHo:=hid (fun w h=>Qxx A6 yn c6 RL w h (by omega))
     have hBy:=hid (fun w=>Qrd (Qhb X P0 RL) hSl w)
     generalize Qhb X P0 RL=SB at *
     obtain⟨lb,lo,rfl,hlb,hlc⟩:=hL6.at_ (k:=0) (by omega)
     have n1:w6.cell? ⟨lb,lo+1,none⟩=some (W64 (RL.getD 0 hp0).nod.id):=hlc 1 _ (Qqp _ rfl)
     generalize hN0':(RL.getD 0 hp0).nod.id=ID at *
     clear hlc hN0'
     have HZ:=hid zcP
     have l1:((QGn 768 (0:UInt8)).map W8).length=768:=by rw[QGr,QGA]
     have Y0:=XA.drew
     refine QaC [0,1,2,3,4,5,6,7,8] [([],1,9),([],1,10),([11,12,13],2,14)] [] [15,16] [14] (fun _=>(fun g=>.pointer (some ⟨g,0,none⟩),.cells Tryz.zeroCells37 37)) (by as_aux_lemma=>kernel_rfl) (by as_aux_lemma=>kernel_rfl) (by intro _ _ d _ _ h;cases d<;>exact h) (by intro _ _ d _ _ h;cases d<;>exact h) ?_
     simp only[pick,QGo,QGp,QGs,QGu,QGv]
     repeat (first|go_big_quiet_skip|(go_big_quiet_want;(refine QaJ 25 _ rfl g (r2*5) (PaC P0 (.slice pva pvn pvc)) (fun w' hw j v hv=>by obtain⟨y,rfl⟩:=hw;exact hcP.out _ ((J9.trans (Qab _)).trans ⟨y,rfl⟩) j v hv) rfl _ Tryz.underlying25 rfl (by rw[Qa9];exact QdN) ?_);simp only[Act.put,QGw,QGB,QGz];go_big_quiet_on)|(go_big_quiet_step (fail)))
     refine wpQuiet_nil ?_
     refine⟨?mk,?_⟩
     case mk=>
      refine⟨fun o ho=>?_,trivial⟩
      simp only[QGo,QGp,Option.some.injEq]at ho
      subst ho
      exact Qsr rfl rfl
     simp only[Qbu,pick,QGo,QGp,QGs,QGu,QGv]
     refine wpQuiet_nil ?_
     intro m1 i1
     go_wp2_with fail
     (refine (hHo.out _ (hL6.later (Y0.lat.trans i1))).mono ?_);rintro e m2 ⟨A7,c7,rfl,r7,i2⟩
     go_wp2_with fail
     try refine⟨by first|assumption|exact Qab _|exact Qaa _ _|exact Later.refl _,?_⟩
     try simp only[Qaj,pick,QGo,QGp,QGs,QGu,QGv]
     repeat (go_big_quiet_step (fail))
     refine wpQuiet_nil ?_
     intro m3 i3
     have JJ3:Later w9.drew m3:=(i1.trans i2).trans i3
     go_wp2_with fail
     (refine (hSn.out _ _ _ (Qcv ((Y0.later JJ3).nth 0 rfl) hX32) (hpr.later ((J9.trans (Qab _)).trans JJ3)) (r7.later i3)).mono ?_);rintro e m4 ⟨rfl,i4⟩
     go_wp2_with fail
     try refine⟨by first|assumption|exact Qab _|exact Qaa _ _|exact Later.refl _,?_⟩
     try simp only[Qaj,pick,QGo,QGp,QGs,QGu,QGv]
     repeat (go_big_quiet_step (fail))
     refine wpQuiet_nil ?_
     intro m5 gp i5 hgp _ hbp
     refine wpQuiet_nil ?_
     intro m6 i6
     simp only[QHN,Act.put,QGw,QGB,QGz]
     have JJ6:Later w9.drew m6:=(JJ3.trans i4).trans (i5.trans i6)
     have hB6:Blk m6 gp 37 ((QGn 768 (0:UInt8)).map W8):=(Blk.later (show Blk m5 gp _ Tryz.zeroCells37.toList from hbp) i6).cast HZ.out
     have Y6:Bag w9.drew m6 [(gp,37,(QGn 768 (0:UInt8)).map W8)]:=(Bag.none w9.drew).fresh JJ6 hgp hB6
     have J69:=XA.lat
     clear i1 i2 i3 i4 i5 i6 hbp hgp JJ3 r7 hSn hHo hcP hpr XA hB6
     go_wp2_with (first
      | (refine Qa1 rfl ?_;refine Qbd rfl rfl _ _ rfl (Y6.nth 0 rfl) rfl rfl hSl l1 ?_;intro m7 hb7 ho7
         have Y7:=(Y6.write 0 rfl ho7 hb7).drew)
      | fail)
     have JN:Later w6 m7.drew:=(J69.trans (Qab _)).trans Y7.lat
     have JM:Later w4 m7.drew:=(J9.trans (Qab _)).trans Y7.lat
     have n2:=(JN.below.cell (p:=⟨lb,lo+1,none⟩) hlb).trans n1
     have hlb2:=QGN hlb JN.size
     have hw10:IntKind.i64.wrap (10*(i:Int))=10*(i:Int):=by rw[IntKind.wrap_i64];omega
     have hyn0:(0:Int)<(yn:Int):=by omega
     have hem:=hid Qu9
     clear n1 hlb J69 J9 Y6 hb7 ho7
     refine Qaf [([0,1,2,3,4,5,6,7,8],9),([10],11)] [] [12,13] (by as_aux_lemma=>kernel_rfl) (by as_aux_lemma=>kernel_rfl) (by intro _ _ d _ _ h;cases d<;>exact h) ?_
     simp only[Qaj,pick,QGo,QGp,QGs,QGu,QGv]
     repeat (first|go_big_quiet_skip|(go_big_quiet_want;(refine QhP 0 768 _ rfl (Y7.nth 0 rfl) rfl Tryz.underlying37 rfl Qcb (Qit _ _ hSl) hSl ?_);simp only[Act.put,QGw,QGB,QGz];go_big_quiet_on)|(go_big_quiet_step (fail)))
     refine wpQuiet_nil ?_
     go_wp2_with fail
     (refine (hBy.out _).mono ?_);rintro e k1 ⟨A9,c9,rfl,o9,jA⟩
     go_wp2_with fail
     try refine⟨by first|assumption|exact Qab _|exact Qaa _ _|exact Later.refl _,?_⟩
     try simp only[Qaj,pick,QGo,QGp,QGs,QGu,QGv]
     repeat (first|go_big_quiet_skip|(go_big_quiet_want;(refine Qmt _ _ rfl (emC (10*(i:Int)) ID A9 768 c9) (by simp only[QGC,QGR,QGH];exact hem.out _ _ _ _ _) ?_);simp only[Act.put,QGw,QGB,QGz];go_big_quiet_on)|(go_big_quiet_step (fail)))
     refine wpQuiet_nil ?_
     have jB:=Qaa k1 (.cells (emC (10*(i:Int)) ID A9 768 c9).toArray 131)
     have hnE:Blk (k1.alloc (.cells (emC (10*(i:Int)) ID A9 768 c9).toArray 131)) k1.heap.size 131 (emC (10*(i:Int)) ID A9 768 c9):=Blk.new k1 _ _
     go_wp2_with (first
      | (refine go_s rfl ?_;refine Qc1 ?hw 129 _ rfl 131 3 _ (emC (10*(i:Int)) ID A9 768 c9) Tryz.underlying129 QBw (by omega) (by omega) rfl rfl ?_;(case hw=>rfl))
      | fail)
     try refine⟨by first|assumption|exact Qab _|exact Qaa _ _|exact Later.refl _,?_⟩
     try simp only[Qaj,pick,QGo,QGp,QGs,QGu,QGv]
     repeat (go_big_quiet_step (fail))
     refine wpQuiet_nil ?_
     have JW:Later wr (k1.alloc (.cells (emC (10*(i:Int)) ID A9 768 c9).toArray 131)):=(j6.trans JN).trans (jA.trans jB)
     have hoE':=QaB hoE JW
     have hoN:OwnB (k1.alloc (.cells (emC (10*(i:Int)) ID A9 768 c9).toArray 131)) w4.heap.size A9 768 c9 SB:=QaF (Qcq o9 JM.size) jB
     go_wp2_with (first
      | (refine go_a rfl ?_;refine Qci (F:=EmC) (d:=emt0) QhF Quu (by omega) rfl _ _ _ rfl 131 _ 40 Tryz.underlying129 QBI rfl w4 _ _ _ hoE' (L5.trans JW) (some ⟨k1.heap.size,0,none⟩) 1 1 [⟨10*(i:Int),ID,SB,A9,768,c9⟩] (QhG QhF (show Blk (k1.alloc (.cells (emC (10*(i:Int)) ID A9 768 c9).toArray 131)) k1.heap.size 131 ([(⟨10*(i:Int),ID,SB,A9,768,c9⟩:Emt)].flatMap EmC) by simp only[QHB,List.flatMap_nil,QGW];exact hnE) rfl) rfl rfl (by omega) (by omega) ?_;intro A10 c10 k3 hown8 hl8 hg8)
      | fail)
     have hes8:∀y∈es++[(⟨10*(i:Int),ID,SB,A9,768,c9⟩:Emt)],OwnB k3 w4.heap.size y.A y.n y.c y.bs:=by
      intro y hy'
      rcases QHd.1 hy' with hy'|hy'
      ·exact QcI (QaF (hoB y hy') JW) hoE' (by decide) hg8
      ·obtain rfl:=QHO.1 hy'
       exact QcI hoN hoE' (by decide) hg8
     have hdl8:=hid (fun j (hj:j<i+1)=>(by
      rcases QHb j i with h|h
      ·have hg:(es++[(⟨10*(i:Int),ID,SB,A9,768,c9⟩:Emt)]).getD j emt0=es.getD j emt0:=by rw[QGq,QGG (by omega),QGq]
       rw[hg]
       exact hdl.out j h
      ·obtain rfl:j=i:=by omega
       have hg:(es++[(⟨10*(j:Int),ID,SB,A9,768,c9⟩:Emt)]).getD j emt0=⟨10*(j:Int),ID,SB,A9,768,c9⟩:=by rw[QGq,QGE (by omega),hel,QHG];rfl
       rw[hg]
       exact hdv'.out _ rfl rfl rfl:dlv1 xs ((es++[(⟨10*(i:Int),ID,SB,A9,768,c9⟩:Emt)]).getD j emt0)=[⟨Qb7 7 msg (j%N0),2,to,tkf j,QaH⟩]∧0≤tkf j))
     have hel8:(es++[(⟨10*(i:Int),ID,SB,A9,768,c9⟩:Emt)]).length=i+1:=by rw[QGy,hel];rfl
     rw[←QH3]at hown8
     refine⟨⟨i+1,es++[⟨10*(i:Int),ID,SB,A9,768,c9⟩],A10,c10,hlt2,?_,?_,hel8,hl8,hown8,hes8,?_⟩,?_⟩
     ·go_num
     ·exact rfl
     ·exact hdl8
     ·exact QDl _ _ hlt2
    ·obtain rfl:i=N0+1:=by omega
     obtain⟨p1,p2,p3,t,ht,p4⟩:=QsN (xs:=xs) (es:=es) (msg:=msg) (to:=to) (tkf:=tkf) (by omega) (by rw[hel,hbl,hN0.out]) (by rw[hel,hbl,hN0.out];exact hdl.out)
     rw[hel]at p1 p2 p4 ht
     have hDe:=hid (fun A2 c2 D2 e2 w h1 h2 h3=>QpS A2 D2 n c2 (N0+1) e2 xs es w h1 (by omega) hs' h2 h3 (by omega))
     have hNo:=hid (fun w h=>Qrs A n c xs w h hn64)
     generalize dlvS xs es=DS at *
     have LL:=L4.trans L5
     have g2: ¬((N0+1:Nat):Int)<(N0:Int)+1:=by omega
     clear hdl hlast hsp htkf hPr hr5 hlt2
     go_wp2_with fail
     (refine (hNo.out _ (hx.later LL)).mono ?_);rintro e w6 ⟨A6,c6,rfl,hx6,j6⟩
     go_wp2_with fail
     (refine (hDe.out _ _ _ _ _ hx6 (QdO QhF (QaB hoE j6) hel) (fun y hy'=>⟨OwnB.cap (QaF (hoB y hy') j6),OwnB.rd (QaF (hoB y hy') j6)⟩)).mono ?_);rintro e w7 ⟨A7,c7,gs,rfl,hoG,_,hgs,hgo,_,j7⟩
     have hgl:gs.length=N0+1:=by rw[←p1,←hgs,QGr]
     rw[hgl]at hoG ⊢
     have L7:=(LL.trans j6).trans j7
     have hrG:=QdO (d:=aw0) QbV hoG hgl
     have hga:∀j,j<N0+1→(gs.getD j aw0).ar=DS.getD j arr0:=fun j hj=>by
      rw[←hgs,QGq,QGq,QGF,QGt (by omega)]
      rfl
     replace hga:=hid hga
     replace p2:=hid p2
     replace p3:=hid p3
     replace p4:=hid p4
     replace hgs:=hid hgs
     clear hDe hNo hoE hoB j6 j7 LL L4 L5 hx6
     go_wp2_with fail
     go_loopw [24,165] (fun v24 v165 wr3=>∃(j:Nat) (la:Int),j≤N0+1∧v165= .int .i64 j∧v24= .int .i64 la∧Hid (∀ q,j≤q→q<N0+1→la≤(DS.getD q arr0).tk)∧Hid (∀ q,q<j→(DS.getD q arr0).tk≤la)∧Later w7 wr3) (fun _ v165 _=>N0+1-(intOf v165).toNat)
     case atStart=>exact⟨0,0,by omega,rfl,rfl,hid (fun q _ hq=>by obtain⟨_,_,h⟩:=p2.out q hq;exact h),hid (fun q hq=>absurd hq (by omega)),Later.refl _⟩
     case round=>
      obtain⟨j,la,hj,rfl,rfl,hlo,hhi,L8⟩:=hrel
      by_cases hlt3:j<N0+1
      ·have g3:(j:Int)<(N0:Int)+1:=by omega
       obtain⟨ag,ao,rfl,hab,hac⟩:=(hrG.later L8).at_ hlt3
       obtain⟨q,hq,hq0⟩:=p2.out j hlt3
       have har:=hga.out j hlt3
       rw[hq]at har
       have hla:=hlo.out j (QGx _) hlt3
       have hsr:=hid (fun q' h1 h2=>p3.out j q' h1 (by rw[p1];exact h2))
       have hsr2:=hid (fun q' (h1:q'≤j)=>p3.out q' j h1 (by rw[p1];exact hlt3))
       generalize (DS.getD j arr0).tk=T at *
       generalize gs.getD j aw0=ga at *
       obtain⟨gar,gva,gvn,gvc⟩:=ga
       simp only at har
       subst har
       have fT:decide (T<la)=false:=decide_eq_false (by omega)
       go_wp2_with (first
        | (refine go_l rfl ?_;refine Qan ?hw _ _ rfl ag (ao+j*24) (ArC ⟨⟨Qb7 7 msg q,2,to,T,QaH⟩,gva,gvn,gvc⟩) hac rfl _ Tryz.underlying114 rfl (by rw[QbV];exact QaN) ?_;(case hw=>rfl))
        | (refine Qa1 rfl ?_;refine Qai rfl rfl _ _ _ rfl wr.heap.size _ _ (ArC ⟨⟨Qb7 7 msg q,2,to,T,QaH⟩,gva,gvn,gvc⟩) (Blk.new wr _ (AvC av0)) rfl rfl 24 QaN (QbV _) (Qam av0) (QlR _) ?_;intro k1 hb1 ho1
           have c7':=hb1.cellD 7 (u:=.int .i64 T) rfl
           have c1':=hb1.cellD 1 (u:=W64 7) rfl
           have c5':=hb1.cellD 5 (u:=W8 2) rfl
           have JK:=(Qaa wr _).only ho1 (QGx _))
        | fail)
       exact⟨⟨j+1,T,hlt3,by go_num,rfl,hid (fun q' h1 h2=>hsr.out q' (by omega) h2),hid (fun q' h1=>hsr2.out q' (by omega)),L8.trans JK⟩,QDl _ _ hlt3⟩
      ·obtain rfl:j=N0+1:=by omega
       have LL:=L7.trans L8
       have hm1:(gs.map Arw.av).map (·.ar)=DS:=by
        rw[List.map_map]
        exact hgs.out
       have hLe:=hid (QoR A7 (N0+1) c7 (gs.map Arw.av) wr (QdO (d:=av0) Qam (by rw[QDq];exact QaB hoG L8) (by rw[QGr];exact hgl)) (fun x hx=>by
        obtain⟨g,hg,rfl⟩:=QG2.1 hx
        exact (show AwOk wr w6.heap.size g from QaF (hgo g hg) L8).av) (by omega))
       rw[hm1,p4.out]at hLe
       have hFd:=hid (fun w h=>Qtj A n c xs en 0 w h (by omega) hs')
       have hla:=hhi.out t ht
       have hfl:decide ((DS.getD t arr0).tk≤la)=true:=decide_eq_true hla
       have g4: ¬((N0+1:Nat):Int)<((N0+1:Nat):Int):=by omega
       generalize (DS.getD t arr0).tk=T at *
       have hto':=hto.out
       generalize QbA (QbX en 0) xs=FN at *
       obtain⟨FNn,FNe⟩:=FN
       simp only at hto' hFd
       have hNid:(NC FNn)[1]?=some (W64 to):=by rw[←hto'];rfl
       replace hNid:=hid hNid
       clear hm1 hgo hoG hrG hga p2 p3 p4 hgs hlo hhi hlt3 hla hto'
       go_wp2_with fail
       refine hLe.out.mono ?_
       clear hLe
       rintro e w8 ⟨v,ls,rfl,⟨bm,k5,f,K,S⟩,hls⟩
       obtain⟨y,rfl,hy'⟩:=QwS _ hls
       obtain⟨lt,va,vn,vc⟩:=y
       simp only at hy'
       subst hy'
       have htx:=S.txt _ (QHO.2 rfl)
       simp only at htx
       have hown:=S.own
       simp only[QHB,List.flatMap_nil,QGW,QIE]at hown
       have j8:=S.lat
       clear S hls
       rcases hown.2 with ⟨_,h⟩|⟨gL,cap,cur,rfl,_⟩
       ·omega
       have q0:w8.cell? ⟨gL,0,none⟩=some (W64 to):=hown.cells (g:=gL) rfl 0 _ rfl
       have q1:w8.cell? ⟨gL,1,none⟩=some (W64 7):=hown.cells (g:=gL) rfl 1 _ rfl
       have q2:w8.cell? ⟨gL,2,none⟩=some (.int .i64 T):=hown.cells (g:=gL) rfl 2 _ rfl
       have q3:w8.cell? ⟨gL,3,none⟩=some (.slice va vn vc):=hown.cells (g:=gL) rfl 3 _ rfl
       have hgL:gL<w8.heap.size:=(World.ownsRow.lt hown gL rfl).2
       go_wp2_with fail
       (refine (hFd.out _ (hx.later (LL.trans j8))).mono ?_);rintro e w9 ⟨rfl,j9⟩
       go_wp2_with (first
        | (refine Qa1 rfl ?_;refine Qai rfl rfl _ _ _ rfl w9.heap.size _ _ (NC FNn) (Blk.new w9 _ (NC nod0)) rfl rfl 66 (by kernel_rfl) (Qas _) (Qas _) (QuZ _) ?_;intro k1 hb1 ho1
           have JK:Later w9 k1:=(Qaa w9 _).only ho1 (QGx _))
        | fail)
       have JX:Later w8 k1.drew:=(j9.trans JK).trans (Qab _)
       have x0:=(JX.below.cell (p:=⟨gL,0,none⟩) hgL).trans q0
       have x1:=(JX.below.cell (p:=⟨gL,1,none⟩) hgL).trans q1
       have x3:=(JX.below.cell (p:=⟨gL,3,none⟩) hgL).trans q3
       have hgX:=QGN hgL JX.size
       have hbN:=hb1.drew
       have n1:=hbN.cellD 1 hNid.out
       have n2:=hbN.lt
       clear q0 q1 q3
       refine Qaf [([0,1,2,3,4,5,6,7,8,9,10,11,12,13,14,15,16,17,18,19,20,21,22,23,24],25)] [26,27,28,29,30,31,32,33,34,35] [] (by as_aux_lemma=>kernel_rfl) (by as_aux_lemma=>kernel_rfl) (by intro _ _ d _ _ h;cases d<;>exact h) ?_
       simp only[Qaj,pick,QGo,QGp,QGs,QGu,QGv]
       repeat (go_big_quiet_step (fail))
       refine wpQuiet_nil ?_
       go_wp2_with fail
       refine (Qwb va M vn nm vc cm msg msg k1.drew (htx.rd.later JX) (hM.later (LL.trans (j8.trans JX)))).mono ?_
       rintro e w10 ⟨rfl,rfl⟩
       rw[decide_eq_true (rfl:msg=msg)]
       have x2:=(JX.below.cell (p:=⟨gL,2,none⟩) hgL).trans q2
       go_wp2_with fail
       have jr:Later k1.drew k1.drew:=Later.refl _
       try refine⟨by first|assumption|exact Qab _|exact Qaa _ _|exact Later.refl _,?_⟩
       try simp only[Qaj,pick,QGo,QGp,QGs,QGu,QGv]
       repeat (go_big_quiet_step (fail))
       refine wpQuiet_nil ?_
       go_wp2_with fail
       go_ret
       exact⟨rfl,LL.trans (j8.trans JX)⟩
end Go.Proofs.YtdhgpkdjdmlphaaGreat
