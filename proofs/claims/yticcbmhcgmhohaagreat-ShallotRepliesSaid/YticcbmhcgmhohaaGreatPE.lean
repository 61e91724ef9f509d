/-
  Lemmas for the last text of this claim (part 5 of 20).
-/
import Derived.ArgAppend
import Derived.BigQuiet
import Derived.BigRegion
import Derived.ChangeOld
import Derived.Deep.RegionWith
import Derived.DeepKeys4
import Derived.JoinedCond
import Derived.LaidMore
import Derived.Laws.Append
import Derived.Laws.BytesArg
import Derived.Laws.CopyOwn
import Derived.Laws.Externs
import Derived.Laws.IdiomStrings
import Derived.Laws.Tables
import Derived.Lib.AppendStr
import Derived.Lib.AppendZerosOnto
import Derived.Lib.Mul64
import Derived.Lib.SlBytesConst
import Derived.LoopN
import Derived.Maps.OwnSet
import Derived.OpenShut
import Derived.OrdersHeld
import Derived.ProofKit
import Derived.Shelf.Spec.BitsCarry
import Derived.ShutString
import Derived.Test.YticcbmhcgmhohaaGreatProg
import Derived.Test.YticcbmhcgmhohaaGreatRows
import Derived.WalkKit
import Derived.WalkLawsBesides
import Derived.WalkSpells
import Derived.Test.YticcbmhcgmhohaaGreatPB
import Derived.Test.YticcbmhcgmhohaaGreatPD
open Bool renaming eq_iff_iff → QDw
open Int renaming natCast_mul → QEp, toNat_natCast → QEv
open List renaming replicate → QCC, getElem?_cons_succ → QCD, getElem?_cons_zero → QCE, length_map → QCF, nil_append → QCH, cons_append → QCI, getElem?_eq_getElem → QCJ, getD_eq_getElem?_getD → QCK, setIfInBounds_toArray → QCL, length_append → QCM, set_cons_zero → QCN, set_cons_succ → QCO, take_of_length_le → QCQ, getElem?_append_right → QCR, length_replicate → QCS, append_assoc → QCU, getElem?_eq_some_iff → QCV, getElem?_append_left → QCW, getElem?_map → QCY, map_nil → QC3, length_take → QC5, map_cons → QC9, take_append_drop → QDa, take_succ_eq_append_getElem → QDd, append_nil → QDf, map_replicate → QDi, eq_nil_of_length_eq_zero → QDk, take_append_of_le_length → QDo, length_cons → QDp, map_append → QDq, take_left' → QDx, drop_of_length_le → QDM, flatten_cons → QDU, getElem_mem → QD0, map_take → QD9, take_zero → QEw, drop_append → QET, ext_getElem → QEU, flatten_nil → QEV
open Nat renaming le_refl → QCP, lt_of_lt_of_le → QCX, zero_add → QC4, mod_lt → QC8, le_trans → QDm, mul_comm → QDD, sub_self → QDL, le_mul_of_pos_right → QDO, add_sub_cancel_left → QEk, sub_zero → QE0
open Option renaming toList_some → QCG, map_some → QEd
open UInt8 renaming ofInt → QDh
set_option linter.all false
namespace Go.Proofs.YticcbmhcgmhohaaGreat
open Go.RowKit
theorem QsG {w:World} {base:Nat} {e:TypeId} {A:Option Addr} {n c:Nat} {vs:List Value} (h:w.ownsRow base e 1 (.slice A n c) n vs):
 (A=none∧n=0)∨∃g rest,A=some ⟨g,0,none⟩∧base≤g∧Blk w g e (vs++rest)∧c=(vs++rest).length:=by
 rcases h.2 with ⟨hv,h0⟩|⟨g,cap,cur,hv,hb,hh,hnc,hm,hs,ht⟩
 ·cases hv
  exact .inl ⟨rfl,rfl⟩
 ·cases hv
  refine .inr ⟨g,cur.toList.drop n,rfl,hb,?_,?_⟩
  ·rw[show vs=cur.toList.take n by simpa using ht.symm,QDa]
   exact hh
  ·rw[show vs=cur.toList.take n by simpa using ht.symm,QDa]
   simpa using hs.symm
theorem Qwj {w:World} {base g:Nat} {e:TypeId} {vs rest:List Value} (h:Blk w g e (vs++rest)) (hb:base≤g) (hm:(vs++rest).length≤maxLen):
 w.ownsRow base e 1 (.slice (some ⟨g,0,none⟩) vs.length (vs++rest).length) vs.length vs:=
 ⟨by simp,.inr ⟨g,(vs++rest).length,(vs++rest).toArray,rfl,hb,h,by simp,hm,by simp,by simp⟩⟩
theorem Qhw {w w':World} {base k:Nat} {e:TypeId} {v:Value} {n:Nat} {vs:List Value} (h:w.ownsRow base e 1 v n vs) (ho:Only k w w') (hne:∀b,v.ownBlock=some b→b≠k):w'.ownsRow base e 1 v n vs:=by
 refine h.kept ho ?_
 cases hb:v.ownBlock with
 | none=>exact .inl rfl
 | some b=>exact .inr fun he=>hne b hb (by injection he)
theorem QiB {w w':World} {base g:Nat} {e t:TypeId} {v:Value} {n:Nat} {vs l:List Value} (hb:Blk w g t l) (h:w.ownsRow base e 1 v n vs) (hne:t≠e) (hg:w.grownBy w' v.ownBlock):Blk w' g t l:=by
 refine (hg.block g hb.lt ?_).trans hb
 rcases h.2 with ⟨rfl,_⟩|⟨g2,c2,cur2,rfl,_,hh2,_⟩
 ·simp[Value.ownBlock]
 ·intro he
  simp only[Value.ownBlock,Option.some.injEq]at he
  subst he
  exact hb.ne_type (l':=cur2.toList) (t':=e) hh2 hne rfl
theorem QlV {w:World} {base:Nat} {e:TypeId} {v:Value} {n:Nat} {vs:List Value} (h:w.ownsRow base e 1 v n vs):∀b,v.ownBlock=some b→b<w.heap.size:=fun b hb=>(h.lt b hb).2
theorem Qun {w:World} {base g:Nat} {A:Option Addr} {n c:Nat} {p:List UInt8} (h:OwnB w base A n c p) (hg:g<base):Part w (· =g) (.slice A n c) p:=
 ⟨A,n,c,rfl,h.cap,h.rd,fun _ ad hA hb=>by subst hA;have:=(h.lt ad.block rfl).1;omega⟩
theorem Qef {w:World} {bad:Nat→Prop} {A:Option Addr} {n:Nat} {vs:List Value} {ps:List (List UInt8)} (h:Rd w A n vs) (hv:Avoid bad A n) (hp:PartAll w bad vs ps):Parts w bad A n ps:=
 ⟨vs,h,hv,hp.at_.1,hp.at_.2⟩
theorem QuQ {bad:Nat→Prop} {b o n:Nat} (h: ¬bad b):Avoid bad (some ⟨b,o,none⟩) n:=fun _ ad hA hb=>by cases hA;exact h hb
abbrev Y32:={l:List UInt8 // l.length=32}
@[go_sem high] theorem Qxe (x y:Y32) (w:World):(binOp .eql 25 (.agg (x.val.map W8).toArray) (.agg (y.val.map W8).toArray)).run Tryz.prog w= .ok (.bool (x.val==y.val)) w:=QhT _ _ x.2 y.2 w
@[go_sem high] theorem Qxo (x y:Y32) (w:World):(binOp .neq 25 (.agg (x.val.map W8).toArray) (.agg (y.val.map W8).toArray)).run Tryz.prog w= .ok (.bool (x.val != y.val)) w:=Qiu _ _ x.2 y.2 w
theorem Qzi {G:List UInt8} (h:G.length=32):∃g:Y32,g.val=G:=⟨⟨G,h⟩,rfl⟩
theorem Qys:(467:TypeId)≠5:=by decide
theorem HashAt.grown {w w':World} {g base:Nat} {rest:List Value} {bs:List UInt8} {v:Value} {n:Nat} {vs:List Value} (h:HashAt w g 467 rest bs) (hown:w.ownsRow base 5 1 v n vs) (hg:w.grownBy w' v.ownBlock):HashAt w' g 467 rest bs:=by
 obtain⟨st,op,h1,h2⟩:=h
 exact⟨st,op,h1,QiB h2 hown Qys hg⟩
theorem QbK (q:List UInt8):[q].flatten=q:=by simp
theorem Qsj {w:World} {base:Nat} {A:Option Addr} {n m c:Nat} {bs xs ys:List UInt8} (h:w.ownsRow base 5 1 (.slice A n c) n (xs.map W8++ys.map W8)) (hb:xs++ys=bs) (hn:n=m):OwnB w base A m c bs:=by
 subst hb
 subst hn
 rw[←QDq]at h
 exact h
def strB (s:ByteArray):List UInt8:=s.data.toList
theorem Qir (s:ByteArray):(strB s).length=s.size:=by simp[strB]
section
variable {P:Program} {ops:Array Oper} {rest:List Oper} {o:Oper} {a:Act} {w:World} {Q:Exit→Act→World→Prop}
theorem Qgv (hgd:o.guard=none) (src dst:TypeId) (x:Operand) (ho:o.op= .convert src dst x) (e:TypeId) (hs:P.underlying src=some .string) (hd:P.underlying dst=some (.slice e)) (he:P.underlying e=some (.int .u8))
 (s:ByteArray) (hx:a.eval x= .string s)
 (h:∀c w',Later w w'→RdB w' (some ⟨w.heap.size,0,none⟩) s.size (strB s)→s.size≤c→w.heap.size<w'.heap.size→wpList P ops Q rest (a.put o.dst (.slice (some ⟨w.heap.size,0,none⟩) s.size c)) w'):wpList P ops Q (o :: rest) a w:=
 wpList_plain hgd fun K hK=>by
  have hr:=run_bytes_of_string (P:=P) w src dst e s hs hd he
  unfold Oper.wp execOp
  simp only[ho,hx,Sem.run_bind,hr,Result.andThen_ok,Sem.run_pure]
  refine hK _ _ (h _ _ ((Qab w).alloc _) ⟨by simp[strB],fun _=>⟨_,_,rfl,by simp,fun j u hu=>?_⟩⟩ (grownCap_ge w s.size 0 e) (by simp))
  rw[QC4]
  have hu':(s.data.toList.map W8)[j]?=some u:=hu
  have hj:j<s.data.size:=by have:=(QCV.1 hu').1;simpa using this
  have hc:(bytesRow s (grownCap w s.size 0 e))[j]?=some u:=by
   unfold bytesRow
   rw[Array.getElem?_append_left (by simpa using hj),Array.getElem?_map]
   rw[QCY,Array.getElem?_toList]at hu'
   exact hu'
  generalize bytesRow s (grownCap w s.size 0 e)=C at *
  unfold World.cell?
  have hb:(w.drew.alloc (.cells C e (C.size,C.size+1))).heap[w.heap.size]?=some (.cells C e (C.size,C.size+1)):=by
   show (w.heap.push _)[w.heap.size]?=_
   simp
  rw[hb]
  exact hc
end
def Qo1 (key:List UInt8):List UInt8:=if 64<key.length then QdZ key else key
def QbA (key:List UInt8):List UInt8:=Qo1 key++QCC (64-(Qo1 key).length) 0
theorem QkS (key:List UInt8):(Qo1 key).length≤64:=by
 unfold Qo1
 split
 ·rw[Qcl];omega
 ·omega
theorem QcO (key:List UInt8):(QbA key).length=64:=by
 have:=QkS key
 simp[QbA]
 omega
def QdB (k:List UInt8) (m:UInt8):List UInt8:=k.map (· ^^^ m)
theorem Qdc (k:List UInt8) (m:UInt8):(QdB k m).length=k.length:=by simp[QdB]
def Qqt (key bs:List UInt8):List UInt8:=QdZ (QdB (QbA key) 54++bs)
def QbF (key bs:List UInt8):List UInt8:=QdZ (QdB (QbA key) 92++Qqt key bs)
theorem QaK (key bs:List UInt8):(QbF key bs).length=32:=Qcl _
theorem Qrx (A B:Option Addr) (n m c d:Nat) (xs ys:List UInt8) (w:World) (hx:RdB w A n xs) (hy:RdB w B m ys) (hn:n≤140737488355328) (hm:m≤140737488355328):
 Calls Tryz.prog 355 #[.slice A n c,.slice B m d] w fun e w'=>∃k,e= .returned (.tuple #[.bool (decide (xs=ys)),.int .i64 k])∧Later w w':=by
 have lx:=hx.len
 have ly:=hy.len
 by_cases hnm:n=m
 ·subst hnm
  have hr:∀x:UInt8,(x=0↔xs=ys)→decide (xs=ys)=(x==0):=by
   intro x hb
   rw[QDw,decide_eq_true_iff,beq_iff_eq]
   exact hb.symm
  have HR:=hid hr
  clear hr
  generalize decide (xs=ys)=R at *
  go_enter Tryz.func355,Tryz.ntmps355
  go_wp2
  go_loopw [6,7,16] (fun v6 v7 i wr=>∃(k:Nat) (x:UInt8),k≤n∧i= .int .i64 k∧v7= .int .i64 k∧v6=W8 x∧Later w wr∧Hid (x=0↔∀j,j<k→xs.getD j 0=ys.getD j 0)) (fun _ _ i _=>n-(intOf i).toNat)
  case atStart=>exact⟨0,0,by omega,rfl,rfl,rfl,Later.refl w,hid ⟨fun _ j hj=>absurd hj (by omega),fun _=>rfl⟩⟩
  case round=>
   obtain⟨k,x,hk,rfl,rfl,rfl,hl,he⟩:=hrel
   by_cases hlt:k<n
   ·obtain⟨b1,o1,rfl,hb1,hc1⟩:=hx.at_ (by omega)
    obtain⟨b2,o2,rfl,hb2,hc2⟩:=hy.at_ (by omega)
    have c1:wr.cell? ⟨b1,o1+k,none⟩=some (W8 (xs.getD k 0)):=(hl.below.cell (p:=⟨b1,o1+k,none⟩) hb1).trans (hc1 k hlt)
    have c2:wr.cell? ⟨b2,o2+k,none⟩=some (W8 (ys.getD k 0)):=(hl.below.cell (p:=⟨b2,o2+k,none⟩) hb2).trans (hc2 k hlt)
    clear hc1 hc2 hx hy
    generalize hX:xs.getD k 0=X at *
    generalize hY:ys.getD k 0=Y at *
    have HX:=hid hX
    have HY:=hid hY
    clear hX hY
    go_wp2
    refine Qag [] [0,1,2,3,4,5,6,7,8,9,10,11] [] (by as_aux_lemma=>kernel_rfl) (by as_aux_lemma=>kernel_rfl) (by intro _ _ d _ _ h;cases d<;>exact h) ?_
    simp only[Qah,pick,QCD,QCE,QCG,QCI,QCH]
    repeat (go_big_quiet_step (fail))
    refine wpQuiet_nil ?_
    go_wp2
    refine⟨⟨k+1,x ||| (X ^^^ Y),by omega,by go_num,by go_num,rfl,hl.drew,hid ?_⟩,by simp only[intOf];omega⟩
    have e:∀a b c:UInt8,(a ||| (b ^^^ c))=0↔a=0∧b=c:=by
     intro a b c
     rw[UInt8.or_eq_zero_iff,UInt8.xor_eq_zero_iff]
    rw[e,he.out]
    constructor
    ·rintro⟨h1,h2⟩ j hj
     by_cases hjk:j=k
     ·subst hjk
      rw[HX.out,HY.out,h2]
     ·exact h1 j (by omega)
    ·intro h
     exact⟨fun j hj=>h j (by omega),by rw[←HX.out,←HY.out];exact h k (by omega)⟩
   ·go_wp2
    go_ret2
    have hR:R=(x==0):=by
     refine HR.out x (he.out.trans ⟨fun h=>?_,fun h=>?_⟩)
     ·apply QEU (by omega)
      intro j h1 h2
      have:=h j (by omega)
      rw[QCK,QCK,QCJ h1,QCJ h2]at this
      exact this
     ·intro j _
      rw[h]
    refine⟨k,?_,hl⟩
    rw[hR]
    rfl
 ·have hne:((n:Int) != (m:Int))=true:=by simp;omega
  have hf:decide (xs=ys)=false:=decide_eq_false (fun h=>hnm (by rw[←lx,←ly,h]))
  have HF:=hid hf
  clear hf
  generalize decide (xs=ys)=R at *
  go_enter Tryz.func355,Tryz.ntmps355
  go_wp2
  go_ret2
  exact⟨0,by rw[HF.out];rfl,Later.refl w⟩
theorem Qva (A B:Option Addr) (n m c d:Nat) (xs ys:List UInt8) (w:World) (hx:RdB w A n xs) (hy:RdB w B m ys) (hn:n≤140737488355328) (hm:m≤140737488355328):
 Calls Tryz.prog 327 #[.slice A n c,.slice B m d] w fun e w'=>e= .returned (.bool (decide (xs=ys)))∧Later w w':=by
 have h:=hid (Qrx A B n m c d xs ys w hx hy hn hm)
 generalize decide (xs=ys)=R at *
 go_enter Tryz.func327,Tryz.ntmps327
 go_wp2_with (first|(go_at_call 355;refine h.out.mono ?_;rintro e w1 ⟨k,rfl,hl⟩))
 go_ret
 exact⟨rfl,hl⟩
theorem QjI (l:List UInt8) (h:l.length≤64):Qao (QCC 64 (W8 0)) 0 ((l.map W8).take 64)=(l++QCC (64-l.length) 0).map W8:=by
 rw[QCQ (by simpa using h),Qao]
 simp only[QEw,QCH,QCF,QC4,List.drop_replicate,QDq,QDi]
set_option maxRecDepth 100000 in
set_option maxHeartbeats 1000000 in
theorem QsR (A:Option Addr) (n c:Nat) (key:List UInt8) (w:World) (hx:RdB w A n key) (hc:n≤c) (hn:n≤140737488355328):
 Calls Tryz.prog 318 #[.slice A n c] w fun e w'=>e= .returned (.agg ((QbA key).map W8).toArray)∧Later w w':=by
 have hl:=hx.len
 have hkl:=QcO key
 by_cases h64:64<n
 ·have hk:QbA key=QdZ key++QCC (64-(QdZ key).length) 0:=by rw[QbA,Qo1,if_pos (by omega)]
  have hG:=Qcl key
  have hs:=fun A n c w hx=>QoR A n c [key] w hx
  rw[QbK]at hs
  generalize QdZ key=G at *
  generalize QbA key=K at *
  have HS:=hid hs
  have HK:=hid hk
  clear hs hk
  go_enter Tryz.func318,Tryz.ntmps318
  go_wp2_with (first
   | (go_at_call 322;refine (HS.out (some ⟨w.heap.size+2,0,none⟩) 1 1 _ ?hx (by omega) (by omega)).mono ?_
      (case hx=>exact QdM ((Blk.new' _ 22 [.slice A n c] (by simp)).rd rfl) ⟨Qdy (hx.later (((Qaa _ _).alloc _).alloc _)) hc,trivial⟩)
      rintro e w1 ⟨rfl,hl1⟩)
   | (refine Qaf rfl rfl 25 _ _ rfl w1.heap.size 0 25 (QCC 32 (W8 0)) (G.map W8) ?b ?hx ?hy ?hi ?hf ?h1 ?_;(case hx=>rfl);(case hy=>rfl);(case hi=>rw[QCF,hG];kernel_rfl);(case hf=>simp[hG]);(case h1=>exact QaH _);(case b=>exact Blk.new _ _ _);intro w2 hb2 ho2
      rw[Qak _ _ (by simp[hG])]at hb2))
  have z1:w.heap.size+3≤w1.heap.size:=by have:=hl1.size;simp at this;omega
  have hB2:Blk w2 w.heap.size 465 (QCC 64 (W8 0)):=(((Blk.new w _ _).later (((Qaa _ _).alloc _).trans hl1)).later (Qaa _ _)).only ho2 (by omega)
  have hB3:Blk w2 (w.heap.size+1) 465 (QCC 64 (W8 0)):=(((Blk.new' _ _ (QCC 64 (W8 0)) (by simp)).later ((Qaa _ _).trans hl1)).later (Qaa _ _)).only ho2 (by omega)
  have hL2:Later w w2:=(((((Qaa w _).alloc _).alloc _).trans hl1).alloc _).only ho2 (by omega)
  refine Qag [] [0,1] [2] (by as_aux_lemma=>kernel_rfl) (by as_aux_lemma=>kernel_rfl) (by intro _ _ d _ _ h;cases d<;>exact h) ?_
  simp only[Qah,pick,QCD,QCE,QCG,QCI,QCH]
  repeat (go_big_quiet_step (fail))
  refine wpQuiet_nil ?_
  go_wp2_with (first
   | (refine Qas rfl _ _ _ _ rfl 5 Tryz.underlying22 Qbt (w.heap.size+1) 0 64 64 465 (QCC 64 (W8 0)) (hB3.later (Qab _)) (some ⟨w1.heap.size,0,none⟩) 32 32 (G.map W8) ((hb2.later (Qab _)).rd (by simp[hG])) (QaH _) rfl rfl (by simp) ?_;intro w4 hb4 ho4
      rw[QjI G (by omega),←HK.out]at hb4
      have hB4:=(hB2.later (Qab _)).only ho4 (by omega)
      have hL4:=(hL2.drew).only ho4 (by omega))
   | (refine QaD rfl 465 _ rfl (w.heap.size+1) 0 (K.map W8) ?hc ?hx _ Tryz.underlying465 rfl ?hi ?_;(case hx=>rfl);(case hi=>rw[QCF,hkl];kernel_rfl);(case hc=>intro j v hv;rw[QC4];exact hb4.cellD j hv))
   | (refine Qaf rfl rfl 465 _ _ rfl w.heap.size 0 465 (QCC 64 (W8 0)) (K.map W8) ?b ?hx ?hy ?hi ?hf ?h1 ?_;(case hx=>rfl);(case hy=>rfl);(case hi=>rw[QCF,hkl];kernel_rfl);(case hf=>simp[hkl]);(case h1=>exact QaH _);(case b=>exact hB4);intro w9 hb9 ho9))
  rw[Qak _ _ (by simp[hkl])]at hb9
  exact bodyPost_ret (QaR rfl _ _ _ _ (K.map W8) _ hb9 rfl Tryz.underlying465 rfl (by rw[QCF,hkl];kernel_rfl)) rfl ⟨rfl,hL4.only ho9 (QCP _)⟩
 ·have hk:QbA key=key++QCC (64-key.length) 0:=by rw[QbA,Qo1,if_neg (by omega)]
  generalize QbA key=K at *
  have HK:=hid hk
  clear hk
  go_enter Tryz.func318,Tryz.ntmps318
  go_wp2_with (first
   | (refine Qas rfl _ _ _ _ rfl 5 Tryz.underlying22 Qbt (w.heap.size+1) 0 64 64 465 (QCC 64 (W8 0)) (Blk.new' _ _ _ (by simp)) A n c (key.map W8) (RdB.later hx ((Qaa _ _).alloc _)) (QaH _) rfl rfl (by simp) ?_;intro w4 hb4 ho4
      rw[QjI key (by omega),←HK.out]at hb4
      have hB4:Blk w4 w.heap.size 465 (QCC 64 (W8 0)):=((Blk.new w _ _).later (Qaa _ _)).only ho4 (by omega)
      have hL4:Later w w4:=((Qaa w _).alloc _).only ho4 (by omega))
   | (refine QaD rfl 465 _ rfl (w.heap.size+1) 0 (K.map W8) ?hc ?hx _ Tryz.underlying465 rfl ?hi ?_;(case hx=>rfl);(case hi=>rw[QCF,hkl];kernel_rfl);(case hc=>intro j v hv;rw[QC4];exact hb4.cellD j hv))
   | (refine Qaf rfl rfl 465 _ _ rfl w.heap.size 0 465 (QCC 64 (W8 0)) (K.map W8) ?b ?hx ?hy ?hi ?hf ?h1 ?_;(case hx=>rfl);(case hy=>rfl);(case hi=>rw[QCF,hkl];kernel_rfl);(case hf=>simp[hkl]);(case h1=>exact QaH _);(case b=>exact hB4);intro w9 hb9 ho9))
  rw[Qak _ _ (by simp[hkl])]at hb9
  exact bodyPost_ret (QaR rfl _ _ _ _ (K.map W8) _ hb9 rfl Tryz.underlying465 rfl (by rw[QCF,hkl];kernel_rfl)) rfl ⟨rfl,hL4.only ho9 (QCP _)⟩
set_option maxRecDepth 100000 in
set_option maxHeartbeats 1000000 in
theorem Qi9 (k:List UInt8) (m:UInt8) (w:World) (hk:k.length=64):
 Calls Tryz.prog 319 #[.agg (k.map W8).toArray,W8 m] w fun e w'=>∃A c,e= .returned (.slice A 64 c)∧OwnB w' w.heap.size A 64 c (QdB k m)∧Later w w':=by
 have hml:=Qdc k m
 rw[hk]at hml
 have hg:∀j (hj:j<64),(k.map W8)[j]?=some (W8 (k.getD j 0))∧(QdB k m)[j]?=some (k.getD j 0 ^^^ m):=by
  intro j hj
  rw[QCK,QCY,QdB,QCY,QCJ (by omega)]
  exact⟨rfl,rfl⟩
 generalize QdB k m=M at *
 have hkm:(k.map W8).length=64:=by simpa using hk
 have h1:=QaH k
 have HG:=hid hg
 clear hg
 generalize hkv:k.map W8=kv at *
 clear hkv
 go_enter Tryz.func319,Tryz.ntmps319
 go_wp2_with (first
  | (refine QaF rfl _ _ _ rfl 5 _ 1 Tryz.underlying22 Qdo rfl _ _ _ _ 64 rfl rfl ?hL ?hC (by omega) (by omega) ?_;(case hL=>rfl);(case hC=>rfl);intro w1 hb1 hl1)
  | (refine QaD rfl 465 _ rfl w.heap.size 0 kv ?hc ?hx _ Tryz.underlying465 rfl ?hi ?_;(case hx=>rfl);(case hi=>rw[hkm];kernel_rfl);(case hc=>intro j v hv;rw[QC4];exact ((Blk.new w _ _).later hl1).cellD j hv)))
 have hfz:Qh3 M 64 0=QCC 64 0:=rfl
 have hb1':Blk w1 (w.heap.size+1) 5 ((Qh3 M 64 0).map W8):=by
  rw[hfz,QDi]
  have hb:=hb1
  simp only[World.size_alloc]at hb
  exact hb
 have hl1':Later w w1:=(Qaa _ _).trans hl1
 clear hb1 hl1 hfz
 go_loopw [10] (fun i wr=>∃j:Nat,j≤64∧i= .int .i64 j∧Later w wr∧Blk wr (w.heap.size+1) 5 ((Qh3 M 64 j).map W8)) (fun i _=>64-(intOf i).toNat)
 case atStart=>exact⟨0,by omega,rfl,hl1',hb1'⟩
 case round=>
  clear hb1' hl1'
  obtain⟨j,hj,rfl,hl,hb⟩:=hrel
  by_cases hlt:j<64
  ·obtain⟨e1,e2⟩:=HG.out j hlt
   have hfl:=Qlo M 64 j hml hj
   have HST:=hid (Qo0 M 64 j _ hml hlt e2)
   clear e2
   generalize k.getD j 0=x at *
   have hix:∀W',(Instr.index 465 (.agg kv.toArray) (.int .i64 (j:Int))).run Tryz.prog W'= .ok (W8 x) W':=fun W'=>QeE Tryz.underlying465 Qbt Tryz.underlying5 rfl kv .i64 j (W8 x) hlt e1 W'
   go_wp2_with (first
    | (refine Qad rfl rfl _ _ _ rfl _ _ _ _ hb rfl ?hl rfl (by kernel_rfl) ?_;(case hl=>rw[QCF,hfl];omega);intro v' w5 hv' hb5 ho5;simp[go_sem]at hv';subst hv'))
   go_roundw
   case rel=>
    refine⟨j+1,by omega,by go_num,hl.only ho5 (by omega),?_⟩
    rw[←HST.out,←Qci]
    exact hb5
   case measure=>simp only[intOf];omega
  ·have hj':j=64:=by omega
   rw[hj',Qra M 64 hml]at hb
   go_wp2
   go_ret
   refine⟨_,_,rfl,?_,hl⟩
   have:=Qdt hb (show w.heap.size≤w.heap.size+1 by omega) (by simp[hml])
   rwa [QCF,hml]at this
theorem QAc:Tryz.zeroCells469=(Qbm QfF (QCC 64 0) 0++QCC 64 (W8 0)).toArray:=by kernel_rfl
theorem QpS (l z v:List Value) (n:Nat) (hl:l.length=n) (hz:z.length=v.length):Qao (l++z) n v=l++v:=by
 subst hl
 rw[Qao,QDx,QDM (by simp[hz]),QDf]
 rfl
theorem Qvv (K:List UInt8) (hK:K.length=64):List.foldl (fun (cs:Array Value) (x:Value×Nat)=>cs.setIfInBounds (73+x.snd) x.fst) Tryz.zeroCells469 (K.map W8).zipIdx=(Qbm QfF (QCC 64 0) 0++K.map W8).toArray:=by
 have hl:=Qcj QfF (QCC 64 0) 0 (by simp)
 have hk:(K.map W8).length=64:=by simpa using hK
 rw[QAc]
 have h:=QeV (K.map W8) 0 73 (Qbm QfF (QCC 64 0) 0++QCC 64 (W8 0)) (by rw[QCM,hl,hk];simp)
 rcases h with h|h
 ·rw[QpS _ _ _ 73 hl (by rw[hk];simp)]at h
  exact h
 ·omega
def TagAt (w:World) (g:Nat) (key bs:List UInt8):Prop:=HashAt w g 469 ((QbA key).map W8) (QdB (QbA key) 54++bs)
theorem HashAt.restD {w:World} {g:Nat} {t:TypeId} {rest:List Value} {bs:List UInt8} (h:HashAt w g t rest bs):∀(j:Nat) v,rest[j]?=some v→w.cell? ⟨g,73+j,none⟩=some v:=by
 obtain⟨st,op,h1,h2⟩:=h
 intro j v hv
 refine h2.cellD (73+j) ?_
 have hl:=Qcj st op bs.length h1.len
 rw[QCR (by omega),hl,QEk]
 exact hv
set_option maxRecDepth 100000 in
set_option maxHeartbeats 1000000 in
theorem Qj4 (A:Option Addr) (n c:Nat) (key:List UInt8) (w:World) (hx:RdB w A n key) (hc:n≤c) (hn:n≤140737488355328):
 Calls Tryz.prog 258 #[.slice A n c] w fun e w'=>∃g,e= .returned (.pointer (some ⟨g,0,none⟩))∧w.heap.size≤g∧TagAt w' g key []∧Later w w':=by
 have hb:=QsR A n c key w hx hc hn
 have hkl:=QcO key
 unfold TagAt
 rw[QDf]
 generalize QbA key=K at *
 have HB:=hid hb
 clear hb
 have hkm:(K.map W8).length=64:=by simpa using hkl
 go_enter Tryz.func258,Tryz.ntmps258
 go_wp2_with (first
  | (go_at_call 318;refine HB.out.mono ?_;rintro e w1 ⟨rfl,hl1⟩))
 rw[Qvv K hkl]
 have hH0:HashAt (w1.alloc (.cells (Qbm QfF (QCC 64 0) 0++K.map W8).toArray 469)) w1.heap.size 469 (K.map W8) []:=⟨QfF,QCC 64 0,Qrz,Blk.new _ _ _⟩
 generalize hC:Qbm QfF (QCC 64 0) 0++K.map W8=C at *
 clear hC
 have L0:=hl1.alloc (.cells C.toArray 469)
 have hz:=hl1.size
 have hlt0:=hH0.lt
 generalize hW:w1.alloc (.cells C.toArray 469)=W at *
 clear hW
 generalize w1.heap.size=g at *
 have hH1:=hH0.later (Qab _)
 refine Qag [([0,1,2,3,4,5,6],7),([],8)] [] [9] (by as_aux_lemma=>kernel_rfl) (by as_aux_lemma=>kernel_rfl) (by intro _ _ d _ _ h;cases d<;>exact h) ?_
 simp only[Qah,pick,QCD,QCE,QCG,QCI,QCH]
 repeat (first|go_big_quiet_skip|(go_big_quiet_want;refine Qav 465 _ rfl g 73 (K.map W8) ?hc ?hx _ Tryz.underlying465 rfl ?hi ?_;(case hx=>rfl);(case hi=>rw[hkm];kernel_rfl);(case hc=>rintro w' ⟨x,rfl⟩;exact (hH1.later ⟨x,rfl⟩).restD);simp only[Act.put,QCL,QCO,QCN];go_big_quiet_on)|(go_big_quiet_step (fail)))
 refine wpQuiet_nil ?_
 go_wp2_with (go_at_call 319;refine (Qi9 K 54 _ hkl).mono ?_;rintro e w2 ⟨A2,c2,rfl,hown2,hl2⟩)
 try refine⟨by first|assumption|exact Qab _|exact Qaa _ _|exact Later.refl _,?_⟩
 try simp only[Qah,pick,QCD,QCE,QCG,QCI,QCH]
 repeat (go_big_quiet_step (fail))
 refine wpQuiet_nil ?_
 go_wp2
 try refine⟨by first|assumption|exact Qab _|exact Qaa _ _|exact Later.refl _,?_⟩
 try simp only[Qah,pick,QCD,QCE,QCG,QCI,QCH]
 repeat (go_big_quiet_step (fail))
 refine wpQuiet_nil ?_
 have hone:[QdB K 54].flatten=QdB K 54:=by simp
 have hml:=Qdc K 54
 have HO:=hid hone
 clear hone
 generalize hM:QdB K 54=M at *
 have HM:=hid hM
 clear hM
 go_wp2_with (first
  | (go_at_call 259;refine (Qh6 g 469 (K.map W8) [] (some ⟨w2.heap.size,0,none⟩) 1 1 [M] _ ?hh ?hx (by omega) (by rw[HO.out];simp;omega)).mono ?_
     (case hh=>exact (hH1.later hl2).later (Qaa _ _))
     (case hx=>exact Qef ((Blk.new w2 22 [.slice A2 64 c2]).rd rfl) (QuQ (by have:=hl2.size;simp at this;omega)) ⟨Qun (hown2.later (Qaa _ _)) (by simpa using hlt0),trivial⟩)
     rintro e w3 ⟨rfl,hh3,ho3⟩
     rw[HO.out,QCH]at hh3))
 go_ret
 exact⟨g,rfl,hz,by rw[HM.out];exact hh3,(((L0.trans (Qab _)).trans hl2).alloc _).only ho3 hz⟩
theorem Qtj (key bs:List UInt8):QbF key bs=QdZ [QdB (QbA key) 92,Qqt key bs].flatten:=by simp[QbF]
set_option maxRecDepth 100000 in
set_option maxHeartbeats 1000000 in
theorem Qp1 (g:Nat) (key bs:List UInt8) (w:World) (hh:TagAt w g key bs) (hlen:bs.length≤2305843009213693000):
 Calls Tryz.prog 260 #[.pointer (some ⟨g,0,none⟩)] w fun e w'=>e= .returned (.agg ((QbF key bs).map W8).toArray)∧Later w w':=by
 have hkl:=QcO key
 have hml:=Qdc (QbA key) 54
 unfold TagAt at hh
 have hs:=fun g t rest w hh=>QoV g t rest (QdB (QbA key) 54++bs) w hh (by rw[QCM,hml,hkl];omega)
 have hin:=Qcl (QdB (QbA key) 54++bs)
 have hT:=QaK key bs
 have hsum:=fun A n c w hx=>QoR A n c [QdB (QbA key) 92,Qqt key bs] w hx
 rw[←Qtj]at hsum
 generalize QbF key bs=T at *
 have hmk:(QdB (QbA key) 92).length=64:=by rw[Qdc,hkl]
 have hmi:=QcO key
 have hf:[QdB (QbA key) 92,Qqt key bs].flatten.length=96:=by simp[hmk,Qqt,Qcl]
 unfold Qqt at *
 generalize QdZ (QdB (QbA key) 54++bs)=I at *
 generalize QdB (QbA key) 54++bs=X at *
 have hmm:=fun w=>Qi9 (QbA key) 92 w hkl
 generalize QdB (QbA key) 92=M at *
 generalize QbA key=K at *
 have HS:=hid hs
 have HSUM:=hid hsum
 have HF:=hid hf
 have HMM:=hid hmm
 clear hs hsum hf hmm
 have hkm:(K.map W8).length=64:=by simpa using hkl
 go_enter Tryz.func260,Tryz.ntmps260
 go_wp2_with (first
  | (go_at_call 321;refine (HS.out g 469 (K.map W8) _ (hh.later (Qaa _ _))).mono ?_;rintro e w1 ⟨rfl,hl1⟩)
  | (refine Qaf rfl rfl 25 _ _ rfl w1.heap.size 0 25 (QCC 32 (W8 0)) (I.map W8) ?b ?hx ?hy ?hi ?hf ?h1 ?_;(case hx=>rfl);(case hy=>rfl);(case hi=>rw[QCF,hin];kernel_rfl);(case hf=>simp[hin]);(case h1=>exact QaH _);(case b=>exact Blk.new _ _ _);intro w2 hb2 ho2
     rw[Qak _ _ (by simp[hin])]at hb2))
 have z1:w.heap.size+1≤w1.heap.size:=by have:=hl1.size;simpa using this
 have hh2:=(((hh.later (Qaa _ _)).later hl1).later (Qaa _ _)).only ho2 (by have:=hh.lt;omega)
 have hR2:Blk w2 w.heap.size 25 (QCC 32 (W8 0)):=(((Blk.new w _ _).later hl1).later (Qaa _ _)).only ho2 (by omega)
 have hL2:Later w w2:=(((Qaa w _).trans hl1).alloc _).only ho2 (by omega)
 clear hl1 ho2 hh
 generalize w1.heap.size=g1 at *
 have hh3:=hh2.later (Qab _)
 refine Qag [([0,1,2,3,5],4)] [] [6,7,8] (by as_aux_lemma=>kernel_rfl) (by as_aux_lemma=>kernel_rfl) (by intro _ _ d _ _ h;cases d<;>exact h) ?_
 simp only[Qah,pick,QCD,QCE,QCG,QCI,QCH]
 repeat (first|go_big_quiet_skip|(go_big_quiet_want;refine Qav 465 _ rfl g 73 (K.map W8) ?hc ?hx _ Tryz.underlying465 rfl ?hi ?_;(case hx=>rfl);(case hi=>rw[hkm];kernel_rfl);(case hc=>rintro w' ⟨x,rfl⟩;exact (hh3.later ⟨x,rfl⟩).restD);simp only[Act.put,QCL,QCO,QCN];go_big_quiet_on)|(go_big_quiet_step (fail)))
 refine wpQuiet_nil ?_
 go_wp2_with (go_at_call 319;refine (HMM.out _).mono ?_;rintro e w3 ⟨A3,c3,rfl,hown3,hl3⟩)
 try refine⟨by first|assumption|exact Qab _|exact Qaa _ _|exact Later.refl _,?_⟩
 try simp only[Qah,pick,QCD,QCE,QCG,QCI,QCH]
 repeat (go_big_quiet_step (fail))
 refine wpQuiet_nil ?_
 have hb3:=(hb2.later (Qab _)).later hl3
 have hR3:=(hR2.later (Qab _)).later hl3
 have hL3:=(hL2.drew).trans hl3
 go_wp2_with (first
  | (go_at_call 322;refine (HSUM.out (some ⟨w3.heap.size,0,none⟩) 2 2 _ ?hx (by omega) (by rw[HF.out];omega)).mono ?_
     (case hx=>exact QdM ((Blk.new w3 22 [.slice A3 64 c3,.slice (some ⟨g1,0,none⟩) 32 32]).rd rfl) ⟨Qdy (RdB.later hown3.rd (Qaa _ _)) hown3.cap,Qdy ((hb3.later (Qaa _ _)).rd (by simp[hin])) (by omega),trivial⟩)
     rintro e w4 ⟨rfl,hl4⟩)
  | (refine Qaf rfl rfl 25 _ _ rfl w.heap.size 0 25 (QCC 32 (W8 0)) (T.map W8) ?b ?hx ?hy ?hi ?hf ?h1 ?_;(case hx=>rfl);(case hy=>rfl);(case hi=>rw[QCF,hT];kernel_rfl);(case hf=>simp[hT]);(case h1=>exact QaH _);(case b=>exact (hR3.later (Qaa _ _)).later hl4);intro w5 hb5 ho5
     rw[Qak _ _ (by simp[hT])]at hb5))
 exact bodyPost_ret (QaR rfl _ _ _ _ (T.map W8) _ hb5 rfl Tryz.underlying25 rfl (by rw[QCF,hT];kernel_rfl)) rfl ⟨rfl,(((hL3.alloc _).trans hl4)).only ho5 (QCP _)⟩
theorem TagAt.write {w:World} {g:Nat} {key bs x:List UInt8} (h:HashAt w g 469 ((QbA key).map W8) ((QdB (QbA key) 54++bs)++x)):TagAt w g key (bs++x):=by
 unfold TagAt
 rw[←QCU]
 exact h
set_option maxRecDepth 100000 in
set_option maxHeartbeats 1000000 in
theorem Qkf (A B:Option Addr) (n c m d:Nat) (key:List UInt8) (ps:List (List UInt8)) (w:World) (hx:RdB w A n key) (hc:n≤c) (hn:n≤140737488355328) (hp:Parts w (fun _=>False) B m ps) (hm:m≤140737488355328) (hlen:ps.flatten.length≤2305843009213690000):
 Calls Tryz.prog 168 #[.slice A n c,.slice B m d] w fun e w'=>e= .returned (.agg ((QbF key ps.flatten).map W8).toArray)∧Later w w':=by
 have hT:=QaK key ps.flatten
 have hs:=fun g w hh=>Qp1 g key ps.flatten w hh (by omega)
 have hw:=fun g bs n c w hh hx hm=>Qh6 g 469 ((QbA key).map W8) bs B n c ps w hh hx hm
 generalize QbF key ps.flatten=T at *
 have hml:(QdB (QbA key) 54).length=64:=by rw[Qdc,QcO]
 have HS:=hid hs
 have HW:=hid hw
 clear hs hw
 go_enter Tryz.func168,Tryz.ntmps168
 go_wp2_with (first
  | (go_at_call 258;refine (Qj4 A n c key _ (hx.later (Qaa _ _)) hc hn).mono ?_;rintro e w1 ⟨g,rfl,hg,hh1,hl1⟩)
  | (go_at_call 259;refine (HW.out g _ m d _ hh1 ?hx hm ?hl).mono ?_
     (case hx=>exact (hp.more (fun b hb=>.inr (by subst hb;simp at hg;omega))).later ((Qaa _ _).trans hl1))
     (case hl=>rw[QDf,hml];omega)
     rintro e w2 ⟨rfl,hh2,ho2⟩
     have ht2:=TagAt.write hh2
     rw[QCH]at ht2)
  | (go_at_call 260;refine (HS.out g _ ht2).mono ?_;rintro e w3 ⟨rfl,hl3⟩)
  | (refine Qaf rfl rfl 25 _ _ rfl w.heap.size 0 25 (QCC 32 (W8 0)) (T.map W8) ?b ?hx ?hy ?hi ?hf ?h1 ?_;(case hx=>rfl);(case hy=>rfl);(case hi=>rw[QCF,hT];kernel_rfl);(case hf=>simp[hT]);(case h1=>exact QaH _);(case b=>exact (((Blk.new w _ _).later hl1).only ho2 (by simp at hg;omega)).later hl3);intro w5 hb5 ho5
     rw[Qak _ _ (by simp[hT])]at hb5))
 exact bodyPost_ret (QaR rfl _ _ _ _ (T.map W8) _ hb5 rfl Tryz.underlying25 rfl (by rw[QCF,hT];kernel_rfl)) rfl
  ⟨rfl,((((Qaa w _).trans hl1).only ho2 (by simp at hg;omega)).trans hl3).only ho5 (QCP _)⟩
theorem Qzr (G:List UInt8) (h:G.length=32):Qao (QCC 16 (W8 0)) 0 ((G.map W8).take 16)=(G.take 16).map W8:=by
 rw[Qak _ _ (by simp[h]),QD9]
set_option maxRecDepth 100000 in
theorem Qnq (G:List UInt8) (hG:G.length=32) (w:World):
 Calls Tryz.prog 167 #[.agg (G.map W8).toArray] w fun e w'=>∃A c,e= .returned (.slice A 16 c)∧OwnB w' w.heap.size A 16 c (G.take 16)∧Later w w':=by
 have hb0:=Blk.new w 25 (G.map W8)
 have ht:=Qzr G hG
 have hl16:(G.take 16).length=16:=by simp[hG]
 have hgl:(G.map W8).length=32:=by simp[hG]
 have h1:=QaH G
 generalize G.take 16=F at *
 generalize G.map W8=gl at *
 have HT:=hid ht
 clear ht
 go_enter Tryz.func167,Tryz.ntmps167
 go_wp2_with (first
  | (refine QaF rfl _ _ _ rfl 5 _ 1 Tryz.underlying22 Qdo rfl _ _ _ _ 16 rfl rfl ?hL ?hC (by omega) (by omega) ?_;(case hL=>rfl);(case hC=>rfl);intro w1 hb1 hl1;simp only[World.size_alloc]at hb1)
  | (refine Qas rfl _ _ _ _ rfl 5 Tryz.underlying22 Qbt (w.heap.size+1) 0 16 16 5 (QCC 16 (W8 0)) hb1 (some ⟨w.heap.size,0,none⟩) 32 32 gl ((hb0.later hl1).rd hgl) h1 rfl rfl (by simp) ?_;intro w4 hb4 ho4
     rw[HT.out]at hb4))
 go_ret
 refine⟨_,_,rfl,?_,((Qaa w _).trans hl1).only ho4 (by omega)⟩
 have:=Qdt hb4 (show w.heap.size≤w.heap.size+1 by omega) (by simp[hl16])
 rwa [QCF,hl16]at this
theorem QlP (A B:Option Addr) (n c m d:Nat) (key:List UInt8) (ps:List (List UInt8)) (w:World) (hx:RdB w A n key) (hc:n≤c) (hn:n≤140737488355328) (hp:Parts w (fun _=>False) B m ps) (hm:m≤140737488355328) (hlen:ps.flatten.length≤2305843009213690000):
 Calls Tryz.prog 102 #[.slice A n c,.slice B m d] w fun e w'=>∃A' c',e= .returned (.slice A' 16 c')∧OwnB w' w.heap.size A' 16 c' ((QbF key ps.flatten).take 16)∧Later w w':=by
 have hT:=QaK key ps.flatten
 have hs:=hid (Qkf A B n c m d key ps w hx hc hn hp hm hlen)
 generalize QbF key ps.flatten=T at *
 have hf:=hid (fun w=>Qnq T hT w)
 go_enter Tryz.func102,Tryz.ntmps102
 go_wp2_with (first
  | (go_at_call 168;refine hs.out.mono ?_;rintro e w1 ⟨rfl,hl1⟩)
  | (go_at_call 167;refine (hf.out _).mono ?_;rintro e w2 ⟨A2,c2,rfl,hown2,hl2⟩))
 go_ret
 exact⟨A2,c2,rfl,hown2.mono hl1.size,hl1.trans hl2⟩
theorem QrD (A B C:Option Addr) (n c m d k e0:Nat) (key tag:List UInt8) (ps:List (List UInt8)) (w:World) (hx:RdB w A n key) (hc:n≤c) (hn:n≤140737488355328) (ht:RdB w C k tag) (hk:k≤140737488355328)
 (hp:Parts w (fun _=>False) B m ps) (hm:m≤140737488355328) (hlen:ps.flatten.length≤2305843009213690000):
 Calls Tryz.prog 270 #[.slice A n c,.slice C k e0,.slice B m d] w fun e w'=>e= .returned (.bool (decide ((QbF key ps.flatten).take 16=tag)))∧Later w w':=by
 have hs:=hid (QlP A B n c m d key ps w hx hc hn hp hm hlen)
 have hl16:((QbF key ps.flatten).take 16).length=16:=by simp[QaK]
 generalize (QbF key ps.flatten).take 16=S at *
 have hq:=hid (fun A c w hx hy=>Qva A C 16 k c e0 S tag w hx hy (by omega) hk)
 generalize decide (S=tag)=R at *
 go_enter Tryz.func270,Tryz.ntmps270
 go_wp2_with (first
  | (go_at_call 102;refine hs.out.mono ?_;rintro e w1 ⟨A1,c1,rfl,hown1,hl1⟩)
  | (go_at_call 327;refine (hq.out A1 c1 _ hown1.rd (ht.later hl1)).mono ?_;rintro e w2 ⟨rfl,hl2⟩))
 go_ret
 exact⟨rfl,hl1.trans hl2⟩
theorem QxV {w:World} {g n:Nat} {t:TypeId} {vs rest:List Value} (h:Blk w g t (vs++rest)) (hn:vs.length=n):Rd w (some ⟨g,0,none⟩) n vs:=
 ⟨hn,fun _=>⟨g,0,rfl,h.lt,fun j u hu=>by rw[QC4];exact h.cellD j (by rw[QCW (QCV.1 hu).1];exact hu)⟩⟩
def hkT (key info:List UInt8):Nat→List UInt8
 | 0=>[]
 | i+1=>QbF key (hkT key info i++info++[QDh (i:Int)+1])
def hkO (key info:List UInt8):Nat→List UInt8
 | 0=>[]
 | i+1=>hkO key info i++hkT key info (i+1)
theorem Qp4 (key info:List UInt8) (i:Nat):(hkT key info i).length≤32:=by
 cases i with
 | zero=>simp[hkT]
 | succ i=>rw[hkT,QaK];omega
theorem Qp8 (key info:List UInt8) (i:Nat):(hkO key info i).length=32*i:=by
 induction i with
 | zero=>rfl
 | succ i ih=>rw[hkO,QCM,ih,hkT,QaK];omega
def expB (key info:List UInt8) (n:Nat):List UInt8:=(hkO key info ((n+31)/32)).take n
theorem Qh2 (key info:List UInt8) (n:Nat):(expB key info n).length=n:=by
 rw[expB,QC5,Qp8]
 omega
set_option maxRecDepth 100000 in
set_option maxHeartbeats 1000000 in
theorem Qm0 (A B:Option Addr) (n c m d:Nat) (salt secret:List UInt8) (w:World) (hx:RdB w A n salt) (hc:n≤c) (hn:n≤140737488355328) (hy:RdB w B m secret) (hd:m≤d) (hm:m≤140737488355328):
 Calls Tryz.prog 261 #[.slice A n c,.slice B m d] w fun e w'=>e= .returned (.agg ((QbF salt secret).map W8).toArray)∧Later w w':=by
 have hyl:=hy.len
 have hT:=QaK salt secret
 have hs:=fun B w h=>Qkf A B n c 1 1 salt [secret] w h hc hn
 rw[QbK]at hs
 generalize QbF salt secret=T at *
 have HS:=hid hs
 clear hs
 go_enter Tryz.func261,Tryz.ntmps261
 go_wp2_with (first
  | (go_at_call 168;refine (HS.out (some ⟨w.heap.size+1,0,none⟩) _ (hx.later ((Qaa _ _).alloc _)) ?hp (by omega) (by omega)).mono ?_
     (case hp=>exact QdM ((Blk.new' _ 22 [.slice B m d] (by simp)).rd rfl) ⟨Qdy (hy.later ((Qaa _ _).alloc _)) hd,trivial⟩)
     rintro e w1 ⟨rfl,hl1⟩)
  | (refine Qaf rfl rfl 25 _ _ rfl w.heap.size 0 25 (QCC 32 (W8 0)) (T.map W8) ?b ?hx ?hy ?hi ?hf ?h1 ?_;(case hx=>rfl);(case hy=>rfl);(case hi=>rw[QCF,hT];kernel_rfl);(case hf=>simp[hT]);(case h1=>exact QaH _);(case b=>exact ((Blk.new w _ _).later (Qaa _ _)).later hl1);intro w6 hb6 ho6
     rw[Qak _ _ (by simp[hT])]at hb6))
 exact bodyPost_ret (QaR rfl _ _ _ _ (T.map W8) _ hb6 rfl Tryz.underlying25 rfl (by rw[QCF,hT];kernel_rfl)) rfl ⟨rfl,(((Qaa w _).alloc _).trans hl1).only ho6 (QCP _)⟩
set_option maxRecDepth 100000 in
set_option maxHeartbeats 1000000 in
theorem Qcy (A:Option Addr) (n c:Nat) (ps:List (List UInt8)) (w:World) (hx:Parts w (fun _=>False) A n ps) (hm:n≤140737488355328) (hp:ps.flatten.length≤140737488355328):
 Calls Tryz.prog 48 #[.slice A n c] w fun e w'=>∃A' c',e= .returned (.slice A' ps.flatten.length c')∧OwnB w' w.heap.size A' ps.flatten.length c' ps.flatten∧Later w w':=by
 have hpl:=hx.len
 go_enter Tryz.func48,Tryz.ntmps48
 go_wp2
 go_loopw [3,11] (fun tot i wr=>∃k:Nat,k≤n∧i= .int .i64 k∧tot= .int .i64 ((ps.take k).flatten.length:Nat)∧Later w wr) (fun _ i _=>n-(intOf i).toNat)
 case atStart=>exact⟨0,by omega,rfl,rfl,Later.refl w⟩
 case round=>
  obtain⟨k,hk,rfl,rfl,hl⟩:=hrel
  by_cases hlt:k<n
  ·obtain⟨b,o,Ak,nk,ck,rfl,hb,hck,hcap,hrd,_⟩:=(hx.later hl).at_ hlt
   have hle:=QcL ps (k+1)
   have hql:=hrd.len
   have hs':(ps.take (k+1)).flatten=(ps.take k).flatten++ps.getD k []:=by rw[QfB ps k (by omega)];simp
   have hll:(ps.take (k+1)).flatten.length=(ps.take k).flatten.length+nk:=by rw[hs',QCM,hql]
   have HL:=hid hll
   rw[hll]at hle
   clear hs' hll
   generalize (ps.take k).flatten.length=fl at *
   generalize ps.getD k []=q at *
   go_wp2
   refine⟨⟨k+1,by omega,by go_num,by rw[HL.out];go_num,hl⟩,by simp only[intOf];omega⟩
  ·have hkn:k=n:=by omega
   subst hkn
   have hfe:(ps.take k).flatten.length=ps.flatten.length:=by rw[QCQ (by omega)]
   rw[hfe]
   have HF:=hid hfe
   clear hfe
   generalize hFl:ps.flatten.length=fl at *
   go_wp2_with (first
    | (refine Qcf rfl _ _ _ rfl 5 _ 1 Tryz.underlying22 Qdo rfl _ _ _ _ 0 fl rfl rfl ?hL ?hC (by omega) (by omega) (by omega) ?_;(case hL=>rfl);(case hC=>rfl);intro w1 hown1 hl1))
   go_loopw [6,24] (fun out i w2=>∃(j:Nat) (A':Option Addr) (m c':Nat),j≤k∧i= .int .i64 j∧out= .slice A' m c'∧OwnB w2 w.heap.size A' m c' (ps.take j).flatten∧Later w w2) (fun _ i _=>k-(intOf i).toNat)
   case atStart=>exact⟨0,_,_,_,by omega,rfl,rfl,Qc3 hown1 hl.size,hl.trans hl1⟩
   case round=>
    clear hown1 hl1
    obtain⟨j,A',m,c',hj,rfl,rfl,hown,hl2⟩:=hrel
    by_cases hlt2:j<k
    ·obtain⟨b,o,Ak,nk,ck,rfl,hb,hck,hcap,hrd,_⟩:=(hx.later hl2).at_ hlt2
     have hml:=hown.len
     have hle:=QcL ps (j+1)
     have hlen:=hrd.len
     have hs':(ps.take (j+1)).flatten=(ps.take j).flatten++ps.getD j []:=by rw[QfB ps j (by omega)];simp
     rw[hs',QCM]at hle
     have HS:=hid hs'
     clear hs'
     generalize ps.getD j []=q at *
     generalize (ps.take j).flatten=F at *
     go_wp2_with (first
      | (refine QbD rfl _ _ _ rfl 5 _ 1 Tryz.underlying22 Qdo rfl w _ m _ hown hl2 Ak nk ck _ hrd (QaH _) rfl rfl (by omega) (by omega) ?_;intro A2 c2 w2' hown2 hl2' hg2 _))
     refine⟨⟨j+1,A2,m+nk,c2,by omega,by go_num,rfl,?_,hl2'⟩,by simp only[intOf];omega⟩
     rw[HS.out]
     exact Qsj hown2 rfl rfl
    ·have hjk:j=k:=by omega
     rw[hjk,QCQ (by omega)]at hown
     have hml:=hown.len
     rw[hFl]at hml
     subst hml
     go_wp2
     go_ret
     exact⟨_,_,by rw[hFl];rfl,by rw[hFl];exact hown,hl2⟩
def Front (w:World) (base:Nat) (A:Option Addr) (n:Nat) (bs:List UInt8):Prop:=
 bs.length=n∧((A=none∧n=0)∨∃g rest,A=some ⟨g,0,none⟩∧base≤g∧Blk w g 5 (bs.map W8++rest))
theorem Front.rd {w:World} {base:Nat} {A:Option Addr} {n:Nat} {bs:List UInt8} (h:Front w base A n bs):RdB w A n bs:=by
 obtain⟨h1,h2⟩:=h
 rcases h2 with ⟨rfl,rfl⟩|⟨g,rest,rfl,_,hb⟩
 ·obtain rfl:bs=[]:=QDk h1
  exact Qov w
 ·exact QxV hb (by simpa using h1)
theorem Front.later {w w':World} {base:Nat} {A:Option Addr} {n:Nat} {bs:List UInt8} (h:Front w base A n bs) (hl:Later w w'):Front w' base A n bs:=by
 obtain⟨h1,h2⟩:=h
 exact⟨h1,h2.imp id fun ⟨g,rest,e,hb,hk⟩=>⟨g,rest,e,hb,hk.later hl⟩⟩
theorem QrC {w:World} {base:Nat} {A:Option Addr} {n c m:Nat} {bs:List UInt8} (h:OwnB w base A n c bs) (hm:m≤n):Front w base A m (bs.take m):=by
 have hl:=h.len
 refine⟨by rw[QC5];omega,?_⟩
 rcases QsG h with ⟨rfl,rfl⟩|⟨g,rest,rfl,hb,hk,_⟩
 ·exact .inl ⟨rfl,by omega⟩
 ·refine .inr ⟨g,(bs.drop m).map W8++rest,rfl,hb,?_⟩
  rw[←QCU,←QDq,QDa]
  exact hk
theorem QzS:(25:TypeId)≠5:=by decide
def LastAt (w:World) (v:Value) (k:Nat) (T:List UInt8):Prop:=
 (k=0∧v= .slice none 0 0∧T=[])∨∃g,0<k∧v= .slice (some ⟨g,0,none⟩) 32 32∧T.length=32∧Blk w g 25 (T.map W8)
theorem LastAt.rd {w:World} {v:Value} {k:Nat} {T:List UInt8} (h:LastAt w v k T):∃A n c,v= .slice A n c∧n≤c∧RdB w A n T:=by
 rcases h with ⟨_,rfl,rfl⟩|⟨g,_,rfl,hl,hb⟩
 ·exact⟨none,0,0,rfl,QCP _,Qov w⟩
 ·exact⟨_,32,32,rfl,QCP _,hb.rd (by simpa using hl)⟩
theorem Qjs (a b c:List UInt8):[a,b,c].flatten=a++b++c:=by simp
set_option maxRecDepth 100000 in
set_option maxHeartbeats 2000000 in
theorem Qtp (A B:Option Addr) (n c m d:Nat) (N:Nat) (key:List UInt8) (ps:List (List UInt8)) (w:World) (hx:RdB w A n key) (hc:n≤c) (hn:n≤140737488355328) (hp:Parts w (fun _=>False) B m ps) (hm:m≤140737488355328) (hlen:ps.flatten.length≤70368744177664) (hN:N≤8160):
 Calls Tryz.prog 262 #[.slice A n c,.int .i64 N,.slice B m d] w fun e w'=>∃A',e= .returned (.tuple #[.slice A' N N,.int .i64 0])∧Front w' w.heap.size A' N (expB key ps.flatten N)∧Later w w':=by
 have hj:=hid (Qcy B m d ps w hp hm (by omega))
 generalize ps.flatten=F at *
 generalize hFl:F.length=fl at *
 go_enter Tryz.func262,Tryz.ntmps262
 go_wp2_with (first
  | (go_at_call 48;refine hj.out.mono ?_;rintro e w1 ⟨A1,c1,rfl,hown1,hl1⟩)
  | (refine Qcf rfl _ _ _ rfl 5 _ 1 Tryz.underlying22 Qdo rfl _ _ _ _ 0 (N+32) rfl rfl ?hL ?hC (by omega) (by omega) (by omega) ?_;(case hL=>rfl);(case hC=>go_num);intro w2 hown2 hl2))
 have hown2':OwnB w2 w1.heap.size (some ⟨w1.heap.size,0,none⟩) 0 (N+32) []:=hown2
 have hlt1:=QlV hown1
 have hcap1:=hown1.cap
 go_loopw [9,10,11] (fun out last i wr=>∃(k:Nat) (A9:Option Addr) (c9:Nat),i= .int .i64 ((k:Int)+1)∧(k=0∨32*(k-1)<N)∧out= .slice A9 (32*k) c9∧LastAt wr last k (hkT key F k)∧OwnB wr w1.heap.size A9 (32*k) c9 (hkO key F k)∧Later w1 wr) (fun _ _ i _=>8200-32*(intOf i).toNat)
 case atStart=>exact⟨0,_,_,rfl,.inl rfl,rfl,.inl ⟨rfl,rfl,rfl⟩,hown2',hl2⟩
 case round=>
  clear hown2 hown2' hl2
  obtain⟨k,A9,c9,rfl,hkN,rfl,hlast,hown,hl⟩:=hrel
  have hcap9:=hown.cap
  by_cases hlt:32*k<N
  ·obtain⟨A10,l10,c10,rfl,hc10,hr10⟩:=hlast.rd
   have hkl:=Qp4 key F k
   have hl10:=hr10.len
   have hT:(hkT key F (k+1)).length=32:=by rw[hkT,QaK]
   have ht:=fun B w h1 h2=>Qkf A B n c 3 3 key [hkT key F k,F,[QDh (k:Int)+1]] w h1 hc hn h2
   have he:QbF key [hkT key F k,F,[QDh (k:Int)+1]].flatten=hkT key F (k+1):=by rw[Qjs,hkT]
   rw[he,Qjs]at ht
   have hfl:(hkT key F k++F++[QDh (k:Int)+1]).length≤70368744177700:=by simp;omega
   have ho':hkO key F (k+1)=hkO key F k++hkT key F (k+1):=rfl
   have HT:=hid ht
   have HO:=hid ho'
   clear ht he ho'
   generalize hT1:hkT key F (k+1)=T at *
   generalize hkT key F k=Tk at *
   generalize hkO key F k=O at *
   have HT1:=hid hT1
   clear hT1
   have hltN:((32*k:Nat):Int)<(N:Int):=by omega
   go_wp2_with (first
    | (go_at_call 168;refine (HT.out (some ⟨wr.heap.size+1,0,none⟩) _ (hx.later ((hl1.trans hl).trans ((Qaa _ _).alloc _))) ?hp (by omega) (by omega)).mono ?_
       (case hp=>exact QdM ((Blk.new' _ 22 [.slice A10 l10 c10,.slice A1 fl c1,.slice (some ⟨wr.heap.size,0,none⟩) 1 1] (by simp)).rd rfl) ⟨Qdy (hr10.later ((Qaa _ _).alloc _)) hc10,Qdy ((hown1.later hl).later ((Qaa _ _).alloc _)).rd hcap1,Qdy (((Blk.new wr 5 [W8 (QDh (k:Int)+1)]).later (Qaa _ _)).rd rfl) (by omega),trivial⟩)
       rintro e w3 ⟨rfl,hl3⟩)
    | (refine Qaf rfl rfl 25 _ _ rfl w3.heap.size 0 25 (QCC 32 (W8 0)) (T.map W8) ?bk ?hx ?hy ?hi ?hf ?h1 ?_;(case hx=>rfl);(case hy=>rfl);(case hi=>rw[QCF,hT];kernel_rfl);(case hf=>simp[hT]);(case h1=>exact QaH _);(case bk=>exact Blk.new _ _ _);intro w4 hb4 ho4
       rw[Qak _ _ (by simp[hT])]at hb4
       have L3:=((Qaa wr _).alloc _).trans hl3
       have hown4:=Qhw (Qa5 (Qa5 hown L3) (Qaa _ _)) ho4 (fun b hb=>by have:=QlV hown b hb;have:=L3.size;omega)
       have hl4:=((hl.trans L3).alloc _).only ho4 (by have:=(hl.trans L3).size;omega))
    | (refine QbD rfl _ _ _ rfl 5 _ 1 Tryz.underlying22 Qdo rfl w1 _ (32*k) _ hown4 hl4 (some ⟨w3.heap.size,0,none⟩) 32 32 _ (hb4.rd (by simp[hT])) (QaH _) rfl rfl (by omega) (by omega) ?_;intro A5 c5 w5 hown5 hl5 hg5 _
       have hb5:=QiB hb4 hown4 QzS hg5
       have hown5':=Qsj hown5 rfl (show 32*k+32=32*(k+1) by omega)))
   refine⟨⟨k+1,A5,c5,by go_num,.inr (by omega),by rw[show 32*k+32=32*(k+1) by omega],?_,?_,hl5⟩,by simp only[intOf];omega⟩
   ·exact .inr ⟨w3.heap.size,by omega,rfl,by rw[HT1.out];exact hT,by rw[HT1.out];exact hb5⟩
   ·rw[HO.out]
    exact hown5'
  ·have hk:k=(N+31)/32:=by omega
   have hltN: ¬((32*k:Nat):Int)<(N:Int):=by omega
   have hNc:N≤c9:=by omega
   go_wp2
   go_ret2
   refine⟨A9,rfl,?_,hl1.trans hl⟩
   rw[expB,←hk]
   have:=QrC hown (m:=N) (by omega)
   exact⟨this.1,this.2.imp id fun ⟨g,rest,e,hb,hk⟩=>⟨g,rest,e,QDm hl1.size hb,hk⟩⟩
theorem QrY (A B:Option Addr) (n c m d:Nat) (I:Int) (N:Nat) (hI:I=(N:Int)) (key:List UInt8) (ps:List (List UInt8)) (w:World) (hx:RdB w A n key) (hc:n≤c) (hn:n≤140737488355328) (hp:Parts w (fun _=>False) B m ps) (hm:m≤140737488355328) (hlen:ps.flatten.length≤70368744177664) (hN:N≤8160):
 Calls Tryz.prog 262 #[.slice A n c,.int .i64 I,.slice B m d] w fun e w'=>∃A',e= .returned (.tuple #[.slice A' N N,.int .i64 0])∧Front w' w.heap.size A' N (expB key ps.flatten N)∧Later w w':=by
 subst hI
 exact Qtp A B n c m d N key ps w hx hc hn hp hm hlen hN
theorem QxS:(Tryz.prog.info? 25).map (fun i=>(i.zero,i.size,i.bytes))=some (some (.agg (QCC 32 (W8 0)).toArray),32,32):=by kernel_rfl
theorem Qog (m n:Nat) (v:Value) (hm:0<m):madeCells (QCC m v).toArray n=(QCC n v).toArray:=by
 apply Array.ext
 ·simp[madeCells]
 ·intro i h1 h2
  simp only[madeCells,Array.getElem_map,Array.getElem_range,List.getElem_toArray,List.getElem_replicate,List.size_toArray,QCS]
  have:i%m<m:=QC8 _ hm
  simp[this]
section
variable {P:Program} {ops:Array Oper} {rest:List Oper} {o:Oper} {a:Act} {w:World} {Q:Exit→Act→World→Prop}
theorem QhK (hgd:o.guard=none) (l c:Operand) (t:TypeId) (ho:o.op=Op.makeSlice t l c) (e:TypeId) (v:Value) (m bytes:Nat) (ht:P.underlying t=some (.slice e))
 (hinfo:(P.info? e).map (fun i=>(i.zero,i.size,i.bytes))=some (some (.agg (QCC m v).toArray),m,bytes)) (hm:0<m) (kl kc:IntKind) (L C:Int) (n:Nat) (hl:a.eval l= .int kl L) (hc:a.eval c= .int kc C) (hL:L=(n:Int)) (hC:C=(n:Int))
 (hby:0<bytes) (hsz:n*bytes≤140737488355328) (h:∀w',Blk w' w.heap.size e (QCC (n*m) v)→Later w w'→wpList P ops Q rest (a.put o.dst (.slice (some ⟨w.heap.size,0,none⟩) n n)) w'):
 wpList P ops Q (o :: rest) a w:=by
 cases hq:P.info? e with
 | none=>simp[hq]at hinfo
 | some i=>
   simp only[hq,QEd,Option.some.injEq,Prod.mk.injEq]at hinfo
   obtain⟨hz,hsize,hbytes⟩:=hinfo
   have hn:n≤140737488355328:=QDm (QDO _ hby) hsz
   refine wpList_plain hgd fun K hK=>?_
   have hb:((i.bytes:Int)*(n:Int))≤281474976710656:=by
    rw[hbytes,←QEp,QDD]
    omega
   have hr:=run_make (P:=P) w t e i _ ht hq hz kl kc n n (by omega) (Int.le_refl _) hb (by omega)
   have hcells:(Value.agg (QCC m v).toArray).cells=(QCC m v).toArray:=rfl
   simp only[QEv,hsize,hcells,Qog m _ v hm]at hr
   subst hL
   subst hC
   unfold Oper.wp
   simp only[execOp,ho,hl,hc,Sem.run_bind,hr,Result.andThen_ok,Sem.run_pure]
   exact hK _ _ (h _ (Blk.new w e _) (Qaa _ _))
end
def Qex:List UInt8:=[115,104,97,108,108,111,116]
def derB (secret:List UInt8) (s:ByteArray):List UInt8:=expB (QbF Qex secret) (strB s) 32
theorem QaB (secret:List UInt8) (s:ByteArray):(derB secret s).length=32:=Qh2 _ _ _
def Strs (w:World) (A:Option Addr) (n:Nat) (ss:List ByteArray):Prop:=Rd w A n (ss.map Value.string)
theorem Strs.at_ {w:World} {A:Option Addr} {n:Nat} {ss:List ByteArray} (h:Strs w A n ss) {k:Nat} (hk:k<n):
 ∃b o,A=some ⟨b,o,none⟩∧b<w.heap.size∧w.cell? ⟨b,o+k,none⟩=some (.string (ss.getD k .empty)):=by
 have hl:ss.length=n:=by simpa using h.1
 obtain⟨b,o,rfl,hb,hc⟩:=h.2 (by omega)
 refine⟨b,o,rfl,hb,hc k _ ?_⟩
 rw[QCY,QCK,QCJ (by omega)]
 rfl
theorem Strs.later {w w':World} {A:Option Addr} {n:Nat} {ss:List ByteArray} (h:Strs w A n ss) (hl:Later w w'):Strs w' A n ss:=Rd.later h hl
def Qdj (secret:List UInt8) (ss:List ByteArray) (k:Nat):List UInt8:=((ss.take k).map (derB secret)).flatten++QCC (32*(ss.length-k)) 0
theorem Qg6 (secret:List UInt8) (ss:List ByteArray) (k:Nat) (h:k≤ss.length):((ss.take k).map (derB secret)).flatten.length=32*k:=by
 induction k with
 | zero=>simp
 | succ k ih=>
   rw[QDd (by omega),QDq,List.flatten_append,QCM,ih (by omega)]
   simp[QaB]
   omega
theorem Qkq (secret:List UInt8) (ss:List ByteArray) (k:Nat) (h:k≤ss.length):(Qdj secret ss k).length=32*ss.length:=by
 rw[Qdj,QCM,Qg6 _ _ _ h,QCS]
 omega
theorem QmO (secret:List UInt8) (ss:List ByteArray) (k:Nat) (h:k<ss.length):Qao ((Qdj secret ss k).map W8) (32*k) (((derB secret (ss.getD k .empty)).map W8).take 32)=(Qdj secret ss (k+1)).map W8:=by
 have h1:=Qg6 secret ss k (by omega)
 have h2:=QaB secret (ss.getD k .empty)
 have hs:ss.getD k .empty=ss[k]:=by rw[QCK,QCJ h];rfl
 rw[QCQ (by rw[QCF,h2];omega),Qao,Qdj,QDq,QDo (by rw[QCF,h1];omega),QCQ (by rw[QCF,h1];omega),
  QET,QDM (by rw[QCF,h1,QCF,h2];omega),QCH,Qdj,QDd h,hs]
 simp only[QDq,List.flatten_append,QC9,QC3,QDU,QEV,QDf,QCU,QDi,List.drop_replicate,QCF]
 rw[←hs,h2,h1,show 32*(ss.length-k)-(32*k+32-32*k)=32*(ss.length-(k+1)) by omega]
set_option maxRecDepth 100000 in
set_option maxHeartbeats 2000000 in
theorem QjD (A B:Option Addr) (n c m d:Nat) (secret:List UInt8) (ss:List ByteArray) (w:World) (hx:RdB w A n secret) (hc:n≤c) (hn:n≤35184372088832) (hb:Strs w B m ss) (hm0:0<m) (hm:m≤1048576) (hs:∀s∈ss,s.size≤1048576):
 Calls Tryz.prog 170 #[.slice A n c,.slice B m d] w fun e w'=>∃g,e= .returned (.slice (some ⟨g,0,none⟩) m m)∧w.heap.size≤g∧Blk w' g 25 ((Qdj secret ss m).map W8)∧Later w w':=by
 have hml:ss.length=m:=by simpa using hb.1
 have hT:=QaK Qex secret
 have ht:=fun B w h1 h2=>Qm0 B A 7 7 n c Qex secret w h1 (by omega) (by omega) h2 hc (by omega)
 have he:=fun A B w (s:ByteArray) h1 h2 (h3:s.size≤1048576)=>QrY A B 32 32 1 1 32 32 rfl (QbF Qex secret) [strB s] w h1 (by omega) (by omega) h2 (by omega) (by rw[QbK,Qir];omega) (by omega)
 have hd:∀s,expB (QbF Qex secret) [strB s].flatten 32=derB secret s:=fun s=>by rw[QbK];rfl
 simp only[hd]at he
 generalize QbF Qex secret=T at *
 have HT:=hid ht
 have HE:=hid he
 have HS:=hid hs
 clear ht he hd hs
 go_enter Tryz.func170,Tryz.ntmps170
 go_wp2_with (first
  | (refine Qgq rfl _ _ rfl 5 Tryz.underlying22 Tryz.underlying5 w (Qex.map W8) rfl w.heap.size 7 7 rfl rfl ?_;intro w1 hl1 hr1 hz1)
  | (go_at_call 261;refine (HT.out _ _ hr1 (hx.later hl1)).mono ?_;rintro e w2 ⟨rfl,hl2⟩)
  | (refine Qaf rfl rfl 25 _ _ rfl w2.heap.size 0 25 (QCC 32 (W8 0)) (T.map W8) ?bk ?hx ?hy ?hi ?hf ?h1 ?_;(case hx=>rfl);(case hy=>rfl);(case hi=>rw[QCF,hT];kernel_rfl);(case hf=>simp[hT]);(case h1=>exact QaH _);(case bk=>exact Blk.new _ _ _);intro w3 hb3 ho3;rw[Qak _ _ (by simp[hT])]at hb3)
  | (refine QhK rfl _ _ _ rfl 25 (W8 0) 32 32 Tryz.underlying26 QxS (by omega) _ _ _ _ m rfl rfl ?hL ?hC (by omega) (by omega) ?_;(case hL=>rfl);(case hC=>rfl);intro w4 hb4 hl4))
 have L2:=hl1.trans hl2
 have L3:Later w w3:=(L2.alloc _).only ho3 L2.size
 have hk4:=hb3.later hl4
 have L4:=L3.trans hl4
 have hk0:(Qdj secret ss 0).map W8=QCC (m*32) (W8 0):=by rw[Qdj];simp only[QEw,QC3,QEV,QCH,QE0,QDi,hml,QDD]
 rw[←hk0]at hb4
 have z2:=L2.size
 have z3:=hb3.lt
 have hgk:w2.heap.size≠w3.heap.size:=by omega
 have hg3:=L3.size
 clear hk0 hl1 hl2 hl4 hb3 ho3 L2 L3 hr1 hz1
 generalize w2.heap.size=gk at *
 generalize w3.heap.size=go at *
 go_loopw [23] (fun i wr=>∃k:Nat,k≤m∧i= .int .i64 k∧Blk wr gk 25 (T.map W8)∧Blk wr go 25 ((Qdj secret ss k).map W8)∧Later w wr) (fun i _=>m-(intOf i).toNat)
 case atStart=>exact⟨0,by omega,rfl,hk4,hb4,L4⟩
 case round=>
  clear hk4 hb4 L4
  obtain⟨k,hk,rfl,hK,hO,hl⟩:=hrel
  by_cases hlt:k<m
  ·obtain⟨b,o,rfl,hbb,hck⟩:=(hb.later hl).at_ hlt
   have hsz:=HS.out (ss.getD k .empty) (by rw[QCK,QCJ (by omega)];exact QD0 _)
   have hkl:=Qkq secret ss k (by omega)
   have hst:=hid (QmO secret ss k (by omega))
   have hdl:=QaB secret (ss.getD k .empty)
   have hsl:=Qir (ss.getD k .empty)
   generalize ss.getD k .empty=s at *
   have hE:=hid (fun A B w h1 h2=>HE.out A B w s h1 h2 hsz)
   generalize derB secret s=D at *
   go_wp2_with (first
    | (refine Qgv rfl _ _ _ rfl 5 Tryz.underlying9 Tryz.underlying22 Tryz.underlying5 s rfl ?_;intro c1 w1 hl1 hr1 hc1 hz1)
    | (go_at_call 262;refine (hE.out (some ⟨gk,0,none⟩) (some ⟨w1.heap.size,0,none⟩) _ ((hK.later (hl1.alloc _)).rd (by simp[hT])) (QdM ((Blk.new w1 22 [.slice (some ⟨wr.heap.size,0,none⟩) s.size c1]).rd rfl) ⟨Qdy (hr1.later (Qaa _ _)) hc1,trivial⟩)).mono ?_;rintro e w2 ⟨A2,rfl,hfr2,hl2⟩;have L2:=(hl1.alloc (.cells #[.slice (some ⟨wr.heap.size,0,none⟩) s.size c1] 22)).trans hl2)
    | (refine Qas rfl _ _ _ _ rfl 5 Tryz.underlying22 Qbt go (k*32) 32 32 25 ((Qdj secret ss k).map W8) (hO.later L2) A2 32 32 (D.map W8) hfr2.rd (QaH _) rfl rfl (by rw[QCF,hkl,hml];omega) ?_;intro w6 hb6 ho6;rw[QDD k 32,hst.out]at hb6))
   refine⟨⟨k+1,by omega,by go_num,(hK.later L2).only ho6 hgk,hb6,(hl.trans L2).only ho6 hg3⟩,by simp only[intOf];omega⟩
  ·have hkm:k=m:=by omega
   rw[hkm]at hO
   go_wp2
   go_ret
   exact⟨go,rfl,hg3,hO,hl⟩
def Qvd (i j:Nat):UInt8:=QDh 17*QDh (i:Int)+QDh 3*QDh (j:Int)+1
section
variable {P:Program} {ops:Array Oper} {rest:List Oper} {o:Oper} {a:Act} {w:World} {Q:Exit→Act→World→Prop}
end
structure Keep (own:Nat→Option Nat) (w w':World):Prop where
 size:w.heap.size≤w'.heap.size
 cell:∀b i,own b=some i→b<w.heap.size→∀p v,w.cell? ⟨b,p,none⟩=some v→w'.cell? ⟨b,p,none⟩=some v∨w'.cell? ⟨b,p,none⟩=some (W8 (Qvd i p))
 free:∀b i,own b=some i→b<w.heap.size→∀p,w.frozen? ⟨b,p,none⟩=false→w'.frozen? ⟨b,p,none⟩=false
 env:w'.os=w.os∧w'.tape=w.tape∧w'.output=w.output
def Good (own:Nat→Option Nat) (w:World) (i:Nat) (v:Value) (n:Nat):Prop:=
 (∃ c,v= .slice none 0 c∧n=0)∨∃b c,v= .slice (some ⟨b,0,none⟩) n c∧own b=some i∧b<w.heap.size∧∀p,p<n→w.cell? ⟨b,p,none⟩=some (W8 (Qvd i p))
def Roomy (own:Nat→Option Nat) (w:World) (i:Nat) (v:Value) (n:Nat):Prop:=
 (v= .slice none 0 0∧n=0)∨∃b c,v= .slice (some ⟨b,0,none⟩) n c∧n≤c∧own b=some i∧b<w.heap.size∧∀p,p<c→(w.cell? ⟨b,p,none⟩).isSome=true∧w.frozen? ⟨b,p,none⟩=false
theorem Keep.refl (own:Nat→Option Nat) (w:World):Keep own w w:=⟨QCP _,fun _ _ _ _ _ _ h=>.inl h,fun _ _ _ _ _ h=>h,rfl,rfl,rfl⟩
theorem Keep.trans {own:Nat→Option Nat} {a b c:World} (h:Keep own a b) (k:Keep own b c):Keep own a c:=by
 refine⟨QDm h.size k.size,fun g i hg hlt p v hv=>?_,fun g i hg hlt p hf=>k.free g i hg (QCX hlt h.size) p (h.free g i hg hlt p hf),k.env.1.trans h.env.1,k.env.2.1.trans h.env.2.1,k.env.2.2.trans h.env.2.2⟩
 have hlt':=QCX hlt h.size
 rcases h.cell g i hg hlt p v hv with h1|h1
 ·exact k.cell g i hg hlt' p v h1
 ·rcases k.cell g i hg hlt' p _ h1 with h2|h2
  ·exact .inr h2
  ·exact .inr h2
theorem Keep.more {own own':Nat→Option Nat} {w w':World} (h:Keep own' w w') (hsub:∀b i,own b=some i→b<w.heap.size→own' b=some i):Keep own w w':=
 ⟨h.size,fun b i hb hlt=>h.cell b i (hsub b i hb hlt) hlt,fun b i hb hlt=>h.free b i (hsub b i hb hlt) hlt,h.env⟩
theorem Good.keep {own:Nat→Option Nat} {w w':World} {i n:Nat} {v:Value} (h:Good own w i v n) (k:Keep own w w'):Good own w' i v n:=by
 rcases h with h|⟨b,c,rfl,hb,hlt,hc⟩
 ·exact .inl h
 ·refine .inr ⟨b,c,rfl,hb,QCX hlt k.size,fun p hp=>?_⟩
  rcases k.cell b i hb hlt p _ (hc p hp) with h1|h1<;>exact h1
theorem Roomy.keep {own:Nat→Option Nat} {w w':World} {i n:Nat} {v:Value} (h:Roomy own w i v n) (k:Keep own w w'):Roomy own w' i v n:=by
 rcases h with h|⟨b,c,rfl,hnc,hb,hlt,hc⟩
 ·exact .inl h
 ·refine .inr ⟨b,c,rfl,hnc,hb,QCX hlt k.size,fun p hp=>⟨?_,k.free b i hb hlt p (hc p hp).2⟩⟩
  obtain⟨u,hu⟩:=Option.isSome_iff_exists.1 (hc p hp).1
  rcases k.cell b i hb hlt p u hu with h1|h1<;>rw[h1]<;>rfl
theorem Keep.later {own:Nat→Option Nat} {w w':World} (h:Later w w'):Keep own w w':=by
 refine⟨h.size,fun b i _ hlt p v hv=>.inl ((h.below.cell (p:=⟨b,p,none⟩) hlt).trans hv),fun b i _ hlt p hf=>?_,h.below.os,h.below.tape,h.below.output⟩
 have:=h.below.block b hlt
 exact (World.frozen?_of_block (a:=⟨b,p,none⟩) this).trans hf
theorem Keep.only {own:Nat→Option Nat} {w w':World} {k:Nat} (h:Only k w w') (hk:own k=none):Keep own w w':=by
 have hne:∀b i,own b=some i→some b≠some k:=fun b i hb e=>by
  injection e with e
  rw[e,hk]at hb
  cases hb
 exact⟨h.size,fun b i hb hlt p v hv=>.inl ((World.cell?_of_block (a:=⟨b,p,none⟩) (h.block b hlt (hne b i hb))).trans hv),fun b i hb hlt p hf=>(World.frozen?_of_block (a:=⟨b,p,none⟩) (h.block b hlt (hne b i hb))).trans hf,h.os,h.tape,h.output⟩
theorem Keep.set {own:Nat→Option Nat} {w:World} {b i p:Nat} (hb:own b=some i):Keep own w (w.setCell ⟨b,p,none⟩ (W8 (Qvd i p))):=by
 refine⟨by simp,fun g j hg _ q v hv=>?_,fun g j _ _ q hf=>(by rw[World.frozen?_setCell];exact hf),rfl,rfl,rfl⟩
 by_cases he:(⟨b,p,none⟩:Addr)=⟨g,q,none⟩
 ·cases he
  rw[hb]at hg
  cases hg
  exact .inr (World.cell?_setCell_same _ _ _ hv)
 ·exact .inl ((World.cell?_setCell_other _ _ _ _ he).trans hv)
structure Grown (own:Nat→Option Nat) (w:World) (i n:Nat) (own':Nat→Option Nat) (w':World) (v':Value):Prop where
 good:Good own' w' i v' n
 roomy:Roomy own' w' i v' n
 keep:Keep own w w'
 low:∀b,b<w.heap.size→own' b=own b
 fresh:∀b,w'.heap.size≤b→own' b=none
 rest:∀b,b<w.heap.size→own b=none→w'.heap[b]?=w.heap[b]?
section
variable {P:Program} {ops:Array Oper} {rest:List Oper} {o:Oper} {a:Act} {w:World} {Q:Exit→Act→World→Prop}
end
structure AInv (w:World) (own0:Nat→Option Nat) (vs:List Value) (ns:List Nat) (own:Nat→Option Nat) (wr:World) (k:Nat):Prop where
 size:w.heap.size≤wr.heap.size
 low:∀b,b<w.heap.size→own b=own0 b
 fresh:∀b,wr.heap.size≤b→own b=none
 same:∀b,b<w.heap.size→own0 b=none→wr.heap[b]?=w.heap[b]?
 roomy:∀i v,vs[i]?=some v→Roomy own wr i v (ns.getD i 0)
 good:∀i v,i<k→vs[i]?=some v→Good own wr i v (ns.getD i 0)
 env:wr.os=w.os∧wr.tape=w.tape∧wr.output=w.output
section
variable {w:World} {own0:Nat→Option Nat} {vs:List Value} {ns:List Nat} {own:Nat→Option Nat} {wr:World} {k:Nat}
theorem AInv.keep (h:AInv w own0 vs ns own wr k) {w2:World} (K:Keep own wr w2) (hr:∀b,b<w.heap.size→own0 b=none→w2.heap[b]?=wr.heap[b]?):AInv w own0 vs ns own w2 k:=
 ⟨QDm h.size K.size,h.low,fun b hb=>h.fresh b (QDm K.size hb),fun b hb h0=>(hr b hb h0).trans (h.same b hb h0),fun i v hv=>(h.roomy i v hv).keep K,fun i v hi hv=>(h.good i v hi hv).keep K,K.env.1.trans h.env.1,K.env.2.1.trans h.env.2.1,K.env.2.2.trans h.env.2.2⟩
theorem AInv.later (h:AInv w own0 vs ns own wr k) {w2:World} (hl:Later wr w2):AInv w own0 vs ns own w2 k:=
 h.keep (.later hl) fun b hb _=>hl.below.block b (QCX hb h.size)
theorem AInv.only (h:AInv w own0 vs ns own wr k) {w2:World} {g:Nat} (ho:Only g wr w2) (hg:own g=none) (hw:w.heap.size≤g):AInv w own0 vs ns own w2 k:=
 h.keep (.only ho hg) fun b hb _=>ho.block b (QCX hb h.size) (fun e=>by injection e;omega)
theorem Good.grown {own':Nat→Option Nat} {w2:World} {i n i' n':Nat} {v v':Value} (h:Good own wr i v n) (G:Grown own wr i' n' own' w2 v'):Good own' w2 i v n:=by
 rcases h.keep G.keep with h2|⟨b,c,rfl,hb,hlt,hc⟩
 ·exact .inl h2
 ·rcases h with ⟨_,e,_⟩|⟨b',c',e,_,hlt',_⟩
  ·cases e
  ·cases e
   exact .inr ⟨b,c,rfl,(G.low b hlt').trans hb,hlt,hc⟩
theorem Roomy.grown {own':Nat→Option Nat} {w2:World} {i n i' n':Nat} {v v':Value} (h:Roomy own wr i v n) (G:Grown own wr i' n' own' w2 v'):Roomy own' w2 i v n:=by
 rcases h.keep G.keep with h2|⟨b,c,rfl,hnc,hb,hlt,hc⟩
 ·exact .inl h2
 ·rcases h with ⟨e,_⟩|⟨b',c',e,_,_,hlt',_⟩
  ·cases e
  ·cases e
   exact .inr ⟨b,c,rfl,hnc,(G.low b hlt').trans hb,hlt,hc⟩
theorem AInv.grown (h:AInv w own0 vs ns own wr k) {own':Nat→Option Nat} {w2:World} {i n:Nat} {v':Value} (G:Grown own wr i n own' w2 v'):AInv w own0 vs ns own' w2 k:=
 ⟨QDm h.size G.keep.size,fun b hb=>(G.low b (QCX hb h.size)).trans (h.low b hb),G.fresh,fun b hb h0=>(G.rest b (QCX hb h.size) ((h.low b hb).trans h0)).trans (h.same b hb h0),
   fun i v hv=>(h.roomy i v hv).grown G,fun i v hi hv=>(h.good i v hi hv).grown G,G.keep.env.1.trans h.env.1,G.keep.env.2.1.trans h.env.2.1,G.keep.env.2.2.trans h.env.2.2⟩
theorem AInv.step (h:AInv w own0 vs ns own wr k) (hg:∀v,vs[k]?=some v→Good own wr k v (ns.getD k 0)):AInv w own0 vs ns own wr (k+1):=
 ⟨h.size,h.low,h.fresh,h.same,h.roomy,fun i v hi hv=>by
   by_cases e:i=k
   ·subst e
    exact hg v hv
   ·exact h.good i v (by omega) hv,h.env⟩
theorem AInv.at_ (h:AInv w own0 vs ns own wr k) {A:Option Addr} {n:Nat} (hx:Rd w A n vs) (hA:∀b o,A=some ⟨b,o,none⟩→own0 b=none) {i:Nat} (hi:i<n):
 ∃b o Ak ck,A=some ⟨b,o,none⟩∧vs[i]?=some (.slice Ak (ns.getD i 0) ck)∧(∀ own wr k,AInv w own0 vs ns own wr k→wr.cell? ⟨b,o+i,none⟩=some (.slice Ak (ns.getD i 0) ck)):=by
 obtain⟨b,o,rfl,hb,hc⟩:=hx.2 (by omega)
 have hil:i<vs.length:=by rw[hx.1];exact hi
 have hv:=QCJ hil
 have hr:=h.roomy i _ hv
 have hs:∃Ak ck,vs[i]= .slice Ak (ns.getD i 0) ck:=by
  rcases hr with ⟨e,e2⟩|⟨g,c,e,_⟩
  ·exact⟨none,0,by rw[e,e2]⟩
  ·exact⟨_,_,e⟩
 obtain⟨Ak,ck,hs⟩:=hs
 rw[hs]at hv
 exact⟨b,o,Ak,ck,rfl,hv,fun own wr k h2=>(World.cell?_of_block (a:=⟨b,o+i,none⟩) (h2.same b hb (hA b o rfl))).trans (hc i _ hv)⟩
end
structure GInv (w:World) (own0:Nat→Option Nat) (vs:List Value) (ns:List Nat) (n:Nat) (own:Nat→Option Nat) (wr:World) (v:Value) (cnt:Nat) (gs:List Value):Prop where
 inv:AInv w own0 vs ns own wr n
 row:wr.ownsRow w.heap.size 22 1 v cnt gs
 free:∀b,v.ownBlock=some b→own b=none
 good:∀k u,gs[k]?=some u→∃A m c,u= .slice A m c∧m≤140737488355328∧Good own wr (k%n) u m
section
variable {w:World} {own0:Nat→Option Nat} {vs:List Value} {ns:List Nat} {n:Nat} {own:Nat→Option Nat} {wr:World} {v:Value} {cnt:Nat} {gs:List Value}
theorem GInv.later (h:GInv w own0 vs ns n own wr v cnt gs) {w2:World} (hl:Later wr w2):GInv w own0 vs ns n own w2 v cnt gs:=
 ⟨h.inv.later hl,Qa5 h.row hl,h.free,fun k u hu=>by obtain⟨A,m,c,e,hm,hg⟩:=h.good k u hu;exact⟨A,m,c,e,hm,hg.keep (.later hl)⟩⟩
theorem GInv.only (h:GInv w own0 vs ns n own wr v cnt gs) {w2:World} {g:Nat} (ho:Only g wr w2) (hg:own g=none) (hw:w.heap.size≤g) (hv:v.ownBlock≠some g):GInv w own0 vs ns n own w2 v cnt gs:=
 ⟨h.inv.only ho hg hw,Qhw h.row ho (fun b hb e=>hv (by rw[hb,e])),h.free,fun k u hu=>by obtain⟨A,m,c,e,hm,hg'⟩:=h.good k u hu;exact⟨A,m,c,e,hm,hg'.keep (.only ho hg)⟩⟩
theorem GInv.grown (h:GInv w own0 vs ns n own wr v cnt gs) {own':Nat→Option Nat} {w2:World} {i m:Nat} {v':Value} (G:Grown own wr i m own' w2 v'):GInv w own0 vs ns n own' w2 v cnt gs:=by
 refine⟨h.inv.grown G,?_,fun b hb=>(G.low b (h.row.lt b hb).2).trans (h.free b hb),fun k u hu=>by obtain⟨A,m,c,e,hm,hg'⟩:=h.good k u hu;exact⟨A,m,c,e,hm,hg'.grown G⟩⟩
 refine⟨h.row.1,?_⟩
 rcases h.row.2 with h2|⟨g,cap,cur,e,hb,hh,r⟩
 ·exact .inl h2
 ·subst e
  have hlt:=(h.row.lt g rfl).2
  exact .inr ⟨g,cap,cur,rfl,hb,(G.rest g hlt (h.free g rfl)).trans hh,r⟩
theorem GInv.push (h:GInv w own0 vs ns n own wr v cnt gs) {w2:World} {A:Option Addr} {m c:Nat} {v':Value} (hg:Good own wr (cnt%n) (.slice A m c) m) (hm:m≤140737488355328) (hrow:w2.ownsRow w.heap.size 22 1 v' (cnt+1) (gs++[.slice A m c]))
 (hgr:wr.grownBy w2 v.ownBlock) (hwhere:∀k,v'.ownBlock=some k→v.ownBlock=some k∨wr.heap.size≤k):GInv w own0 vs ns n own w2 v' (cnt+1) (gs++[.slice A m c]):=by
 have hne:∀b i,own b=some i→some b≠v.ownBlock:=fun b i hb e=>by
  rw[h.free b e.symm]at hb
  cases hb
 have K:Keep own wr w2:=⟨hgr.size,fun b i hb hlt p u hu=>.inl ((World.cell?_of_block (a:=⟨b,p,none⟩) (hgr.block b hlt (hne b i hb))).trans hu),fun b i hb hlt p hf=>(World.frozen?_of_block (a:=⟨b,p,none⟩) (hgr.block b hlt (hne b i hb))).trans hf,hgr.os,hgr.tape,hgr.output⟩
 have hl:gs.length=cnt:=by have:=h.row.1;omega
 refine⟨h.inv.keep K fun b hb h0=>hgr.block b (QCX hb h.inv.size) (fun e=>by have:=(h.row.lt b e.symm).1;omega),hrow,fun b hb=>?_,fun k u hu=>?_⟩
 ·rcases hwhere b hb with h1|h1
  ·exact h.free b h1
  ·exact h.inv.fresh b h1
 ·by_cases hk:k<gs.length
  ·rw[QCW hk]at hu
   obtain⟨A,m,c,e,hm,hg'⟩:=h.good k u hu
   exact⟨A,m,c,e,hm,hg'.keep K⟩
  ·have:k=cnt:=by
    have:=(QCV.1 hu).1
    simp only[QCM,QDp,List.length_nil]at this
    omega
   subst this
   rw[QCR (by omega),hl,QDL]at hu
   cases hu
   exact⟨A,m,c,rfl,hm,hg.keep K⟩
end
theorem Good.cell {own:Nat→Option Nat} {wr:World} {i n c:Nat} {A:Option Addr} (h:Good own wr i (.slice A n c) n) {j:Nat} (hj:j<n):∃b,A=some ⟨b,0,none⟩∧wr.cell? ⟨b,j,none⟩=some (W8 (Qvd i j)):=by
 rcases h with ⟨_,_,h0⟩|⟨b,c',e,_,_,hc⟩
 ·omega
 ·cases e
  exact⟨b,rfl,hc j hj⟩
def Room (w:World) (v:Value):Prop:=
 v= .slice none 0 0∨∃b m c,v= .slice (some ⟨b,0,none⟩) m c∧m≤c∧m≤1099511627776∧b<w.heap.size∧∀p,p<c→(w.cell? ⟨b,p,none⟩).isSome=true∧w.frozen? ⟨b,p,none⟩=false
theorem Room.later {w w':World} {v:Value} (h:Room w v) (hl:Later w w'):Room w' v:=by
 rcases h with h|⟨b,m,c,e,hm,hm2,hb,hc⟩
 ·exact .inl h
 ·refine .inr ⟨b,m,c,e,hm,hm2,QCX hb hl.size,fun p hp=>?_⟩
  have hk:=hl.below.block b hb
  rw[World.cell?_of_block (a:=⟨b,p,none⟩) hk,World.frozen?_of_block (a:=⟨b,p,none⟩) hk]
  exact hc p hp
theorem Room.blk {w:World} {g m c:Nat} {t:TypeId} {l:List Value} (h:Blk w g t l) (hm:m≤c) (hc:c≤l.length) (hm2:m≤1099511627776):Room w (.slice (some ⟨g,0,none⟩) m c):=
 .inr ⟨g,m,c,rfl,hm,hm2,h.lt,fun p hp=>⟨by rw[h.cell,QCJ (by omega)];rfl,h.frozen p⟩⟩
theorem Room.own {w:World} {base:Nat} {e:TypeId} {v:Value} {n:Nat} {vs:List Value} (h:w.ownsRow base e 1 v n vs) (hn:n≤1099511627776):Room w v:=by
 rcases h.2 with ⟨rfl,_⟩|⟨g,cap,cur,rfl,_,hh,hnc,_,hs,_⟩
 ·exact .inl rfl
 ·exact .inr ⟨g,n,cap,rfl,hnc,hn,(h.lt g rfl).2,fun p hp=>⟨by rw[cell_of_row w g p cur e (0,0) hh,Array.getElem?_eq_getElem (by omega)];rfl,by simp[World.frozen?,hh]⟩⟩
end Go.Proofs.YticcbmhcgmhohaaGreat
