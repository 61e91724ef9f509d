/-
  Lemmas for the last text of this claim (part 4 of 20).
-/
import Derived.ArgAppend
import Derived.BigQuiet
import Derived.BigRegion
import Derived.ChangeOld
import Derived.Deep.RegionWith
import Derived.DeepKeys4
import Derived.JoinedCond
import Derived.LaidMore
import Derived.Laws.BytesArg
import Derived.Laws.CopyOwn
import Derived.Laws.Externs
import Derived.Laws.IdiomStrings
import Derived.Laws.Tables
import Derived.Lib.AppendStr
import Derived.Lib.AppendZerosOnto
import Derived.Lib.Mul64
import Derived.Lib.SlBytesConst
import Derived.LoopN
import Derived.Maps.OwnSet
import Derived.OpenShut
import Derived.OrdersHeld
import Derived.ProofKit
import Derived.Shelf.Spec.BitsCarry
import Derived.ShutString
import Derived.Test.YtdhgpkdjdmlphaaGreatProg
import Derived.Test.YtdhgpkdjdmlphaaGreatRows
import Derived.WalkKit
import Derived.WalkLawsBesides
import Derived.WalkSpells
import Derived.Test.YtdhgpkdjdmlphaaGreatUB
import Derived.Test.YtdhgpkdjdmlphaaGreatUC
open Bool renaming eq_iff_iff → QHh
open Int renaming natCast_mul → QIi, toNat_natCast → QIq
open List renaming replicate → QGn, getElem?_cons_succ → QGo, getElem?_cons_zero → QGp, getD_eq_getElem?_getD → QGq, length_map → QGr, getElem?_eq_getElem → QGt, cons_append → QGu, nil_append → QGv, setIfInBounds_toArray → QGw, length_append → QGy, set_cons_zero → QGz, length_replicate → QGA, set_cons_succ → QGB, take_of_length_le → QGD, getElem?_append_right → QGE, getElem?_map → QGF, getElem?_append_left → QGG, map_nil → QGH, append_assoc → QGI, getElem?_eq_some_iff → QGL, length_take → QGP, map_cons → QGR, append_nil → QGW, take_append_drop → QGX, take_succ_eq_append_getElem → QGY, map_append → QG6, eq_nil_of_length_eq_zero → QG7, map_replicate → QG8, length_cons → QHe, take_append_of_le_length → QHf, getElem_mem → QHi, drop_of_length_le → QHj, flatten_cons → QHH, take_left' → QHK, map_take → QH0, drop_append → QIG, flatten_nil → QIH, flatten_append → QIL, ext_getElem → QIN, take_zero → QIS
open Nat renaming le_refl → QGx, lt_of_lt_of_le → QGN, zero_add → QGT, mod_lt → QGU, le_trans → QG9, mul_comm → QHp, le_mul_of_pos_right → QHE, sub_self → QHG, add_sub_cancel_left → QIt
open Option renaming toList_some → QGs, map_some → QH9
open UInt8 renaming ofInt → QG4
set_option linter.all false
namespace Go.Proofs.YtdhgpkdjdmlphaaGreat
open Go.RowKit
theorem Qud {w:World} {base:Nat} {e:TypeId} {A:Option Addr} {n c:Nat} {vs:List Value} (h:w.ownsRow base e 1 (.slice A n c) n vs):
 (A=none∧n=0)∨∃g rest,A=some ⟨g,0,none⟩∧base≤g∧Blk w g e (vs++rest)∧c=(vs++rest).length:=by
 rcases h.2 with ⟨hv,h0⟩|⟨g,cap,cur,hv,hb,hh,hnc,hm,hs,ht⟩
 ·cases hv
  exact .inl ⟨rfl,rfl⟩
 ·cases hv
  refine .inr ⟨g,cur.toList.drop n,rfl,hb,?_,?_⟩
  ·rw[show vs=cur.toList.take n by simpa using ht.symm,QGX]
   exact hh
  ·rw[show vs=cur.toList.take n by simpa using ht.symm,QGX]
   simpa using hs.symm
theorem Qzo {w:World} {base g:Nat} {e:TypeId} {vs rest:List Value} (h:Blk w g e (vs++rest)) (hb:base≤g) (hm:(vs++rest).length≤maxLen):
 w.ownsRow base e 1 (.slice (some ⟨g,0,none⟩) vs.length (vs++rest).length) vs.length vs:=
 ⟨by simp,.inr ⟨g,(vs++rest).length,(vs++rest).toArray,rfl,hb,h,by simp,hm,by simp,by simp⟩⟩
theorem Qiu {w w':World} {base k:Nat} {e:TypeId} {v:Value} {n:Nat} {vs:List Value} (h:w.ownsRow base e 1 v n vs) (ho:Only k w w') (hne:∀b,v.ownBlock=some b→b≠k):w'.ownsRow base e 1 v n vs:=by
 refine h.kept ho ?_
 cases hb:v.ownBlock with
 | none=>exact .inl rfl
 | some b=>exact .inr fun he=>hne b hb (by injection he)
theorem Qjg {w w':World} {base g:Nat} {e t:TypeId} {v:Value} {n:Nat} {vs l:List Value} (hb:Blk w g t l) (h:w.ownsRow base e 1 v n vs) (hne:t≠e) (hg:w.grownBy w' v.ownBlock):Blk w' g t l:=by
 refine (hg.block g hb.lt ?_).trans hb
 rcases h.2 with ⟨rfl,_⟩|⟨g2,c2,cur2,rfl,_,hh2,_⟩
 ·simp[Value.ownBlock]
 ·intro he
  simp only[Value.ownBlock,Option.some.injEq]at he
  subst he
  exact hb.ne_type (l':=cur2.toList) (t':=e) hh2 hne rfl
theorem Qm9 {w:World} {base:Nat} {e:TypeId} {v:Value} {n:Nat} {vs:List Value} (h:w.ownsRow base e 1 v n vs):∀b,v.ownBlock=some b→b<w.heap.size:=fun b hb=>(h.lt b hb).2
theorem QxN {w:World} {base g:Nat} {A:Option Addr} {n c:Nat} {p:List UInt8} (h:OwnB w base A n c p) (hg:g<base):Part w (· =g) (.slice A n c) p:=
 ⟨A,n,c,rfl,h.cap,h.rd,fun _ ad hA hb=>by subst hA;have:=(h.lt ad.block rfl).1;omega⟩
theorem QfG {w:World} {bad:Nat→Prop} {A:Option Addr} {n:Nat} {vs:List Value} {ps:List (List UInt8)} (h:Rd w A n vs) (hv:Avoid bad A n) (hp:PartAll w bad vs ps):Parts w bad A n ps:=
 ⟨vs,h,hv,hp.at_.1,hp.at_.2⟩
theorem Qyn {bad:Nat→Prop} {b o n:Nat} (h: ¬bad b):Avoid bad (some ⟨b,o,none⟩) n:=fun _ ad hA hb=>by cases hA;exact h hb
abbrev Y32:={l:List UInt8 // l.length=32}
@[go_sem high] theorem QAS (x y:Y32) (w:World):(binOp .eql 30 (.agg (x.val.map W8).toArray) (.agg (y.val.map W8).toArray)).run Tryz.prog w= .ok (.bool (x.val==y.val)) w:=QjN _ _ x.2 y.2 w
@[go_sem high] theorem QB2 (x y:Y32) (w:World):(binOp .neq 30 (.agg (x.val.map W8).toArray) (.agg (y.val.map W8).toArray)).run Tryz.prog w= .ok (.bool (x.val != y.val)) w:=Qjx _ _ x.2 y.2 w
theorem QBD {G:List UInt8} (h:G.length=32):∃g:Y32,g.val=G:=⟨⟨G,h⟩,rfl⟩
theorem QAM:(290:TypeId)≠5:=by decide
theorem HashAt.grown {w w':World} {g base:Nat} {rest:List Value} {bs:List UInt8} {v:Value} {n:Nat} {vs:List Value} (h:HashAt w g 290 rest bs) (hown:w.ownsRow base 5 1 v n vs) (hg:w.grownBy w' v.ownBlock):HashAt w' g 290 rest bs:=by
 obtain⟨st,op,h1,h2⟩:=h
 exact⟨st,op,h1,Qjg h2 hown QAM hg⟩
theorem Qb5 (q:List UInt8):[q].flatten=q:=by simp
theorem QuQ {w:World} {base:Nat} {A:Option Addr} {n m c:Nat} {bs xs ys:List UInt8} (h:w.ownsRow base 5 1 (.slice A n c) n (xs.map W8++ys.map W8)) (hb:xs++ys=bs) (hn:n=m):OwnB w base A m c bs:=by
 subst hb
 subst hn
 rw[←QG6]at h
 exact h
def strB (s:ByteArray):List UInt8:=s.data.toList
theorem Qjq (s:ByteArray):(strB s).length=s.size:=by simp[strB]
section
variable {P:Program} {ops:Array Oper} {rest:List Oper} {o:Oper} {a:Act} {w:World} {Q:Exit→Act→World→Prop}
theorem QgS (hgd:o.guard=none) (src dst:TypeId) (x:Operand) (ho:o.op= .convert src dst x) (e:TypeId) (hs:P.underlying src=some .string) (hd:P.underlying dst=some (.slice e)) (he:P.underlying e=some (.int .u8))
 (s:ByteArray) (hx:a.eval x= .string s)
 (h:∀c w',Later w w'→RdB w' (some ⟨w.heap.size,0,none⟩) s.size (strB s)→s.size≤c→w.heap.size<w'.heap.size→wpList P ops Q rest (a.put o.dst (.slice (some ⟨w.heap.size,0,none⟩) s.size c)) w'):wpList P ops Q (o :: rest) a w:=
 wpList_plain hgd fun K hK=>by
  have hr:=run_bytes_of_string (P:=P) w src dst e s hs hd he
  unfold Oper.wp execOp
  simp only[ho,hx,Sem.run_bind,hr,Result.andThen_ok,Sem.run_pure]
  refine hK _ _ (h _ _ ((Qab w).alloc _) ⟨by simp[strB],fun _=>⟨_,_,rfl,by simp,fun j u hu=>?_⟩⟩ (grownCap_ge w s.size 0 e) (by simp))
  rw[QGT]
  have hu':(s.data.toList.map W8)[j]?=some u:=hu
  have hj:j<s.data.size:=by have:=(QGL.1 hu').1;simpa using this
  have hc:(bytesRow s (grownCap w s.size 0 e))[j]?=some u:=by
   unfold bytesRow
   rw[Array.getElem?_append_left (by simpa using hj),Array.getElem?_map]
   rw[QGF,Array.getElem?_toList]at hu'
   exact hu'
  generalize bytesRow s (grownCap w s.size 0 e)=C at *
  unfold World.cell?
  have hb:(w.drew.alloc (.cells C e (C.size,C.size+1))).heap[w.heap.size]?=some (.cells C e (C.size,C.size+1)):=by
   show (w.heap.push _)[w.heap.size]?=_
   simp
  rw[hb]
  exact hc
end
def Qse (key:List UInt8):List UInt8:=if 64<key.length then Qek key else key
def QbQ (key:List UInt8):List UInt8:=Qse key++QGn (64-(Qse key).length) 0
theorem Qoc (key:List UInt8):(Qse key).length≤64:=by
 unfold Qse
 split
 ·rw[QcH];omega
 ·omega
theorem Qc8 (key:List UInt8):(QbQ key).length=64:=by
 have:=Qoc key
 simp[QbQ]
 omega
def Qeb (k:List UInt8) (m:UInt8):List UInt8:=k.map (· ^^^ m)
theorem QdE (k:List UInt8) (m:UInt8):(Qeb k m).length=k.length:=by simp[Qeb]
def QrS (key bs:List UInt8):List UInt8:=Qek (Qeb (QbQ key) 54++bs)
def QbY (key bs:List UInt8):List UInt8:=Qek (Qeb (QbQ key) 92++QrS key bs)
theorem QaU (key bs:List UInt8):(QbY key bs).length=32:=QcH _
theorem Qu7 (A B:Option Addr) (n m c d:Nat) (xs ys:List UInt8) (w:World) (hx:RdB w A n xs) (hy:RdB w B m ys) (hn:n≤140737488355328) (hm:m≤140737488355328):
 Calls Tryz.prog 129 #[.slice A n c,.slice B m d] w fun e w'=>∃k,e= .returned (.tuple #[.bool (decide (xs=ys)),.int .i64 k])∧Later w w':=by
 have lx:=hx.len
 have ly:=hy.len
 by_cases hnm:n=m
 ·subst hnm
  have hr:∀x:UInt8,(x=0↔xs=ys)→decide (xs=ys)=(x==0):=by
   intro x hb
   rw[QHh,decide_eq_true_iff,beq_iff_eq]
   exact hb.symm
  have HR:=hid hr
  clear hr
  generalize decide (xs=ys)=R at *
  go_enter Tryz.func129,Tryz.ntmps129
  go_wp2
  go_loopw [6,7,16] (fun v6 v7 i wr=>∃(k:Nat) (x:UInt8),k≤n∧i= .int .i64 k∧v7= .int .i64 k∧v6=W8 x∧Later w wr∧Hid (x=0↔∀j,j<k→xs.getD j 0=ys.getD j 0)) (fun _ _ i _=>n-(intOf i).toNat)
  case atStart=>exact⟨0,0,by omega,rfl,rfl,rfl,Later.refl w,hid ⟨fun _ j hj=>absurd hj (by omega),fun _=>rfl⟩⟩
  case round=>
   obtain⟨k,x,hk,rfl,rfl,rfl,hl,he⟩:=hrel
   by_cases hlt:k<n
   ·obtain⟨b1,o1,rfl,hb1,hc1⟩:=hx.at_ (by omega)
    obtain⟨b2,o2,rfl,hb2,hc2⟩:=hy.at_ (by omega)
    have c1:wr.cell? ⟨b1,o1+k,none⟩=some (W8 (xs.getD k 0)):=(hl.below.cell (p:=⟨b1,o1+k,none⟩) hb1).trans (hc1 k hlt)
    have c2:wr.cell? ⟨b2,o2+k,none⟩=some (W8 (ys.getD k 0)):=(hl.below.cell (p:=⟨b2,o2+k,none⟩) hb2).trans (hc2 k hlt)
    clear hc1 hc2 hx hy
    generalize hX:xs.getD k 0=X at *
    generalize hY:ys.getD k 0=Y at *
    have HX:=hid hX
    have HY:=hid hY
    clear hX hY
    go_wp2
    refine Qaf [] [0,1,2,3,4,5,6,7,8,9,10,11] [] (by as_aux_lemma=>kernel_rfl) (by as_aux_lemma=>kernel_rfl) (by intro _ _ d _ _ h;cases d<;>exact h) ?_
    simp only[Qaj,pick,QGo,QGp,QGs,QGu,QGv]
    repeat (go_big_quiet_step (fail))
    refine wpQuiet_nil ?_
    go_wp2
    refine⟨⟨k+1,x ||| (X ^^^ Y),by omega,by go_num,by go_num,rfl,hl.drew,hid ?_⟩,by simp only[intOf];omega⟩
    have e:∀a b c:UInt8,(a ||| (b ^^^ c))=0↔a=0∧b=c:=by
     intro a b c
     rw[UInt8.or_eq_zero_iff,UInt8.xor_eq_zero_iff]
    rw[e,he.out]
    constructor
    ·rintro⟨h1,h2⟩ j hj
     by_cases hjk:j=k
     ·subst hjk
      rw[HX.out,HY.out,h2]
     ·exact h1 j (by omega)
    ·intro h
     exact⟨fun j hj=>h j (by omega),by rw[←HX.out,←HY.out];exact h k (by omega)⟩
   ·go_wp2
    go_ret2
    have hR:R=(x==0):=by
     refine HR.out x (he.out.trans ⟨fun h=>?_,fun h=>?_⟩)
     ·apply QIN (by omega)
      intro j h1 h2
      have:=h j (by omega)
      rw[QGq,QGq,QGt h1,QGt h2]at this
      exact this
     ·intro j _
      rw[h]
    refine⟨k,?_,hl⟩
    rw[hR]
    rfl
 ·have hne:((n:Int) != (m:Int))=true:=by simp;omega
  have hf:decide (xs=ys)=false:=decide_eq_false (fun h=>hnm (by rw[←lx,←ly,h]))
  have HF:=hid hf
  clear hf
  generalize decide (xs=ys)=R at *
  go_enter Tryz.func129,Tryz.ntmps129
  go_wp2
  go_ret2
  exact⟨0,by rw[HF.out];rfl,Later.refl w⟩
theorem QwK (A B:Option Addr) (n m c d:Nat) (xs ys:List UInt8) (w:World) (hx:RdB w A n xs) (hy:RdB w B m ys) (hn:n≤140737488355328) (hm:m≤140737488355328):
 Calls Tryz.prog 97 #[.slice A n c,.slice B m d] w fun e w'=>e= .returned (.bool (decide (xs=ys)))∧Later w w':=by
 have h:=hid (Qu7 A B n m c d xs ys w hx hy hn hm)
 generalize decide (xs=ys)=R at *
 go_enter Tryz.func97,Tryz.ntmps97
 go_wp2_with (first|(go_at_call 129;refine h.out.mono ?_;rintro e w1 ⟨k,rfl,hl⟩))
 go_ret
 exact⟨rfl,hl⟩
theorem Qlb (l:List UInt8) (h:l.length≤64):Qar (QGn 64 (W8 0)) 0 ((l.map W8).take 64)=(l++QGn (64-l.length) 0).map W8:=by
 rw[QGD (by simpa using h),Qar]
 simp only[QIS,QGv,QGr,QGT,List.drop_replicate,QG6,QG8]
set_option maxRecDepth 100000 in
set_option maxHeartbeats 1000000 in
theorem Qwr (A:Option Addr) (n c:Nat) (key:List UInt8) (w:World) (hx:RdB w A n key) (hc:n≤c) (hn:n≤140737488355328):
 Calls Tryz.prog 181 #[.slice A n c] w fun e w'=>e= .returned (.agg ((QbQ key).map W8).toArray)∧Later w w':=by
 have hl:=hx.len
 have hkl:=Qc8 key
 by_cases h64:64<n
 ·have hk:QbQ key=Qek key++QGn (64-(Qek key).length) 0:=by rw[QbQ,Qse,if_pos (by omega)]
  have hG:=QcH key
  have hs:=fun A n c w hx=>Qqe A n c [key] w hx
  rw[Qb5]at hs
  generalize Qek key=G at *
  generalize QbQ key=K at *
  have HS:=hid hs
  have HK:=hid hk
  clear hs hk
  go_enter Tryz.func181,Tryz.ntmps181
  go_wp2_with (first
   | (go_at_call 185;refine (HS.out (some ⟨w.heap.size+2,0,none⟩) 1 1 _ ?hx (by omega) (by omega)).mono ?_
      (case hx=>exact Qep ((Blk.new' _ 22 [.slice A n c] (by simp)).rd rfl) ⟨Qef (hx.later (((Qaa _ _).alloc _).alloc _)) hc,trivial⟩)
      rintro e w1 ⟨rfl,hl1⟩)
   | (refine Qal rfl rfl 30 _ _ rfl w1.heap.size 0 30 (QGn 32 (W8 0)) (G.map W8) ?b ?hx ?hy ?hi ?hf ?h1 ?_;(case hx=>rfl);(case hy=>rfl);(case hi=>rw[QGr,hG];kernel_rfl);(case hf=>simp[hG]);(case h1=>exact QaX _);(case b=>exact Blk.new _ _ _);intro w2 hb2 ho2
      rw[Qav _ _ (by simp[hG])]at hb2))
  have z1:w.heap.size+3≤w1.heap.size:=by have:=hl1.size;simp at this;omega
  have hB2:Blk w2 w.heap.size 288 (QGn 64 (W8 0)):=(((Blk.new w _ _).later (((Qaa _ _).alloc _).trans hl1)).later (Qaa _ _)).only ho2 (by omega)
  have hB3:Blk w2 (w.heap.size+1) 288 (QGn 64 (W8 0)):=(((Blk.new' _ _ (QGn 64 (W8 0)) (by simp)).later ((Qaa _ _).trans hl1)).later (Qaa _ _)).only ho2 (by omega)
  have hL2:Later w w2:=(((((Qaa w _).alloc _).alloc _).trans hl1).alloc _).only ho2 (by omega)
  refine Qaf [] [0,1] [2] (by as_aux_lemma=>kernel_rfl) (by as_aux_lemma=>kernel_rfl) (by intro _ _ d _ _ h;cases d<;>exact h) ?_
  simp only[Qaj,pick,QGo,QGp,QGs,QGu,QGv]
  repeat (go_big_quiet_step (fail))
  refine wpQuiet_nil ?_
  go_wp2_with (first
   | (refine Qax rfl _ _ _ _ rfl 5 Tryz.underlying22 Qb2 (w.heap.size+1) 0 64 64 288 (QGn 64 (W8 0)) (hB3.later (Qab _)) (some ⟨w1.heap.size,0,none⟩) 32 32 (G.map W8) ((hb2.later (Qab _)).rd (by simp[hG])) (QaX _) rfl rfl (by simp) ?_;intro w4 hb4 ho4
      rw[Qlb G (by omega),←HK.out]at hb4
      have hB4:=(hB2.later (Qab _)).only ho4 (by omega)
      have hL4:=(hL2.drew).only ho4 (by omega))
   | (refine QaM rfl 288 _ rfl (w.heap.size+1) 0 (K.map W8) ?hc ?hx _ Tryz.underlying288 rfl ?hi ?_;(case hx=>rfl);(case hi=>rw[QGr,hkl];kernel_rfl);(case hc=>intro j v hv;rw[QGT];exact hb4.cellD j hv))
   | (refine Qal rfl rfl 288 _ _ rfl w.heap.size 0 288 (QGn 64 (W8 0)) (K.map W8) ?b ?hx ?hy ?hi ?hf ?h1 ?_;(case hx=>rfl);(case hy=>rfl);(case hi=>rw[QGr,hkl];kernel_rfl);(case hf=>simp[hkl]);(case h1=>exact QaX _);(case b=>exact hB4);intro w9 hb9 ho9))
  rw[Qav _ _ (by simp[hkl])]at hb9
  exact bodyPost_ret (Qa8 rfl _ _ _ _ (K.map W8) _ hb9 rfl Tryz.underlying288 rfl (by rw[QGr,hkl];kernel_rfl)) rfl ⟨rfl,hL4.only ho9 (QGx _)⟩
 ·have hk:QbQ key=key++QGn (64-key.length) 0:=by rw[QbQ,Qse,if_neg (by omega)]
  generalize QbQ key=K at *
  have HK:=hid hk
  clear hk
  go_enter Tryz.func181,Tryz.ntmps181
  go_wp2_with (first
   | (refine Qax rfl _ _ _ _ rfl 5 Tryz.underlying22 Qb2 (w.heap.size+1) 0 64 64 288 (QGn 64 (W8 0)) (Blk.new' _ _ _ (by simp)) A n c (key.map W8) (RdB.later hx ((Qaa _ _).alloc _)) (QaX _) rfl rfl (by simp) ?_;intro w4 hb4 ho4
      rw[Qlb key (by omega),←HK.out]at hb4
      have hB4:Blk w4 w.heap.size 288 (QGn 64 (W8 0)):=((Blk.new w _ _).later (Qaa _ _)).only ho4 (by omega)
      have hL4:Later w w4:=((Qaa w _).alloc _).only ho4 (by omega))
   | (refine QaM rfl 288 _ rfl (w.heap.size+1) 0 (K.map W8) ?hc ?hx _ Tryz.underlying288 rfl ?hi ?_;(case hx=>rfl);(case hi=>rw[QGr,hkl];kernel_rfl);(case hc=>intro j v hv;rw[QGT];exact hb4.cellD j hv))
   | (refine Qal rfl rfl 288 _ _ rfl w.heap.size 0 288 (QGn 64 (W8 0)) (K.map W8) ?b ?hx ?hy ?hi ?hf ?h1 ?_;(case hx=>rfl);(case hy=>rfl);(case hi=>rw[QGr,hkl];kernel_rfl);(case hf=>simp[hkl]);(case h1=>exact QaX _);(case b=>exact hB4);intro w9 hb9 ho9))
  rw[Qav _ _ (by simp[hkl])]at hb9
  exact bodyPost_ret (Qa8 rfl _ _ _ _ (K.map W8) _ hb9 rfl Tryz.underlying288 rfl (by rw[QGr,hkl];kernel_rfl)) rfl ⟨rfl,hL4.only ho9 (QGx _)⟩
set_option maxRecDepth 100000 in
set_option maxHeartbeats 1000000 in
theorem Qlf (k:List UInt8) (m:UInt8) (w:World) (hk:k.length=64):
 Calls Tryz.prog 182 #[.agg (k.map W8).toArray,W8 m] w fun e w'=>∃A c,e= .returned (.slice A 64 c)∧OwnB w' w.heap.size A 64 c (Qeb k m)∧Later w w':=by
 have hml:=QdE k m
 rw[hk]at hml
 have hg:∀j (hj:j<64),(k.map W8)[j]?=some (W8 (k.getD j 0))∧(Qeb k m)[j]?=some (k.getD j 0 ^^^ m):=by
  intro j hj
  rw[QGq,QGF,Qeb,QGF,QGt (by omega)]
  exact⟨rfl,rfl⟩
 generalize Qeb k m=M at *
 have hkm:(k.map W8).length=64:=by simpa using hk
 have h1:=QaX k
 have HG:=hid hg
 clear hg
 generalize hkv:k.map W8=kv at *
 clear hkv
 go_enter Tryz.func182,Tryz.ntmps182
 go_wp2_with (first
  | (refine QaA rfl _ _ _ rfl 5 _ 1 Tryz.underlying22 Qc4 rfl _ _ _ _ 64 rfl rfl ?hL ?hC (by omega) (by omega) ?_;(case hL=>rfl);(case hC=>rfl);intro w1 hb1 hl1)
  | (refine QaM rfl 288 _ rfl w.heap.size 0 kv ?hc ?hx _ Tryz.underlying288 rfl ?hi ?_;(case hx=>rfl);(case hi=>rw[hkm];kernel_rfl);(case hc=>intro j v hv;rw[QGT];exact ((Blk.new w _ _).later hl1).cellD j hv)))
 have hfz:QjD M 64 0=QGn 64 0:=rfl
 have hb1':Blk w1 (w.heap.size+1) 5 ((QjD M 64 0).map W8):=by
  rw[hfz,QG8]
  have hb:=hb1
  simp only[World.size_alloc]at hb
  exact hb
 have hl1':Later w w1:=(Qaa _ _).trans hl1
 clear hb1 hl1 hfz
 go_loopw [10] (fun i wr=>∃j:Nat,j≤64∧i= .int .i64 j∧Later w wr∧Blk wr (w.heap.size+1) 5 ((QjD M 64 j).map W8)) (fun i _=>64-(intOf i).toNat)
 case atStart=>exact⟨0,by omega,rfl,hl1',hb1'⟩
 case round=>
  clear hb1' hl1'
  obtain⟨j,hj,rfl,hl,hb⟩:=hrel
  by_cases hlt:j<64
  ·obtain⟨e1,e2⟩:=HG.out j hlt
   have hfl:=Qm0 M 64 j hml hj
   have HST:=hid (QrT M 64 j _ hml hlt e2)
   clear e2
   generalize k.getD j 0=x at *
   have hix:∀W',(Instr.index 288 (.agg kv.toArray) (.int .i64 (j:Int))).run Tryz.prog W'= .ok (W8 x) W':=fun W'=>Qfg Tryz.underlying288 Qb2 Tryz.underlying5 rfl kv .i64 j (W8 x) hlt e1 W'
   go_wp2_with (first
    | (refine Qad rfl rfl _ _ _ rfl _ _ _ _ hb rfl ?hl rfl (by kernel_rfl) ?_;(case hl=>rw[QGr,hfl];omega);intro v' w5 hv' hb5 ho5;simp[go_sem]at hv';subst hv'))
   go_roundw
   case rel=>
    refine⟨j+1,by omega,by go_num,hl.only ho5 (by omega),?_⟩
    rw[←HST.out,←Qcx]
    exact hb5
   case measure=>simp only[intOf];omega
  ·have hj':j=64:=by omega
   rw[hj',Qwk M 64 hml]at hb
   go_wp2
   go_ret
   refine⟨_,_,rfl,?_,hl⟩
   have:=Qdj hb (show w.heap.size≤w.heap.size+1 by omega) (by simp[hml])
   rwa [QGr,hml]at this
theorem QDV:Tryz.zeroCells292=(Qby Qgr (QGn 64 0) 0++QGn 64 (W8 0)).toArray:=by kernel_rfl
theorem QrZ (l z v:List Value) (n:Nat) (hl:l.length=n) (hz:z.length=v.length):Qar (l++z) n v=l++v:=by
 subst hl
 rw[Qar,QHK,QHj (by simp[hz]),QGW]
 rfl
theorem QyF (K:List UInt8) (hK:K.length=64):List.foldl (fun (cs:Array Value) (x:Value×Nat)=>cs.setIfInBounds (73+x.snd) x.fst) Tryz.zeroCells292 (K.map W8).zipIdx=(Qby Qgr (QGn 64 0) 0++K.map W8).toArray:=by
 have hl:=QcJ Qgr (QGn 64 0) 0 (by simp)
 have hk:(K.map W8).length=64:=by simpa using hK
 rw[QDV]
 have h:=QfK (K.map W8) 0 73 (Qby Qgr (QGn 64 0) 0++QGn 64 (W8 0)) (by rw[QGy,hl,hk];simp)
 rcases h with h|h
 ·rw[QrZ _ _ _ 73 hl (by rw[hk];simp)]at h
  exact h
 ·omega
def TagAt (w:World) (g:Nat) (key bs:List UInt8):Prop:=HashAt w g 292 ((QbQ key).map W8) (Qeb (QbQ key) 54++bs)
theorem HashAt.restD {w:World} {g:Nat} {t:TypeId} {rest:List Value} {bs:List UInt8} (h:HashAt w g t rest bs):∀(j:Nat) v,rest[j]?=some v→w.cell? ⟨g,73+j,none⟩=some v:=by
 obtain⟨st,op,h1,h2⟩:=h
 intro j v hv
 refine h2.cellD (73+j) ?_
 have hl:=QcJ st op bs.length h1.len
 rw[QGE (by omega),hl,QIt]
 exact hv
set_option maxRecDepth 100000 in
set_option maxHeartbeats 1000000 in
theorem Ql2 (A:Option Addr) (n c:Nat) (key:List UInt8) (w:World) (hx:RdB w A n key) (hc:n≤c) (hn:n≤140737488355328):
 Calls Tryz.prog 163 #[.slice A n c] w fun e w'=>∃g,e= .returned (.pointer (some ⟨g,0,none⟩))∧w.heap.size≤g∧TagAt w' g key []∧Later w w':=by
 have hb:=Qwr A n c key w hx hc hn
 have hkl:=Qc8 key
 unfold TagAt
 rw[QGW]
 generalize QbQ key=K at *
 have HB:=hid hb
 clear hb
 have hkm:(K.map W8).length=64:=by simpa using hkl
 go_enter Tryz.func163,Tryz.ntmps163
 go_wp2_with (first
  | (go_at_call 181;refine HB.out.mono ?_;rintro e w1 ⟨rfl,hl1⟩))
 rw[QyF K hkl]
 have hH0:HashAt (w1.alloc (.cells (Qby Qgr (QGn 64 0) 0++K.map W8).toArray 292)) w1.heap.size 292 (K.map W8) []:=⟨Qgr,QGn 64 0,Qtd,Blk.new _ _ _⟩
 generalize hC:Qby Qgr (QGn 64 0) 0++K.map W8=C at *
 clear hC
 have L0:=hl1.alloc (.cells C.toArray 292)
 have hz:=hl1.size
 have hlt0:=hH0.lt
 generalize hW:w1.alloc (.cells C.toArray 292)=W at *
 clear hW
 generalize w1.heap.size=g at *
 have hH1:=hH0.later (Qab _)
 refine Qaf [([0,1,2,3,4,5,6],7),([],8)] [] [9] (by as_aux_lemma=>kernel_rfl) (by as_aux_lemma=>kernel_rfl) (by intro _ _ d _ _ h;cases d<;>exact h) ?_
 simp only[Qaj,pick,QGo,QGp,QGs,QGu,QGv]
 repeat (first|go_big_quiet_skip|(go_big_quiet_want;refine QaJ 288 _ rfl g 73 (K.map W8) ?hc ?hx _ Tryz.underlying288 rfl ?hi ?_;(case hx=>rfl);(case hi=>rw[hkm];kernel_rfl);(case hc=>rintro w' ⟨x,rfl⟩;exact (hH1.later ⟨x,rfl⟩).restD);simp only[Act.put,QGw,QGB,QGz];go_big_quiet_on)|(go_big_quiet_step (fail)))
 refine wpQuiet_nil ?_
 go_wp2_with (go_at_call 182;refine (Qlf K 54 _ hkl).mono ?_;rintro e w2 ⟨A2,c2,rfl,hown2,hl2⟩)
 try refine⟨by first|assumption|exact Qab _|exact Qaa _ _|exact Later.refl _,?_⟩
 try simp only[Qaj,pick,QGo,QGp,QGs,QGu,QGv]
 repeat (go_big_quiet_step (fail))
 refine wpQuiet_nil ?_
 go_wp2
 try refine⟨by first|assumption|exact Qab _|exact Qaa _ _|exact Later.refl _,?_⟩
 try simp only[Qaj,pick,QGo,QGp,QGs,QGu,QGv]
 repeat (go_big_quiet_step (fail))
 refine wpQuiet_nil ?_
 have hone:[Qeb K 54].flatten=Qeb K 54:=by simp
 have hml:=QdE K 54
 have HO:=hid hone
 clear hone
 generalize hM:Qeb K 54=M at *
 have HM:=hid hM
 clear hM
 go_wp2_with (first
  | (go_at_call 164;refine (Qju g 292 (K.map W8) [] (some ⟨w2.heap.size,0,none⟩) 1 1 [M] _ ?hh ?hx (by omega) (by rw[HO.out];simp;omega)).mono ?_
     (case hh=>exact (hH1.later hl2).later (Qaa _ _))
     (case hx=>exact QfG ((Blk.new w2 22 [.slice A2 64 c2]).rd rfl) (Qyn (by have:=hl2.size;simp at this;omega)) ⟨QxN (hown2.later (Qaa _ _)) (by simpa using hlt0),trivial⟩)
     rintro e w3 ⟨rfl,hh3,ho3⟩
     rw[HO.out,QGv]at hh3))
 go_ret
 exact⟨g,rfl,hz,by rw[HM.out];exact hh3,(((L0.trans (Qab _)).trans hl2).alloc _).only ho3 hz⟩
theorem Qve (key bs:List UInt8):QbY key bs=Qek [Qeb (QbQ key) 92,QrS key bs].flatten:=by simp[QbY]
set_option maxRecDepth 100000 in
set_option maxHeartbeats 1000000 in
theorem QsB (g:Nat) (key bs:List UInt8) (w:World) (hh:TagAt w g key bs) (hlen:bs.length≤2305843009213693000):
 Calls Tryz.prog 165 #[.pointer (some ⟨g,0,none⟩)] w fun e w'=>e= .returned (.agg ((QbY key bs).map W8).toArray)∧Later w w':=by
 have hkl:=Qc8 key
 have hml:=QdE (QbQ key) 54
 unfold TagAt at hh
 have hs:=fun g t rest w hh=>QqB g t rest (Qeb (QbQ key) 54++bs) w hh (by rw[QGy,hml,hkl];omega)
 have hin:=QcH (Qeb (QbQ key) 54++bs)
 have hT:=QaU key bs
 have hsum:=fun A n c w hx=>Qqe A n c [Qeb (QbQ key) 92,QrS key bs] w hx
 rw[←Qve]at hsum
 generalize QbY key bs=T at *
 have hmk:(Qeb (QbQ key) 92).length=64:=by rw[QdE,hkl]
 have hmi:=Qc8 key
 have hf:[Qeb (QbQ key) 92,QrS key bs].flatten.length=96:=by simp[hmk,QrS,QcH]
 unfold QrS at *
 generalize Qek (Qeb (QbQ key) 54++bs)=I at *
 generalize Qeb (QbQ key) 54++bs=X at *
 have hmm:=fun w=>Qlf (QbQ key) 92 w hkl
 generalize Qeb (QbQ key) 92=M at *
 generalize QbQ key=K at *
 have HS:=hid hs
 have HSUM:=hid hsum
 have HF:=hid hf
 have HMM:=hid hmm
 clear hs hsum hf hmm
 have hkm:(K.map W8).length=64:=by simpa using hkl
 go_enter Tryz.func165,Tryz.ntmps165
 go_wp2_with (first
  | (go_at_call 184;refine (HS.out g 292 (K.map W8) _ (hh.later (Qaa _ _))).mono ?_;rintro e w1 ⟨rfl,hl1⟩)
  | (refine Qal rfl rfl 30 _ _ rfl w1.heap.size 0 30 (QGn 32 (W8 0)) (I.map W8) ?b ?hx ?hy ?hi ?hf ?h1 ?_;(case hx=>rfl);(case hy=>rfl);(case hi=>rw[QGr,hin];kernel_rfl);(case hf=>simp[hin]);(case h1=>exact QaX _);(case b=>exact Blk.new _ _ _);intro w2 hb2 ho2
     rw[Qav _ _ (by simp[hin])]at hb2))
 have z1:w.heap.size+1≤w1.heap.size:=by have:=hl1.size;simpa using this
 have hh2:=(((hh.later (Qaa _ _)).later hl1).later (Qaa _ _)).only ho2 (by have:=hh.lt;omega)
 have hR2:Blk w2 w.heap.size 30 (QGn 32 (W8 0)):=(((Blk.new w _ _).later hl1).later (Qaa _ _)).only ho2 (by omega)
 have hL2:Later w w2:=(((Qaa w _).trans hl1).alloc _).only ho2 (by omega)
 clear hl1 ho2 hh
 generalize w1.heap.size=g1 at *
 have hh3:=hh2.later (Qab _)
 refine Qaf [([0,1,2,3,5],4)] [] [6,7,8] (by as_aux_lemma=>kernel_rfl) (by as_aux_lemma=>kernel_rfl) (by intro _ _ d _ _ h;cases d<;>exact h) ?_
 simp only[Qaj,pick,QGo,QGp,QGs,QGu,QGv]
 repeat (first|go_big_quiet_skip|(go_big_quiet_want;refine QaJ 288 _ rfl g 73 (K.map W8) ?hc ?hx _ Tryz.underlying288 rfl ?hi ?_;(case hx=>rfl);(case hi=>rw[hkm];kernel_rfl);(case hc=>rintro w' ⟨x,rfl⟩;exact (hh3.later ⟨x,rfl⟩).restD);simp only[Act.put,QGw,QGB,QGz];go_big_quiet_on)|(go_big_quiet_step (fail)))
 refine wpQuiet_nil ?_
 go_wp2_with (go_at_call 182;refine (HMM.out _).mono ?_;rintro e w3 ⟨A3,c3,rfl,hown3,hl3⟩)
 try refine⟨by first|assumption|exact Qab _|exact Qaa _ _|exact Later.refl _,?_⟩
 try simp only[Qaj,pick,QGo,QGp,QGs,QGu,QGv]
 repeat (go_big_quiet_step (fail))
 refine wpQuiet_nil ?_
 have hb3:=(hb2.later (Qab _)).later hl3
 have hR3:=(hR2.later (Qab _)).later hl3
 have hL3:=(hL2.drew).trans hl3
 go_wp2_with (first
  | (go_at_call 185;refine (HSUM.out (some ⟨w3.heap.size,0,none⟩) 2 2 _ ?hx (by omega) (by rw[HF.out];omega)).mono ?_
     (case hx=>exact Qep ((Blk.new w3 22 [.slice A3 64 c3,.slice (some ⟨g1,0,none⟩) 32 32]).rd rfl) ⟨Qef (RdB.later hown3.rd (Qaa _ _)) hown3.cap,Qef ((hb3.later (Qaa _ _)).rd (by simp[hin])) (by omega),trivial⟩)
     rintro e w4 ⟨rfl,hl4⟩)
  | (refine Qal rfl rfl 30 _ _ rfl w.heap.size 0 30 (QGn 32 (W8 0)) (T.map W8) ?b ?hx ?hy ?hi ?hf ?h1 ?_;(case hx=>rfl);(case hy=>rfl);(case hi=>rw[QGr,hT];kernel_rfl);(case hf=>simp[hT]);(case h1=>exact QaX _);(case b=>exact (hR3.later (Qaa _ _)).later hl4);intro w5 hb5 ho5
     rw[Qav _ _ (by simp[hT])]at hb5))
 exact bodyPost_ret (Qa8 rfl _ _ _ _ (T.map W8) _ hb5 rfl Tryz.underlying30 rfl (by rw[QGr,hT];kernel_rfl)) rfl ⟨rfl,(((hL3.alloc _).trans hl4)).only ho5 (QGx _)⟩
theorem TagAt.write {w:World} {g:Nat} {key bs x:List UInt8} (h:HashAt w g 292 ((QbQ key).map W8) ((Qeb (QbQ key) 54++bs)++x)):TagAt w g key (bs++x):=by
 unfold TagAt
 rw[←QGI]
 exact h
set_option maxRecDepth 100000 in
set_option maxHeartbeats 1000000 in
theorem Ql8 (A B:Option Addr) (n c m d:Nat) (key:List UInt8) (ps:List (List UInt8)) (w:World) (hx:RdB w A n key) (hc:n≤c) (hn:n≤140737488355328) (hp:Parts w (fun _=>False) B m ps) (hm:m≤140737488355328) (hlen:ps.flatten.length≤2305843009213690000):
 Calls Tryz.prog 131 #[.slice A n c,.slice B m d] w fun e w'=>e= .returned (.agg ((QbY key ps.flatten).map W8).toArray)∧Later w w':=by
 have hT:=QaU key ps.flatten
 have hs:=fun g w hh=>QsB g key ps.flatten w hh (by omega)
 have hw:=fun g bs n c w hh hx hm=>Qju g 292 ((QbQ key).map W8) bs B n c ps w hh hx hm
 generalize QbY key ps.flatten=T at *
 have hml:(Qeb (QbQ key) 54).length=64:=by rw[QdE,Qc8]
 have HS:=hid hs
 have HW:=hid hw
 clear hs hw
 go_enter Tryz.func131,Tryz.ntmps131
 go_wp2_with (first
  | (go_at_call 163;refine (Ql2 A n c key _ (hx.later (Qaa _ _)) hc hn).mono ?_;rintro e w1 ⟨g,rfl,hg,hh1,hl1⟩)
  | (go_at_call 164;refine (HW.out g _ m d _ hh1 ?hx hm ?hl).mono ?_
     (case hx=>exact (hp.more (fun b hb=>.inr (by subst hb;simp at hg;omega))).later ((Qaa _ _).trans hl1))
     (case hl=>rw[QGW,hml];omega)
     rintro e w2 ⟨rfl,hh2,ho2⟩
     have ht2:=TagAt.write hh2
     rw[QGv]at ht2)
  | (go_at_call 165;refine (HS.out g _ ht2).mono ?_;rintro e w3 ⟨rfl,hl3⟩)
  | (refine Qal rfl rfl 30 _ _ rfl w.heap.size 0 30 (QGn 32 (W8 0)) (T.map W8) ?b ?hx ?hy ?hi ?hf ?h1 ?_;(case hx=>rfl);(case hy=>rfl);(case hi=>rw[QGr,hT];kernel_rfl);(case hf=>simp[hT]);(case h1=>exact QaX _);(case b=>exact (((Blk.new w _ _).later hl1).only ho2 (by simp at hg;omega)).later hl3);intro w5 hb5 ho5
     rw[Qav _ _ (by simp[hT])]at hb5))
 exact bodyPost_ret (Qa8 rfl _ _ _ _ (T.map W8) _ hb5 rfl Tryz.underlying30 rfl (by rw[QGr,hT];kernel_rfl)) rfl
  ⟨rfl,((((Qaa w _).trans hl1).only ho2 (by simp at hg;omega)).trans hl3).only ho5 (QGx _)⟩
theorem QDJ (G:List UInt8) (h:G.length=32):Qar (QGn 16 (W8 0)) 0 ((G.map W8).take 16)=(G.take 16).map W8:=by
 rw[Qav _ _ (by simp[h]),QH0]
set_option maxRecDepth 100000 in
theorem Qoh (G:List UInt8) (hG:G.length=32) (w:World):
 Calls Tryz.prog 130 #[.agg (G.map W8).toArray] w fun e w'=>∃A c,e= .returned (.slice A 16 c)∧OwnB w' w.heap.size A 16 c (G.take 16)∧Later w w':=by
 have hb0:=Blk.new w 30 (G.map W8)
 have ht:=QDJ G hG
 have hl16:(G.take 16).length=16:=by simp[hG]
 have hgl:(G.map W8).length=32:=by simp[hG]
 have h1:=QaX G
 generalize G.take 16=F at *
 generalize G.map W8=gl at *
 have HT:=hid ht
 clear ht
 go_enter Tryz.func130,Tryz.ntmps130
 go_wp2_with (first
  | (refine QaA rfl _ _ _ rfl 5 _ 1 Tryz.underlying22 Qc4 rfl _ _ _ _ 16 rfl rfl ?hL ?hC (by omega) (by omega) ?_;(case hL=>rfl);(case hC=>rfl);intro w1 hb1 hl1;simp only[World.size_alloc]at hb1)
  | (refine Qax rfl _ _ _ _ rfl 5 Tryz.underlying22 Qb2 (w.heap.size+1) 0 16 16 5 (QGn 16 (W8 0)) hb1 (some ⟨w.heap.size,0,none⟩) 32 32 gl ((hb0.later hl1).rd hgl) h1 rfl rfl (by simp) ?_;intro w4 hb4 ho4
     rw[HT.out]at hb4))
 go_ret
 refine⟨_,_,rfl,?_,((Qaa w _).trans hl1).only ho4 (by omega)⟩
 have:=Qdj hb4 (show w.heap.size≤w.heap.size+1 by omega) (by simp[hl16])
 rwa [QGr,hl16]at this
theorem Qnw (A B:Option Addr) (n c m d:Nat) (key:List UInt8) (ps:List (List UInt8)) (w:World) (hx:RdB w A n key) (hc:n≤c) (hn:n≤140737488355328) (hp:Parts w (fun _=>False) B m ps) (hm:m≤140737488355328) (hlen:ps.flatten.length≤2305843009213690000):
 Calls Tryz.prog 98 #[.slice A n c,.slice B m d] w fun e w'=>∃A' c',e= .returned (.slice A' 16 c')∧OwnB w' w.heap.size A' 16 c' ((QbY key ps.flatten).take 16)∧Later w w':=by
 have hT:=QaU key ps.flatten
 have hs:=hid (Ql8 A B n c m d key ps w hx hc hn hp hm hlen)
 generalize QbY key ps.flatten=T at *
 have hf:=hid (fun w=>Qoh T hT w)
 go_enter Tryz.func98,Tryz.ntmps98
 go_wp2_with (first
  | (go_at_call 131;refine hs.out.mono ?_;rintro e w1 ⟨rfl,hl1⟩)
  | (go_at_call 130;refine (hf.out _).mono ?_;rintro e w2 ⟨A2,c2,rfl,hown2,hl2⟩))
 go_ret
 exact⟨A2,c2,rfl,hown2.mono hl1.size,hl1.trans hl2⟩
theorem QuU (A B C:Option Addr) (n c m d k e0:Nat) (key tag:List UInt8) (ps:List (List UInt8)) (w:World) (hx:RdB w A n key) (hc:n≤c) (hn:n≤140737488355328) (ht:RdB w C k tag) (hk:k≤140737488355328)
 (hp:Parts w (fun _=>False) B m ps) (hm:m≤140737488355328) (hlen:ps.flatten.length≤2305843009213690000):
 Calls Tryz.prog 61 #[.slice A n c,.slice C k e0,.slice B m d] w fun e w'=>e= .returned (.bool (decide ((QbY key ps.flatten).take 16=tag)))∧Later w w':=by
 have hs:=hid (Qnw A B n c m d key ps w hx hc hn hp hm hlen)
 have hl16:((QbY key ps.flatten).take 16).length=16:=by simp[QaU]
 generalize (QbY key ps.flatten).take 16=S at *
 have hq:=hid (fun A c w hx hy=>QwK A C 16 k c e0 S tag w hx hy (by omega) hk)
 generalize decide (S=tag)=R at *
 go_enter Tryz.func61,Tryz.ntmps61
 go_wp2_with (first
  | (go_at_call 98;refine hs.out.mono ?_;rintro e w1 ⟨A1,c1,rfl,hown1,hl1⟩)
  | (go_at_call 97;refine (hq.out A1 c1 _ hown1.rd (ht.later hl1)).mono ?_;rintro e w2 ⟨rfl,hl2⟩))
 go_ret
 exact⟨rfl,hl1.trans hl2⟩
theorem QAK {w:World} {g n:Nat} {t:TypeId} {vs rest:List Value} (h:Blk w g t (vs++rest)) (hn:vs.length=n):Rd w (some ⟨g,0,none⟩) n vs:=
 ⟨hn,fun _=>⟨g,0,rfl,h.lt,fun j u hu=>by rw[QGT];exact h.cellD j (by rw[QGG (QGL.1 hu).1];exact hu)⟩⟩
def hkT (key info:List UInt8):Nat→List UInt8
 | 0=>[]
 | i+1=>QbY key (hkT key info i++info++[QG4 (i:Int)+1])
def hkO (key info:List UInt8):Nat→List UInt8
 | 0=>[]
 | i+1=>hkO key info i++hkT key info (i+1)
theorem Qri (key info:List UInt8) (i:Nat):(hkT key info i).length≤32:=by
 cases i with
 | zero=>simp[hkT]
 | succ i=>rw[hkT,QaU];omega
theorem QrR (key info:List UInt8) (i:Nat):(hkO key info i).length=32*i:=by
 induction i with
 | zero=>rfl
 | succ i ih=>rw[hkO,QGy,ih,hkT,QaU];omega
def expB (key info:List UInt8) (n:Nat):List UInt8:=(hkO key info ((n+31)/32)).take n
theorem Qj1 (key info:List UInt8) (n:Nat):(expB key info n).length=n:=by
 rw[expB,QGP,QrR]
 omega
set_option maxRecDepth 100000 in
set_option maxHeartbeats 1000000 in
theorem Qoj (A B:Option Addr) (n c m d:Nat) (salt secret:List UInt8) (w:World) (hx:RdB w A n salt) (hc:n≤c) (hn:n≤140737488355328) (hy:RdB w B m secret) (hd:m≤d) (hm:m≤140737488355328):
 Calls Tryz.prog 161 #[.slice A n c,.slice B m d] w fun e w'=>e= .returned (.agg ((QbY salt secret).map W8).toArray)∧Later w w':=by
 have hyl:=hy.len
 have hT:=QaU salt secret
 have hs:=fun B w h=>Ql8 A B n c 1 1 salt [secret] w h hc hn
 rw[Qb5]at hs
 generalize QbY salt secret=T at *
 have HS:=hid hs
 clear hs
 go_enter Tryz.func161,Tryz.ntmps161
 go_wp2_with (first
  | (go_at_call 131;refine (HS.out (some ⟨w.heap.size+1,0,none⟩) _ (hx.later ((Qaa _ _).alloc _)) ?hp (by omega) (by omega)).mono ?_
     (case hp=>exact Qep ((Blk.new' _ 22 [.slice B m d] (by simp)).rd rfl) ⟨Qef (hy.later ((Qaa _ _).alloc _)) hd,trivial⟩)
     rintro e w1 ⟨rfl,hl1⟩)
  | (refine Qal rfl rfl 30 _ _ rfl w.heap.size 0 30 (QGn 32 (W8 0)) (T.map W8) ?b ?hx ?hy ?hi ?hf ?h1 ?_;(case hx=>rfl);(case hy=>rfl);(case hi=>rw[QGr,hT];kernel_rfl);(case hf=>simp[hT]);(case h1=>exact QaX _);(case b=>exact ((Blk.new w _ _).later (Qaa _ _)).later hl1);intro w6 hb6 ho6
     rw[Qav _ _ (by simp[hT])]at hb6))
 exact bodyPost_ret (Qa8 rfl _ _ _ _ (T.map W8) _ hb6 rfl Tryz.underlying30 rfl (by rw[QGr,hT];kernel_rfl)) rfl ⟨rfl,(((Qaa w _).alloc _).trans hl1).only ho6 (QGx _)⟩
set_option maxRecDepth 100000 in
set_option maxHeartbeats 1000000 in
theorem QcT (A:Option Addr) (n c:Nat) (ps:List (List UInt8)) (w:World) (hx:Parts w (fun _=>False) A n ps) (hm:n≤140737488355328) (hp:ps.flatten.length≤140737488355328):
 Calls Tryz.prog 53 #[.slice A n c] w fun e w'=>∃A' c',e= .returned (.slice A' ps.flatten.length c')∧OwnB w' w.heap.size A' ps.flatten.length c' ps.flatten∧Later w w':=by
 have hpl:=hx.len
 go_enter Tryz.func53,Tryz.ntmps53
 go_wp2
 go_loopw [3,11] (fun tot i wr=>∃k:Nat,k≤n∧i= .int .i64 k∧tot= .int .i64 ((ps.take k).flatten.length:Nat)∧Later w wr) (fun _ i _=>n-(intOf i).toNat)
 case atStart=>exact⟨0,by omega,rfl,rfl,Later.refl w⟩
 case round=>
  obtain⟨k,hk,rfl,rfl,hl⟩:=hrel
  by_cases hlt:k<n
  ·obtain⟨b,o,Ak,nk,ck,rfl,hb,hck,hcap,hrd,_⟩:=(hx.later hl).at_ hlt
   have hle:=Qda ps (k+1)
   have hql:=hrd.len
   have hs':(ps.take (k+1)).flatten=(ps.take k).flatten++ps.getD k []:=by rw[QeM ps k (by omega)];simp
   have hll:(ps.take (k+1)).flatten.length=(ps.take k).flatten.length+nk:=by rw[hs',QGy,hql]
   have HL:=hid hll
   rw[hll]at hle
   clear hs' hll
   generalize (ps.take k).flatten.length=fl at *
   generalize ps.getD k []=q at *
   go_wp2
   refine⟨⟨k+1,by omega,by go_num,by rw[HL.out];go_num,hl⟩,by simp only[intOf];omega⟩
  ·have hkn:k=n:=by omega
   subst hkn
   have hfe:(ps.take k).flatten.length=ps.flatten.length:=by rw[QGD (by omega)]
   rw[hfe]
   have HF:=hid hfe
   clear hfe
   generalize hFl:ps.flatten.length=fl at *
   go_wp2_with (first
    | (refine QcF rfl _ _ _ rfl 5 _ 1 Tryz.underlying22 Qc4 rfl _ _ _ _ 0 fl rfl rfl ?hL ?hC (by omega) (by omega) (by omega) ?_;(case hL=>rfl);(case hC=>rfl);intro w1 hown1 hl1))
   go_loopw [6,24] (fun out i w2=>∃(j:Nat) (A':Option Addr) (m c':Nat),j≤k∧i= .int .i64 j∧out= .slice A' m c'∧OwnB w2 w.heap.size A' m c' (ps.take j).flatten∧Later w w2) (fun _ i _=>k-(intOf i).toNat)
   case atStart=>exact⟨0,_,_,_,by omega,rfl,rfl,Qcq hown1 hl.size,hl.trans hl1⟩
   case round=>
    clear hown1 hl1
    obtain⟨j,A',m,c',hj,rfl,rfl,hown,hl2⟩:=hrel
    by_cases hlt2:j<k
    ·obtain⟨b,o,Ak,nk,ck,rfl,hb,hck,hcap,hrd,_⟩:=(hx.later hl2).at_ hlt2
     have hml:=hown.len
     have hle:=Qda ps (j+1)
     have hlen:=hrd.len
     have hs':(ps.take (j+1)).flatten=(ps.take j).flatten++ps.getD j []:=by rw[QeM ps j (by omega)];simp
     rw[hs',QGy]at hle
     have HS:=hid hs'
     clear hs'
     generalize ps.getD j []=q at *
     generalize (ps.take j).flatten=F at *
     go_wp2_with (first
      | (refine QbU rfl _ _ _ rfl 5 _ 1 Tryz.underlying22 Qc4 rfl w _ m _ hown hl2 Ak nk ck _ hrd (QaX _) rfl rfl (by omega) (by omega) ?_;intro A2 c2 w2' hown2 hl2' hg2 _))
     refine⟨⟨j+1,A2,m+nk,c2,by omega,by go_num,rfl,?_,hl2'⟩,by simp only[intOf];omega⟩
     rw[HS.out]
     exact QuQ hown2 rfl rfl
    ·have hjk:j=k:=by omega
     rw[hjk,QGD (by omega)]at hown
     have hml:=hown.len
     rw[hFl]at hml
     subst hml
     go_wp2
     go_ret
     exact⟨_,_,by rw[hFl];rfl,by rw[hFl];exact hown,hl2⟩
def Front (w:World) (base:Nat) (A:Option Addr) (n:Nat) (bs:List UInt8):Prop:=
 bs.length=n∧((A=none∧n=0)∨∃g rest,A=some ⟨g,0,none⟩∧base≤g∧Blk w g 5 (bs.map W8++rest))
theorem Front.rd {w:World} {base:Nat} {A:Option Addr} {n:Nat} {bs:List UInt8} (h:Front w base A n bs):RdB w A n bs:=by
 obtain⟨h1,h2⟩:=h
 rcases h2 with ⟨rfl,rfl⟩|⟨g,rest,rfl,_,hb⟩
 ·obtain rfl:bs=[]:=QG7 h1
  exact QiE w
 ·exact QAK hb (by simpa using h1)
theorem Front.later {w w':World} {base:Nat} {A:Option Addr} {n:Nat} {bs:List UInt8} (h:Front w base A n bs) (hl:Later w w'):Front w' base A n bs:=by
 obtain⟨h1,h2⟩:=h
 exact⟨h1,h2.imp id fun ⟨g,rest,e,hb,hk⟩=>⟨g,rest,e,hb,hk.later hl⟩⟩
theorem Qs7 {w:World} {base:Nat} {A:Option Addr} {n c m:Nat} {bs:List UInt8} (h:OwnB w base A n c bs) (hm:m≤n):Front w base A m (bs.take m):=by
 have hl:=h.len
 refine⟨by rw[QGP];omega,?_⟩
 rcases Qud h with ⟨rfl,rfl⟩|⟨g,rest,rfl,hb,hk,_⟩
 ·exact .inl ⟨rfl,by omega⟩
 ·refine .inr ⟨g,(bs.drop m).map W8++rest,rfl,hb,?_⟩
  rw[←QGI,←QG6,QGX]
  exact hk
theorem QCG:(30:TypeId)≠5:=by decide
def LastAt (w:World) (v:Value) (k:Nat) (T:List UInt8):Prop:=
 (k=0∧v= .slice none 0 0∧T=[])∨∃g,0<k∧v= .slice (some ⟨g,0,none⟩) 32 32∧T.length=32∧Blk w g 30 (T.map W8)
theorem LastAt.rd {w:World} {v:Value} {k:Nat} {T:List UInt8} (h:LastAt w v k T):∃A n c,v= .slice A n c∧n≤c∧RdB w A n T:=by
 rcases h with ⟨_,rfl,rfl⟩|⟨g,_,rfl,hl,hb⟩
 ·exact⟨none,0,0,rfl,QGx _,QiE w⟩
 ·exact⟨_,32,32,rfl,QGx _,hb.rd (by simpa using hl)⟩
theorem QkQ (a b c:List UInt8):[a,b,c].flatten=a++b++c:=by simp
set_option maxRecDepth 100000 in
set_option maxHeartbeats 2000000 in
theorem Quo (A B:Option Addr) (n c m d:Nat) (N:Nat) (key:List UInt8) (ps:List (List UInt8)) (w:World) (hx:RdB w A n key) (hc:n≤c) (hn:n≤140737488355328) (hp:Parts w (fun _=>False) B m ps) (hm:m≤140737488355328) (hlen:ps.flatten.length≤70368744177664) (hN:N≤8160):
 Calls Tryz.prog 162 #[.slice A n c,.int .i64 N,.slice B m d] w fun e w'=>∃A',e= .returned (.tuple #[.slice A' N N,.int .i64 0])∧Front w' w.heap.size A' N (expB key ps.flatten N)∧Later w w':=by
 have hj:=hid (QcT B m d ps w hp hm (by omega))
 generalize ps.flatten=F at *
 generalize hFl:F.length=fl at *
 go_enter Tryz.func162,Tryz.ntmps162
 go_wp2_with (first
  | (go_at_call 53;refine hj.out.mono ?_;rintro e w1 ⟨A1,c1,rfl,hown1,hl1⟩)
  | (refine QcF rfl _ _ _ rfl 5 _ 1 Tryz.underlying22 Qc4 rfl _ _ _ _ 0 (N+32) rfl rfl ?hL ?hC (by omega) (by omega) (by omega) ?_;(case hL=>rfl);(case hC=>go_num);intro w2 hown2 hl2))
 have hown2':OwnB w2 w1.heap.size (some ⟨w1.heap.size,0,none⟩) 0 (N+32) []:=hown2
 have hlt1:=Qm9 hown1
 have hcap1:=hown1.cap
 go_loopw [9,10,11] (fun out last i wr=>∃(k:Nat) (A9:Option Addr) (c9:Nat),i= .int .i64 ((k:Int)+1)∧(k=0∨32*(k-1)<N)∧out= .slice A9 (32*k) c9∧LastAt wr last k (hkT key F k)∧OwnB wr w1.heap.size A9 (32*k) c9 (hkO key F k)∧Later w1 wr) (fun _ _ i _=>8200-32*(intOf i).toNat)
 case atStart=>exact⟨0,_,_,rfl,.inl rfl,rfl,.inl ⟨rfl,rfl,rfl⟩,hown2',hl2⟩
 case round=>
  clear hown2 hown2' hl2
  obtain⟨k,A9,c9,rfl,hkN,rfl,hlast,hown,hl⟩:=hrel
  have hcap9:=hown.cap
  by_cases hlt:32*k<N
  ·obtain⟨A10,l10,c10,rfl,hc10,hr10⟩:=hlast.rd
   have hkl:=Qri key F k
   have hl10:=hr10.len
   have hT:(hkT key F (k+1)).length=32:=by rw[hkT,QaU]
   have ht:=fun B w h1 h2=>Ql8 A B n c 3 3 key [hkT key F k,F,[QG4 (k:Int)+1]] w h1 hc hn h2
   have he:QbY key [hkT key F k,F,[QG4 (k:Int)+1]].flatten=hkT key F (k+1):=by rw[QkQ,hkT]
   rw[he,QkQ]at ht
   have hfl:(hkT key F k++F++[QG4 (k:Int)+1]).length≤70368744177700:=by simp;omega
   have ho':hkO key F (k+1)=hkO key F k++hkT key F (k+1):=rfl
   have HT:=hid ht
   have HO:=hid ho'
   clear ht he ho'
   generalize hT1:hkT key F (k+1)=T at *
   generalize hkT key F k=Tk at *
   generalize hkO key F k=O at *
   have HT1:=hid hT1
   clear hT1
   have hltN:((32*k:Nat):Int)<(N:Int):=by omega
   go_wp2_with (first
    | (go_at_call 131;refine (HT.out (some ⟨wr.heap.size+1,0,none⟩) _ (hx.later ((hl1.trans hl).trans ((Qaa _ _).alloc _))) ?hp (by omega) (by omega)).mono ?_
       (case hp=>exact Qep ((Blk.new' _ 22 [.slice A10 l10 c10,.slice A1 fl c1,.slice (some ⟨wr.heap.size,0,none⟩) 1 1] (by simp)).rd rfl) ⟨Qef (hr10.later ((Qaa _ _).alloc _)) hc10,Qef ((hown1.later hl).later ((Qaa _ _).alloc _)).rd hcap1,Qef (((Blk.new wr 5 [W8 (QG4 (k:Int)+1)]).later (Qaa _ _)).rd rfl) (by omega),trivial⟩)
       rintro e w3 ⟨rfl,hl3⟩)
    | (refine Qal rfl rfl 30 _ _ rfl w3.heap.size 0 30 (QGn 32 (W8 0)) (T.map W8) ?bk ?hx ?hy ?hi ?hf ?h1 ?_;(case hx=>rfl);(case hy=>rfl);(case hi=>rw[QGr,hT];kernel_rfl);(case hf=>simp[hT]);(case h1=>exact QaX _);(case bk=>exact Blk.new _ _ _);intro w4 hb4 ho4
       rw[Qav _ _ (by simp[hT])]at hb4
       have L3:=((Qaa wr _).alloc _).trans hl3
       have hown4:=Qiu (QaF (QaF hown L3) (Qaa _ _)) ho4 (fun b hb=>by have:=Qm9 hown b hb;have:=L3.size;omega)
       have hl4:=((hl.trans L3).alloc _).only ho4 (by have:=(hl.trans L3).size;omega))
    | (refine QbU rfl _ _ _ rfl 5 _ 1 Tryz.underlying22 Qc4 rfl w1 _ (32*k) _ hown4 hl4 (some ⟨w3.heap.size,0,none⟩) 32 32 _ (hb4.rd (by simp[hT])) (QaX _) rfl rfl (by omega) (by omega) ?_;intro A5 c5 w5 hown5 hl5 hg5 _
       have hb5:=Qjg hb4 hown4 QCG hg5
       have hown5':=QuQ hown5 rfl (show 32*k+32=32*(k+1) by omega)))
   refine⟨⟨k+1,A5,c5,by go_num,.inr (by omega),by rw[show 32*k+32=32*(k+1) by omega],?_,?_,hl5⟩,by simp only[intOf];omega⟩
   ·exact .inr ⟨w3.heap.size,by omega,rfl,by rw[HT1.out];exact hT,by rw[HT1.out];exact hb5⟩
   ·rw[HO.out]
    exact hown5'
  ·have hk:k=(N+31)/32:=by omega
   have hltN: ¬((32*k:Nat):Int)<(N:Int):=by omega
   have hNc:N≤c9:=by omega
   go_wp2
   go_ret2
   refine⟨A9,rfl,?_,hl1.trans hl⟩
   rw[expB,←hk]
   have:=Qs7 hown (m:=N) (by omega)
   exact⟨this.1,this.2.imp id fun ⟨g,rest,e,hb,hk⟩=>⟨g,rest,e,QG9 hl1.size hb,hk⟩⟩
theorem QuX (A B:Option Addr) (n c m d:Nat) (I:Int) (N:Nat) (hI:I=(N:Int)) (key:List UInt8) (ps:List (List UInt8)) (w:World) (hx:RdB w A n key) (hc:n≤c) (hn:n≤140737488355328) (hp:Parts w (fun _=>False) B m ps) (hm:m≤140737488355328) (hlen:ps.flatten.length≤70368744177664) (hN:N≤8160):
 Calls Tryz.prog 162 #[.slice A n c,.int .i64 I,.slice B m d] w fun e w'=>∃A',e= .returned (.tuple #[.slice A' N N,.int .i64 0])∧Front w' w.heap.size A' N (expB key ps.flatten N)∧Later w w':=by
 subst hI
 exact Quo A B n c m d N key ps w hx hc hn hp hm hlen hN
theorem QAA:(Tryz.prog.info? 30).map (fun i=>(i.zero,i.size,i.bytes))=some (some (.agg (QGn 32 (W8 0)).toArray),32,32):=by kernel_rfl
theorem Qp8 (m n:Nat) (v:Value) (hm:0<m):madeCells (QGn m v).toArray n=(QGn n v).toArray:=by
 apply Array.ext
 ·simp[madeCells]
 ·intro i h1 h2
  simp only[madeCells,Array.getElem_map,Array.getElem_range,List.getElem_toArray,List.getElem_replicate,List.size_toArray,QGA]
  have:i%m<m:=QGU _ hm
  simp[this]
section
variable {P:Program} {ops:Array Oper} {rest:List Oper} {o:Oper} {a:Act} {w:World} {Q:Exit→Act→World→Prop}
theorem QjW (hgd:o.guard=none) (l c:Operand) (t:TypeId) (ho:o.op=Op.makeSlice t l c) (e:TypeId) (v:Value) (m bytes:Nat) (ht:P.underlying t=some (.slice e))
 (hinfo:(P.info? e).map (fun i=>(i.zero,i.size,i.bytes))=some (some (.agg (QGn m v).toArray),m,bytes)) (hm:0<m) (kl kc:IntKind) (L C:Int) (n:Nat) (hl:a.eval l= .int kl L) (hc:a.eval c= .int kc C) (hL:L=(n:Int)) (hC:C=(n:Int))
 (hby:0<bytes) (hsz:n*bytes≤140737488355328) (h:∀w',Blk w' w.heap.size e (QGn (n*m) v)→Later w w'→wpList P ops Q rest (a.put o.dst (.slice (some ⟨w.heap.size,0,none⟩) n n)) w'):
 wpList P ops Q (o :: rest) a w:=by
 cases hq:P.info? e with
 | none=>simp[hq]at hinfo
 | some i=>
   simp only[hq,QH9,Option.some.injEq,Prod.mk.injEq]at hinfo
   obtain⟨hz,hsize,hbytes⟩:=hinfo
   have hn:n≤140737488355328:=QG9 (QHE _ hby) hsz
   refine wpList_plain hgd fun K hK=>?_
   have hb:((i.bytes:Int)*(n:Int))≤281474976710656:=by
    rw[hbytes,←QIi,QHp]
    omega
   have hr:=run_make (P:=P) w t e i _ ht hq hz kl kc n n (by omega) (Int.le_refl _) hb (by omega)
   have hcells:(Value.agg (QGn m v).toArray).cells=(QGn m v).toArray:=rfl
   simp only[QIq,hsize,hcells,Qp8 m _ v hm]at hr
   subst hL
   subst hC
   unfold Oper.wp
   simp only[execOp,ho,hl,hc,Sem.run_bind,hr,Result.andThen_ok,Sem.run_pure]
   exact hK _ _ (h _ (Blk.new w e _) (Qaa _ _))
end
def Qfa:List UInt8:=[115,104,97,108,108,111,116]
def derB (secret:List UInt8) (s:ByteArray):List UInt8:=expB (QbY Qfa secret) (strB s) 32
theorem QaK (secret:List UInt8) (s:ByteArray):(derB secret s).length=32:=Qj1 _ _ _
def Strs (w:World) (A:Option Addr) (n:Nat) (ss:List ByteArray):Prop:=Rd w A n (ss.map Value.string)
theorem Strs.at_ {w:World} {A:Option Addr} {n:Nat} {ss:List ByteArray} (h:Strs w A n ss) {k:Nat} (hk:k<n):
 ∃b o,A=some ⟨b,o,none⟩∧b<w.heap.size∧w.cell? ⟨b,o+k,none⟩=some (.string (ss.getD k .empty)):=by
 have hl:ss.length=n:=by simpa using h.1
 obtain⟨b,o,rfl,hb,hc⟩:=h.2 (by omega)
 refine⟨b,o,rfl,hb,hc k _ ?_⟩
 rw[QGF,QGq,QGt (by omega)]
 rfl
theorem Strs.later {w w':World} {A:Option Addr} {n:Nat} {ss:List ByteArray} (h:Strs w A n ss) (hl:Later w w'):Strs w' A n ss:=Rd.later h hl
def QdW (secret:List UInt8) (ss:List ByteArray) (k:Nat):List UInt8:=((ss.take k).map (derB secret)).flatten++QGn (32*(ss.length-k)) 0
theorem QhY (secret:List UInt8) (ss:List ByteArray) (k:Nat) (h:k≤ss.length):((ss.take k).map (derB secret)).flatten.length=32*k:=by
 induction k with
 | zero=>simp
 | succ k ih=>
   rw[QGY (by omega),QG6,QIL,QGy,ih (by omega)]
   simp[QaK]
   omega
theorem Qlm (secret:List UInt8) (ss:List ByteArray) (k:Nat) (h:k≤ss.length):(QdW secret ss k).length=32*ss.length:=by
 rw[QdW,QGy,QhY _ _ _ h,QGA]
 omega
theorem QoL (secret:List UInt8) (ss:List ByteArray) (k:Nat) (h:k<ss.length):Qar ((QdW secret ss k).map W8) (32*k) (((derB secret (ss.getD k .empty)).map W8).take 32)=(QdW secret ss (k+1)).map W8:=by
 have h1:=QhY secret ss k (by omega)
 have h2:=QaK secret (ss.getD k .empty)
 have hs:ss.getD k .empty=ss[k]:=by rw[QGq,QGt h];rfl
 rw[QGD (by rw[QGr,h2];omega),Qar,QdW,QG6,QHf (by rw[QGr,h1];omega),QGD (by rw[QGr,h1];omega),
  QIG,QHj (by rw[QGr,h1,QGr,h2];omega),QGv,QdW,QGY h,hs]
 simp only[QG6,QIL,QGR,QGH,QHH,QIH,QGW,QGI,QG8,List.drop_replicate,QGr]
 rw[←hs,h2,h1,show 32*(ss.length-k)-(32*k+32-32*k)=32*(ss.length-(k+1)) by omega]
set_option maxRecDepth 100000 in
set_option maxHeartbeats 2000000 in
theorem Qkn (A B:Option Addr) (n c m d:Nat) (secret:List UInt8) (ss:List ByteArray) (w:World) (hx:RdB w A n secret) (hc:n≤c) (hn:n≤35184372088832) (hb:Strs w B m ss) (hm0:0<m) (hm:m≤1048576) (hs:∀s∈ss,s.size≤1048576):
 Calls Tryz.prog 128 #[.slice A n c,.slice B m d] w fun e w'=>∃g,e= .returned (.slice (some ⟨g,0,none⟩) m m)∧w.heap.size≤g∧Blk w' g 30 ((QdW secret ss m).map W8)∧Later w w':=by
 have hml:ss.length=m:=by simpa using hb.1
 have hT:=QaU Qfa secret
 have ht:=fun B w h1 h2=>Qoj B A 7 7 n c Qfa secret w h1 (by omega) (by omega) h2 hc (by omega)
 have he:=fun A B w (s:ByteArray) h1 h2 (h3:s.size≤1048576)=>QuX A B 32 32 1 1 32 32 rfl (QbY Qfa secret) [strB s] w h1 (by omega) (by omega) h2 (by omega) (by rw[Qb5,Qjq];omega) (by omega)
 have hd:∀s,expB (QbY Qfa secret) [strB s].flatten 32=derB secret s:=fun s=>by rw[Qb5];rfl
 simp only[hd]at he
 generalize QbY Qfa secret=T at *
 have HT:=hid ht
 have HE:=hid he
 have HS:=hid hs
 clear ht he hd hs
 go_enter Tryz.func128,Tryz.ntmps128
 go_wp2_with (first
  | (refine Qg5 rfl _ _ rfl 5 Tryz.underlying22 Tryz.underlying5 w (Qfa.map W8) rfl w.heap.size 7 7 rfl rfl ?_;intro w1 hl1 hr1 hz1)
  | (go_at_call 161;refine (HT.out _ _ hr1 (hx.later hl1)).mono ?_;rintro e w2 ⟨rfl,hl2⟩)
  | (refine Qal rfl rfl 30 _ _ rfl w2.heap.size 0 30 (QGn 32 (W8 0)) (T.map W8) ?bk ?hx ?hy ?hi ?hf ?h1 ?_;(case hx=>rfl);(case hy=>rfl);(case hi=>rw[QGr,hT];kernel_rfl);(case hf=>simp[hT]);(case h1=>exact QaX _);(case bk=>exact Blk.new _ _ _);intro w3 hb3 ho3;rw[Qav _ _ (by simp[hT])]at hb3)
  | (refine QjW rfl _ _ _ rfl 30 (W8 0) 32 32 Tryz.underlying96 QAA (by omega) _ _ _ _ m rfl rfl ?hL ?hC (by omega) (by omega) ?_;(case hL=>rfl);(case hC=>rfl);intro w4 hb4 hl4))
 have L2:=hl1.trans hl2
 have L3:Later w w3:=(L2.alloc _).only ho3 L2.size
 have hk4:=hb3.later hl4
 have L4:=L3.trans hl4
 have hk0:(QdW secret ss 0).map W8=QGn (m*32) (W8 0):=by rw[QdW];simp only[QIS,QGH,QIH,QGv,Nat.sub_zero,QG8,hml,QHp]
 rw[←hk0]at hb4
 have z2:=L2.size
 have z3:=hb3.lt
 have hgk:w2.heap.size≠w3.heap.size:=by omega
 have hg3:=L3.size
 clear hk0 hl1 hl2 hl4 hb3 ho3 L2 L3 hr1 hz1
 generalize w2.heap.size=gk at *
 generalize w3.heap.size=go at *
 go_loopw [23] (fun i wr=>∃k:Nat,k≤m∧i= .int .i64 k∧Blk wr gk 30 (T.map W8)∧Blk wr go 30 ((QdW secret ss k).map W8)∧Later w wr) (fun i _=>m-(intOf i).toNat)
 case atStart=>exact⟨0,by omega,rfl,hk4,hb4,L4⟩
 case round=>
  clear hk4 hb4 L4
  obtain⟨k,hk,rfl,hK,hO,hl⟩:=hrel
  by_cases hlt:k<m
  ·obtain⟨b,o,rfl,hbb,hck⟩:=(hb.later hl).at_ hlt
   have hsz:=HS.out (ss.getD k .empty) (by rw[QGq,QGt (by omega)];exact QHi _)
   have hkl:=Qlm secret ss k (by omega)
   have hst:=hid (QoL secret ss k (by omega))
   have hdl:=QaK secret (ss.getD k .empty)
   have hsl:=Qjq (ss.getD k .empty)
   generalize ss.getD k .empty=s at *
   have hE:=hid (fun A B w h1 h2=>HE.out A B w s h1 h2 hsz)
   generalize derB secret s=D at *
   go_wp2_with (first
    | (refine QgS rfl _ _ _ rfl 5 Tryz.underlying9 Tryz.underlying22 Tryz.underlying5 s rfl ?_;intro c1 w1 hl1 hr1 hc1 hz1)
    | (go_at_call 162;refine (hE.out (some ⟨gk,0,none⟩) (some ⟨w1.heap.size,0,none⟩) _ ((hK.later (hl1.alloc _)).rd (by simp[hT])) (Qep ((Blk.new w1 22 [.slice (some ⟨wr.heap.size,0,none⟩) s.size c1]).rd rfl) ⟨Qef (hr1.later (Qaa _ _)) hc1,trivial⟩)).mono ?_;rintro e w2 ⟨A2,rfl,hfr2,hl2⟩;have L2:=(hl1.alloc (.cells #[.slice (some ⟨wr.heap.size,0,none⟩) s.size c1] 22)).trans hl2)
    | (refine Qax rfl _ _ _ _ rfl 5 Tryz.underlying22 Qb2 go (k*32) 32 32 30 ((QdW secret ss k).map W8) (hO.later L2) A2 32 32 (D.map W8) hfr2.rd (QaX _) rfl rfl (by rw[QGr,hkl,hml];omega) ?_;intro w6 hb6 ho6;rw[QHp k 32,hst.out]at hb6))
   refine⟨⟨k+1,by omega,by go_num,(hK.later L2).only ho6 hgk,hb6,(hl.trans L2).only ho6 hg3⟩,by simp only[intOf];omega⟩
  ·have hkm:k=m:=by omega
   rw[hkm]at hO
   go_wp2
   go_ret
   exact⟨go,rfl,hg3,hO,hl⟩
def Qxs (i j:Nat):UInt8:=QG4 17*QG4 (i:Int)+QG4 3*QG4 (j:Int)+1
section
variable {P:Program} {ops:Array Oper} {rest:List Oper} {o:Oper} {a:Act} {w:World} {Q:Exit→Act→World→Prop}
end
structure Keep (own:Nat→Option Nat) (w w':World):Prop where
 size:w.heap.size≤w'.heap.size
 cell:∀b i,own b=some i→b<w.heap.size→∀p v,w.cell? ⟨b,p,none⟩=some v→w'.cell? ⟨b,p,none⟩=some v∨w'.cell? ⟨b,p,none⟩=some (W8 (Qxs i p))
 free:∀b i,own b=some i→b<w.heap.size→∀p,w.frozen? ⟨b,p,none⟩=false→w'.frozen? ⟨b,p,none⟩=false
 env:w'.os=w.os∧w'.tape=w.tape∧w'.output=w.output
def Good (own:Nat→Option Nat) (w:World) (i:Nat) (v:Value) (n:Nat):Prop:=
 (∃ c,v= .slice none 0 c∧n=0)∨∃b c,v= .slice (some ⟨b,0,none⟩) n c∧own b=some i∧b<w.heap.size∧∀p,p<n→w.cell? ⟨b,p,none⟩=some (W8 (Qxs i p))
def Roomy (own:Nat→Option Nat) (w:World) (i:Nat) (v:Value) (n:Nat):Prop:=
 (v= .slice none 0 0∧n=0)∨∃b c,v= .slice (some ⟨b,0,none⟩) n c∧n≤c∧own b=some i∧b<w.heap.size∧∀p,p<c→(w.cell? ⟨b,p,none⟩).isSome=true∧w.frozen? ⟨b,p,none⟩=false
theorem Keep.refl (own:Nat→Option Nat) (w:World):Keep own w w:=⟨QGx _,fun _ _ _ _ _ _ h=>.inl h,fun _ _ _ _ _ h=>h,rfl,rfl,rfl⟩
theorem Keep.trans {own:Nat→Option Nat} {a b c:World} (h:Keep own a b) (k:Keep own b c):Keep own a c:=by
 refine⟨QG9 h.size k.size,fun g i hg hlt p v hv=>?_,fun g i hg hlt p hf=>k.free g i hg (QGN hlt h.size) p (h.free g i hg hlt p hf),k.env.1.trans h.env.1,k.env.2.1.trans h.env.2.1,k.env.2.2.trans h.env.2.2⟩
 have hlt':=QGN hlt h.size
 rcases h.cell g i hg hlt p v hv with h1|h1
 ·exact k.cell g i hg hlt' p v h1
 ·rcases k.cell g i hg hlt' p _ h1 with h2|h2
  ·exact .inr h2
  ·exact .inr h2
theorem Keep.more {own own':Nat→Option Nat} {w w':World} (h:Keep own' w w') (hsub:∀b i,own b=some i→b<w.heap.size→own' b=some i):Keep own w w':=
 ⟨h.size,fun b i hb hlt=>h.cell b i (hsub b i hb hlt) hlt,fun b i hb hlt=>h.free b i (hsub b i hb hlt) hlt,h.env⟩
theorem Good.keep {own:Nat→Option Nat} {w w':World} {i n:Nat} {v:Value} (h:Good own w i v n) (k:Keep own w w'):Good own w' i v n:=by
 rcases h with h|⟨b,c,rfl,hb,hlt,hc⟩
 ·exact .inl h
 ·refine .inr ⟨b,c,rfl,hb,QGN hlt k.size,fun p hp=>?_⟩
  rcases k.cell b i hb hlt p _ (hc p hp) with h1|h1<;>exact h1
theorem Roomy.keep {own:Nat→Option Nat} {w w':World} {i n:Nat} {v:Value} (h:Roomy own w i v n) (k:Keep own w w'):Roomy own w' i v n:=by
 rcases h with h|⟨b,c,rfl,hnc,hb,hlt,hc⟩
 ·exact .inl h
 ·refine .inr ⟨b,c,rfl,hnc,hb,QGN hlt k.size,fun p hp=>⟨?_,k.free b i hb hlt p (hc p hp).2⟩⟩
  obtain⟨u,hu⟩:=Option.isSome_iff_exists.1 (hc p hp).1
  rcases k.cell b i hb hlt p u hu with h1|h1<;>rw[h1]<;>rfl
theorem Keep.later {own:Nat→Option Nat} {w w':World} (h:Later w w'):Keep own w w':=by
 refine⟨h.size,fun b i _ hlt p v hv=>.inl ((h.below.cell (p:=⟨b,p,none⟩) hlt).trans hv),fun b i _ hlt p hf=>?_,h.below.os,h.below.tape,h.below.output⟩
 have:=h.below.block b hlt
 exact (World.frozen?_of_block (a:=⟨b,p,none⟩) this).trans hf
theorem Keep.only {own:Nat→Option Nat} {w w':World} {k:Nat} (h:Only k w w') (hk:own k=none):Keep own w w':=by
 have hne:∀b i,own b=some i→some b≠some k:=fun b i hb e=>by
  injection e with e
  rw[e,hk]at hb
  cases hb
 exact⟨h.size,fun b i hb hlt p v hv=>.inl ((World.cell?_of_block (a:=⟨b,p,none⟩) (h.block b hlt (hne b i hb))).trans hv),fun b i hb hlt p hf=>(World.frozen?_of_block (a:=⟨b,p,none⟩) (h.block b hlt (hne b i hb))).trans hf,h.os,h.tape,h.output⟩
theorem Keep.set {own:Nat→Option Nat} {w:World} {b i p:Nat} (hb:own b=some i):Keep own w (w.setCell ⟨b,p,none⟩ (W8 (Qxs i p))):=by
 refine⟨by simp,fun g j hg _ q v hv=>?_,fun g j _ _ q hf=>(by rw[World.frozen?_setCell];exact hf),rfl,rfl,rfl⟩
 by_cases he:(⟨b,p,none⟩:Addr)=⟨g,q,none⟩
 ·cases he
  rw[hb]at hg
  cases hg
  exact .inr (World.cell?_setCell_same _ _ _ hv)
 ·exact .inl ((World.cell?_setCell_other _ _ _ _ he).trans hv)
structure Grown (own:Nat→Option Nat) (w:World) (i n:Nat) (own':Nat→Option Nat) (w':World) (v':Value):Prop where
 good:Good own' w' i v' n
 roomy:Roomy own' w' i v' n
 keep:Keep own w w'
 low:∀b,b<w.heap.size→own' b=own b
 fresh:∀b,w'.heap.size≤b→own' b=none
 rest:∀b,b<w.heap.size→own b=none→w'.heap[b]?=w.heap[b]?
section
variable {P:Program} {ops:Array Oper} {rest:List Oper} {o:Oper} {a:Act} {w:World} {Q:Exit→Act→World→Prop}
end
structure AInv (w:World) (own0:Nat→Option Nat) (vs:List Value) (ns:List Nat) (own:Nat→Option Nat) (wr:World) (k:Nat):Prop where
 size:w.heap.size≤wr.heap.size
 low:∀b,b<w.heap.size→own b=own0 b
 fresh:∀b,wr.heap.size≤b→own b=none
 same:∀b,b<w.heap.size→own0 b=none→wr.heap[b]?=w.heap[b]?
 roomy:∀i v,vs[i]?=some v→Roomy own wr i v (ns.getD i 0)
 good:∀i v,i<k→vs[i]?=some v→Good own wr i v (ns.getD i 0)
 env:wr.os=w.os∧wr.tape=w.tape∧wr.output=w.output
section
variable {w:World} {own0:Nat→Option Nat} {vs:List Value} {ns:List Nat} {own:Nat→Option Nat} {wr:World} {k:Nat}
theorem AInv.keep (h:AInv w own0 vs ns own wr k) {w2:World} (K:Keep own wr w2) (hr:∀b,b<w.heap.size→own0 b=none→w2.heap[b]?=wr.heap[b]?):AInv w own0 vs ns own w2 k:=
 ⟨QG9 h.size K.size,h.low,fun b hb=>h.fresh b (QG9 K.size hb),fun b hb h0=>(hr b hb h0).trans (h.same b hb h0),fun i v hv=>(h.roomy i v hv).keep K,fun i v hi hv=>(h.good i v hi hv).keep K,K.env.1.trans h.env.1,K.env.2.1.trans h.env.2.1,K.env.2.2.trans h.env.2.2⟩
theorem AInv.later (h:AInv w own0 vs ns own wr k) {w2:World} (hl:Later wr w2):AInv w own0 vs ns own w2 k:=
 h.keep (.later hl) fun b hb _=>hl.below.block b (QGN hb h.size)
theorem AInv.only (h:AInv w own0 vs ns own wr k) {w2:World} {g:Nat} (ho:Only g wr w2) (hg:own g=none) (hw:w.heap.size≤g):AInv w own0 vs ns own w2 k:=
 h.keep (.only ho hg) fun b hb _=>ho.block b (QGN hb h.size) (fun e=>by injection e;omega)
theorem Good.grown {own':Nat→Option Nat} {w2:World} {i n i' n':Nat} {v v':Value} (h:Good own wr i v n) (G:Grown own wr i' n' own' w2 v'):Good own' w2 i v n:=by
 rcases h.keep G.keep with h2|⟨b,c,rfl,hb,hlt,hc⟩
 ·exact .inl h2
 ·rcases h with ⟨_,e,_⟩|⟨b',c',e,_,hlt',_⟩
  ·cases e
  ·cases e
   exact .inr ⟨b,c,rfl,(G.low b hlt').trans hb,hlt,hc⟩
theorem Roomy.grown {own':Nat→Option Nat} {w2:World} {i n i' n':Nat} {v v':Value} (h:Roomy own wr i v n) (G:Grown own wr i' n' own' w2 v'):Roomy own' w2 i v n:=by
 rcases h.keep G.keep with h2|⟨b,c,rfl,hnc,hb,hlt,hc⟩
 ·exact .inl h2
 ·rcases h with ⟨e,_⟩|⟨b',c',e,_,_,hlt',_⟩
  ·cases e
  ·cases e
   exact .inr ⟨b,c,rfl,hnc,(G.low b hlt').trans hb,hlt,hc⟩
theorem AInv.grown (h:AInv w own0 vs ns own wr k) {own':Nat→Option Nat} {w2:World} {i n:Nat} {v':Value} (G:Grown own wr i n own' w2 v'):AInv w own0 vs ns own' w2 k:=
 ⟨QG9 h.size G.keep.size,fun b hb=>(G.low b (QGN hb h.size)).trans (h.low b hb),G.fresh,fun b hb h0=>(G.rest b (QGN hb h.size) ((h.low b hb).trans h0)).trans (h.same b hb h0),
   fun i v hv=>(h.roomy i v hv).grown G,fun i v hi hv=>(h.good i v hi hv).grown G,G.keep.env.1.trans h.env.1,G.keep.env.2.1.trans h.env.2.1,G.keep.env.2.2.trans h.env.2.2⟩
theorem AInv.step (h:AInv w own0 vs ns own wr k) (hg:∀v,vs[k]?=some v→Good own wr k v (ns.getD k 0)):AInv w own0 vs ns own wr (k+1):=
 ⟨h.size,h.low,h.fresh,h.same,h.roomy,fun i v hi hv=>by
   by_cases e:i=k
   ·subst e
    exact hg v hv
   ·exact h.good i v (by omega) hv,h.env⟩
theorem AInv.at_ (h:AInv w own0 vs ns own wr k) {A:Option Addr} {n:Nat} (hx:Rd w A n vs) (hA:∀b o,A=some ⟨b,o,none⟩→own0 b=none) {i:Nat} (hi:i<n):
 ∃b o Ak ck,A=some ⟨b,o,none⟩∧vs[i]?=some (.slice Ak (ns.getD i 0) ck)∧(∀ own wr k,AInv w own0 vs ns own wr k→wr.cell? ⟨b,o+i,none⟩=some (.slice Ak (ns.getD i 0) ck)):=by
 obtain⟨b,o,rfl,hb,hc⟩:=hx.2 (by omega)
 have hil:i<vs.length:=by rw[hx.1];exact hi
 have hv:=QGt hil
 have hr:=h.roomy i _ hv
 have hs:∃Ak ck,vs[i]= .slice Ak (ns.getD i 0) ck:=by
  rcases hr with ⟨e,e2⟩|⟨g,c,e,_⟩
  ·exact⟨none,0,by rw[e,e2]⟩
  ·exact⟨_,_,e⟩
 obtain⟨Ak,ck,hs⟩:=hs
 rw[hs]at hv
 exact⟨b,o,Ak,ck,rfl,hv,fun own wr k h2=>(World.cell?_of_block (a:=⟨b,o+i,none⟩) (h2.same b hb (hA b o rfl))).trans (hc i _ hv)⟩
end
structure GInv (w:World) (own0:Nat→Option Nat) (vs:List Value) (ns:List Nat) (n:Nat) (own:Nat→Option Nat) (wr:World) (v:Value) (cnt:Nat) (gs:List Value):Prop where
 inv:AInv w own0 vs ns own wr n
 row:wr.ownsRow w.heap.size 22 1 v cnt gs
 free:∀b,v.ownBlock=some b→own b=none
 good:∀k u,gs[k]?=some u→∃A m c,u= .slice A m c∧m≤140737488355328∧Good own wr (k%n) u m
section
variable {w:World} {own0:Nat→Option Nat} {vs:List Value} {ns:List Nat} {n:Nat} {own:Nat→Option Nat} {wr:World} {v:Value} {cnt:Nat} {gs:List Value}
theorem GInv.later (h:GInv w own0 vs ns n own wr v cnt gs) {w2:World} (hl:Later wr w2):GInv w own0 vs ns n own w2 v cnt gs:=
 ⟨h.inv.later hl,QaF h.row hl,h.free,fun k u hu=>by obtain⟨A,m,c,e,hm,hg⟩:=h.good k u hu;exact⟨A,m,c,e,hm,hg.keep (.later hl)⟩⟩
theorem GInv.only (h:GInv w own0 vs ns n own wr v cnt gs) {w2:World} {g:Nat} (ho:Only g wr w2) (hg:own g=none) (hw:w.heap.size≤g) (hv:v.ownBlock≠some g):GInv w own0 vs ns n own w2 v cnt gs:=
 ⟨h.inv.only ho hg hw,Qiu h.row ho (fun b hb e=>hv (by rw[hb,e])),h.free,fun k u hu=>by obtain⟨A,m,c,e,hm,hg'⟩:=h.good k u hu;exact⟨A,m,c,e,hm,hg'.keep (.only ho hg)⟩⟩
theorem GInv.grown (h:GInv w own0 vs ns n own wr v cnt gs) {own':Nat→Option Nat} {w2:World} {i m:Nat} {v':Value} (G:Grown own wr i m own' w2 v'):GInv w own0 vs ns n own' w2 v cnt gs:=by
 refine⟨h.inv.grown G,?_,fun b hb=>(G.low b (h.row.lt b hb).2).trans (h.free b hb),fun k u hu=>by obtain⟨A,m,c,e,hm,hg'⟩:=h.good k u hu;exact⟨A,m,c,e,hm,hg'.grown G⟩⟩
 refine⟨h.row.1,?_⟩
 rcases h.row.2 with h2|⟨g,cap,cur,e,hb,hh,r⟩
 ·exact .inl h2
 ·subst e
  have hlt:=(h.row.lt g rfl).2
  exact .inr ⟨g,cap,cur,rfl,hb,(G.rest g hlt (h.free g rfl)).trans hh,r⟩
theorem GInv.push (h:GInv w own0 vs ns n own wr v cnt gs) {w2:World} {A:Option Addr} {m c:Nat} {v':Value} (hg:Good own wr (cnt%n) (.slice A m c) m) (hm:m≤140737488355328) (hrow:w2.ownsRow w.heap.size 22 1 v' (cnt+1) (gs++[.slice A m c]))
 (hgr:wr.grownBy w2 v.ownBlock) (hwhere:∀k,v'.ownBlock=some k→v.ownBlock=some k∨wr.heap.size≤k):GInv w own0 vs ns n own w2 v' (cnt+1) (gs++[.slice A m c]):=by
 have hne:∀b i,own b=some i→some b≠v.ownBlock:=fun b i hb e=>by
  rw[h.free b e.symm]at hb
  cases hb
 have K:Keep own wr w2:=⟨hgr.size,fun b i hb hlt p u hu=>.inl ((World.cell?_of_block (a:=⟨b,p,none⟩) (hgr.block b hlt (hne b i hb))).trans hu),fun b i hb hlt p hf=>(World.frozen?_of_block (a:=⟨b,p,none⟩) (hgr.block b hlt (hne b i hb))).trans hf,hgr.os,hgr.tape,hgr.output⟩
 have hl:gs.length=cnt:=by have:=h.row.1;omega
 refine⟨h.inv.keep K fun b hb h0=>hgr.block b (QGN hb h.inv.size) (fun e=>by have:=(h.row.lt b e.symm).1;omega),hrow,fun b hb=>?_,fun k u hu=>?_⟩
 ·rcases hwhere b hb with h1|h1
  ·exact h.free b h1
  ·exact h.inv.fresh b h1
 ·by_cases hk:k<gs.length
  ·rw[QGG hk]at hu
   obtain⟨A,m,c,e,hm,hg'⟩:=h.good k u hu
   exact⟨A,m,c,e,hm,hg'.keep K⟩
  ·have:k=cnt:=by
    have:=(QGL.1 hu).1
    simp only[QGy,QHe,List.length_nil]at this
    omega
   subst this
   rw[QGE (by omega),hl,QHG]at hu
   cases hu
   exact⟨A,m,c,rfl,hm,hg.keep K⟩
end
theorem Good.cell {own:Nat→Option Nat} {wr:World} {i n c:Nat} {A:Option Addr} (h:Good own wr i (.slice A n c) n) {j:Nat} (hj:j<n):∃b,A=some ⟨b,0,none⟩∧wr.cell? ⟨b,j,none⟩=some (W8 (Qxs i j)):=by
 rcases h with ⟨_,_,h0⟩|⟨b,c',e,_,_,hc⟩
 ·omega
 ·cases e
  exact⟨b,rfl,hc j hj⟩
def Room (w:World) (v:Value):Prop:=
 v= .slice none 0 0∨∃b m c,v= .slice (some ⟨b,0,none⟩) m c∧m≤c∧m≤1099511627776∧b<w.heap.size∧∀p,p<c→(w.cell? ⟨b,p,none⟩).isSome=true∧w.frozen? ⟨b,p,none⟩=false
theorem Room.later {w w':World} {v:Value} (h:Room w v) (hl:Later w w'):Room w' v:=by
 rcases h with h|⟨b,m,c,e,hm,hm2,hb,hc⟩
 ·exact .inl h
 ·refine .inr ⟨b,m,c,e,hm,hm2,QGN hb hl.size,fun p hp=>?_⟩
  have hk:=hl.below.block b hb
  rw[World.cell?_of_block (a:=⟨b,p,none⟩) hk,World.frozen?_of_block (a:=⟨b,p,none⟩) hk]
  exact hc p hp
theorem Room.blk {w:World} {g m c:Nat} {t:TypeId} {l:List Value} (h:Blk w g t l) (hm:m≤c) (hc:c≤l.length) (hm2:m≤1099511627776):Room w (.slice (some ⟨g,0,none⟩) m c):=
 .inr ⟨g,m,c,rfl,hm,hm2,h.lt,fun p hp=>⟨by rw[h.cell,QGt (by omega)];rfl,h.frozen p⟩⟩
theorem Room.own {w:World} {base:Nat} {e:TypeId} {v:Value} {n:Nat} {vs:List Value} (h:w.ownsRow base e 1 v n vs) (hn:n≤1099511627776):Room w v:=by
 rcases h.2 with ⟨rfl,_⟩|⟨g,cap,cur,rfl,_,hh,hnc,_,hs,_⟩
 ·exact .inl rfl
 ·exact .inr ⟨g,n,cap,rfl,hnc,hn,(h.lt g rfl).2,fun p hp=>⟨by rw[cell_of_row w g p cur e (0,0) hh,Array.getElem?_eq_getElem (by omega)];rfl,by simp[World.frozen?,hh]⟩⟩
end Go.Proofs.YtdhgpkdjdmlphaaGreat
