/-
  Lemmas for the last text of this claim (part 5 of 20).
-/
import Derived.ArgAppend
import Derived.BigQuiet
import Derived.BigRegion
import Derived.ChangeOld
import Derived.Deep.RegionWith
import Derived.DeepKeys4
import Derived.JoinedCond
import Derived.LaidMore
import Derived.Laws.CopyOwn
import Derived.Laws.Externs
import Derived.Laws.IdiomStrings
import Derived.Laws.Tables
import Derived.Lib.AppendStr
import Derived.Lib.AppendZerosOnto
import Derived.Lib.Mul64
import Derived.Lib.SlBytesConst
import Derived.LoopN
import Derived.Maps.OwnSet
import Derived.OpenShut
import Derived.OrdersHeld
import Derived.ProofKit
import Derived.Shelf.Spec.BitsCarry
import Derived.ShutString
import Derived.Test.YtcbdgnlcknllnaaGreatProg
import Derived.Test.YtcbdgnlcknllnaaGreatRows
import Derived.WalkKit
import Derived.WalkLawsBesides
import Derived.WalkSpells
import Derived.Test.YtcbdgnlcknllnaaGreatQC
import Derived.Test.YtcbdgnlcknllnaaGreatQD
open List renaming replicate → Qyl, getElem?_cons_succ → Qym, getElem?_cons_zero → Qyn, length_map → Qyo, getElem?_eq_getElem → Qyq, nil_append → Qyr, cons_append → Qys, getD_eq_getElem?_getD → Qyt, map_toArray → Qyw, set_cons_zero → Qyx, length_append → Qyz, take_of_length_le → QyA, getElem?_eq_some_iff → QyB, getElem?_append_right → QyC, map_nil → QyD, getElem?_map → QyF, getElem?_append_left → QyG, map_cons → QyJ, append_assoc → QyK, length_replicate → QyO, append_nil → QyT, map_append → QyZ, range → Qy0, mem_map → Qy1, set_append_right → Qy3, map_replicate → Qy5, take_append_drop → Qy9, length_cons → Qzd, getElem_mem → Qzk, getElem?_eq_none → Qzo, replicate_succ → QzA, take_zero → QzK, nodup_cons → QzL, mem_filterMap → QzR, mem_of_getElem? → QzS, getElem?_range → QzX, range_succ → QAf
open Nat renaming le_refl → Qyv, zero_add → QyE, lt_of_lt_of_le → QyL, mod_eq_of_lt → QyS, mod_lt → QyV, le_trans → QyX, mul_one → Qzb, le_mul_of_pos_right → Qzg, lt_of_le_of_lt → Qzw, add_sub_cancel_left → QzQ, zero_le → QAa
open Option renaming toList_some → Qyp, map_some → Qzz, isSome_iff_exists → Qz4
open UInt8 renaming ofInt → QzW
set_option linter.unusedSimpArgs false
namespace Go.Proofs.YtcbdgnlcknllnaaGreat
open Go.RowKit
theorem QpG {w:World} {base:Nat} {e:TypeId} {A:Option Addr} {n c:Nat} {vs:List Value} (h:w.ownsRow base e 1 (.slice A n c) n vs):
 (A=none∧n=0)∨∃g rest,A=some ⟨g,0,none⟩∧base≤g∧Blk w g e (vs++rest)∧c=(vs++rest).length:=by
 rcases h.2 with ⟨hv,h0⟩|⟨g,cap,cur,hv,hb,hh,hnc,hm,hs,ht⟩
 ·cases hv
  exact .inl ⟨rfl,rfl⟩
 ·cases hv
  refine .inr ⟨g,cur.toList.drop n,rfl,hb,?_,?_⟩
  ·rw[show vs=cur.toList.take n by simpa using ht.symm,Qy9]
   exact hh
  ·rw[show vs=cur.toList.take n by simpa using ht.symm,Qy9]
   simpa using hs.symm
theorem QsI {w:World} {base g:Nat} {e:TypeId} {vs rest:List Value} (h:Blk w g e (vs++rest)) (hb:base≤g) (hm:(vs++rest).length≤maxLen):
 w.ownsRow base e 1 (.slice (some ⟨g,0,none⟩) vs.length (vs++rest).length) vs.length vs:=
 ⟨by simp,.inr ⟨g,(vs++rest).length,(vs++rest).toArray,rfl,hb,h,by simp,hm,by simp,by simp⟩⟩
theorem QfT {w w':World} {base k:Nat} {e:TypeId} {v:Value} {n:Nat} {vs:List Value} (h:w.ownsRow base e 1 v n vs) (ho:Only k w w') (hne:∀b,v.ownBlock=some b→b≠k):w'.ownsRow base e 1 v n vs:=by
 refine h.kept ho ?_
 cases hb:v.ownBlock with
 | none=>exact .inl rfl
 | some b=>exact .inr fun he=>hne b hb (by injection he)
theorem QgU {w w':World} {base g:Nat} {e t:TypeId} {v:Value} {n:Nat} {vs l:List Value} (hb:Blk w g t l) (h:w.ownsRow base e 1 v n vs) (hne:t≠e) (hg:w.grownBy w' v.ownBlock):Blk w' g t l:=by
 refine (hg.block g hb.lt ?_).trans hb
 rcases h.2 with ⟨rfl,_⟩|⟨g2,c2,cur2,rfl,_,hh2,_⟩
 ·simp[Value.ownBlock]
 ·intro he
  simp only[Value.ownBlock,Option.some.injEq]at he
  subst he
  exact hb.ne_type (l':=cur2.toList) (t':=e) hh2 hne rfl
theorem Qjj {w:World} {base:Nat} {e:TypeId} {v:Value} {n:Nat} {vs:List Value} (h:w.ownsRow base e 1 v n vs):∀b,v.ownBlock=some b→b<w.heap.size:=fun b hb=>(h.lt b hb).2
theorem QqZ {w:World} {base g:Nat} {A:Option Addr} {n c:Nat} {p:List UInt8} (h:OwnB w base A n c p) (hg:g<base):Part w (· =g) (.slice A n c) p:=
 ⟨A,n,c,rfl,h.cap,h.rd,fun _ ad hA hb=>by subst hA;have:=(h.lt ad.block rfl).1;omega⟩
theorem Qg3 {w:World} {bad:Nat→Prop} {A:Option Addr} {n:Nat} {vs:List Value} {ps:List (List UInt8)} (h:Rd w A n vs) (hv:Avoid bad A n) (hp:PartAll w bad vs ps):Parts w bad A n ps:=
 ⟨vs,h,hv,hp.at_.1,hp.at_.2⟩
theorem Qq6 {bad:Nat→Prop} {b o n:Nat} (h: ¬bad b):Avoid bad (some ⟨b,o,none⟩) n:=fun _ ad hA hb=>by cases hA;exact h hb
abbrev Y32:={l:List UInt8 // l.length=32}
@[go_sem high] theorem QtO (x y:Y32) (w:World):(binOp .eql 45 (.agg (x.val.map W8).toArray) (.agg (y.val.map W8).toArray)).run Tryz.prog w= .ok (.bool (x.val==y.val)) w:=Qg4 _ _ x.2 y.2 w
@[go_sem high] theorem Qt9 (x y:Y32) (w:World):(binOp .neq 45 (.agg (x.val.map W8).toArray) (.agg (y.val.map W8).toArray)).run Tryz.prog w= .ok (.bool (x.val != y.val)) w:=Qgg _ _ x.2 y.2 w
theorem QvK {G:List UInt8} (h:G.length=32):∃g:Y32,g.val=G:=⟨⟨G,h⟩,rfl⟩
theorem QtA:(305:TypeId)≠5:=by decide
theorem HashAt.grown {w w':World} {g base:Nat} {rest:List Value} {bs:List UInt8} {v:Value} {n:Nat} {vs:List Value} (h:HashAt w g 305 rest bs) (hown:w.ownsRow base 5 1 v n vs) (hg:w.grownBy w' v.ownBlock):HashAt w' g 305 rest bs:=by
 obtain⟨st,op,h1,h2⟩:=h
 exact⟨st,op,h1,QgU h2 hown QtA hg⟩
theorem Qbv (q:List UInt8):[q].flatten=q:=by simp
theorem QnV {w:World} {base:Nat} {A:Option Addr} {n m c:Nat} {bs xs ys:List UInt8} (h:w.ownsRow base 5 1 (.slice A n c) n (xs.map W8++ys.map W8)) (hb:xs++ys=bs) (hn:n=m):OwnB w base A m c bs:=by
 subst hb
 subst hn
 rw[←QyZ]at h
 exact h
def strB (s:ByteArray):List UInt8:=s.data.toList
theorem QgP (s:ByteArray):(strB s).length=s.size:=by simp[strB]
section
variable {P:Program} {ops:Array Oper} {rest:List Oper} {o:Oper} {a:Act} {w:World} {Q:Exit→Act→World→Prop}
theorem QeN (hgd:o.guard=none) (src dst:TypeId) (x:Operand) (ho:o.op= .convert src dst x) (e:TypeId) (hs:P.underlying src=some .string) (hd:P.underlying dst=some (.slice e)) (he:P.underlying e=some (.int .u8))
 (s:ByteArray) (hx:a.eval x= .string s)
 (h:∀c w',Later w w'→RdB w' (some ⟨w.heap.size,0,none⟩) s.size (strB s)→s.size≤c→w.heap.size<w'.heap.size→wpList P ops Q rest (a.put o.dst (.slice (some ⟨w.heap.size,0,none⟩) s.size c)) w'):wpList P ops Q (o :: rest) a w:=
 wpList_plain hgd fun K hK=>by
  have hr:=run_bytes_of_string (P:=P) w src dst e s hs hd he
  unfold Oper.wp execOp
  simp only[ho,hx,Sem.run_bind,hr,Result.andThen_ok,Sem.run_pure]
  refine hK _ _ (h _ _ ((Qab w).alloc _) ⟨by simp[strB],fun _=>⟨_,_,rfl,by simp,fun j u hu=>?_⟩⟩ (grownCap_ge w s.size 0 e) (by simp))
  rw[QyE]
  have hu':(s.data.toList.map W8)[j]?=some u:=hu
  have hj:j<s.data.size:=by have:=(QyB.1 hu').1;simpa using this
  have hc:(bytesRow s (grownCap w s.size 0 e))[j]?=some u:=by
   unfold bytesRow
   rw[Array.getElem?_append_left (by simpa using hj),Array.getElem?_map]
   rw[QyF,Array.getElem?_toList]at hu'
   exact hu'
  generalize bytesRow s (grownCap w s.size 0 e)=C at *
  unfold World.cell?
  have hb:(w.drew.alloc (.cells C e (C.size,C.size+1))).heap[w.heap.size]?=some (.cells C e (C.size,C.size+1)):=by
   show (w.heap.push _)[w.heap.size]?=_
   simp
  rw[hb]
  exact hc
end
def spM (i:Int):UInt8:=QzW 160+QzW (i%31)
def Qcp (bs:List UInt8):List UInt8:=bs++(Qy0 40).map fun (j:Nat)=>spM ((bs.length:Int)+(j:Int))
def QcI (bs:List UInt8) (k:Nat):List UInt8:=bs++((Qy0 k).map fun (j:Nat)=>spM ((bs.length:Int)+(j:Int)))++Qyl (40-k) 0
theorem Qil (bs:List UInt8):(Qcp bs).length=bs.length+40:=by simp[Qcp]
theorem Qhf (bs:List UInt8) (k:Nat) (h:k≤40):(QcI bs k).length=bs.length+40:=by
 simp[QcI]
 omega
theorem QjY (bs:List UInt8) (k:Nat) (h:k<40):(QcI bs k).set (bs.length+k) (spM ((bs.length:Int)+(k:Int)))=QcI bs (k+1):=by
 have e:40-k=(40-(k+1))+1:=by omega
 rw[QcI,QcI,e,QzA,Qy3 _ _ (by simp),QAf,QyZ]
 simp
theorem QkD (bs:List UInt8):QcI bs 40=Qcp bs:=by simp[QcI,Qcp]
theorem QiT (bs:List UInt8):(QcI bs 0).map W8=Qan (Qyl (bs.length+40) (W8 0)) 0 ((bs.map W8).take (bs.length+40)):=by
 rw[QyA (by simp),Qan,QcI]
 simp only[QzK,Qyr,Qyo,QyE,List.drop_replicate,QyZ,Qy5,List.range_zero,QyD,QyT,Nat.sub_zero,QzQ]
set_option maxRecDepth 100000 in
set_option maxHeartbeats 1000000 in
theorem QnJ (A:Option Addr) (n c:Nat) (bs:List UInt8) (w:World) (hx:RdB w A n bs) (hn:n≤70368744177664):
 Calls Tryz.prog 19 #[.slice A n c] w fun e w'=>e= .returned (.tuple #[.slice (some ⟨w.heap.size,0,none⟩) n (n+40),.slice (some ⟨w.heap.size,0,none⟩) (n+40) (n+40)])∧Blk w' w.heap.size 5 ((Qcp bs).map W8)∧Later w w':=by
 have hl:=hx.len
 have h0:=QiT bs
 have hstep:=fun k h=>QjY bs k h
 have hlen:=fun k h=>Qhf bs k h
 have hall:=QkD bs
 rw[hl]at h0
 simp only[hl]at hstep hlen
 have H0:=hid h0
 have HS:=hid hstep
 have HL:=hid hlen
 have HA:=hid hall
 clear h0 hstep hlen hall
 go_enter Tryz.func19,Tryz.ntmps19
 go_wp2_with (first
  | (refine QaT rfl _ _ _ rfl 5 _ 1 Tryz.underlying25 QcG rfl _ _ _ _ (n+40) rfl rfl ?hL ?hC (by omega) (by omega) ?_;(case hL=>go_num);(case hC=>go_num);intro w1 hb1 hl1)
  | (refine Qaq rfl _ _ _ _ rfl 5 Tryz.underlying25 Qbo w.heap.size 0 (n+40) (n+40) 5 (Qyl (n+40) (W8 0)) hb1 A n c (bs.map W8) (RdB.later hx hl1) (QaC _) rfl rfl (by simp) ?_;intro w4 hb4 ho4
     rw[←H0.out]at hb4
     have hl4:=hl1.only ho4 (Qyv _)))
 go_loopw [5] (fun i wr=>∃k:Nat,k≤40∧i= .int .i64 ((n+k:Nat):Int)∧Later w wr∧Blk wr w.heap.size 5 ((QcI bs k).map W8)) (fun i _=>n+40-(intOf i).toNat)
 case atStart=>exact⟨0,by omega,rfl,hl4,hb4⟩
 case round=>
  clear hl4 hb4
  obtain⟨k,hk,rfl,hl',hb⟩:=hrel
  by_cases hlt:k<40
  ·have hfl:=HL.out k hk
   have HST:=hid (HS.out k hlt)
   have hcmp:((n+k:Nat):Int)<(n:Int)+40:=by omega
   go_wp2_with (first
    | (refine Qag rfl rfl _ _ _ rfl _ _ _ _ hb rfl ?hl rfl (by kernel_rfl) ?_;(case hl=>rw[Qyo,hfl];omega);intro v' w5 hv' hb5 ho5;simp[go_sem]at hv';subst hv'))
   refine⟨⟨k+1,by omega,by go_num,hl'.only ho5 (Qyv _),?_⟩,by simp only[intOf];omega⟩
   rw[←HST.out,←Qcs]
   exact hb5
  ·have hk40:k=40:=by omega
   subst hk40
   rw[HA.out]at hb
   have hcmp: ¬((n+40:Nat):Int)<(n:Int)+40:=by omega
   go_wp2
   go_ret2
   exact⟨rfl,hb,hl'⟩
theorem QtN {l:List UInt8} {i:Nat} {x:UInt8} (h:l[i]?=some x):(l.map W8)[i]?=some (W8 x):=by rw[QyF,h];rfl
theorem Ql7 (bs:List UInt8) (k:Nat) (h:k<bs.length):(Qcp bs)[k]?=some (bs.getD k 0):=by
 rw[Qcp,QyG h,Qyq h,Qyt,Qyq h]
 rfl
theorem Qkv (bs:List UInt8) (k:Nat) (h:bs.length≤k) (h2:k<bs.length+40):(Qcp bs)[k]?=some (spM (k:Int)):=by
 rw[Qcp,QyC h,QyF,QzX (by omega)]
 simp only[Qzz]
 congr 2
 omega
set_option maxRecDepth 100000 in
set_option maxHeartbeats 1000000 in
theorem Qqd (A B:Option Addr) (n c d:Nat) (bs:List UInt8) (w:World) (hx:RdB w A (n+40) (Qcp bs)) (hy:RdB w B n bs) (hn:n≤70368744177664):
 Calls Tryz.prog 20 #[.slice A (n+40) c,.slice B n d] w fun e w'=>e= .returned (.bool true)∧Later w w':=by
 have hl:=hy.len
 obtain⟨b1,o1,rfl,hb1,hc1⟩:=Rd.at_ hx (by omega)
 go_enter Tryz.func20,Tryz.ntmps20
 go_wp2
 go_loopw [5] (fun i wr=>∃k:Nat,k≤n+40∧i= .int .i64 k∧Later w wr) (fun i _=>n+40-(intOf i).toNat)
 case atStart=>exact⟨0,by omega,rfl,Later.refl w⟩
 case round=>
  obtain⟨k,hk,rfl,hlt⟩:=hrel
  by_cases hkn:k<n+40
  ·have hcell:∀x,(Qcp bs)[k]?=some x→wr.cell? ⟨b1,o1+k,none⟩=some (W8 x):=by
    intro x hx'
    refine (hlt.below.cell (p:=⟨b1,o1+k,none⟩) hb1).trans ((hc1 k hkn).trans ?_)
    have:((Qcp bs).map W8)[k]?=some (W8 x):=QtN hx'
    rw[Qyq (by rw[Qyo,Qil];omega)]at this
    exact this
   clear hc1
   by_cases hlow:k<n
   ·have c1:=hcell _ (Ql7 bs k (by omega))
    obtain⟨b2,o2,rfl,hb2,hc2⟩:=RdB.at_ hy (by omega)
    have c2:=(hlt.below.cell (p:=⟨b2,o2+k,none⟩) hb2).trans (hc2 k hlow)
    clear hcell hc2
    have hd1:decide ((k:Int)<(n:Int))=true:=decide_eq_true (by omega)
    have hd2:decide (n≤k)=false:=decide_eq_false (by omega)
    have hd3:decide (k<n)=true:=decide_eq_true (by omega)
    generalize bs.getD k 0=x at *
    go_wp2
    refine Qad [] [0,1,2,3,4,5,6,7,8,9,10,11,12,13,14,15,16,17,18,19,20,21,22,23,24,25,26,27,28,29,30,31] [] (by as_aux_lemma=>kernel_rfl) (by as_aux_lemma=>kernel_rfl) (by intro _ _ d _ _ h;cases d<;>exact h) ?_
    simp only[Qaj,pick,Qym,Qyn,Qyp,Qys,Qyr]
    repeat (go_big_quiet_step (fail))
    refine wpQuiet_nil ?_
    go_wp2
    refine⟨⟨k+1,by omega,by go_num,hlt.drew⟩,by simp only[intOf];omega⟩
   ·have c1:=hcell _ (Qkv bs k (by omega) (by omega))
    rw[spM]at c1
    clear hcell
    have hd1:decide ((k:Int)<(n:Int))=false:=decide_eq_false (by omega)
    have hd2:decide (n≤k)=true:=decide_eq_true (by omega)
    have hd3:decide (k<n)=false:=decide_eq_false (by omega)
    go_wp2
    refine Qad [] [0,1,2,3,4,5,6,7,8,9,10,11,12,13,14,15,16,17,18,19,20,21,22,23,24,25,26,27,28,29,30,31] [] (by as_aux_lemma=>kernel_rfl) (by as_aux_lemma=>kernel_rfl) (by intro _ _ d _ _ h;cases d<;>exact h) ?_
    simp only[Qaj,pick,Qym,Qyn,Qyp,Qys,Qyr]
    repeat (go_big_quiet_step (fail))
    refine wpQuiet_nil ?_
    go_wp2
    refine⟨⟨k+1,by omega,by go_num,hlt.drew⟩,by simp only[intOf];omega⟩
  ·go_wp2
   go_ret
   exact⟨rfl,hlt⟩
def QcF (i j:Nat):UInt8:=QzW 17*QzW (i:Int)+QzW 3*QzW (j:Int)+1
set_option maxHeartbeats 1000000 in
theorem Qro (i j:Nat) (hi:i≤1048576) (hj:j≤140737488355328) (w:World):
 Calls Tryz.prog 46 #[.int .i64 i,.int .i64 j] w fun e w'=>e= .returned (W8 (QcF i j))∧w'=w:=by
 go_enter Tryz.func46,Tryz.ntmps46
 go_wp2
 go_ret
 exact⟨by rw[QcF];rfl,rfl⟩
section
variable {P:Program} {ops:Array Oper} {rest:List Oper} {o:Oper} {a:Act} {w:World} {Q:Exit→Act→World→Prop}
theorem QfN (hgd:o.guard=none) (s x:Operand) (t:TypeId) (ho:o.op= .call { callee:=.builtin .append,args:= #[s,x],argTypes:= #[t,t] })
 (e:TypeId) (ht:P.underlying t=some (.slice e)) (hsz:(P.info? e).map (·.size)=some 1) (b n c g m c2:Nat) (t2:TypeId) (news:List Value) (hb:Blk w g t2 news) (hnl:news.length=m) (h1:∀u∈news,u.oneCell'=true)
 (hs:a.eval s= .slice (some ⟨b,0,none⟩) n c) (hx:a.eval x= .slice (some ⟨g,0,none⟩) m c2) (hroom:n+m≤c) (hc:∀j,j<m→(w.cell? ⟨b,n+j,none⟩).isSome=true) (hf:∀j,j<m→w.frozen? ⟨b,n+j,none⟩=false)
 (h:wpList P ops Q rest (a.put o.dst (.slice (some ⟨b,0,none⟩) (n+m) c)) (w.setCells b n news)):wpList P ops Q (o :: rest) a w:=by
 cases hq:P.info? e with
 | none=>simp[hq]at hsz
 | some i=>
   have hi1:i.size=1:=by simpa [hq] using hsz
   have hr:=run_append_room_cells (P:=P) w t o.type e i ht hq b 0 n c ⟨g,0,none⟩ m c2 news (by rw[hi1,hnl,Qzb]) (fun j u hu=>by rw[QbM,QyE];exact hb.cellD j hu) h1 hroom
    (fun j hj=>by rw[hi1,Qzb,QyE];exact hc j (by omega)) (fun j hj=>by rw[hi1,Qzb,QyE];exact hf j (by omega))
   rw[hi1,Qzb,QyE]at hr
   refine wpList_plain hgd fun K hK=>?_
   unfold Oper.wp execOp
   simp only[ho,resolve,invoke,builtin,Sem.run_bind,Sem.run_pure,Result.andThen_ok,Qyw,QyJ,QyD,hs,hx,hr]
   exact hK _ _ h
theorem Qfm (hgd:o.guard=none) (s x:Operand) (t:TypeId) (ho:o.op= .call { callee:=.builtin .append,args:= #[s,x],argTypes:= #[t,t] })
 (e:TypeId) (z:Value) (bytes:Nat) (ht:P.underlying t=some (.slice e)) (hinfo:(P.info? e).map (fun i=>(i.zero,i.size,i.bytes))=some (some z,1,bytes)) (hzs:z.cells.size=1) (b n c g m c2:Nat) (olds:List Value) (hr0:Rd w (some ⟨b,0,none⟩) n olds)
 (t2:TypeId) (news:List Value) (hb:Blk w g t2 news) (hnl:news.length=m) (hs:a.eval s= .slice (some ⟨b,0,none⟩) n c) (hx:a.eval x= .slice (some ⟨g,0,none⟩) m c2) (hroom:c<n+m) (hsz:(n+m)*bytes≤140737488355328) (hby:0<bytes)
 (h:∀v' w',w'.ownsRow w.heap.size e 1 v' (n+m) (olds++news)→Later w w'→wpList P ops Q rest (a.put o.dst v') w'):wpList P ops Q (o :: rest) a w:=by
 obtain⟨i,hi,hz,hsize,hbytes⟩:=info_parts hinfo
 have hnm:n+m≤140737488355328:=QyX (Qzg _ hby) hsz
 have holds:∀j u,olds[j]?=some u→w.cell? ((⟨b,0,none⟩:Addr).add j)=some u:=by
  intro j u hu
  have h0:0<n:=by rw[←hr0.1];exact Qzw (QAa _) (QyB.1 hu).1
  obtain⟨b',o',e',_,hc⟩:=hr0.2 h0
  cases e'
  rw[QbM,QyE]
  have:=hc j u hu
  rwa [QyE]at this
 have hr:=run_append_grow (P:=P) w t o.type e i z ht hi hz ⟨b,0,none⟩ n c olds (by rw[hsize,Qzb];exact hr0.1) holds ⟨g,0,none⟩ m c2 news (by rw[hsize,hnl,Qzb]) (fun j u hu=>by rw[QbM,QyE];exact hb.cellD j hu)
  hroom (by omega) (growslice_fits hroom (by rw[hbytes];exact hsz))
 refine wpList_plain hgd fun K hK=>?_
 unfold Oper.wp execOp
 simp only[ho,resolve,invoke,builtin,Sem.run_bind,Sem.run_pure,Result.andThen_ok,Qyw,QyJ,QyD,hs,hx,hr]
 have hge:=grownCap_ge w (n+m) c e
 have hcm:grownCap w (n+m) c e≤maxLen:=grownCap_le_maxLen w (n+m) c e (by unfold maxLen;omega)
 have hlen:(olds++news).length=n+m:=by rw[Qyz,hr0.1,hnl]
 refine hK _ _ (h _ _ ⟨by rw[hlen,Qzb],.inr ⟨w.heap.size,_,_,rfl,Qyv _,heap_alloc_new w.drew _,hge,hcm,?_,?_⟩⟩ ((Qab w).trans (Qaa w.drew _)))
 ·simp only[Array.size_append,List.size_toArray,size_zeroCells,hzs,hr0.1,hnl]
  omega
 ·simp only[Array.toList_append,QyK,Qzb]
  rw[←QyK,←hlen]
  exact List.take_left
end
structure Keep (own:Nat→Option Nat) (w w':World):Prop where
 size:w.heap.size≤w'.heap.size
 cell:∀b i,own b=some i→b<w.heap.size→∀p v,w.cell? ⟨b,p,none⟩=some v→w'.cell? ⟨b,p,none⟩=some v∨w'.cell? ⟨b,p,none⟩=some (W8 (QcF i p))
 free:∀b i,own b=some i→b<w.heap.size→∀p,w.frozen? ⟨b,p,none⟩=false→w'.frozen? ⟨b,p,none⟩=false
 env:w'.os=w.os∧w'.tape=w.tape∧w'.output=w.output
def Good (own:Nat→Option Nat) (w:World) (i:Nat) (v:Value) (n:Nat):Prop:=
 (∃ c,v= .slice none 0 c∧n=0)∨∃b c,v= .slice (some ⟨b,0,none⟩) n c∧own b=some i∧b<w.heap.size∧∀p,p<n→w.cell? ⟨b,p,none⟩=some (W8 (QcF i p))
def Roomy (own:Nat→Option Nat) (w:World) (i:Nat) (v:Value) (n:Nat):Prop:=
 (v= .slice none 0 0∧n=0)∨∃b c,v= .slice (some ⟨b,0,none⟩) n c∧n≤c∧own b=some i∧b<w.heap.size∧∀p,p<c→(w.cell? ⟨b,p,none⟩).isSome=true∧w.frozen? ⟨b,p,none⟩=false
theorem Keep.refl (own:Nat→Option Nat) (w:World):Keep own w w:=⟨Qyv _,fun _ _ _ _ _ _ h=>.inl h,fun _ _ _ _ _ h=>h,rfl,rfl,rfl⟩
theorem Keep.trans {own:Nat→Option Nat} {a b c:World} (h:Keep own a b) (k:Keep own b c):Keep own a c:=by
 refine⟨QyX h.size k.size,fun g i hg hlt p v hv=>?_,fun g i hg hlt p hf=>k.free g i hg (QyL hlt h.size) p (h.free g i hg hlt p hf),k.env.1.trans h.env.1,k.env.2.1.trans h.env.2.1,k.env.2.2.trans h.env.2.2⟩
 have hlt':=QyL hlt h.size
 rcases h.cell g i hg hlt p v hv with h1|h1
 ·exact k.cell g i hg hlt' p v h1
 ·rcases k.cell g i hg hlt' p _ h1 with h2|h2
  ·exact .inr h2
  ·exact .inr h2
theorem Keep.more {own own':Nat→Option Nat} {w w':World} (h:Keep own' w w') (hsub:∀b i,own b=some i→b<w.heap.size→own' b=some i):Keep own w w':=
 ⟨h.size,fun b i hb hlt=>h.cell b i (hsub b i hb hlt) hlt,fun b i hb hlt=>h.free b i (hsub b i hb hlt) hlt,h.env⟩
theorem Good.keep {own:Nat→Option Nat} {w w':World} {i n:Nat} {v:Value} (h:Good own w i v n) (k:Keep own w w'):Good own w' i v n:=by
 rcases h with h|⟨b,c,rfl,hb,hlt,hc⟩
 ·exact .inl h
 ·refine .inr ⟨b,c,rfl,hb,QyL hlt k.size,fun p hp=>?_⟩
  rcases k.cell b i hb hlt p _ (hc p hp) with h1|h1<;>exact h1
theorem Roomy.keep {own:Nat→Option Nat} {w w':World} {i n:Nat} {v:Value} (h:Roomy own w i v n) (k:Keep own w w'):Roomy own w' i v n:=by
 rcases h with h|⟨b,c,rfl,hnc,hb,hlt,hc⟩
 ·exact .inl h
 ·refine .inr ⟨b,c,rfl,hnc,hb,QyL hlt k.size,fun p hp=>⟨?_,k.free b i hb hlt p (hc p hp).2⟩⟩
  obtain⟨u,hu⟩:=Qz4.1 (hc p hp).1
  rcases k.cell b i hb hlt p u hu with h1|h1<;>rw[h1]<;>rfl
theorem Keep.later {own:Nat→Option Nat} {w w':World} (h:Later w w'):Keep own w w':=by
 refine⟨h.size,fun b i _ hlt p v hv=>.inl ((h.below.cell (p:=⟨b,p,none⟩) hlt).trans hv),fun b i _ hlt p hf=>?_,h.below.os,h.below.tape,h.below.output⟩
 have:=h.below.block b hlt
 exact (World.frozen?_of_block (a:=⟨b,p,none⟩) this).trans hf
theorem Keep.only {own:Nat→Option Nat} {w w':World} {k:Nat} (h:Only k w w') (hk:own k=none):Keep own w w':=by
 have hne:∀b i,own b=some i→some b≠some k:=fun b i hb e=>by
  injection e with e
  rw[e,hk]at hb
  cases hb
 exact⟨h.size,fun b i hb hlt p v hv=>.inl ((World.cell?_of_block (a:=⟨b,p,none⟩) (h.block b hlt (hne b i hb))).trans hv),fun b i hb hlt p hf=>(World.frozen?_of_block (a:=⟨b,p,none⟩) (h.block b hlt (hne b i hb))).trans hf,h.os,h.tape,h.output⟩
theorem Keep.set {own:Nat→Option Nat} {w:World} {b i p:Nat} (hb:own b=some i):Keep own w (w.setCell ⟨b,p,none⟩ (W8 (QcF i p))):=by
 refine⟨by simp,fun g j hg _ q v hv=>?_,fun g j _ _ q hf=>(by rw[World.frozen?_setCell];exact hf),rfl,rfl,rfl⟩
 by_cases he:(⟨b,p,none⟩:Addr)=⟨g,q,none⟩
 ·cases he
  rw[hb]at hg
  cases hg
  exact .inr (World.cell?_setCell_same _ _ _ hv)
 ·exact .inl ((World.cell?_setCell_other _ _ _ _ he).trans hv)
theorem Keep.setCells {own:Nat→Option Nat} {b i:Nat} (hb:own b=some i):∀(m o:Nat) (w:World),Keep own w (w.setCells b o ((List.range' o m).map fun p=>W8 (QcF i p)))
 | 0,_,w=>Keep.refl own w
 | m+1,o,w=>by
   rw[List.range'_succ,QyJ]
   exact (Keep.set hb).trans (Keep.setCells hb m (o+1) _)
def Qa2 (i o m:Nat):List Value:=(List.range' o m).map fun p=>W8 (QcF i p)
theorem Qbd (i o m:Nat):(Qa2 i o m).length=m:=by simp[Qa2]
theorem QhG (i o m j:Nat) (h:j<m):(Qa2 i o m)[j]?=some (W8 (QcF i (o+j))):=by
 rw[Qa2,QyF,List.getElem?_range' h]
 simp
theorem Qiu (i n m:Nat):Qa2 i 0 n++Qa2 i n m=Qa2 i 0 (n+m):=by
 rw[Qa2,Qa2,Qa2,←QyZ]
 congr 1
 have:=List.range'_append (s:=0) (m:=n) (n:=m) (step:=1)
 simpa using this
theorem QhY (i o m:Nat):∀u∈Qa2 i o m,u.oneCell'=true:=by
 intro u hu
 obtain⟨p,_,rfl⟩:=Qy1.1 hu
 rfl
theorem Qe8 {own:Nat→Option Nat} {b i:Nat} (hb:own b=some i):∀(m o:Nat) (w:World),b<w.heap.size→(∀ p,o≤p→p<o+m→(w.cell? ⟨b,p,none⟩).isSome=true)→∀p,o≤p→p<o+m→(w.setCells b o (Qa2 i o m)).cell? ⟨b,p,none⟩=some (W8 (QcF i p))
 | 0,o,w,_,_,p,h1,h2=>by omega
 | m+1,o,w,hlt,hc,p,h1,h2=>by
   rw[Qa2,List.range'_succ,QyJ]
   show ((w.setCell ⟨b,o,none⟩ (W8 (QcF i o))).setCells b (o+1) (Qa2 i (o+1) m)).cell? ⟨b,p,none⟩=_
   have K1:Keep own w (w.setCell ⟨b,o,none⟩ (W8 (QcF i o))):=Keep.set hb
   have hlt1:=QyL hlt K1.size
   by_cases hp:p=o
   ·subst hp
    obtain⟨u,hu⟩:=Qz4.1 (hc p (Qyv _) (by omega))
    have K2:Keep own _ ((w.setCell ⟨b,p,none⟩ (W8 (QcF i p))).setCells b (p+1) (Qa2 i (p+1) m)):=Keep.setCells hb m (p+1) _
    rcases K2.cell b i hb hlt1 p _ (World.cell?_setCell_same _ _ _ hu) with h|h<;>exact h
   ·refine Qe8 hb m (o+1) _ hlt1 (fun q h3 h4=>?_) p (by omega) (by omega)
    obtain⟨u,hu⟩:=Qz4.1 (hc q (by omega) (by omega))
    rcases K1.cell b i hb hlt q u hu with h|h<;>rw[h]<;>rfl
theorem Qeg {b:Nat}:∀(vs:List Value) (o:Nat) (w:World) (k:Nat),k≠b→(w.setCells b o vs).heap[k]?=w.heap[k]?
 | [],_,_,_,_=>rfl
 | v :: vs,o,w,k,h=>by
   show ((w.setCell ⟨b,o,none⟩ v).setCells b (o+1) vs).heap[k]?=_
   rw[Qeg vs (o+1) _ k h]
   exact Below.heap_setCell w ⟨b,o,none⟩ v k h
theorem Qe2 {b:Nat}:∀(vs:List Value) (o:Nat) (w:World),(w.setCells b o vs).heap.size=w.heap.size
 | [],_,_=>rfl
 | v :: vs,o,w=>by
   show ((w.setCell ⟨b,o,none⟩ v).setCells b (o+1) vs).heap.size=_
   rw[Qe2 vs (o+1) _]
   simp
def owns (own:Nat→Option Nat) (g i:Nat):Nat→Option Nat:=fun b=>if b=g then some i else own b
theorem Qri {own:Nat→Option Nat} {g i b:Nat} (h:b<g):owns own g i b=own b:=if_neg (by omega)
theorem Qi6 (own:Nat→Option Nat) (g i:Nat):owns own g i g=some i:=if_pos rfl
structure Grown (own:Nat→Option Nat) (w:World) (i n:Nat) (own':Nat→Option Nat) (w':World) (v':Value):Prop where
 good:Good own' w' i v' n
 roomy:Roomy own' w' i v' n
 keep:Keep own w w'
 low:∀b,b<w.heap.size→own' b=own b
 fresh:∀b,w'.heap.size≤b→own' b=none
 rest:∀b,b<w.heap.size→own b=none→w'.heap[b]?=w.heap[b]?
theorem Qjl {own:Nat→Option Nat} {w w':World} {i n:Nat} {e:TypeId} {v':Value} (hn:0<n) (hfresh:∀b,w.heap.size≤b→own b=none) (hown:w'.ownsRow w.heap.size e 1 v' n (Qa2 i 0 n)) (hl:Later w w'):
 ∃own',Grown own w i n own' w' v':=by
 rcases hown.2 with ⟨_,h0⟩|⟨g,cap,cur,rfl,hb,hh,hnc,hm,hs,ht⟩
 ·omega
 ·have hlt:=(hown.lt g rfl).2
  have hcur:∀p,p<cap→∃u,w'.cell? ⟨g,p,none⟩=some u:=fun p hp=>by
   rw[cell_of_row w' g p cur e (0,0) hh,Array.getElem?_eq_getElem (by omega)]
   exact⟨_,rfl⟩
  refine⟨owns own g i,.inr ⟨g,cap,rfl,Qi6 _ _ _,hlt,fun p hp=>?_⟩,.inr ⟨g,cap,rfl,hnc,Qi6 _ _ _,hlt,fun p hp=>⟨?_,?_⟩⟩,.later hl,fun b hb'=>Qri (by omega),fun b hb'=>?_,fun b hb' _=>hl.below.block b hb'⟩
  ·have:=hown.cells (g:=g) rfl p _ (QhG i 0 n p hp)
   simp only[QbM,QyE]at this
   exact this
  ·obtain⟨u,hu⟩:=hcur p hp
   rw[hu]
   rfl
  ·simp[World.frozen?,hh]
  ·rw[owns,if_neg (by omega)]
   exact hfresh b (QyX hl.size hb')
section
variable {P:Program} {ops:Array Oper} {rest:List Oper} {o:Oper} {a:Act} {w:World} {Q:Exit→Act→World→Prop}
theorem Qc6 (hgd:o.guard=none) (s x:Operand) (t:TypeId) (ho:o.op= .call { callee:=.builtin .append,args:= #[s,x],argTypes:= #[t,t] })
 (e:TypeId) (z:Value) (ht:P.underlying t=some (.slice e)) (hinfo:(P.info? e).map (fun i=>(i.zero,i.size,i.bytes))=some (some z,1,1)) (hzs:z.cells.size=1)
 (own:Nat→Option Nat) (i n m c2:Nat) (v:Value) (hg:Good own w i v n) (hr:Roomy own w i v n) (hfresh:∀b,w.heap.size≤b→own b=none) (g:Nat) (t2:TypeId) (hb:Blk w g t2 (Qa2 i n m)) (hm:0<m)
 (hs:a.eval s=v) (hx:a.eval x= .slice (some ⟨g,0,none⟩) m c2) (hsz:n+m≤140737488355328)
 (h:∀own' A' c' w',Grown own w i (n+m) own' w' (.slice A' (n+m) c')→wpList P ops Q rest (a.put o.dst (.slice A' (n+m) c')) w'):wpList P ops Q (o :: rest) a w:=by
 rcases hr with ⟨rfl,rfl⟩|⟨b,c,rfl,hnc,hob,hlt,hroom⟩
 ·refine QaJ hgd s x t ho e z 1 ht hinfo hzs w _ 0 [] ⟨rfl,.inl ⟨rfl,rfl⟩⟩ (Later.refl w) _ m c2 _ (hb.rd (Qbd _ _ _)) (QhY _ _ _) hs hx (by omega) (by omega) fun A' c' w' hown hl _ _=>?_
  rw[Qyr]at hown
  have e0:Qa2 i 0 m=Qa2 i 0 (0+m):=by rw[QyE]
  rw[e0]at hown
  obtain⟨own',hG⟩:=Qjl (by omega) hfresh hown hl
  exact h own' A' c' w' hG
 ·have hcell:∀p,p<n→w.cell? ⟨b,p,none⟩=some (W8 (QcF i p)):=by
   rcases hg with ⟨c0,e0,_⟩|⟨b',c',e0,_,_,hc⟩
   ·cases e0
   ·cases e0
    exact hc
  by_cases hin:n+m≤c
  ·refine QfN hgd s x t ho e ht (by rw[show (·.size)=(fun (y:Option Value×Nat×Nat)=>y.2.1) ∘ fun (i:TypeInfo)=>(i.zero,i.size,i.bytes) from rfl,←Option.map_map,hinfo];rfl) b n c g m c2 t2 _ hb (Qbd _ _ _) (QhY _ _ _) hs hx hin
    (fun j hj=>(hroom (n+j) (by omega)).1) (fun j hj=>(hroom (n+j) (by omega)).2) ?_
   have K:Keep own w (w.setCells b n (Qa2 i n m)):=Keep.setCells hob m n w
   have hsize:(w.setCells b n (Qa2 i n m)).heap.size=w.heap.size:=Qe2 _ _ _
   refine h own _ _ _ ⟨.inr ⟨b,c,rfl,hob,QyL hlt K.size,fun p hp=>?_⟩,?_,K,fun _ _=>rfl,fun q hq=>hfresh q (by omega),fun q hq hn=>Qeg _ _ _ _ (fun e=>?_)⟩
   ·by_cases hpn:p<n
    ·rcases K.cell b i hob hlt p _ (hcell p hpn) with h1|h1<;>exact h1
    ·exact Qe8 hob m n w hlt (fun q h1 h2=>(hroom q (by omega)).1) p (by omega) hp
   ·have:Roomy own w i (.slice (some ⟨b,0,none⟩) (n+m) c) (n+m):=.inr ⟨b,c,rfl,hin,hob,hlt,hroom⟩
    exact this.keep K
   ·rw[e,hob]at hn
    cases hn
  ·have hrd:Rd w (some ⟨b,0,none⟩) n (Qa2 i 0 n):=⟨Qbd _ _ _,fun _=>⟨b,0,rfl,hlt,fun j u hu=>by
    have hj:j<n:=by
     have:=(QyB.1 hu).1
     rwa [Qbd]at this
    rw[QhG i 0 n j hj]at hu
    rw[QyE,←hu,QyE]
    exact hcell j hj⟩⟩
   refine Qfm hgd s x t ho e z 1 ht hinfo hzs b n c g m c2 _ hrd t2 _ hb (Qbd _ _ _) hs hx (by omega) (by omega) (by omega) fun v' w' hown hl=>?_
   rw[Qiu]at hown
   obtain⟨A',c',rfl⟩:=Qdh hown
   obtain⟨own',hG⟩:=Qjl (by omega) hfresh hown hl
   exact h own' A' c' w' hG
theorem Qdn (hgd:o.guard=none) (s x:Operand) (t:TypeId) (ho:o.op= .call { callee:=.builtin .append,args:= #[s,x],argTypes:= #[t,t] })
 (e:TypeId) (z:Value) (bytes:Nat) (ht:P.underlying t=some (.slice e)) (hinfo:(P.info? e).map (fun i=>(i.zero,i.size,i.bytes))=some (some z,1,bytes)) (hzs:z.cells.size=1)
 (base:Nat) (v:Value) (n:Nat) (vs:List Value) (hown:w.ownsRow base e 1 v n vs) (hbase:base≤w.heap.size)
 (g m c:Nat) (t2:TypeId) (news:List Value) (hb:Blk w g t2 news) (hnl:news.length=m) (h1:∀u∈news,u.oneCell'=true) (hs:a.eval s=v) (hx:a.eval x= .slice (some ⟨g,0,none⟩) m c) (hsz:(n+m)*bytes≤140737488355328) (hby:0<bytes)
 (h:∀A' c' w',w'.ownsRow base e 1 (.slice A' (n+m) c') (n+m) (vs++news)→w.grownBy w' v.ownBlock→(∀ k,(Value.slice A' (n+m) c').ownBlock=some k→v.ownBlock=some k∨w.heap.size≤k)→wpList P ops Q rest (a.put o.dst (.slice A' (n+m) c')) w'):
 wpList P ops Q (o :: rest) a w:=by
 obtain⟨i,hi,hz,hsize,hbytes⟩:=info_parts hinfo
 have hnm:n+m≤140737488355328:=QyX (Qzg _ hby) hsz
 have hmax:n+m≤maxLen:=by unfold maxLen;omega
 have hcells:∀j u,news[j]?=some u→w.cell? ((⟨g,0,none⟩:Addr).add j)=some u:=by
  intro j u hu
  rw[QbM,QyE]
  exact hb.cellD j hu
 obtain⟨v',w',hrun,h2,h3,_⟩:=run_append_own (P:=P) w base t o.type e i z 1 bytes ht hi hz hsize hbytes hzs (by omega) v n vs hown ⟨g,0,none⟩ m c news (by rw[hnl,Qzb]) hcells h1 hmax hsz hbase
 have hwhere:∀k,v'.ownBlock=some k→v.ownBlock=some k∨w.heap.size≤k:=by
  intro k hk
  rcases hown.2 with ⟨rfl,rfl⟩|⟨gv,cap,cur,rfl,hbv,hh,hnc,hmc,hsz',htk⟩
  ·obtain⟨v2,w2,hrun2,h22,_,_⟩:=run_append_own (P:=P) w w.heap.size t o.type e i z 1 bytes ht hi hz hsize hbytes hzs (by omega) (.slice none 0 0) 0 vs ⟨hown.1,.inl ⟨rfl,rfl⟩⟩ ⟨g,0,none⟩ m c news (by rw[hnl,Qzb]) hcells h1 hmax hsz (Qyv _)
   rw[hrun]at hrun2
   cases hrun2
   exact .inr (h22.lt k hk).1
  ·by_cases hin:n+m≤cap
   ·have hgl:=(hown.lt gv rfl).2
    have hr:=run_append_room_cells (P:=P) w t o.type e i ht hi gv 0 n cap ⟨g,0,none⟩ m c news (by rw[hsize,hnl,Qzb]) hcells h1 hin
     (fun j hj=>by
       rw[hsize,Qzb,QyE]
       rw[cell_of_row w gv (n+j) cur e (0,0) hh,Array.getElem?_eq_getElem (by omega)];rfl)
     (fun j hj=>by
       simp[World.frozen?,hh])
    rw[hrun]at hr
    cases hr
    exact .inl hk
   ·have hr0:∀j u,vs[j]?=some u→w.cell? ((⟨gv,0,none⟩:Addr).add j)=some u:=fun j u hu=>hown.cells (g:=gv) rfl j u hu
    have hr:=run_append_grow (P:=P) w t o.type e i z ht hi hz ⟨gv,0,none⟩ n cap vs (by rw[hsize];exact hown.1) hr0 ⟨g,0,none⟩ m c news (by rw[hsize,hnl,Qzb]) hcells
     (by omega) (by omega) (growslice_fits (by omega) (by rw[hbytes];exact hsz))
    rw[hrun]at hr
    cases hr
    cases hk
    exact .inr (Qyv _)
 refine wpList_plain hgd fun K hK=>?_
 unfold Oper.wp execOp
 simp only[ho,resolve,invoke,builtin,Sem.run_bind,Sem.run_pure,Result.andThen_ok,Qyw,QyJ,QyD,hs,hx,hrun]
 obtain⟨A',c',rfl⟩:=Qdh h2
 exact hK _ _ (h A' c' w' h2 h3 hwhere)
end
theorem QgJ (i j:Nat) (x y:Int) (hx:x=(i:Int)) (hy:y=(j:Int)) (hi:i≤1048576) (hj:j≤140737488355328) (w:World):
 Calls Tryz.prog 46 #[.int .i64 x,.int .i64 y] w fun e w'=>e= .returned (W8 (QcF i j))∧w'=w:=by
 subst hx hy
 exact Qro i j hi hj w
structure AInv (w:World) (own0:Nat→Option Nat) (vs:List Value) (ns:List Nat) (own:Nat→Option Nat) (wr:World) (k:Nat):Prop where
 size:w.heap.size≤wr.heap.size
 low:∀b,b<w.heap.size→own b=own0 b
 fresh:∀b,wr.heap.size≤b→own b=none
 same:∀b,b<w.heap.size→own0 b=none→wr.heap[b]?=w.heap[b]?
 roomy:∀i v,vs[i]?=some v→Roomy own wr i v (ns.getD i 0)
 good:∀i v,i<k→vs[i]?=some v→Good own wr i v (ns.getD i 0)
 env:wr.os=w.os∧wr.tape=w.tape∧wr.output=w.output
section
variable {w:World} {own0:Nat→Option Nat} {vs:List Value} {ns:List Nat} {own:Nat→Option Nat} {wr:World} {k:Nat}
theorem AInv.keep (h:AInv w own0 vs ns own wr k) {w2:World} (K:Keep own wr w2) (hr:∀b,b<w.heap.size→own0 b=none→w2.heap[b]?=wr.heap[b]?):AInv w own0 vs ns own w2 k:=
 ⟨QyX h.size K.size,h.low,fun b hb=>h.fresh b (QyX K.size hb),fun b hb h0=>(hr b hb h0).trans (h.same b hb h0),fun i v hv=>(h.roomy i v hv).keep K,fun i v hi hv=>(h.good i v hi hv).keep K,K.env.1.trans h.env.1,K.env.2.1.trans h.env.2.1,K.env.2.2.trans h.env.2.2⟩
theorem AInv.later (h:AInv w own0 vs ns own wr k) {w2:World} (hl:Later wr w2):AInv w own0 vs ns own w2 k:=
 h.keep (.later hl) fun b hb _=>hl.below.block b (QyL hb h.size)
theorem AInv.only (h:AInv w own0 vs ns own wr k) {w2:World} {g:Nat} (ho:Only g wr w2) (hg:own g=none) (hw:w.heap.size≤g):AInv w own0 vs ns own w2 k:=
 h.keep (.only ho hg) fun b hb _=>ho.block b (QyL hb h.size) (fun e=>by injection e;omega)
theorem Good.grown {own':Nat→Option Nat} {w2:World} {i n i' n':Nat} {v v':Value} (h:Good own wr i v n) (G:Grown own wr i' n' own' w2 v'):Good own' w2 i v n:=by
 rcases h.keep G.keep with h2|⟨b,c,rfl,hb,hlt,hc⟩
 ·exact .inl h2
 ·rcases h with ⟨_,e,_⟩|⟨b',c',e,_,hlt',_⟩
  ·cases e
  ·cases e
   exact .inr ⟨b,c,rfl,(G.low b hlt').trans hb,hlt,hc⟩
theorem Roomy.grown {own':Nat→Option Nat} {w2:World} {i n i' n':Nat} {v v':Value} (h:Roomy own wr i v n) (G:Grown own wr i' n' own' w2 v'):Roomy own' w2 i v n:=by
 rcases h.keep G.keep with h2|⟨b,c,rfl,hnc,hb,hlt,hc⟩
 ·exact .inl h2
 ·rcases h with ⟨e,_⟩|⟨b',c',e,_,_,hlt',_⟩
  ·cases e
  ·cases e
   exact .inr ⟨b,c,rfl,hnc,(G.low b hlt').trans hb,hlt,hc⟩
theorem AInv.grown (h:AInv w own0 vs ns own wr k) {own':Nat→Option Nat} {w2:World} {i n:Nat} {v':Value} (G:Grown own wr i n own' w2 v'):AInv w own0 vs ns own' w2 k:=
 ⟨QyX h.size G.keep.size,fun b hb=>(G.low b (QyL hb h.size)).trans (h.low b hb),G.fresh,fun b hb h0=>(G.rest b (QyL hb h.size) ((h.low b hb).trans h0)).trans (h.same b hb h0),
   fun i v hv=>(h.roomy i v hv).grown G,fun i v hi hv=>(h.good i v hi hv).grown G,G.keep.env.1.trans h.env.1,G.keep.env.2.1.trans h.env.2.1,G.keep.env.2.2.trans h.env.2.2⟩
theorem AInv.step (h:AInv w own0 vs ns own wr k) (hg:∀v,vs[k]?=some v→Good own wr k v (ns.getD k 0)):AInv w own0 vs ns own wr (k+1):=
 ⟨h.size,h.low,h.fresh,h.same,h.roomy,fun i v hi hv=>by
   by_cases e:i=k
   ·subst e
    exact hg v hv
   ·exact h.good i v (by omega) hv,h.env⟩
theorem AInv.at_ (h:AInv w own0 vs ns own wr k) {A:Option Addr} {n:Nat} (hx:Rd w A n vs) (hA:∀b o,A=some ⟨b,o,none⟩→own0 b=none) {i:Nat} (hi:i<n):
 ∃b o Ak ck,A=some ⟨b,o,none⟩∧vs[i]?=some (.slice Ak (ns.getD i 0) ck)∧(∀ own wr k,AInv w own0 vs ns own wr k→wr.cell? ⟨b,o+i,none⟩=some (.slice Ak (ns.getD i 0) ck)):=by
 obtain⟨b,o,rfl,hb,hc⟩:=hx.2 (by omega)
 have hil:i<vs.length:=by rw[hx.1];exact hi
 have hv:=Qyq hil
 have hr:=h.roomy i _ hv
 have hs:∃Ak ck,vs[i]= .slice Ak (ns.getD i 0) ck:=by
  rcases hr with ⟨e,e2⟩|⟨g,c,e,_⟩
  ·exact⟨none,0,by rw[e,e2]⟩
  ·exact⟨_,_,e⟩
 obtain⟨Ak,ck,hs⟩:=hs
 rw[hs]at hv
 exact⟨b,o,Ak,ck,rfl,hv,fun own wr k h2=>(World.cell?_of_block (a:=⟨b,o+i,none⟩) (h2.same b hb (hA b o rfl))).trans (hc i _ hv)⟩
end
structure GInv (w:World) (own0:Nat→Option Nat) (vs:List Value) (ns:List Nat) (n:Nat) (own:Nat→Option Nat) (wr:World) (v:Value) (cnt:Nat) (gs:List Value):Prop where
 inv:AInv w own0 vs ns own wr n
 row:wr.ownsRow w.heap.size 25 1 v cnt gs
 free:∀b,v.ownBlock=some b→own b=none
 good:∀k u,gs[k]?=some u→∃A m c,u= .slice A m c∧m≤140737488355328∧Good own wr (k%n) u m
section
variable {w:World} {own0:Nat→Option Nat} {vs:List Value} {ns:List Nat} {n:Nat} {own:Nat→Option Nat} {wr:World} {v:Value} {cnt:Nat} {gs:List Value}
theorem GInv.later (h:GInv w own0 vs ns n own wr v cnt gs) {w2:World} (hl:Later wr w2):GInv w own0 vs ns n own w2 v cnt gs:=
 ⟨h.inv.later hl,Qay h.row hl,h.free,fun k u hu=>by obtain⟨A,m,c,e,hm,hg⟩:=h.good k u hu;exact⟨A,m,c,e,hm,hg.keep (.later hl)⟩⟩
theorem GInv.only (h:GInv w own0 vs ns n own wr v cnt gs) {w2:World} {g:Nat} (ho:Only g wr w2) (hg:own g=none) (hw:w.heap.size≤g) (hv:v.ownBlock≠some g):GInv w own0 vs ns n own w2 v cnt gs:=
 ⟨h.inv.only ho hg hw,QfT h.row ho (fun b hb e=>hv (by rw[hb,e])),h.free,fun k u hu=>by obtain⟨A,m,c,e,hm,hg'⟩:=h.good k u hu;exact⟨A,m,c,e,hm,hg'.keep (.only ho hg)⟩⟩
theorem GInv.grown (h:GInv w own0 vs ns n own wr v cnt gs) {own':Nat→Option Nat} {w2:World} {i m:Nat} {v':Value} (G:Grown own wr i m own' w2 v'):GInv w own0 vs ns n own' w2 v cnt gs:=by
 refine⟨h.inv.grown G,?_,fun b hb=>(G.low b (h.row.lt b hb).2).trans (h.free b hb),fun k u hu=>by obtain⟨A,m,c,e,hm,hg'⟩:=h.good k u hu;exact⟨A,m,c,e,hm,hg'.grown G⟩⟩
 refine⟨h.row.1,?_⟩
 rcases h.row.2 with h2|⟨g,cap,cur,e,hb,hh,r⟩
 ·exact .inl h2
 ·subst e
  have hlt:=(h.row.lt g rfl).2
  exact .inr ⟨g,cap,cur,rfl,hb,(G.rest g hlt (h.free g rfl)).trans hh,r⟩
theorem GInv.push (h:GInv w own0 vs ns n own wr v cnt gs) {w2:World} {A:Option Addr} {m c:Nat} {v':Value} (hg:Good own wr (cnt%n) (.slice A m c) m) (hm:m≤140737488355328) (hrow:w2.ownsRow w.heap.size 25 1 v' (cnt+1) (gs++[.slice A m c]))
 (hgr:wr.grownBy w2 v.ownBlock) (hwhere:∀k,v'.ownBlock=some k→v.ownBlock=some k∨wr.heap.size≤k):GInv w own0 vs ns n own w2 v' (cnt+1) (gs++[.slice A m c]):=by
 have hne:∀b i,own b=some i→some b≠v.ownBlock:=fun b i hb e=>by
  rw[h.free b e.symm]at hb
  cases hb
 have K:Keep own wr w2:=⟨hgr.size,fun b i hb hlt p u hu=>.inl ((World.cell?_of_block (a:=⟨b,p,none⟩) (hgr.block b hlt (hne b i hb))).trans hu),fun b i hb hlt p hf=>(World.frozen?_of_block (a:=⟨b,p,none⟩) (hgr.block b hlt (hne b i hb))).trans hf,hgr.os,hgr.tape,hgr.output⟩
 have hl:gs.length=cnt:=by have:=h.row.1;omega
 refine⟨h.inv.keep K fun b hb h0=>hgr.block b (QyL hb h.inv.size) (fun e=>by have:=(h.row.lt b e.symm).1;omega),hrow,fun b hb=>?_,fun k u hu=>?_⟩
 ·rcases hwhere b hb with h1|h1
  ·exact h.free b h1
  ·exact h.inv.fresh b h1
 ·by_cases hk:k<gs.length
  ·rw[QyG hk]at hu
   obtain⟨A,m,c,e,hm,hg'⟩:=h.good k u hu
   exact⟨A,m,c,e,hm,hg'.keep K⟩
  ·have:k=cnt:=by
    have:=(QyB.1 hu).1
    simp only[Qyz,Qzd,List.length_nil]at this
    omega
   subst this
   rw[QyC (by omega),hl,Nat.sub_self]at hu
   cases hu
   exact⟨A,m,c,rfl,hm,hg.keep K⟩
end
theorem Qoh {own:Nat→Option Nat} {wr:World} {i n c:Nat} {A:Option Addr} (h:Roomy own wr i (.slice A n c) n):Good own wr i (.slice A 0 c) 0:=by
 rcases h with ⟨e,h0⟩|⟨b,c',e,_,hb,hlt,_⟩
 ·cases e
  exact .inl ⟨0,rfl,rfl⟩
 ·cases e
  exact .inr ⟨b,c,rfl,hb,hlt,fun p hp=>by omega⟩
theorem Qre {own:Nat→Option Nat} {wr w2:World} {i j b c:Nat} {u:Value} (h:Good own wr i (.slice (some ⟨b,0,none⟩) j c) j) (hb:own b=some i) (hu:wr.cell? ⟨b,j,none⟩=some u) (hw:w2=wr.setCell ⟨b,j,none⟩ (W8 (QcF i j))):
 Good own w2 i (.slice (some ⟨b,0,none⟩) (j+1) c) (j+1):=by
 have K:Keep own wr (wr.setCell ⟨b,j,none⟩ (W8 (QcF i j))):=.set hb
 subst hw
 rcases h with ⟨_,e,_⟩|⟨b',c',e,_,hlt,hc⟩
 ·cases e
 ·cases e
  refine .inr ⟨b,c,rfl,hb,QyL hlt K.size,fun p hp=>?_⟩
  by_cases e:p=j
  ·subst e
   exact World.cell?_setCell_same _ _ _ hu
  ·rcases K.cell b i hb hlt p _ (hc p (by omega)) with h1|h1<;>exact h1
theorem QmU (i o m j:Nat) (h:j<m):(Qa2 i o j++Qyl (m-j) (W8 0)).set j (W8 (QcF i (o+j)))=Qa2 i o (j+1)++Qyl (m-(j+1)) (W8 0):=by
 have e:m-j=(m-(j+1))+1:=by omega
 have e1:Qa2 i o (j+1)=Qa2 i o j++[W8 (QcF i (o+j))]:=by
  rw[Qa2,List.range'_concat,QyZ]
  simp[Qa2]
 rw[e,QzA,Qy3 _ _ (by rw[Qbd];omega),Qbd,Nat.sub_self,Qyx,e1,QyK]
 rfl
theorem Good.cell {own:Nat→Option Nat} {wr:World} {i n c:Nat} {A:Option Addr} (h:Good own wr i (.slice A n c) n) {j:Nat} (hj:j<n):∃b,A=some ⟨b,0,none⟩∧wr.cell? ⟨b,j,none⟩=some (W8 (QcF i j)):=by
 rcases h with ⟨_,_,h0⟩|⟨b,c',e,_,_,hc⟩
 ·omega
 ·cases e
  exact⟨b,rfl,hc j hj⟩
set_option maxRecDepth 100000 in
set_option maxHeartbeats 4000000 in
theorem QnD (A:Option Addr) (n c:Nat) (vs:List Value) (ns:List Nat) (own0:Nat→Option Nat) (w:World) (hx:Rd w A n vs) (hA:∀b o,A=some ⟨b,o,none⟩→own0 b=none) (hfr:∀b,w.heap.size≤b→own0 b=none)
 (hv:∀i v,vs[i]?=some v→Roomy own0 w i v (ns.getD i 0)) (hn:n≤1048576) (hns:∀i,ns.getD i 0≤1099511627776):
 Calls Tryz.prog 24 #[.slice A n c] w fun e w'=>e= .returned (.bool true)∧w.heap.size≤w'.heap.size∧(∀ b,b<w.heap.size→own0 b=none→w'.heap[b]?=w.heap[b]?)∧w'.os=w.os∧w'.tape=w.tape∧w'.output=w.output:=by
 have I0:AInv w own0 vs ns own0 w 0:=⟨Qyv _,fun _ _=>rfl,hfr,fun _ _ _=>rfl,hv,fun i v h=>absurd h (by omega),rfl,rfl,rfl⟩
 have hvl:=hx.1
 have HV:=hid hv
 have HA:=hid hA
 have HF:=hid hfr
 have HX:=hid hx
 have HN:=hid hns
 clear hv hA hfr hx hns
 go_enter Tryz.func24,Tryz.ntmps24
 go_wp2_with fail
 go_loopw [3] (fun i wr=>∃k:Nat,k≤n∧i= .int .i64 k∧AInv w own0 vs ns own0 wr k) (fun i _=>n-(intOf i).toNat)
 case atStart=>exact⟨0,by omega,rfl,I0⟩
 case round=>
  clear I0
  obtain⟨k,hk,rfl,I⟩:=hrel
  by_cases hlt:k<n
  ·obtain⟨b1,o1,Ak,ck,rfl,hvk,hcell⟩:=I.at_ HX.out HA.out hlt
   have HC:=hid hcell
   clear hcell
   have hnk:=HN.out k
   have hroom:=I.roomy k _ hvk
   have hg0:=Qoh hroom
   generalize hnk':ns.getD k 0=nk at *
   go_wp2_with fail
   go_loopw [4] (fun i wr=>∃j:Nat,j≤nk∧i= .int .i64 j∧AInv w own0 vs ns own0 wr k∧Good own0 wr k (.slice Ak j ck) j) (fun i _=>nk-(intOf i).toNat)
   case atStart=>exact⟨0,by omega,rfl,I,hg0⟩
   case round=>
    clear I hroom hg0
    obtain⟨j,hj,rfl,I,hg⟩:=hrel
    have c1:=HC.out _ _ _ I
    by_cases hjl:j<nk
    ·have hroom:=I.roomy k _ hvk
     rw[hnk']at hroom
     rcases hroom with ⟨_,h0⟩|⟨b,cc,e,hnc,hob,hbl,hall⟩
     ·omega
     ·cases e
      have hc2:=hall j (by omega)
      obtain⟨u,hu⟩:=Qz4.1 hc2.1
      have HU:=hid hu
      have HFZ:=hid hc2.2
      have HOB:=hid hob
      clear hall hc2 hu hob
      go_wp2_with fail
      refine Qad [([0,1,2,3,4,5,6],7)] [8] [9] (by as_aux_lemma=>kernel_rfl) (by as_aux_lemma=>kernel_rfl) (by intro _ _ d _ _ h;cases d<;>exact h) ?_
      simp only[Qaj,pick,Qym,Qyn,Qyp,Qys,Qyr]
      repeat (go_big_quiet_step (fail))
      refine wpQuiet_nil ?_
      go_wp2_with fail
      (with_reducible refine (QgJ k j _ _ rfl rfl (by omega) (by omega) _).mono ?_);rintro e w5 ⟨rfl,rfl⟩
      go_wp2_with fail
      try refine⟨by first|assumption|exact Qab _|exact Qaa _ _|exact Later.refl _,?_⟩
      try simp only[Qaj,pick,Qym,Qyn,Qyp,Qys,Qyr]
      repeat (go_big_quiet_step (fail))
      refine wpQuiet_nil ?_
      go_wp2_with (first
       | (refine Qba rfl rfl _ _ _ rfl ⟨b,j,none⟩ rfl rfl Qbo ?hc ?hf ?_;(case hc=>show (wr.cell? _).isSome=true;rw[HU.out];rfl);(case hf=>exact HFZ.out);intro v' hv';cases hv')
       | fail)
      go_roundw
      case rel=>
       refine⟨j+1,by omega,by go_num,(I.later (Qab _)).keep (.set HOB.out) fun g hg h0=>?_,Qre (hg.keep (.later (Qab _))) HOB.out HU.out rfl⟩
       refine Below.heap_setCell _ ⟨b,j,none⟩ _ g (fun e=>?_)
       subst e
       rw[HOB.out]at h0
       cases h0
      case measure=>simp[intOf];omega
    ·have hjn:j=nk:=by omega
     subst hjn
     go_wp2_with fail
     go_roundw
     case rel=>exact⟨k+1,by omega,by go_num,I.step fun v hv=>by rw[hvk]at hv;cases hv;rw[hnk'];exact hg⟩
     case measure=>simp[intOf];omega
  ·obtain rfl:n=k:=by omega
   have G0:GInv w own0 vs ns n own0 wr (.slice none 0 0) 0 []:=⟨I,World.ownsRow_nil wr _ _ 1,fun b hb=>(by cases hb),fun k u hu=>(by simp at hu)⟩
   clear I hk hlt
   go_wp2_with fail
   go_loopw [5,6] (fun v i wr=>∃(k:Nat) (own:Nat→Option Nat) (gs:List Value),k≤n∧i= .int .i64 k∧GInv w own0 vs ns n own wr v k gs) (fun _ i _=>n-(intOf i).toNat)
   case atStart=>exact⟨0,own0,[],by omega,rfl,G0⟩
   case round=>
    clear G0
    obtain⟨k,own,gs,hk,rfl,G⟩:=hrel
    by_cases hlt:k<n
    ·obtain⟨b1,o1,Ak,ck,rfl,hvk,hcell⟩:=G.inv.at_ HX.out HA.out hlt
     have HC:=hid hcell
     clear hcell
     have hnk:=HN.out k
     have hroom:=G.inv.roomy k _ hvk
     have hg0:=G.inv.good k _ hlt hvk
     have c1:=HC.out _ _ _ G.inv
     have hkm:k%n=k:=QyS hlt
     generalize hnk':ns.getD k 0=nk at *
     obtain⟨Ag,cg,rfl⟩:=Qdh G.row
     go_wp2_with fail
     go_loopw [7,8] (fun v i wr=>∃(j:Nat) (own:Nat→Option Nat) (A':Option Addr) (c':Nat),j≤16∧i= .int .i64 j∧v= .slice A' (nk+j) c'∧GInv w own0 vs ns n own wr (.slice Ag k cg) k gs∧Good own wr k v (nk+j)∧Roomy own wr k v (nk+j)) (fun _ i _=>16-(intOf i).toNat)
     case atStart=>exact⟨0,own,Ak,ck,by omega,rfl,rfl,G,hg0,hroom⟩
     case round=>
      clear c1 G hroom hg0
      obtain⟨j,own,A2,c2,hj,rfl,rfl,G,hg,hroom⟩:=hrel
      have c1:=HC.out _ _ _ G.inv
      by_cases hjl:j<16
      ·have G1:=G.later (Qaa wr (.cells #[W8 (QcF k (nk+j))] 5))
       have hg1:=hg.keep (.later (Qaa wr (.cells #[W8 (QcF k (nk+j))] 5)))
       have hr1:=hroom.keep (.later (Qaa wr (.cells #[W8 (QcF k (nk+j))] 5)))
       go_wp2_with fail
       (with_reducible refine (QgJ k (nk+j) _ _ rfl (by omega) (by omega) (by omega) _).mono ?_);rintro e w5 ⟨rfl,rfl⟩
       go_wp2_with (first
        | (refine Qc6 rfl _ _ _ rfl 5 _ Tryz.underlying25 QcG rfl own k (nk+j) 1 1 _ hg1 hr1 G1.inv.fresh _ _ (Blk.new w5 _ [W8 (QcF k (nk+j))]) (by omega) rfl rfl (by omega) ?_;intro own3 A3 c3 w3 G3)
        | fail)
       go_roundw
       case rel=>exact⟨j+1,own3,A3,c3,by omega,by go_num,rfl,G1.grown G3,G3.good,G3.roomy⟩
       case measure=>simp[intOf];omega
      ·obtain rfl:16=j:=by omega
       have G1:=G.later (Qaa wr (.cells #[.slice A2 (nk+16) c2] 25))
       have hg1:=hg.keep (.later (Qaa wr (.cells #[.slice A2 (nk+16) c2] 25)))
       rw[←hkm]at hg1
       go_wp2_with (first
        | (refine Qdn rfl _ _ _ rfl 25 _ 24 Tryz.underlying79 Qqn rfl w.heap.size _ k gs G1.row G1.inv.size _ 1 1 _ _ (Blk.new wr _ [.slice A2 (nk+16) c2]) rfl (by simp[Qjz]) rfl rfl (by omega) (by omega) ?_;intro A3 c3 w3 hrow hgr hwh)
        | fail)
       go_roundw
       case rel=>exact⟨k+1,own,_,by omega,by go_num,G1.push hg1 (by omega) hrow hgr hwh⟩
       case measure=>simp[intOf];omega
    ·obtain rfl:n=k:=by omega
     clear hk hlt
     go_wp2_with fail
     go_loopw [5,9] (fun v i wr=>∃(k:Nat) (own:Nat→Option Nat) (gs:List Value),k≤n∧i= .int .i64 k∧GInv w own0 vs ns n own wr v (n+k) gs) (fun _ i _=>n-(intOf i).toNat)
     case atStart=>exact⟨0,own,gs,by omega,rfl,G⟩
     case round=>
      clear G
      obtain⟨k,own,gs,hk,rfl,G⟩:=hrel
      by_cases hlt:k<n
      ·obtain⟨b1,o1,Ak,ck,rfl,hvk,hcell⟩:=G.inv.at_ HX.out HA.out hlt
       have HC:=hid hcell
       clear hcell
       have hnk:=HN.out k
       have hkm:(n+k)%n=k:=by rw[Nat.add_mod_left,QyS hlt]
       generalize hnk':ns.getD k 0=nk at *
       obtain⟨Ag,cg,rfl⟩:=Qdh G.row
       go_wp2_with (first
        | (refine QaT rfl _ _ _ rfl 5 _ 1 Tryz.underlying25 QcG rfl _ _ _ _ 40 rfl rfl rfl rfl (by omega) (by omega) ?_;intro w1 hb1 hl1)
        | fail)
       have hgn:=G.inv.fresh _ (Qyv _)
       have hgw:=G.inv.size
       have hgv:(Value.slice Ag (n+k) cg).ownBlock≠some wr.heap.size:=fun e=>by have:=(G.row.lt _ e).2;omega
       have G0:=G.later hl1
       generalize wr.heap.size=g at *
       have hb0:Blk w1 g 5 (Qa2 k nk 0++Qyl (40-0) (W8 0)):=hb1
       clear G hb1 hl1
       go_loopw [11] (fun i wr=>∃(j:Nat),j≤40∧i= .int .i64 j∧GInv w own0 vs ns n own wr (.slice Ag (n+k) cg) (n+k) gs∧Blk wr g 5 (Qa2 k nk j++Qyl (40-j) (W8 0))) (fun i _=>40-(intOf i).toNat)
       case atStart=>exact⟨0,by omega,rfl,G0,hb0⟩
       case round=>
        clear G0 hb0
        obtain⟨j,hj,rfl,G,hb⟩:=hrel
        have c1:=HC.out _ _ _ G.inv
        by_cases hjl:j<40
        ·have HST:=hid (QmU k nk 40 j hjl)
         go_wp2_with fail
         (with_reducible refine (QgJ k (nk+j) _ _ rfl (by omega) (by omega) (by omega) _).mono ?_);rintro e w5 ⟨rfl,rfl⟩
         go_wp2_with (first
          | (refine Qag rfl rfl _ _ _ rfl g j 5 _ hb rfl ?hl rfl Qbo ?_;(case hl=>rw[Qyz,Qbd,QyO];omega);intro v' w6 hv' hb6 ho6;simp[go_sem]at hv';subst hv';rw[HST.out]at hb6)
          | fail)
         go_roundw
         case rel=>exact⟨j+1,by omega,by go_num,G.only ho6 hgn hgw hgv,hb6⟩
         case measure=>simp[intOf];omega
        ·obtain rfl:40=j:=by omega
         have hroom:=G.inv.roomy k _ hvk
         have hg0:=G.inv.good k _ hlt hvk
         rw[hnk']at hroom hg0
         have hb':Blk wr g 5 (Qa2 k nk 40):=by simpa using hb
         go_wp2_with (first
          | (refine Qc6 rfl _ _ _ rfl 5 _ Tryz.underlying25 QcG rfl own k nk 40 40 _ hg0 hroom G.inv.fresh g _ hb' (by omega) rfl rfl (by omega) ?_;intro own3 A3 c3 w3 G3
             have G4:=(G.grown G3).later (Qaa w3 (.cells #[.slice A3 (nk+40) c3] 25))
             have hg4:=G3.good.keep (.later (Qaa w3 (.cells #[.slice A3 (nk+40) c3] 25))))
          | (refine Qdn rfl _ _ _ rfl 25 _ 24 Tryz.underlying79 Qqn rfl w.heap.size _ (n+k) gs G4.row G4.inv.size _ 1 1 _ _ (Blk.new w3 _ [.slice A3 (nk+40) c3]) rfl (by simp[Qjz]) rfl rfl (by omega) (by omega) ?_;intro A5 c5 w5 hrow hgr hwh)
          | fail)
         go_roundw
         case rel=>exact⟨k+1,own3,_,by omega,by go_num,G4.push (by rw[hkm];exact hg4) (by omega) hrow hgr hwh⟩
         case measure=>simp[intOf];omega
      ·obtain rfl:n=k:=by omega
       clear hk hlt
       have hgl:=G.row.1
       obtain⟨Ag,cg,rfl⟩:=Qdh G.row
       have hrd:=Qjk G.row
       obtain⟨w5,hw5⟩:∃w5,w5=wr:=⟨_,rfl⟩
       subst hw5
       generalize hN2:n+n=N at *
       go_wp2_with fail
       go_loopw [12] (fun i wr4=>∃(k:Nat),k≤N∧i= .int .i64 k∧Later w5 wr4) (fun i _=>N-(intOf i).toNat)
       case atStart=>exact⟨0,by omega,rfl,Later.refl _⟩
       case round=>
        obtain⟨k,hk,rfl,L⟩:=hrel
        by_cases hlt:k<N
        ·obtain⟨b2,o2,rfl,hb2,hc2⟩:=hrd.at_ (by omega)
         have hgk:=Qyq (l:=gs) (i:=k) (by omega)
         obtain⟨A2,m2,c2,e2,hm2,hg2⟩:=G.good k _ hgk
         have hcell:=hc2 k hlt
         rw[e2]at hcell hg2
         have HC:=hid (fun (w6:World) (h:Later w5 w6)=>(h.below.cell (p:=⟨b2,o2+k,none⟩) hb2).trans hcell)
         clear hcell hc2 e2 hgk
         have c1:=HC.out _ L
         go_wp2_with fail
         go_loopw [13] (fun i wr5=>∃(j:Nat),j≤m2∧i= .int .i64 j∧Later w5 wr5) (fun i _=>m2-(intOf i).toNat)
         case atStart=>exact⟨0,by omega,rfl,L⟩
         case round=>
          clear L c1
          obtain⟨j,hj,rfl,L⟩:=hrel
          have c1:=HC.out _ L
          by_cases hjl:j<m2
          ·obtain⟨b3,rfl,c3⟩:=(hg2.keep (.later L)).cell hjl
           have hn0:n≠0:=by omega
           have hjb:j≤140737488355328:=by omega
           have hmod:(k:Int)%(n:Int)=((k%n:Nat):Int):=(Int.natCast_emod k n).symm
           replace hmod:=hid hmod
           have hkn:=QyX (Nat.le_of_lt (QyV k (show 0<n by omega))) hn
           go_wp2_with fail
           refine Qad [([0,1,2,3,4,5,6,7,8,9,10,11],12)] [13] [] (by as_aux_lemma=>kernel_rfl) (by as_aux_lemma=>kernel_rfl) (by intro _ _ d _ _ h;cases d<;>exact h) ?_
           simp only[Qaj,pick,Qym,Qyn,Qyp,Qys,Qyr]
           repeat (go_big_quiet_step (fail))
           refine wpQuiet_nil ?_
           go_wp2_with fail
           (with_reducible refine (QgJ (k%n) j _ _ hmod.out rfl hkn hjb _).mono ?_);rintro e w7 ⟨rfl,rfl⟩
           go_wp2_with fail
           try refine⟨by first|assumption|exact Qab _|exact Qaa _ _|exact Later.refl _,?_⟩
           try simp only[Qaj,pick,Qym,Qyn,Qyp,Qys,Qyr]
           repeat (go_big_quiet_step (fail))
           refine wpQuiet_nil ?_
           go_wp2_with fail
           go_roundw
           case rel=>exact⟨j+1,by omega,by go_num,L.trans (Qab _)⟩
           case measure=>simp[intOf];omega
          ·go_wp2_with fail
           go_roundw
           case rel=>exact⟨k+1,by omega,by go_num,L⟩
           case measure=>simp[intOf];omega
        ·obtain rfl:N=k:=by omega
         clear hk hlt hrd hgl
         replace G:=(G.later L).inv
         clear L
         obtain⟨w6,hw6⟩:∃w6,w6=wr:=⟨_,rfl⟩
         subst hw6
         go_wp2_with fail
         go_loopw [14] (fun i wr4=>∃(k:Nat),k≤n∧i= .int .i64 k∧Later w6 wr4) (fun i _=>n-(intOf i).toNat)
         case atStart=>exact⟨0,by omega,rfl,Later.refl _⟩
         case round=>
          obtain⟨k,hk,rfl,L⟩:=hrel
          by_cases hlt:k<n
          ·obtain⟨b1,o1,Ak,ck,rfl,hvk,hcell⟩:=G.at_ HX.out HA.out hlt
           have HC:=hid (fun (w7:World) (h:Later w6 w7)=>hcell _ _ _ (G.later h))
           have hnk:=HN.out k
           have hg0:=G.good k _ hlt hvk
           clear hcell
           generalize hnk':ns.getD k 0=nk at *
           have c1:=HC.out _ L
           go_wp2_with fail
           go_loopw [15] (fun i wr5=>∃(j:Nat),j≤nk∧i= .int .i64 j∧Later w6 wr5) (fun i _=>nk-(intOf i).toNat)
           case atStart=>exact⟨0,by omega,rfl,L⟩
           case round=>
            clear L c1
            obtain⟨j,hj,rfl,L⟩:=hrel
            have c1:=HC.out _ L
            by_cases hjl:j<nk
            ·obtain⟨b3,rfl,c3⟩:=(hg0.keep (.later L)).cell hjl
             go_wp2_with fail
             refine Qad [([0,1,2,3,4,5,6,7,8],9)] [10] [] (by as_aux_lemma=>kernel_rfl) (by as_aux_lemma=>kernel_rfl) (by intro _ _ d _ _ h;cases d<;>exact h) ?_
             simp only[Qaj,pick,Qym,Qyn,Qyp,Qys,Qyr]
             repeat (go_big_quiet_step (fail))
             refine wpQuiet_nil ?_
             go_wp2_with fail
             (with_reducible refine (QgJ k j _ _ rfl rfl (by omega) (by omega) _).mono ?_);rintro e w7 ⟨rfl,rfl⟩
             go_wp2_with fail
             try refine⟨by first|assumption|exact Qab _|exact Qaa _ _|exact Later.refl _,?_⟩
             try simp only[Qaj,pick,Qym,Qyn,Qyp,Qys,Qyr]
             repeat (go_big_quiet_step (fail))
             refine wpQuiet_nil ?_
             go_wp2_with fail
             go_roundw
             case rel=>exact⟨j+1,by omega,by go_num,L.trans (Qab _)⟩
             case measure=>simp[intOf];omega
            ·go_wp2_with fail
             go_roundw
             case rel=>exact⟨k+1,by omega,by go_num,L⟩
             case measure=>simp[intOf];omega
          ·go_wp2_with fail
           go_ret
           exact⟨rfl,QyX G.size L.size,fun b hb h0=>(G.later L).same b hb h0,(G.later L).env⟩
def Room (w:World) (v:Value):Prop:=
 v= .slice none 0 0∨∃b m c,v= .slice (some ⟨b,0,none⟩) m c∧m≤c∧m≤1099511627776∧b<w.heap.size∧∀p,p<c→(w.cell? ⟨b,p,none⟩).isSome=true∧w.frozen? ⟨b,p,none⟩=false
theorem Room.later {w w':World} {v:Value} (h:Room w v) (hl:Later w w'):Room w' v:=by
 rcases h with h|⟨b,m,c,e,hm,hm2,hb,hc⟩
 ·exact .inl h
 ·refine .inr ⟨b,m,c,e,hm,hm2,QyL hb hl.size,fun p hp=>?_⟩
  have hk:=hl.below.block b hb
  rw[World.cell?_of_block (a:=⟨b,p,none⟩) hk,World.frozen?_of_block (a:=⟨b,p,none⟩) hk]
  exact hc p hp
theorem Room.blk {w:World} {g m c:Nat} {t:TypeId} {l:List Value} (h:Blk w g t l) (hm:m≤c) (hc:c≤l.length) (hm2:m≤1099511627776):Room w (.slice (some ⟨g,0,none⟩) m c):=
 .inr ⟨g,m,c,rfl,hm,hm2,h.lt,fun p hp=>⟨by rw[h.cell,Qyq (by omega)];rfl,h.frozen p⟩⟩
theorem Room.own {w:World} {base:Nat} {e:TypeId} {v:Value} {n:Nat} {vs:List Value} (h:w.ownsRow base e 1 v n vs) (hn:n≤1099511627776):Room w v:=by
 rcases h.2 with ⟨rfl,_⟩|⟨g,cap,cur,rfl,_,hh,hnc,_,hs,_⟩
 ·exact .inl rfl
 ·exact .inr ⟨g,n,cap,rfl,hnc,hn,(h.lt g rfl).2,fun p hp=>⟨by rw[cell_of_row w g p cur e (0,0) hh,Array.getElem?_eq_getElem (by omega)];rfl,by simp[World.frozen?,hh]⟩⟩
theorem QlH {α β:Type} {f:α→Option β}:∀ {vs:List α},(vs.filterMap f).Nodup→∀ {i j:Nat} {u v:α} {b:β},vs[i]?=some u→vs[j]?=some v→f u=some b→f v=some b→i=j
 | [],_,_,_,_,_,_,h,_,_,_=>by simp at h
 | x :: vs,hd,i,j,u,v,b,hu,hv,fu,fv=>by
   have hmem:∀ {k:Nat} {y:α},vs[k]?=some y→f y=some b→b∈vs.filterMap f:=fun hk hy=>QzR.2 ⟨_,QzS hk,hy⟩
   have hx:f x=some b→b∉vs.filterMap f:=fun e=>by
    rw[List.filterMap_cons_some e,QzL]at hd
    exact hd.1
   have hd':(vs.filterMap f).Nodup:=by
    cases e:f x with
    | none=>rwa [List.filterMap_cons_none e]at hd
    | some y=>rw[List.filterMap_cons_some e,QzL]at hd;exact hd.2
   cases i with
   | zero=>
     cases j with
     | zero=>rfl
     | succ j=>
       simp at hu hv
       subst hu
       exact absurd (hmem hv fv) (hx fu)
   | succ i=>
     cases j with
     | zero=>
       simp at hu hv
       subst hv
       exact absurd (hmem hu fu) (hx fv)
     | succ j=>
       simp at hu hv
       rw[QlH hd' hu hv fu fv]
def Qnt (vs:List Value) (b:Nat):Option Nat:=vs.findIdx? fun v=>v.ownBlock==some b
theorem QmM {vs:List Value} (hd:(vs.filterMap Value.ownBlock).Nodup) {i b:Nat} {v:Value} (hv:vs[i]?=some v) (hb:v.ownBlock=some b):Qnt vs b=some i:=by
 obtain⟨hi,rfl⟩:=QyB.1 hv
 rw[Qnt,List.findIdx?_eq_some_iff_getElem]
 refine⟨hi,by rw[hb];exact beq_self_eq_true _,fun j hj h=>?_⟩
 have:=QlH hd hv (Qyq (show j<vs.length by omega)) hb (eq_of_beq h)
 omega
theorem Qfe {vs:List Value} {b:Nat} (h:∀v∈vs,v.ownBlock≠some b):Qnt vs b=none:=by
 rw[Qnt,List.findIdx?_eq_none_iff]
 exact fun v hv=>beq_eq_false_iff_ne.2 (h v hv)
def lenV:Value→Nat
 | .slice _ n _=>n
 | _=>0
theorem Qrv (A:Option Addr) (n c:Nat) (vs:List Value) (w:World) (hx:Rd w A n vs) (hA:∀b o,A=some ⟨b,o,none⟩→∀v∈vs,v.ownBlock≠some b) (hd:(vs.filterMap Value.ownBlock).Nodup) (hv:∀v∈vs,Room w v) (hn:n≤1048576):
 Calls Tryz.prog 24 #[.slice A n c] w fun e w'=>e= .returned (.bool true)∧w.heap.size≤w'.heap.size∧(∀ b,b<w.heap.size→(∀ v∈vs,v.ownBlock≠some b)→w'.heap[b]?=w.heap[b]?)∧w'.os=w.os∧w'.tape=w.tape∧w'.output=w.output:=by
 have hlen:∀i v,vs[i]?=some v→(vs.map lenV).getD i 0=lenV v:=fun i v h=>by rw[Qyt,QyF,h];rfl
 refine (QnD A n c vs (vs.map lenV) (Qnt vs) w hx (fun b o e=>Qfe (hA b o e)) (fun b hb=>Qfe fun v h e=>?_) (fun i v h=>?_) hn (fun i=>?_)).mono fun e w' h=>⟨h.1,h.2.1,fun b hb hf=>h.2.2.1 b hb (Qfe hf),h.2.2.2⟩
 ·rcases hv v h with rfl|⟨b',m,c',rfl,_,_,hlt,_⟩
  ·cases e
  ·cases e
   exact absurd hlt (by show ¬b'<_;have:w.heap.size≤b':=hb;omega)
 ·rw[hlen i v h]
  rcases hv v (QzS h) with rfl|⟨b,m,c',rfl,hmc,_,hlt,hc⟩
  ·exact .inl ⟨rfl,rfl⟩
  ·exact .inr ⟨b,c',rfl,hmc,QmM hd h rfl,hlt,hc⟩
 ·by_cases hi:i<vs.length
  ·rw[hlen i _ (Qyq hi)]
   rcases hv _ (Qzk hi) with h|⟨b,m,c',h,_,hm,_⟩<;>rw[h]
   ·exact QAa _
   ·exact hm
  ·rw[Qyt,Qzo (by simpa using hi)]
   exact QAa _
end Go.Proofs.YtcbdgnlcknllnaaGreat
