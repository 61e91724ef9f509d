/-
  Lemmas for the last text of this claim (part 16 of 20).
-/
import Derived.ArgAppend
import Derived.BigQuiet
import Derived.BigRegion
import Derived.ChangeOld
import Derived.Deep.RegionWith
import Derived.DeepKeys4
import Derived.JoinedCond
import Derived.LaidMore
import Derived.Laws.BytesArg
import Derived.Laws.CopyOwn
import Derived.Laws.Externs
import Derived.Laws.IdiomStrings
import Derived.Laws.Tables
import Derived.Lib.AppendStr
import Derived.Lib.AppendZerosOnto
import Derived.Lib.Mul64
import Derived.Lib.SlBytesConst
import Derived.LoopN
import Derived.Maps.OwnSet
import Derived.OpenShut
import Derived.OrdersHeld
import Derived.ProofKit
import Derived.Shelf.Spec.BitsCarry
import Derived.ShutString
import Derived.Test.YtdhgpkdjdmlphaaGreatProg
import Derived.Test.YtdhgpkdjdmlphaaGreatRows
import Derived.WalkKit
import Derived.WalkLawsBesides
import Derived.WalkSpells
import Derived.Test.YtdhgpkdjdmlphaaGreatPC
import Derived.Test.YtdhgpkdjdmlphaaGreatPE
import Derived.Test.YtdhgpkdjdmlphaaGreatPJ
import Derived.Test.YtdhgpkdjdmlphaaGreatPL
import Derived.Test.YtdhgpkdjdmlphaaGreatPN
import Derived.Test.YtdhgpkdjdmlphaaGreatPO
open List renaming replicate → Qym, length_map → Qyn, getElem?_cons_succ → Qyo, getElem?_cons_zero → Qyp, getElem?_eq_getElem → Qyq, getD_eq_getElem?_getD → Qys, nil_append → Qyt, cons_append → Qyu, length_append → Qyv, take_of_length_le → Qyx, length_replicate → Qyy, getElem?_append_right → Qyz, mem_cons → QyA, not_mem_nil → QyB, getElem?_eq_some_iff → QyC, setIfInBounds_toArray → QyD, append_assoc → QyE, getElem?_map → QyF, getElem?_append_left → QyH, set_cons_zero → QyI, map_toArray → QyK, length_take → QyL, set_cons_succ → QyM, take_succ_eq_append_getElem → QyQ, map_cons → QyT, map_nil → QyU, take_append_drop → QyV, set_append_right → QyW, append_nil → QyZ, length_drop → Qy0, map_replicate → Qy4, eq_nil_of_length_eq_zero → Qy5, map_append → Qy6, drop_left' → Qzg, drop_zero → Qzn, replicate_append_replicate → Qzw, flatten_cons → Qzz, replicate_succ → QzE, map_take → QzZ, mem_append → Qz7, getElem?_take → Qz8, drop_drop → QAf, take_left' → QAj
open Nat renaming le_refl → Qyw, lt_of_lt_of_le → QyG, zero_add → QyY, le_trans → Qy3, le_mul_of_pos_right → Qzi, lt_or_ge → Qzs, sub_self → Qzu
open Option renaming toList_some → Qyr, getD_some → QAq
set_option linter.all false
namespace Go.Proofs.YtdhgpkdjdmlphaaGreat
open Go.RowKit
open Go.BigFrame
section
variable {P:Program} {ops:Array Oper} {rest:List Oper} {o:Oper} {a:Act} {w:World} {Q:Exit→Act→World→Prop} {α:Type} {F:α→List Value} {sz:Nat} {d:α}
theorem QdW (hF:∀x,(F x).length=sz) (h0:0<sz) (hgd:o.guard=none) (s x:Operand) (t:TypeId) (ho:o.op= .call { callee:=.builtin .append,args:= #[s,x],argTypes:= #[t,t] })
 (e:TypeId) (z:Value) (bytes:Nat) (ht:P.underlying t=some (.slice e)) (hinfo:(P.info? e).map (fun i=>(i.zero,i.size,i.bytes))=some (some z,sz,bytes)) (hzs:z.cells.size=sz) (g:Nat)
 (A:Option Addr) (m c:Nat) (xs:List α) (hr:RdF F sz d w A m xs) (hs:a.eval s= .slice (some ⟨g,0,none⟩) 0 0) (hx:a.eval x= .slice A m c) (hsz:m*bytes≤140737488355328) (hby:0<bytes)
 (h:∀A' c' w',RdF F sz d w' A' m xs→Later w w'→wpList P ops Q rest (a.put o.dst (.slice A' m c')) w'):wpList P ops Q (o :: rest) a w:=by
 obtain⟨i,hi,hz,hsize,hbytes⟩:=info_parts hinfo
 have hm:m≤140737488355328:=Qy3 (Qzi _ hby) hsz
 refine wpList_plain hgd fun K hK=>?_
 rcases Nat.eq_zero_or_pos m with hm0|hm0
 ·subst hm0
  have hrun:(Builtin.append_ #[t,t] o.type #[.slice (some ⟨g,0,none⟩) 0 0,.slice A 0 c]).run P w= .ok (.slice (some ⟨g,0,none⟩) 0 0) w:=by
   cases A<;>simp[Builtin.append_,run_underlying ht,sizeOf,typeInfo,hi,Builtin.lenOf,Builtin.firstCells,loadCells,loadCellsFrom,storeCells]
  unfold Oper.wp execOp
  simp only[ho,resolve,invoke,builtin,Sem.run_bind,Sem.run_pure,Result.andThen_ok,QyK,QyT,QyU,hs,hx,hrun]
  exact hK _ _ (h _ _ _ ⟨hr.1,fun h=>absurd h (by omega)⟩ (Later.refl w))
 ·obtain⟨b,o2,rfl,_,_⟩:=hr.2 hm0
  have hlen:(xs.flatMap F).length=m*sz:=by rw[Qbj hF,hr.1]
  have hrun:=run_append_grow (P:=P) w t o.type e i z ht hi hz ⟨g,0,none⟩ 0 0 [] (by simp) (by simp) ⟨b,o2,none⟩ m c (xs.flatMap F) (by rw[hsize,hlen]) (hr.cells hF h0) (by omega) (by omega) (growslice_fits (by omega) (by rw[hbytes,QyY];exact hsz))
  have hge:=grownCap_ge w (0+m) 0 e
  have hcm:grownCap w (0+m) 0 e≤maxLen:=grownCap_le_maxLen w (0+m) 0 e (by unfold maxLen;omega)
  unfold Oper.wp execOp
  simp only[ho,resolve,invoke,builtin,Sem.run_bind,Sem.run_pure,Result.andThen_ok,QyK,QyT,QyU,hs,hx,hrun]
  generalize grownCap w (0+m) 0 e=cp at *
  rw[QyY]at *
  have hown:(w.drew.alloc (.cells (#[]++(xs.flatMap F).toArray++Builtin.zeroCells z.cells (cp-m)) e)).ownsRow w.heap.size e sz (.slice (some ⟨w.heap.size,0,none⟩) m cp) m (xs.flatMap F):=by
   refine⟨hlen,.inr ⟨w.heap.size,_,_,rfl,Qyw _,heap_alloc_new w.drew _,hge,hcm,?_,?_⟩⟩
   ·simp only[Array.size_append,List.size_toArray,size_zeroCells,hzs,hlen]
    rw[Nat.sub_mul,List.length_nil]
    have:=Nat.mul_le_mul_right sz hge
    omega
   ·simp only[Array.toList_append,←hlen]
    rw[Qyt,List.take_left]
  exact hK _ _ (h _ _ _ (Qk6 hF hown hr.1) ((Qad w).trans (Qaa w.drew _)))
end
end Go.Proofs.YtdhgpkdjdmlphaaGreat
namespace Go.Proofs.YtdhgpkdjdmlphaaGreat
open Go.RowKit
structure Hp where
 nod:Nod
 delay:Int
 flags:Int
def hp0:Hp:=⟨nod0,0,0⟩
def HC (x:Hp):List Value:=NC x.nod++[.int .i64 x.delay,.int .i64 x.flags]
theorem QaZ (x:Hp):(HC x).length=68:=by rw[HC,Qyv,QaI];rfl
theorem QsH (x:Hp):∀u∈HC x,u.oneCell'=true:=by
 intro u hu
 rw[HC]at hu
 rcases Qz7.1 hu with h|h
 ·exact Qu3 _ u h
 ·simp only[QyA,QyB,or_false]at h
  rcases h with rfl|rfl<;>rfl
abbrev RdH:World→Option Addr→Nat→List Hp→Prop:=RdF HC 68 hp0
theorem QnJ (x:Hp) {i:Nat} {v:Value} (h:(NC x.nod)[i]?=some v):(HC x)[i]?=some v:=by
 rw[HC,QyH (QyC.1 h).1]
 exact h
theorem QiA (x:Hp):(HC x)[66]?=some (.int .i64 x.delay):=by
 rw[HC,Qyz (by rw[QaI];omega),QaI]
 rfl
theorem QiP (x:Hp):(HC x)[67]?=some (.int .i64 x.flags):=by
 rw[HC,Qyz (by rw[QaI];omega),QaI]
 rfl
end Go.Proofs.YtdhgpkdjdmlphaaGreat
namespace Go.Proofs.YtdhgpkdjdmlphaaGreat
open Go.RowKit
open Go.BigFrame
structure Stp where
 nm:ByteArray
 delay:Int
 flags:Int
theorem QxZ:(Tryz.prog.info? 147).map (fun i=>(i.zero,i.size,i.bytes))=some (some (.agg (HC hp0).toArray),68,104):=by kernel_rfl
theorem QsK:(Tryz.prog.info? 76).map (fun i=>(i.zero,i.size,i.bytes))=some (some (.agg (HC hp0).toArray),68,104):=by kernel_rfl
theorem Qxe:(Tryz.prog.info? 147).bind (·.zero)=some (.agg (HC hp0).toArray):=by kernel_rfl
section
variable {ops:Array Oper} {rest:List Oper} {o:Oper} {a:Act} {w:World} {Q:Exit→Act→World→Prop}
end
theorem QeS (p q r v:List Value) (k:Nat) (hk:p.length=k) (h:q.length=v.length):Qan (p++q++r) k v=p++v++r:=by
 subst hk
 rw[Qan,show p.length+v.length=(p++q).length by rw[Qyv,h],Qzg rfl,QyE p q r,QAj rfl]
theorem Qvs (x:Nod) (d f:Int):Qan (Qan (Qan (HC hp0) 0 (NC x)) 66 [.int .i64 d]) 67 [.int .i64 f]=HC ⟨x,d,f⟩:=by
 have h1:Qan (HC hp0) 0 (NC x)=NC x++[.int .i64 0]++[.int .i64 0]:=by
  have:=QeS [] (NC nod0) [.int .i64 0,.int .i64 0] (NC x) 0 rfl (by rw[QaI,QaI])
  rw[Qyt,Qyt]at this
  rw[QyE]
  exact this
 have h2:=QeS (NC x) [.int .i64 0] [.int .i64 0] [.int .i64 d] 66 (QaI x) rfl
 have h3:=QeS (NC x++[.int .i64 d]) [.int .i64 0] [] [.int .i64 f] 67 (by rw[Qyv,QaI];rfl) rfl
 rw[QyZ,QyZ]at h3
 rw[h1,h2,h3,HC,QyE]
 rfl
theorem QoA (x:Nod) (d f:Int):Tryz.prog.built 147 [(0,.agg (NC x).toArray),(1,.int .i64 d),(2,.int .i64 f)]=some (HC ⟨x,d,f⟩).toArray:=by
 rw[Qc9 (pl:=[(0,66),(66,1),(67,1)]) Tryz.underlying147 Qxe (by kernel_rfl),QcL (vs:=NC x) (off:=0) rfl (by rw[QaI];rfl) (by rw[QaI,QaZ];omega),
  QcL (vs:=[.int .i64 d]) (off:=66) rfl rfl (by rw[Qcl _ _ _ (by rw[QaI,QaZ];omega),QaZ];simp),QcL (vs:=[.int .i64 f]) (off:=67) rfl rfl (by rw[Qcl _ _ _ (by rw[Qcl _ _ _ (by rw[QaI,QaZ];omega),QaZ];simp),Qcl _ _ _ (by rw[QaI,QaZ];omega),QaZ];simp),Qgm,Qvs]
def S32 (b:Nat):Value:=.slice (some ⟨b,0,none⟩) 32 32
theorem Qrv (gs:List Nat) (k b:Nat) (hg:gs.length=k) (n:Nat) (hk:k<n) (z:Value):(gs.map S32++Qym (n-k) z).set k (S32 b)=(gs++[b]).map S32++Qym (n-(k+1)) z:=by
 have hl:(gs.map S32).length=k:=by rw[Qyn,hg]
 rw[QyW _ _ (by omega),hl,Qzu,show n-k=n-(k+1)+1 by omega,QzE,QyI,Qy6,QyE]
 rfl
set_option maxRecDepth 100000 in
set_option maxHeartbeats 2000000 in
theorem QfV (A:Option Addr) (n c:Nat) (xs:List Hp) (w:World) (hx:RdH w A n xs) (hn:n≤1099511627776):
 Calls Tryz.prog 16 #[.slice A n c] w fun e w'=>∃(g:Nat) (gs:List Nat),e= .returned (.slice (some ⟨g,0,none⟩) n n)∧w.heap.size≤g∧Blk w' g 22 (gs.map S32)∧gs.length=n∧(∀ (j b:Nat),gs[j]?=some b→g<b∧Blk w' b 5 ((xs.getD j hp0).nod.pub.val.map W8))∧gs.Pairwise (· <·)∧Later w w':=by
 have hxl:=hx.1
 go_enter Tryz.func16,Tryz.ntmps16
 go_wp2_with (first
  | (refine Qar rfl _ _ 48 rfl 22 (.slice none 0 0) 24 Tryz.underlying48 Qp9 rfl _ _ _ _ n rfl rfl rfl rfl (by omega) (by omega) ?_;intro w1 hb1 hl1)
  | fail)
 have hgl:w.heap.size≤w.heap.size:=Qyw _
 generalize hge:w.heap.size=g at hb1 ⊢
 replace hgl:w.heap.size≤g:=Nat.le_of_eq hge
 clear hge
 go_loopw [10] (fun i wr=>∃(k:Nat) (gs:List Nat),i= .int .i64 k∧k≤n∧gs.length=k∧Blk wr g 22 (gs.map S32++Qym (n-k) (.slice none 0 0))∧Hid (∀ (j b:Nat),gs[j]?=some b→g<b∧b<wr.heap.size∧Blk wr b 5 ((xs.getD j hp0).nod.pub.val.map W8))∧Hid (gs.Pairwise (· <·))∧Later w wr) (fun i _=>n-(intOf i).toNat)
 case atStart=>exact⟨0,[],rfl,by omega,rfl,hb1,hid (fun j b h=>by simp at h),hid List.Pairwise.nil,hl1⟩
 case round=>
  clear hb1 hl1
  obtain⟨k,gs,rfl,hk,hgs,hb,hall,hpw,L⟩:=hrel
  by_cases hlt:k<n
  ·obtain⟨b,o,rfl,hbb,hc⟩:=(hx.later L).at_ hlt
   have hcn:∀i v,(NC (xs.getD k hp0).nod)[i]?=some v→wr.cell? ⟨b,o+k*68+i,none⟩=some v:=fun i v hv=>hc i v (QnJ _ hv)
   have hlast:=hid (show ∀b':Nat,(gs++[b'])[k]?=some b' from fun b'=>by rw[Qyz (by omega),hgs,Qzu];rfl)
   generalize hz:xs.getD k hp0=z at hcn
   have hzz:=hid hz
   clear hz hc
   have hgw:g<wr.heap.size:=hb.lt
   go_wp2_with (first
    | (refine Qm1 rfl _ rfl hcn rfl ?_)
    | fail)
   (with_reducible refine (Qhj z.nod _).mono ?_);rintro e w2 ⟨g2,rfl,hg2,hp2,l2⟩
   replace hb:=hb.later l2
   have hlen:(gs.map S32++Qym (n-k) (Value.slice none 0 0)).length=n:=by simp;omega
   go_wp2_with (first
    | (refine Qae rfl rfl _ _ _ rfl g k _ _ hb rfl ?hl rfl (by kernel_rfl) ?_;(case hl=>rw[hlen];exact hlt);intro v w3 hv hb3 ho3;have hv':v=S32 g2:=hv.symm;subst hv';rw[Qrv gs k g2 hgs n hlt]at hb3)
    | fail)
   refine⟨⟨k+1,gs++[g2],rfl,by omega,by rw[Qyv,hgs];rfl,hb3,?_,?_,(L.trans l2).only ho3 hgl⟩,by simp[intOf];omega⟩
   ·refine hid fun j b' h=>?_
    rcases Qzs j k with hj|hj
    ·rw[QyH (by omega)]at h
     obtain⟨h1,h2,h3⟩:=hall.out j b' h
     have h4:=(h3.later l2).only ho3 (by omega)
     exact⟨h1,h4.lt,h4⟩
    ·have hjk:j=k:=by
      have:=(QyC.1 h).1
      rw[Qyv,hgs]at this
      simp at this
      omega
     subst hjk
     rw[hlast.out g2]at h
     obtain rfl:g2=b':=by simpa using h
     have h4:=hp2.only ho3 (by omega)
     rw[hzz.out]
     exact⟨by omega,h4.lt,h4⟩
   ·refine hid (List.pairwise_append.2 ⟨hpw.out,List.pairwise_singleton _ _,fun a ha b' hb'=>?_⟩)
    obtain rfl:b'=g2:=by simpa using hb'
    obtain⟨j,hj⟩:=List.getElem?_of_mem ha
    have:=(hall.out j a hj).2.1
    omega
  ·obtain rfl:k=n:=by omega
   rw[Qzu,List.replicate_zero,QyZ]at hb
   go_wp2
   go_ret
   exact⟨g,gs,rfl,hgl,hb,hgs,fun j b h=>⟨(hall.out j b h).1,(hall.out j b h).2.2⟩,hpw.out,L⟩
theorem QnC {α:Type} {F:α→List Value} {sz:Nat} {d:α} {w:World} {A:Option Addr} {n m:Nat} {xs:List α} (h:RdF F sz d w A n xs) (hm:m≤n):RdF F sz d w A m (xs.take m):=by
 refine⟨by rw[QyL,h.1];omega,fun h0=>?_⟩
 obtain⟨b,o,hA,hb,hc⟩:=h.2 (by omega)
 refine⟨b,o,hA,hb,fun j i v hj hv=>hc j i v (by omega) ?_⟩
 rw[Qys,Qz8,if_pos hj]at hv
 rw[Qys]
 exact hv
def byS (xs:List UInt8):ByteArray:=⟨xs.toArray⟩
theorem Qh8 (xs:List UInt8):(byS xs).toList=xs:=by rw[ByteArray.toList_eq];rfl
theorem QuR (xs ys:List UInt8):((byS xs).toList==(byS ys).toList)=decide (xs=ys):=by
 rw[Qh8,Qh8]
 by_cases h:xs=ys
 ·subst h
  simp
 ·rw[decide_eq_false h,beq_eq_false_iff_ne]
  exact h
theorem Qo1 {P:Program} {w:World} {A:Option Addr} {n:Nat} {xs:List UInt8} (h:RdB w A n xs) (src e:TypeId) (hs:P.underlying src=some (.slice e)) (he:P.underlying e=some (.int .u8)) (dst:TypeId) (hd:P.underlying dst=some .string) (c:Nat):
 (convert src dst (.slice A n c)).run P w= .ok (.string (byS xs)) w:=by
 have hl:=h.len
 by_cases h0:0<n
 ·obtain⟨b,o,rfl,hb,hc⟩:=h.2 h0
  have:=run_convert_bytes_arg w src e hs he b o n c (xs.map fun x=>(x.toNat:Int)) (by rw[Qyn,hl]) (fun i hi=>by
   have hx:xs[i]?=some (xs[i]'(by omega)):=Qyq _
   have:=hc i (W8 (xs[i]'(by omega))) (by rw[QyF,hx];rfl)
   rw[this,Qys,QyF,hx]
   rfl) dst hd
  rw[this]
  congr 2
  rw[strOfNums,byS,List.map_map]
  congr 2
  conv=>rhs;rw[←List.map_id xs]
  refine List.map_congr_left fun x _=>?_
  simp
 ·obtain rfl:n=0:=by omega
  obtain rfl:xs=[]:=Qy5 hl
  cases A with
  | none=>exact run_convert_bytes_nil w src e hs he 0 c dst hd
  | some a=>
    rw[run_convert_bytes_string w src dst e _ 0 c hs he hd,run_bytesToString w a 0 c [] (by simp[loadCells,loadCellsFrom])]
    rfl
theorem QpW (A B:Option Addr) (n m c d:Nat) (xs ys:List UInt8) (w:World) (hx:RdB w A n xs) (hy:RdB w B m ys):
 Calls Tryz.prog 21 #[.slice A n c,.slice B m d] w fun e w'=>e= .returned (.bool (decide (xs=ys)))∧w'=w:=by
 have h1:=Qo1 hx 22 5 Tryz.underlying22 Tryz.underlying5 9 Tryz.underlying9 c
 have h2:=Qo1 hy 22 5 Tryz.underlying22 Tryz.underlying5 9 Tryz.underlying9 d
 have hE:=hid (QuR xs ys)
 generalize decide (xs=ys)=R at *
 generalize byS xs=S at *
 generalize byS ys=T at *
 go_enter Tryz.func21,Tryz.ntmps21
 go_wp2_with fail
 go_ret
 exact⟨by rw[←hE.out];rfl,rfl⟩
set_option maxRecDepth 100000 in
set_option maxHeartbeats 4000000 in
theorem Qqw (A:Option Addr) (n c:Nat) (hs:List Hp) (w:World) (hh:RdH w A n hs) (hn:n≤1048576) (hnc:n≤c):
 Calls Tryz.prog 9 #[.slice A n c,.int .i64 4] w fun e w'=>∃A' c',e= .returned (.slice A' (min n 4) c')∧RdH w' A' (min n 4) (hs.take 4)∧Later w w':=by
 have hl:=hh.1
 by_cases h:4<n
 ·have hm:min n 4=4:=by omega
  have hd:decide ((4:Int)<(n:Int))=true:=decide_eq_true (by omega)
  have hr:=QnC hh (m:=4) (by omega)
  rw[hm]
  go_enter Tryz.func9,Tryz.ntmps9
  go_wp2_with (first
   | (refine QdW (F:=HC) (d:=hp0) QaZ (by omega) rfl _ _ _ rfl 76 _ 104 Tryz.underlying26 QsK rfl w.heap.size A 4 c _ (hr.later (Qaa _ _)) rfl rfl (by omega) (by omega) ?_;intro A1 c1 w1 h1 l1)
   | fail)
  go_ret
  exact⟨A1,c1,rfl,h1,(Qaa _ _).trans l1⟩
 ·have hm:min n 4=n:=by omega
  have hd:decide ((4:Int)<(n:Int))=false:=decide_eq_false (by omega)
  rw[hm,Qyx (by omega)]
  go_enter Tryz.func9,Tryz.ntmps9
  go_wp2_with (first
   | (refine QdW (F:=HC) (d:=hp0) QaZ (by omega) rfl _ _ _ rfl 76 _ 104 Tryz.underlying26 QsK rfl w.heap.size A n c _ (hh.later (Qaa _ _)) rfl rfl (by omega) (by omega) ?_;intro A1 c1 w1 h1 l1)
   | fail)
  go_ret
  exact⟨A1,c1,rfl,h1,(Qaa _ _).trans l1⟩
def rsS:List Int:=[1,2,3,4]
def rsO:List Int:=[4,3,2,1]
theorem okS:okR rsS:=by decide
theorem okO:okR rsO:=by decide
theorem QmI {key bs:List UInt8} {rs:List Int} (h:QdS key bs rs=0):okR rs∧fitW key bs:=by
 unfold QdS at h
 split at h
 ·split at h
  ·exact⟨by assumption,by assumption⟩
  ·cases h
 ·cases h
theorem QpZ {key bs:List UInt8} {rs:List Int} (h:QdS key bs rs=0):(QcE key bs rs).length=bs.length∧QdS key (QcE key bs rs) rs.reverse=0∧QcE key (QcE key bs rs) rs.reverse=bs:=by
 obtain⟨hok,hf⟩:=QmI h
 have hl:=Qcm key rs bs hf.2.1
 have hok':okR rs.reverse:=fun r hr=>hok r (List.mem_reverse.1 hr)
 have hf':fitW key (Qcw key rs bs):=⟨hf.1,by rw[hl];exact hf.2.1,by rw[hl];exact hf.2.2⟩
 rw[Qe8 hok hf]
 exact⟨hl,Qfk hok' hf',by rw[Qe8 hok' hf',QfH key rs bs hf.2.1]⟩
set_option maxHeartbeats 1000000 in
theorem QnV (A B:Option Addr) (n c m d:Nat) (key bs:List UInt8) (w:World) (hk:RdB w A n key) (hc:n≤c) (hb:RdB w B m bs) (hd:m≤d) (hn:n≤2097152) (hm:m≤2097152):
 Calls Tryz.prog 78 #[.slice A n c,.slice B m d] w fun e w'=>Later w w'∧∃A' c',e= .returned (.tuple #[.slice A' (QcE key bs rsS).length c',.int .i64 (QdS key bs rsS:Nat)])∧OwnB w' w.heap.size A' (QcE key bs rsS).length c' (QcE key bs rsS):=by
 have h:=hid (fun C e0 w hk hb hr=>Qg9 A B C n c m d 4 e0 key bs rsS w hk hc hb hd hr hn hm (by omega))
 generalize QcE key bs rsS=X at *
 generalize QdS key bs rsS=E at *
 go_enter Tryz.func78,Tryz.ntmps78
 go_wp2_with fail
 have J:=Qaa w (.cells #[.int .i64 1,.int .i64 2,.int .i64 3,.int .i64 4] 3)
 (refine (h.out _ _ _ (hk.later J) (hb.later J) ((Blk.new w 3 [.int .i64 1,.int .i64 2,.int .i64 3,.int .i64 4]).rd rfl)).mono ?_);rintro e w1 ⟨j1,A1,c1,rfl,ho1⟩
 go_wp2_with fail
 go_ret2
 exact⟨J.trans j1,A1,c1,rfl,ho1.mono J.size⟩
set_option maxHeartbeats 1000000 in
theorem QoB (A B:Option Addr) (n c m d:Nat) (key bs:List UInt8) (w:World) (hk:RdB w A n key) (hc:n≤c) (hb:RdB w B m bs) (hd:m≤d) (hn:n≤2097152) (hm:m≤2097152):
 Calls Tryz.prog 63 #[.slice A n c,.slice B m d] w fun e w'=>Later w w'∧∃A' c',e= .returned (.tuple #[.slice A' (QcE key bs rsO).length c',.int .i64 (QdS key bs rsO:Nat)])∧OwnB w' w.heap.size A' (QcE key bs rsO).length c' (QcE key bs rsO):=by
 have h:=hid (fun C e0 w hk hb hr=>Qg9 A B C n c m d 4 e0 key bs rsO w hk hc hb hd hr hn hm (by omega))
 generalize QcE key bs rsO=X at *
 generalize QdS key bs rsO=E at *
 go_enter Tryz.func63,Tryz.ntmps63
 go_wp2_with fail
 have J:=Qaa w (.cells #[.int .i64 4,.int .i64 3,.int .i64 2,.int .i64 1] 3)
 (refine (h.out _ _ _ (hk.later J) (hb.later J) ((Blk.new w 3 [.int .i64 4,.int .i64 3,.int .i64 2,.int .i64 1]).rd rfl)).mono ?_);rintro e w1 ⟨j1,A1,c1,rfl,ho1⟩
 go_wp2_with fail
 go_ret2
 exact⟨J.trans j1,A1,c1,rfl,ho1.mono J.size⟩
def FC (key:List UInt8) (n:Nat):List Value:=key.map W8++[.int .i64 (n:Int)]
theorem Qoo {key:List UInt8} (h:key.length=32) (n:Nat):(FC key n).length=33:=by simp[FC,h]
theorem Qkx {key:List UInt8} (h:key.length=32) (n:Nat):(FC key n)[32]?=some (.int .i64 (n:Int)):=by
 rw[FC,Qyz (by rw[Qyn,h];omega),Qyn,h]
 rfl
theorem QuF {key:List UInt8} (h:key.length=32) (n m:Nat):(FC key n).set 32 (.int .i64 (m:Int))=FC key m:=by
 rw[FC,QyW _ _ (by rw[Qyn,h];omega),Qyn,h]
 rfl
set_option maxRecDepth 100000 in
set_option maxHeartbeats 4000000 in
theorem Qry (A:Option Addr) (c:Nat) (key:List UInt8) (w:World) (hk:RdB w A 32 key):
 Calls Tryz.prog 149 #[.slice A 32 c] w fun e w'=>∃g,e= .returned (.tuple #[.pointer (some ⟨g,0,none⟩),.int .i64 0])∧w.heap.size≤g∧Blk w' g 302 (FC key 0)∧Later w w':=by
 have hkl:=hk.len
 have hz:Tryz.prog.built 302 []=some (Qym 32 (Value.int .u8 0)++[Value.int .i64 0]).toArray:=by kernel_rfl
 have hsp:Qan (Qym 32 (Value.int .u8 0)++[Value.int .i64 0]) 0 ((key.map W8).take 32)=FC key 0:=by
  rw[Qyx (by rw[Qyn];omega),Qan,Qyn,hkl,FC]
  rfl
 have hb:=Blk.new w 302 (Qym 32 (Value.int .u8 0)++[Value.int .i64 0])
 have L:=Qaa w (.cells (Qym 32 (Value.int .u8 0)++[Value.int .i64 0]).toArray 302)
 have hll:(Qym 32 (Value.int .u8 0)++[Value.int .i64 0]).length=33:=by simp
 generalize Qym 32 (Value.int .u8 0)++[Value.int .i64 0]=Z at *
 go_enter Tryz.func149,Tryz.ntmps149
 go_wp2_with (first
  | (refine Qap rfl _ _ rfl Z ?hb ?_;(case hb=>simp only[QyK,QyU];exact hz))
  | (refine Qat rfl _ _ _ _ rfl 5 Tryz.underlying22 Qbv w.heap.size 0 32 32 _ _ hb A 32 c (key.map W8) (hk.later L) (QaK _) rfl rfl (by omega) ?_;intro w2 hb2 ho2;rw[hsp]at hb2)
  | fail)
 go_ret2
 exact⟨_,rfl,Qyw _,hb2,L.only ho2 (Qyw _)⟩
set_option maxRecDepth 100000 in
set_option maxHeartbeats 4000000 in
theorem QoR (g n:Nat) (key:List UInt8) (w0 w:World) (hb:Blk w g 302 (FC key 0)) (hk:key.length=32) (hl:Later w0 w) (hg:w0.heap.size≤g) (hn:n≤65536):
 Calls Tryz.prog 174 #[.pointer (some ⟨g,0,none⟩),.int .i64 (n:Int)] w fun e w'=>∃A' c',e= .returned (.tuple #[.slice A' n c',.int .i64 0])∧OwnB w' w0.heap.size A' n c' (chaS key n)∧Later w0 w':=by
 have h1:decide ((n:Int)<0)=false:=decide_eq_false (by omega)
 have h2:decide ((65536:Int)<(n:Int))=false:=decide_eq_false (by omega)
 have hu:=hb.cellD 32 (Qkx hk 0)
 have hfl:=Qoo hk 0
 have hset:=hid (QuF hk 0 n)
 have hP:=hid (fun (w:World) h=>Qjj (some ⟨g,0,none⟩) 32 n key w h hn)
 have hcl:=hid (fun (w:World) (h:Blk w g 302 (FC key 0))=>(show RdB w (some ⟨g,0,none⟩) 32 key from QiK h hk))
 have hlt:=hb.lt
 have hSl:=QaX key n
 have hF:Hid ((FC key 0)[32]?=some (.int .i64 0)):=hid (Qkx hk 0)
 generalize FC key 0=F0 at *
 generalize FC key n=Fn at *
 generalize chaS key n=S at *
 go_enter Tryz.func174,Tryz.ntmps174
 go_wp2_with fail
 refine Qaf [([0,1,2,3,4,5,6,7,8],9)] [10] [] (by as_aux_lemma=>kernel_rfl) (by as_aux_lemma=>kernel_rfl) (by intro _ _ d _ _ h;cases d<;>exact h) ?_
 simp only[Qaj,pick,Qyo,Qyp,Qyr,Qyu,Qyt]
 repeat (go_big_quiet_step (fail))
 refine wpQuiet_nil ?_
 go_wp2_with fail
 (with_reducible refine (hP.out _ (hcl.out _ hb.drew)).mono ?_);rintro e w2 ⟨A2,c2,rfl,o2,l2⟩
 go_wp2_with fail
 try refine⟨by first|assumption|exact Qad _|exact Qaa _ _|exact Later.refl _,?_⟩
 try simp only[Qaj,pick,Qyo,Qyp,Qyr,Qyu,Qyt]
 repeat (go_big_quiet_step (fail))
 refine wpQuiet_nil ?_
 have hb2:=(hb.later (Qad _)).later l2
 have hu2:=hb2.cellD 32 hF.out
 go_wp2_with (first
  | (refine Qae rfl rfl _ _ _ rfl g 32 _ _ hb2 rfl (by omega) rfl (by kernel_rfl) ?_;intro v3 w3 hv3 hb3 ho3)
  | fail)
 go_ret2
 have hbase:∀b,(Value.slice A2 n c2).ownBlock=some b→b≠g:=fun b hb' e=>by
  have:=(World.ownsRow.lt o2 b hb').1
  simp at this
  omega
 exact⟨_,_,rfl,Qdg (QiS o2 ho3 hbase) (by have:=hl.size;simpa using this),((hl.trans (Qad _)).trans l2).only ho3 hg⟩
set_option maxRecDepth 100000 in
set_option maxHeartbeats 4000000 in
theorem Qmp (g m d:Nat) (B:Option Addr) (key:List UInt8) (ps:List (List UInt8)) (w0 w:World) (hp:Parts w0 (fun _=>False) B m ps) (hm:m≤1048576) (hb:Blk w g 302 (FC key 0)) (hk:key.length=32) (hl:Later w0 w) (hg:w0.heap.size≤g) (hn:ps.flatten.length≤65536):
 Calls Tryz.prog 150 #[.pointer (some ⟨g,0,none⟩),.slice B m d] w fun e w'=>∃A' c',e= .returned (.tuple #[.slice A' ps.flatten.length c',.int .i64 0])∧OwnB w' w0.heap.size A' ps.flatten.length c' (xorB ps.flatten (chaS key ps.flatten.length))∧Later w0 w':=by
 have hpl:=hp.len
 have hN:=hid (fun n h (w:World) (hb:Blk w g 302 (FC key 0)) hl=>QoR g n key w0 w hb hk hl hg h)
 have hJ:=hid (fun (w:World) h=>QbO B m d ps w h (by omega) (by omega))
 have hSl:=QaX key ps.flatten.length
 have hF:Hid ((FC key 0)[32]?=some (.int .i64 0)):=hid (Qkx hk 0)
 have hft:=hid (fun k=>Qdq ps k)
 have hle:=hid (fun k=>Qb5 ps k)
 have hX:=hid (fun (w:World) C e h=>Qjq C e ps.flatten.length ps.flatten (chaS key ps.flatten.length) w h rfl hSl (by omega))
 have hall:ps.take m=ps:=by rw[←hpl,List.take_length]
 generalize hS:chaS key ps.flatten.length=S at *
 generalize xorB ps.flatten S=X at *
 generalize FC key 0=F0 at *
 generalize hTe:ps.flatten.length=T at *
 replace hS:=hid hS
 go_enter Tryz.func150,Tryz.ntmps150
 go_wp2_with fail
 go_loopw [6,8,13] (fun t _ i wr=>∃k:Nat,k≤m∧i= .int .i64 k∧t= .int .i64 ((ps.take k).flatten.length:Nat)∧Later w wr) (fun _ _ i _=>m-(intOf i).toNat)
 case atStart=>exact⟨0,by omega,rfl,rfl,Later.refl w⟩
 case round=>
  obtain⟨k,hk',rfl,rfl,L⟩:=hrel
  by_cases hlt:k<m
  ·obtain⟨b,o,Ak,nk,ck,rfl,hb',hck,hcap,hrd,_⟩:=hp.at_ hlt
   replace hck:=((hl.trans L).below.cell (p:=⟨b,o+k,none⟩) hb').trans hck
   replace hb':b<wr.heap.size:=QyG hb' (hl.trans L).size
   have hu:=(hb.later L).cellD 32 hF.out
   have e1:(ps.take (k+1)).flatten.length=(ps.take k).flatten.length+nk:=by
    have h1:=hrd.len
    have h2:k<ps.length:=by omega
    rw[hft.out k h2,Qyv]
    rw[Qys,Qyq h2,QAq]at h1
    rw[h1]
   have e2:=hle.out (k+1)
   generalize (ps.take k).flatten.length=s at *
   generalize hs':(ps.take (k+1)).flatten.length=s' at *
   replace hs':=hid hs'
   have hcmp:decide ((65536:Int)-(s:Int)<(nk:Int))=false:=decide_eq_false (by omega)
   go_wp2
   exact⟨⟨k+1,by omega,by go_num,by rw[hs'.out,e1];go_num,L⟩,by simp[intOf];omega⟩
  ·obtain rfl:k=m:=by omega
   rw[hall,hTe]
   go_wp2_with fail
   (with_reducible refine (hN.out T hn _ (hb.later L) (hl.trans L)).mono ?_);rintro e w2 ⟨A2,c2,rfl,o2,l2⟩
   rw[hS.out]at o2
   go_wp2_with fail
   (with_reducible refine (hJ.out _ (hp.later l2)).mono ?_);rintro e w3 ⟨A3,c3,rfl,o3,l3⟩
   go_wp2_with fail
   have P4:Parts (w3.alloc (.cells #[.slice A3 T c3,.slice A2 T c2] 22)) (fun _=>False) (some ⟨w3.heap.size,0,none⟩) 2 [ps.flatten,S]:=
    Qdr (Blk.new w3 22 [.slice A3 T c3,.slice A2 T c2]) (QaH (o3.rd.later (Qaa _ _)) o3.cap) (QaH ((o2.later l3).rd.later (Qaa _ _)) o2.cap)
   (with_reducible refine (hX.out _ _ _ P4).mono ?_);rintro e w5 ⟨A5,c5,rfl,o5,l5⟩
   have L5:=((l2.trans l3).trans (Qaa w3 _)).trans l5
   go_wp2_with fail
   go_ret2
   exact⟨_,_,rfl,o5.mono ((l2.trans l3).trans (Qaa w3 _)).size,L5⟩
set_option maxRecDepth 100000 in
set_option maxHeartbeats 4000000 in
theorem QjB (A:Option Addr) (c m d:Nat) (B:Option Addr) (key:List UInt8) (ps:List (List UInt8)) (w:World) (hk:RdB w A 32 key) (hp:Parts w (fun _=>False) B m ps) (hm:m≤1048576) (hn:ps.flatten.length≤65536):
 Calls Tryz.prog 116 #[.slice A 32 c,.slice B m d] w fun e w'=>∃A' c',e= .returned (.tuple #[.slice A' ps.flatten.length c',.int .i64 0])∧OwnB w' w.heap.size A' ps.flatten.length c' (xorB ps.flatten (chaS key ps.flatten.length))∧Later w w':=by
 have hT:=hid (fun g (w':World) hb hl hg=>Qmp g m d B key ps w w' hp hm hb hk.len hl hg hn)
 generalize xorB ps.flatten (chaS key ps.flatten.length)=X at *
 generalize ps.flatten.length=T at *
 go_enter Tryz.func116,Tryz.ntmps116
 go_wp2_with fail
 (with_reducible refine (Qry A c key _ hk).mono ?_);rintro e w1 ⟨g,rfl,hg,hb,l1⟩
 go_wp2_with fail
 (with_reducible refine (hT.out g _ hb l1 hg).mono ?_);rintro e w2 ⟨A2,c2,rfl,o2,l2⟩
 go_wp2_with fail
 go_ret2
 exact⟨_,_,rfl,o2,l2⟩
theorem QeI:(Tryz.prog.info? 34).map (·.size)=some 288:=by kernel_rfl
theorem QbI:(Tryz.prog.info? 37).map (·.size)=some 768:=by kernel_rfl
theorem Qus:(Tryz.prog.info? 32).map (·.size)=some 240:=by kernel_rfl
theorem Quo:(Tryz.prog.info? 37).bind (·.zero)=some (.agg (Qym 768 (W8 0)).toArray):=by kernel_rfl
theorem zcH:Tryz.zeroCells34.toList=(Qym 288 (0:UInt8)).map W8:=by rw[Qy4];kernel_rfl
theorem zcP:Tryz.zeroCells37.toList=(Qym 768 (0:UInt8)).map W8:=by rw[Qy4];kernel_rfl
theorem Qfw:Tryz.prog.built 37 []=some ((Qym 768 (0:UInt8)).map W8).toArray:=by rw[Qy4];kernel_rfl
theorem Qhw (h:List UInt8) (hl:h.length=288):Tryz.prog.built 37 [(0,.agg (h.map W8).toArray)]=some ((h++Qym 480 0).map W8).toArray:=by
 have hb:=QeN (n:=768) (pl:=[(0,288),(288,480)]) Tryz.underlying37 Quo (by kernel_rfl) [(0,0,h)] (by
  intro x hx
  simp only[QyA,QyB,or_false]at hx
  subst hx
  simp only[hl];decide)
 rw[show QeD (Qym 768 0) ([(0,0,h)].map fun x=>(x.2.1,x.2.2))=h++Qym 480 0 by
  simp only[QyT,QyU,QeD]
  rw[show Qym 768 (0:UInt8)=Qym 288 0++Qym 480 0 by rw[Qzw],Qel _ _ _ (by rw[Qyy,hl])]]at hb
 exact hb
theorem QlT (bs:List UInt8) (n:Nat) (h:bs.length=n):subB bs 0 n=bs:=by rw[subB,Qzn,Qyx (by omega)]
section
variable {ops:Array Oper} {rest:List Oper} {o:Oper} {a:Act} {w:World} {Q:Exit→Act→World→Prop}
theorem Qit (hgd:o.guard=none) (hd:o.dst=none) (x y:Operand) (ho:o.op= .store 34 x y) {g:Nat} {t:TypeId} {l:List Value} {bs:List UInt8} (hg:Blk w g t l) (hx:a.eval x= .pointer (some ⟨g,0,none⟩)) (hy:a.eval y= .agg (bs.map W8).toArray) (hbl:bs.length=288) (hl:l.length=288)
 (h:∀w',Blk w' g t (bs.map W8)→Only g w w'→wpList Tryz.prog ops Q rest a w'):wpList Tryz.prog ops Q (o :: rest) a w:=
 QfQ 288 hgd hd x y ho hg hx hy QeI hbl hl h
theorem Ql4 (hw:Region.wanted o (yielded ops a.tmps)=true) (x:Operand) (ho:o.op= .load 34 x) {g:Nat} {t:TypeId} {bs:List UInt8} (hb:Blk w g t (bs.map W8)) (hl:bs.length=288) (hx:a.eval x= .pointer (some ⟨g,0,none⟩))
 (h:wpList Tryz.prog ops Q rest (a.put o.dst (.agg (bs.map W8).toArray)) w):wpList Tryz.prog ops Q (o :: rest) a w:=
 Qn4 0 288 hw x ho hb hx Tryz.underlying34 rfl QeI (QlT _ _ hl) hl h
theorem QaJ (hgd:o.guard=none) (hd:o.dst=none) (x y:Operand) (ho:o.op= .store 37 x y) {g:Nat} {t:TypeId} {l:List Value} {bs:List UInt8} (hg:Blk w g t l) (hx:a.eval x= .pointer (some ⟨g,0,none⟩)) (hy:a.eval y= .agg (bs.map W8).toArray) (hbl:bs.length=768) (hl:l.length=768)
 (h:∀w',Blk w' g t (bs.map W8)→Only g w w'→wpList Tryz.prog ops Q rest a w'):wpList Tryz.prog ops Q (o :: rest) a w:=
 QfQ 768 hgd hd x y ho hg hx hy QbI hbl hl h
theorem Qdz (hw:Region.wanted o (yielded ops a.tmps)=true) (x:Operand) (ho:o.op= .load 37 x) {g:Nat} {t:TypeId} {bs:List UInt8} (hb:Blk w g t (bs.map W8)) (hl:bs.length=768) (hx:a.eval x= .pointer (some ⟨g,0,none⟩))
 (h:wpList Tryz.prog ops Q rest (a.put o.dst (.agg (bs.map W8).toArray)) w):wpList Tryz.prog ops Q (o :: rest) a w:=
 Qn4 0 768 hw x ho hb hx Tryz.underlying37 rfl QbI (QlT _ _ hl) hl h
end
theorem QsV (b:List UInt8) (h:b.length=288):putB (putB (putB (Qym 288 0) 0 (b.take 32)) 32 ((b.drop 32).take 16)) 48 (b.drop 48)=b:=by
 have e1:b=b.take 32++((b.drop 32).take 16++b.drop 48):=by
  rw[show b.drop 48=(b.drop 32).drop 16 by rw[QAf],QyV,QyV]
 have l1:(b.take 32).length=32:=by simp;omega
 have l2:((b.drop 32).take 16).length=16:=by simp;omega
 have l3:(b.drop 48).length=240:=by simp;omega
 generalize b.take 32=p at *
 generalize (b.drop 32).take 16=q at *
 generalize b.drop 48=r at *
 rw[show Qym 288 (0:UInt8)=Qym 32 0++(Qym 16 0++Qym 240 0) by simp,Qel _ _ _ (by rw[Qyy,l1]),Qby _ _ _ _ 32 l1 (by rw[Qyy,l2]),←QyE,Qek _ _ _ 48 (by rw[Qyv,l1,l2]) (by rw[Qyy,l3]),QyE,e1]
set_option maxRecDepth 100000 in
set_option maxHeartbeats 4000000 in
theorem Qmq (A:Option Addr) (c:Nat) (b:List UInt8) (w:World) (hb:RdB w A 288 b) (hc:288≤c):
 Calls Tryz.prog 55 #[.slice A 288 c] w fun e w'=>e= .returned (.tuple #[.agg (b.map W8).toArray,.int .i64 0])∧Later w w':=by
 have hbl:=hb.len
 obtain⟨b0,p,rfl,hb00,_⟩:=hb.2 (by omega)
 have B0:Bag w (w.alloc (.cells Tryz.zeroCells34 34)) [(w.heap.size,34,(Qym 288 (0:UInt8)).map W8)]:=(Bag.none w).add (Qaa _ _) (by simp) (Qyw _) ((Blk.new w _ Tryz.zeroCells34.toList).cast zcH)
 have hp:=QsV b hbl
 have l0:(Qym 288 (0:UInt8)).length=288:=by simp
 have HZ:=hid zcH
 generalize hZ:Qym 288 (0:UInt8)=Z at *
 have l1:(putB Z 0 (b.take 32)).length=288:=by rw[Qbm (by rw[QyL];omega)];exact l0
 have l2:(putB (putB Z 0 (b.take 32)) 32 ((b.drop 32).take 16)).length=288:=by rw[Qbm (by rw[QyL,Qy0];omega)];exact l1
 have e3:((b.drop 48).take 240)=b.drop 48:=Qyx (by rw[Qy0];omega)
 have HE:=hid e3
 have HP:=hid hp
 clear e3 hp hZ
 have hc32:cutA (some ⟨b0,p,none⟩) 32 c=some ⟨b0,p+32,none⟩:=by rw[cutA,if_neg (by omega)];rfl
 have hc48:cutA (some ⟨b0,p,none⟩) 48 c=some ⟨b0,p+48,none⟩:=by rw[cutA,if_neg (by omega)];rfl
 have h32:Hid (∀ w,RdB w (some ⟨b0,p,none⟩) 288 b→RdB w (some ⟨b0,p+32,none⟩) 256 (b.drop 32)):=hid (fun w h=>by rw[←hc32];exact RdB.cut h (by omega) hc)
 have h48:Hid (∀ w,RdB w (some ⟨b0,p,none⟩) 288 b→RdB w (some ⟨b0,p+48,none⟩) 240 (b.drop 48)):=hid (fun w h=>by rw[←hc48];exact RdB.cut h (by omega) hc)
 generalize hZ2:putB (putB Z 0 (b.take 32)) 32 ((b.drop 32).take 16)=Z2 at *
 generalize hZ1:putB Z 0 (b.take 32)=Z1 at *
 have H1:=hid hZ1
 have H2:=hid hZ2
 have hzl:(Z.map W8).length=288:=by rw[Qyn];exact l0
 clear hZ1 hZ2
 go_enter Tryz.func55,Tryz.ntmps55
 have hrr:=hb.later (B0.lat.trans (Qaa _ (.cells Tryz.zeroCells34 34)))
 have hbb:=(Blk.new' (n:=w.heap.size+1) (w.alloc (.cells Tryz.zeroCells34 34)) 34 Tryz.zeroCells34.toList (by simp)).cast HZ.out
 go_wp2_with (first
  | (refine Qat rfl _ _ _ _ rfl 5 Tryz.underlying22 Qbv (w.heap.size+1) 0 32 32 _ _ hbb (some ⟨b0,p,none⟩) 288 c (b.map W8) hrr (QaK _) rfl rfl (by rw[Qyn];omega) ?_;intro w1 hb1 ho1;rw[←QzZ,Qb4,H1.out]at hb1
     have B1:=B0.push (Qaa _ _) (by simp) ho1 hb1)
  | fail)
 clear hb1 ho1 B0 hrr hbb
 generalize w.heap.size+1=g at *
 have B2:=B1.drew
 simp only[Act.put,QyD,QyM,QyI]
 refine Qaf [] [0,1,2,3] [4] (by as_aux_lemma=>kernel_rfl) (by as_aux_lemma=>kernel_rfl) (by intro _ _ d _ _ h;cases d<;>exact h) ?_
 simp only[Qaj,pick,Qyo,Qyp,Qyr,Qyu,Qyt]
 repeat (go_big_quiet_step (fail))
 refine wpQuiet_nil ?_
 go_wp2_with (first
  | (refine Qat rfl _ _ _ _ rfl 5 Tryz.underlying22 Qbv g 32 16 16 _ _ (B2.nth 0 rfl) (some ⟨b0,p+32,none⟩) 256 (c-32) ((b.drop 32).map W8) (h32.out _ (hb.later B2.lat)) (QaK _) rfl rfl (by rw[Qyn];omega) ?_;intro w3 hb3 ho3;rw[←QzZ,Qb4,H2.out]at hb3
     have B3:=(B2.write 0 rfl ho3 hb3).drew)
  | fail)
 clear hb3 ho3 B1 B2
 simp only[Act.put,QyD,QyM,QyI]
 refine Qaf [] [0,1,2,3] [4] (by as_aux_lemma=>kernel_rfl) (by as_aux_lemma=>kernel_rfl) (by intro _ _ d _ _ h;cases d<;>exact h) ?_
 simp only[Qaj,pick,Qyo,Qyp,Qyr,Qyu,Qyt]
 repeat (go_big_quiet_step (fail))
 refine wpQuiet_nil ?_
 go_wp2_with (first
  | (refine Qat rfl _ _ _ _ rfl 5 Tryz.underlying22 Qbv g 48 240 240 _ _ (B3.nth 0 rfl) (some ⟨b0,p+48,none⟩) 240 (c-48) ((b.drop 48).map W8) (h48.out _ (hb.later B3.lat)) (QaK _) rfl rfl (by rw[Qyn];omega) ?_;intro w4 hb4 ho4;rw[←QzZ,Qb4,HE.out,HP.out]at hb4
     have B4:=B3.write 0 rfl ho4 hb4)
  | (refine Ql4 rfl _ rfl (B4.nth 0 rfl) hbl rfl ?_)
  | (refine Qit rfl rfl _ _ rfl (B4.nth 1 rfl) rfl rfl hbl hzl ?_;intro w9 hb9 ho9)
  | fail)
 exact bodyPost_ret (Qah rfl _ _ _ _ _ _ hb9 rfl Tryz.underlying34 rfl (by rw[Qyn,hbl];exact QeI)) rfl ⟨rfl,(B4.write 1 rfl ho9 hb9).lat⟩
def kMac (s:List UInt8):List UInt8:=subB s 0 32
def kStr (s:List UInt8):List UInt8:=subB s 32 32
def kPay (s:List UInt8):List UInt8:=subB s 64 32
def kAlp (s:List UInt8):List UInt8:=subB s 128 32
def tagB (key al be:List UInt8):List UInt8:=(Qbb key (al++be)).take 16
def Qmw (h s:List UInt8):Bool:=decide (tagB (kMac s) (subB h 0 32) (subB h 48 240)=subB h 32 16)
theorem QjR (h:List UInt8) (hl:h.length=288):[subB h 0 32,subB h 32 16,subB h 48 240].flatten=h:=by
 rw[subB,subB,subB,Qzz,Qzz,Qzz,List.flatten_nil,QyZ,Qzn,Qyx (l:=h.drop 48) (by rw[Qy0];omega),show h.drop 48=(h.drop 32).drop 16 by rw[QAf],QyV,QyV]
set_option maxRecDepth 100000 in
set_option maxHeartbeats 2000000 in
theorem Qns (h:List UInt8) (hl:h.length=288) (w:World):
 Calls Tryz.prog 54 #[.agg (h.map W8).toArray] w fun e w'=>∃A' c',e= .returned (.slice A' 288 c')∧OwnB w' w.heap.size A' 288 c' h∧Later w w':=by
 have hb:=Blk.new w 34 (h.map W8)
 have hJ:=hid (fun B d (w:World) hp=>QbO B 3 d [subB h 0 32,subB h 32 16,subB h 48 240] w hp (by omega) (by rw[QjR h hl];omega))
 rw[QjR h hl,hl]at hJ
 have s0:(subB h 0 32).length=32:=Qal (by omega)
 have s1:(subB h 32 16).length=16:=Qal (by omega)
 have s2:(subB h 48 240).length=240:=Qal (by omega)
 have L:=Qaa w (.cells (h.map W8).toArray 34)
 go_enter Tryz.func54,Tryz.ntmps54
 go_wp2_with fail
 refine Qaf [([0,1,2,3,4,5],6),([],7)] [8] [] (by as_aux_lemma=>kernel_rfl) (by as_aux_lemma=>kernel_rfl) (by intro _ _ d _ _ h;cases d<;>exact h) ?_
 simp only[Qaj,pick,Qyo,Qyp,Qyr,Qyu,Qyt]
 repeat (go_big_quiet_step (fail))
 refine wpQuiet_nil ?_
 go_wp2_with fail
 try refine⟨by first|assumption|exact Qad _|exact Qaa _ _|exact Later.refl _,?_⟩
 try simp only[Qaj,pick,Qyo,Qyp,Qyr,Qyu,Qyt]
 repeat (go_big_quiet_step (fail))
 refine wpQuiet_nil ?_
 have l2:=(Qad (w.alloc (.cells (h.map W8).toArray 34))).trans (Qaa _ (.cells #[.slice (some ⟨w.heap.size,0,none⟩) 32 32,.slice (some ⟨w.heap.size,32,none⟩) 16 16,.slice (some ⟨w.heap.size,48,none⟩) 240 240] 22))
 have hb2:=hb.later l2
 have P3:=Qe0 (bad:=fun _=>False) (ps:=[subB h 0 32,subB h 32 16,subB h 48 240]) ((Blk.new' (n:=w.heap.size+1) (w.alloc (.cells (h.map W8).toArray 34)).drew 22 [.slice (some ⟨w.heap.size,0,none⟩) 32 32,.slice (some ⟨w.heap.size,32,none⟩) 16 16,.slice (some ⟨w.heap.size,48,none⟩) 240 240] (by simp)).rd rfl) (Qbr _ _) ⟨QaH (QbN hb2 rfl s0) (Qyw _),QaH (QbN hb2 rfl s1) (Qyw _),QaH (QbN hb2 rfl s2) (Qyw _),trivial⟩
 go_wp2_with fail
 (with_reducible refine (hJ.out _ _ _ P3).mono ?_);rintro e w3 ⟨A3,c3,rfl,o3,l3⟩
 go_wp2_with fail
 try refine⟨by first|assumption|exact Qad _|exact Qaa _ _|exact Later.refl _,?_⟩
 try simp only[Qaj,pick,Qyo,Qyp,Qyr,Qyu,Qyt]
 repeat (go_big_quiet_step (fail))
 refine wpQuiet_nil ?_
 go_wp2_with fail
 go_ret
 exact⟨_,_,rfl,o3.mono (L.trans l2).size,(L.trans l2).trans l3⟩
set_option maxRecDepth 100000 in
set_option maxHeartbeats 2000000 in
theorem Qo3 (h s:List UInt8) (hl:h.length=288) (hs:s.length=192) (w:World):
 Calls Tryz.prog 17 #[.agg (h.map W8).toArray,.agg (s.map W8).toArray] w fun e w'=>e= .returned (.bool (Qmw h s))∧Later w w':=by
 have C1:=Qbi w 34 (h.map W8)
 have C2:Bag w ((w.alloc (.cells (h.map W8).toArray 34)).alloc (.cells (s.map W8).toArray 53)) [(w.heap.size+1,53,s.map W8),(w.heap.size,34,h.map W8)]:=
  C1.add (Qaa _ _) (by simp) (by omega) (Blk.new' _ _ _ (by simp))
 clear C1
 have s0:(subB h 0 32).length=32:=Qal (by omega)
 have s1:(subB h 32 16).length=16:=Qal (by omega)
 have s2:(subB h 48 240).length=240:=Qal (by omega)
 have k0:(kMac s).length=32:=Qal (by omega)
 have hC:=hid (fun A B C d e0 (w:World) h1 h2 h3=>QnF A B C 32 32 2 d 16 e0 (kMac s) (subB h 32 16) [subB h 0 32,subB h 48 240] w h1 (by omega) (by omega) h2 (by omega) h3 (by omega) (by simp[s0,s2]))
 have hF:=hid (show Qmw h s=decide ((Qbb (kMac s) [subB h 0 32,subB h 48 240].flatten).take 16=subB h 32 16) by
  rw[Qmw,tagB,Qzz,Qzz,List.flatten_nil,QyZ])
 go_enter Tryz.func17,Tryz.ntmps17
 go_wp2_with fail
 generalize hW:(w.alloc _).alloc _=w1
 replace C2:Bag w w1 [(w.heap.size+1,53,s.map W8),(w.heap.size,34,h.map W8)]:=by rw[←hW];exact C2
 clear hW
 refine Qaf [([0,1,2,3,4,5,6,7,8],9),([],10)] [11] [] (by as_aux_lemma=>kernel_rfl) (by as_aux_lemma=>kernel_rfl) (by intro _ _ d _ _ h;cases d<;>exact h) ?_
 simp only[Qaj,pick,Qyo,Qyp,Qyr,Qyu,Qyt]
 repeat (go_big_quiet_step (fail))
 refine wpQuiet_nil ?_
 go_wp2_with fail
 try refine⟨by first|assumption|exact Qad _|exact Qaa _ _|exact Later.refl _,?_⟩
 try simp only[Qaj,pick,Qyo,Qyp,Qyr,Qyu,Qyt]
 repeat (go_big_quiet_step (fail))
 refine wpQuiet_nil ?_
 have l2:=(Qad w1).trans (Qaa _ (.cells #[.slice (some ⟨w.heap.size,0,none⟩) 32 32,.slice (some ⟨w.heap.size,48,none⟩) 240 240] 22))
 have B2:=C2.later l2
 have P3:=Qe0 (bad:=fun _=>False) (ps:=[subB h 0 32,subB h 48 240]) ((Blk.new w1.drew 22 [.slice (some ⟨w.heap.size,0,none⟩) 32 32,.slice (some ⟨w.heap.size,48,none⟩) 240 240]).rd rfl) (Qbr _ _) ⟨QaH (QbN (B2.nth 1 rfl) rfl s0) (Qyw _),QaH (QbN (B2.nth 1 rfl) rfl s2) (Qyw _),trivial⟩
 go_wp2_with fail
 (refine (hC.out _ _ _ _ _ _ (QbN (B2.nth 0 rfl) rfl k0) (QbN (B2.nth 1 rfl) rfl s1) P3).mono ?_);rintro e w3 ⟨rfl,l3⟩
 rw[←hF.out]
 go_wp2_with fail
 try refine⟨by first|assumption|exact Qad _|exact Qaa _ _|exact Later.refl _,?_⟩
 try simp only[Qaj,pick,Qyo,Qyp,Qyr,Qyu,Qyt]
 repeat (go_big_quiet_step (fail))
 refine wpQuiet_nil ?_
 go_wp2_with fail
 go_ret
 exact⟨rfl,B2.lat.trans l3⟩
abbrev cz0:List Value:=[.int .u8 0,.int .u8 0,.int .u32 0,.int .u64 0,.int .u8 0,.int .u8 0,.int .u8 0,.int .u8 0,.int .u8 0,.int .u8 0,.int .u8 0,.int .u8 0,.int .u8 0,.int .u8 0,.int .u8 0,.int .u8 0,.int .u8 0,.int .u8 0,.int .u8 0,.int .u8 0]
section
variable {ops:Array Oper} {rest:List Oper} {o:Oper} {a:Act} {w:World} {Q:Exit→Act→World→Prop}
end
theorem Qq3 (b:List UInt8) (h:b.length=768):putB (b.take 288++Qym 480 0) 288 ((b.drop 288).take 480)=b:=by
 rw[Qek _ _ _ 288 (by rw[QyL];omega) (by rw[Qyy,QyL,Qy0];omega),Qyx (l:=b.drop 288) (by rw[Qy0];omega),QyV]
set_option maxRecDepth 100000 in
set_option maxHeartbeats 4000000 in
theorem Qm5 (A:Option Addr) (c:Nat) (b:List UInt8) (w:World) (hb:RdB w A 768 b) (hc:768≤c):
 Calls Tryz.prog 14 #[.slice A 768 c] w fun e w'=>e= .returned (.tuple #[.agg (b.map W8).toArray,.int .i64 0])∧Later w w':=by
 have hbl:=hb.len
 obtain⟨b0,p,rfl,hb00,_⟩:=hb.2 (by omega)
 have HZ:=hid zcP
 have HH:=hid zcH
 have B0:Bag w (w.alloc (.cells Tryz.zeroCells37 37)) [(w.heap.size,37,(Qym 768 (0:UInt8)).map W8)]:=(Bag.none w).add (Qaa _ _) (by simp) (Qyw _) ((Blk.new w _ Tryz.zeroCells37.toList).cast zcP)
 have l0:((Qym 768 (0:UInt8)).map W8).length=768:=by rw[Qyn,Qyy]
 have lh:((Qym 288 (0:UInt8)).map W8).length=288:=by rw[Qyn,Qyy]
 have hhl:(b.take 288).length=288:=by rw[QyL];omega
 have hH:=hid (fun (w:World) h=>Qmq (some ⟨b0,p,none⟩) c (b.take 288) w h (by omega))
 have hp1:=Qhw (b.take 288) hhl
 have hp1l:(b.take 288++Qym 480 (0:UInt8)).length=768:=by rw[Qyv,hhl,Qyy]
 have hput:=hid (Qq3 b hbl)
 have h288:Hid (∀ w,RdB w (some ⟨b0,p,none⟩) 768 b→RdB w (some ⟨b0,p+288,none⟩) 480 (b.drop 288)):=hid (fun w h=>by
  have:=RdB.cut h (k:=288) (c:=769) (by omega) (by omega)
  rw[show cutA (some ⟨b0,p,none⟩) 288 769=some ⟨b0,p+288,none⟩ by rw[cutA,if_neg (by omega)];rfl]at this
  exact this)
 have hcc:cutA (some ⟨b0,p,none⟩) 288 c=some ⟨b0,p+288,none⟩:=by rw[cutA,if_neg (by omega)];rfl
 have HT:Hid (∀ w,RdB w (some ⟨b0,p,none⟩) 768 b→RdB w (some ⟨b0,p,none⟩) 288 (b.take 288)):=hid (fun w h=>RdB.take h (by omega))
 generalize Qym 768 (0:UInt8)=Z at *
 generalize Qym 288 (0:UInt8)=ZH at *
 generalize b.take 288++Qym 480 (0:UInt8)=P1 at *
 generalize b.take 288=hd at *
 go_enter Tryz.func14,Tryz.ntmps14
 go_wp2_with fail
 generalize hW:w.alloc _=w1
 replace B0:Bag w w1 [(w.heap.size,37,Z.map W8)]:=by rw[←hW];exact B0
 clear hW
 (with_reducible refine (hH.out _ (HT.out _ (hb.later B0.lat))).mono ?_);rintro e w2 ⟨rfl,l2⟩
 replace B0:=B0.later l2
 go_wp2_with (first
  | (refine Qit rfl rfl _ _ rfl ((Blk.new w2 _ Tryz.zeroCells34.toList).cast HH.out) rfl rfl hhl lh ?_;intro w3 hb3 ho3
     have B1:=B0.push (Qaa _ _) (Qyw _) ho3 hb3)
  | (refine Ql4 rfl _ rfl (B1.nth 0 rfl) hhl rfl ?_)
  | (refine Qao rfl 37 _ rfl (P1.map W8) (by simp only[QyK,QyT,QyU];exact hp1) ?_)
  | (refine QaJ rfl rfl _ _ rfl ((Blk.new w3 _ Tryz.zeroCells37.toList).cast HZ.out) rfl rfl hp1l l0 ?_;intro w4 hb4 ho4
     have B2:=B1.push (Qaa _ _) (Qyw _) ho4 hb4)
  | fail)
 have B3:=B2.drew
 have hlb:b0<w4.drew.heap.size:=QyG hb00 B3.lat.size
 refine Qaf [] [0,1,2,3] [4] (by as_aux_lemma=>kernel_rfl) (by as_aux_lemma=>kernel_rfl) (by intro _ _ d _ _ h;cases d<;>exact h) ?_
 simp only[Qaj,pick,Qyo,Qyp,Qyr,Qyu,Qyt]
 repeat (go_big_quiet_step (fail))
 refine wpQuiet_nil ?_
 go_wp2_with (first
  | (refine Qat rfl _ _ _ _ rfl 5 Tryz.underlying22 Qbv w3.heap.size 288 480 480 _ _ (B3.nth 0 rfl) (some ⟨b0,p+288,none⟩) 480 (c-288) ((b.drop 288).map W8) (h288.out _ (hb.later B3.lat)) (QaK _) rfl rfl (by rw[Qyn];omega) ?_;intro w5 hb5 ho5;rw[←QzZ,Qb4,hput.out]at hb5
     have B4:=B3.write 0 rfl ho5 hb5)
  | (refine Qdz rfl _ rfl (B4.nth 0 rfl) hbl rfl ?_)
  | (refine QaJ rfl rfl _ _ rfl (B4.nth 2 rfl) rfl rfl hbl l0 ?_;intro w6 hb6 ho6)
  | fail)
 exact bodyPost_ret (Qah rfl _ _ _ _ _ _ hb6 rfl Tryz.underlying37 rfl (by rw[Qyn,hbl];exact QbI)) rfl ⟨rfl,(B4.write 2 rfl ho6 hb6).lat⟩
set_option maxRecDepth 100000 in
set_option maxHeartbeats 2000000 in
theorem Qmf (b:List UInt8) (hl:b.length=768) (w:World):
 Calls Tryz.prog 13 #[.agg (b.map W8).toArray] w fun e w'=>∃A' c',e= .returned (.slice A' 768 c')∧OwnB w' w.heap.size A' 768 c' b∧Later w w':=by
 have hb:Blk (w.alloc (.cells (b.map W8).toArray 37)) w.heap.size 37 (b.map W8):=Blk.new _ _ _
 have s0:(subB b 0 288).length=288:=Qal (by omega)
 have s1:(subB b 288 480).length=480:=Qal (by omega)
 have hfl:[subB b 0 288,subB b 288 480].flatten=b:=by
  rw[subB,subB,Qzz,Qzz,List.flatten_nil,QyZ,Qzn,Qyx (l:=b.drop 288) (by rw[Qy0];omega),QyV]
 have hJ:=hid (fun B d (w:World) hp=>QbO B 2 d [subB b 0 288,subB b 288 480] w hp (by omega) (by rw[hfl];omega))
 rw[hfl,hl]at hJ
 have hB:=hid (fun (w:World)=>Qns (subB b 0 288) s0 w)
 have L:=Qaa w (.cells (b.map W8).toArray 37)
 have Rs:Hid (subB b 0 288=subB b 0 288):=hid rfl
 generalize hS:subB b 0 288=S0 at *
 replace hS:=hid hS
 go_enter Tryz.func13,Tryz.ntmps13
 go_wp2_with fail
 generalize hW:w.alloc _=w1 at *
 clear hW
 refine Qaf [([0,1,3,4],2),([],5),([],6)] [7] [] (by as_aux_lemma=>kernel_rfl) (by as_aux_lemma=>kernel_rfl) (by intro _ _ d _ _ h;cases d<;>exact h) ?_
 simp only[Qaj,pick,Qyo,Qyp,Qyr,Qyu,Qyt]
 repeat (first|go_big_quiet_skip|(go_big_quiet_want;(refine QeP 0 288 _ rfl hb.drew rfl Tryz.underlying34 rfl QeI hS.out s0 ?_);simp only[Act.put,QyD,QyM,QyI];go_big_quiet_on)|(go_big_quiet_step (fail)))
 refine wpQuiet_nil ?_
 go_wp2_with fail
 (with_reducible refine (hB.out _).mono ?_);rintro e w2 ⟨A2,c2,rfl,o2,l2⟩
 go_wp2_with fail
 try refine⟨by first|assumption|exact Qad _|exact Qaa _ _|exact Later.refl _,?_⟩
 try simp only[Qaj,pick,Qyo,Qyp,Qyr,Qyu,Qyt]
 repeat (go_big_quiet_step (fail))
 refine wpQuiet_nil ?_
 have l3:=Qaa w2 (.cells #[.slice A2 288 c2,.slice (some ⟨w.heap.size,288,none⟩) 480 480] 22)
 have hb3:=((hb.later (Qad _)).later l2).later l3
 have P3:=Qe0 (bad:=fun _=>False) (ps:=[S0,subB b 288 480]) ((Blk.new w2 22 [.slice A2 288 c2,.slice (some ⟨w.heap.size,288,none⟩) 480 480]).rd rfl) (Qbr _ _) ⟨QaH (o2.later l3).rd o2.cap,QaH (QbN hb3 rfl s1) (Qyw _),trivial⟩
 go_wp2_with fail
 try refine⟨by first|assumption|exact Qad _|exact Qaa _ _|exact Later.refl _,?_⟩
 try simp only[Qaj,pick,Qyo,Qyp,Qyr,Qyu,Qyt]
 repeat (go_big_quiet_step (fail))
 refine wpQuiet_nil ?_
 go_wp2_with fail
 (refine (hJ.out _ _ _ P3).mono ?_);rintro e w4 ⟨A4,c4,rfl,o4,l4⟩
 go_wp2_with fail
 try refine⟨by first|assumption|exact Qad _|exact Qaa _ _|exact Later.refl _,?_⟩
 try simp only[Qaj,pick,Qyo,Qyp,Qyr,Qyu,Qyt]
 repeat (go_big_quiet_step (fail))
 refine wpQuiet_nil ?_
 go_wp2_with fail
 go_ret
 exact⟨_,_,rfl,o4.mono (((L.trans (Qad _)).trans l2).trans l3).size,(((L.trans (Qad _)).trans l2).trans l3).trans l4⟩
def z768:List UInt8:=Qym 768 0
theorem QjY:z768.length=768:=Qyy
section
variable {ops:Array Oper} {rest:List Oper} {o:Oper} {a:Act} {w:World} {Q:Exit→Act→World→Prop}
end
section
variable {P:Program} {ops:Array Oper} {rest:List Oper} {o:Oper} {a:Act} {w:World} {Q:Exit→Act→World→Prop}
end
end Go.Proofs.YtdhgpkdjdmlphaaGreat
namespace Go.Proofs.YtdhgpkdjdmlphaaGreat
open Go.BigFrame
open Go.RowKit
section
variable {P:Program} {ops:Array Oper} {Q:Exit→Act→World→Prop} {T:World→Prop}
end
theorem Spared.later {w w1 w2:World} {bad:List Nat} (h:Spared w bad w1) (hl:Later w1 w2):Spared w bad w2:=
 ⟨Qy3 h.1 hl.size,fun b hb hn=>(hl.below.block b (QyG hb h.1)).trans (h.2 b hb hn)⟩
theorem Spared.grown {w w1 w2:World} {bad:List Nat} {row:Option Nat} (h:Spared w bad w1) (hg:w1.grownBy w2 row) (hr:∀k,row=some k→w.heap.size≤k):Spared w bad w2:=
 ⟨Qy3 h.1 hg.size,fun b hb hn=>(hg.block b (QyG hb h.1) (fun e=>by have:=hr b e.symm;omega)).trans (h.2 b hb hn)⟩
theorem Spared.fresh {w w1 w2:World} {bad:List Nat} {g:Nat} (h:Spared w bad w1) (ho:Only g w1 w2) (hg:w.heap.size≤g):Spared w bad w2:=
 h.grown ho (fun k e=>by cases e;exact hg)
end Go.Proofs.YtdhgpkdjdmlphaaGreat
namespace Go.Proofs.YtdhgpkdjdmlphaaGreat
open Go.RowKit
open Go.BigFrame
section
variable {ops:Array Oper} {rest:List Oper} {o:Oper} {a:Act} {w:World} {Q:Exit→Act→World→Prop}
end
theorem QiV {P:Program} {d n k:Nat} {t:TypeId} {f:Field} {fs:List Field} {fs':Array Field} (hf:f.type=t) (hu:P.underlying t=some (.struct fs')) (hst:P.stoodInHeld t=false) (hs:(P.info? t).map (·.size)=some n) (hn:f.name≠ "_")
 {xs ys ps qs:List Value} (ho:f.offset=k) (hp:(xs.drop k).take n=ps) (hq:(ys.drop k).take n=qs) (b:Bool) (w:World) (hb:(Op.eqFields (d+1) ps.toArray qs.toArray fs'.toList).run P w= .ok b w):
 (Op.eqFields (d+2) xs.toArray ys.toArray (f :: fs)).run P w=if b then (Op.eqFields (d+2) xs.toArray ys.toArray fs).run P w else .ok false w:=by
 have e:P.fieldsOf t=fs':=by unfold Program.fieldsOf;rw[hu]
 rw[Op.eqFields,if_pos hn]
 simp only[Sem.run_bind,hf,ho,Qdb hu rfl hs xs _ hp,Qdb hu rfl hs ys _ hq,Result.andThen_ok]
 rw[run_equalIn_struct w (d+1) t ps.toArray qs.toArray (by rw[e];exact hu) hst,e,hb]
 simp only[Result.andThen_ok]
 cases b<;>simp
theorem QsU:(Tryz.prog.info? 35).map (·.size)=some 480:=by kernel_rfl
set_option maxRecDepth 100000 in
theorem Qs1 (d:Nat) (x y:List UInt8) (hx:x.length=288) (hy:y.length=288) (w:World) {fs:Array Field} (hu:Tryz.prog.underlying 34=some (.struct fs)):
 (Op.eqFields (d+2) (x.map W8).toArray (y.map W8).toArray fs.toList).run Tryz.prog w= .ok (x==y) w:=by
 rw[Tryz.underlying34]at hu
 cases hu
 have l1:∀off n,off+n≤288→(subB x off n).length=n:=fun off n h=>Qal (by omega)
 have l2:∀off n,off+n≤288→(subB y off n).length=n:=fun off n h=>Qal (by omega)
 rw[Qbp (k:=0) rfl (by decide) rfl (Qa3 x 0 32) (Qa3 y 0 32) (l1 _ _ (by omega)) (l2 _ _ (by omega)),
  Qcu (k:=32) rfl Tryz.underlying31 Qlb Qbv Tryz.underlying5 (by decide) rfl (Qa3 x 32 16) (Qa3 y 32 16) (l1 _ _ (by omega)) (l2 _ _ (by omega)),
  Qcu (k:=48) rfl Tryz.underlying32 Qus Qbv Tryz.underlying5 (by decide) rfl (Qa3 x 48 240) (Qa3 y 48 240) (l1 _ _ (by omega)) (l2 _ _ (by omega)),Qcq]
 have h:(x==y)=(subB x 0 32==subB y 0 32&&(subB x 32 16==subB y 32 16&&subB x 48 240==subB y 48 240)):=by
  rw[QkG x y 48 240 (by omega) (by omega),QhN x y 32 16,QhN x y 0 32]
  rfl
 rw[h]
 cases subB x 0 32==subB y 0 32<;>cases subB x 32 16==subB y 32 16<;>cases subB x 48 240==subB y 48 240<;>rfl
abbrev Y768:={l:List UInt8 // l.length=768}
theorem Qt9:Tryz.prog.eqGuardType Tryz.prog.depth 37=false:=by kernel_rfl
@[go_sem high] theorem Qun (op:BinOp) (x y:Operand) (xs ys:Array Value) (w:World):(eqGuard op 37 x y (.agg xs) (.agg ys)).run Tryz.prog w= .ok () w:=run_eqGuard_agg w op _ x y xs ys Qt9
set_option maxRecDepth 100000 in
theorem Qgx (x y:List UInt8) (hx:x.length=768) (hy:y.length=768) (w:World) {fs:Array Field} (hu:Tryz.prog.underlying 37=some (.struct fs)):
 (Op.eqFields 9999 (x.map W8).toArray (y.map W8).toArray fs.toList).run Tryz.prog w= .ok (x==y) w:=by
 rw[Tryz.underlying37]at hu
 cases hu
 have l1:(subB x 0 288).length=288:=Qal (by omega)
 have l2:(subB y 0 288).length=288:=Qal (by omega)
 have l3:(subB x 288 480).length=480:=Qal (by omega)
 have l4:(subB y 288 480).length=480:=Qal (by omega)
 rw[QiV (d:=9997) (k:=0) rfl Tryz.underlying34 (by kernel_rfl) QeI (by decide) rfl (Qa3 x 0 288) (Qa3 y 0 288) _ w (Qs1 9996 _ _ l1 l2 w Tryz.underlying34),
  Qcu (d:=9997) (k:=288) rfl Tryz.underlying35 QsU Qbv Tryz.underlying5 (by decide) rfl (Qa3 x 288 480) (Qa3 y 288 480) l3 l4,Qcq]
 have h:(x==y)=(subB x 0 288==subB y 0 288&&subB x 288 480==subB y 288 480):=by
  rw[QkG x y 288 480 (by omega) (by omega),QhN x y 0 288]
  rfl
 rw[h]
 cases subB x 0 288==subB y 0 288<;>cases subB x 288 480==subB y 288 480<;>rfl
@[go_sem high] theorem Qur (x y:Y768) (w:World):(binOp .eql 37 (.agg (x.val.map W8).toArray) (.agg (y.val.map W8).toArray)).run Tryz.prog w= .ok (.bool (x.val==y.val)) w:=by
  rw[Qff Tryz.underlying37 (by kernel_rfl),Qgx _ _ x.2 y.2 w Tryz.underlying37]
  rfl
@[go_sem high] theorem QsR (x y:Y768) (w:World):(binOp .neq 37 (.agg (x.val.map W8).toArray) (.agg (y.val.map W8).toArray)).run Tryz.prog w= .ok (.bool (!(x.val==y.val))) w:=by
  rw[Qhf Tryz.underlying37 (by kernel_rfl),Qgx _ _ x.2 y.2 w Tryz.underlying37]
  rfl
section
variable {ops:Array Oper} {rest:List Oper} {o:Oper} {a:Act} {w:World} {Q:Exit→Act→World→Prop}
end
def Qgf (bs:List UInt8):Prop:=32≤bs.length∧bs.length≤4096
instance (bs:List UInt8):Decidable (Qgf bs):=by unfold Qgf;infer_instance
def okK (ks:List (List UInt8)):Prop:=∀p∈ks,p.length=32
instance (ks:List (List UInt8)):Decidable (okK ks):=by unfold okK;infer_instance
def QcR (rs:List Int) (ks:List (List UInt8)) (bs:List UInt8):List UInt8:=ks.foldl (fun b p=>Qcw p rs b) bs
theorem Qd0 (rs:List Int):∀(ks:List (List UInt8)) (bs:List UInt8),32≤bs.length→(QcR rs ks bs).length=bs.length
 | [],_,_=>rfl
 | p :: ks,bs,h=>by
   show (QcR rs ks (Qcw p rs bs)).length=_
   have:=Qcm p rs bs h
   rw[Qd0 rs ks _ (by omega),this]
theorem Qee (rs:List Int) (ks ks':List (List UInt8)) (bs:List UInt8):QcR rs (ks++ks') bs=QcR rs ks' (QcR rs ks bs):=by rw[QcR,List.foldl_append];rfl
theorem QhU (rs:List Int):∀(ks:List (List UInt8)) (bs:List UInt8),32≤bs.length→QcR rs.reverse ks.reverse (QcR rs ks bs)=bs
 | [],_,_=>rfl
 | p :: ks,bs,h=>by
   have hl:=Qcm p rs bs h
   rw[List.reverse_cons,Qee]
   show QcR rs.reverse [p] (QcR rs.reverse ks.reverse (QcR rs ks (Qcw p rs bs)))=bs
   rw[QhU rs ks _ (by omega)]
   exact QfH p rs bs h
theorem QhZ (rs:List Int) (ks:List (List UInt8)) (bs:List UInt8) (j:Nat) (h:j<ks.length):QcR rs (ks.take (j+1)) bs=Qcw (ks.getD j []) rs (QcR rs (ks.take j) bs):=by
 rw[QyQ h,Qee,Qys,Qyq h]
 rfl
def allE (ks:List (List UInt8)) (bs:List UInt8):Nat:=if Qgf bs∧okK ks then 0 else 2
def allB (rs:List Int) (ks:List (List UInt8)) (bs:List UInt8):List UInt8:=if Qgf bs∧okK ks then QcR rs ks bs else []
theorem QkD {rs:List Int} {ks:List (List UInt8)} {bs:List UInt8} (h: ¬(Qgf bs∧okK ks)):allB rs ks bs=[]∧allE ks bs=2:=⟨by rw[allB,if_neg h],by rw[allE,if_neg h]⟩
theorem QgZ {rs:List Int} {ks:List (List UInt8)} {bs:List UInt8} (h:Qgf bs∧okK ks):allB rs ks bs=QcR rs ks bs∧allE ks bs=0:=⟨by rw[allB,if_pos h],by rw[allE,if_pos h]⟩
theorem Qlg {rs:List Int} (hok:okR rs) {p X:List UInt8} (hp:p.length=32) (h1:32≤X.length) (h2:X.length≤4096):QdS p X rs=0∧QcE p X rs=Qcw p rs X:=⟨Qfk hok ⟨hp,h1,h2⟩,Qe8 hok ⟨hp,h1,h2⟩⟩
set_option maxRecDepth 100000 in
set_option maxHeartbeats 4000000 in
theorem Qqo (A B:Option Addr) (m d k e0:Nat) (ks:List (List UInt8)) (bs:List UInt8) (w:World) (hb:RdB w B m bs) (hd:m≤d) (hp:Parts w (fun _=>False) A k ks) (hm:m≤2097152) (hk:k≤2097152):
 Calls Tryz.prog 62 #[.func (.func 78) #[] #[],.slice B m d,.slice A k e0] w fun e w'=>Later w w'∧∃A' c',e= .returned (.tuple #[.slice A' (allB rsS ks bs).length c',.int .i64 (allE ks bs:Nat)])∧OwnB w' w.heap.size A' (allB rsS ks bs).length c' (allB rsS ks bs):=by
 have hbl:=hb.len
 have hkl:=hp.len
 have hbad:=hid (fun h=> @QkD rsS ks bs h)
 have hfit:=hid (fun h=> @QgZ rsS ks bs h)
 have hfB:=hid (QdL B m d)
 have hone:=hid (fun (A B:Option Addr) (c m d:Nat) (p X:List UInt8) (w:World) h1 hc h2 hd hm=>QnV A B 32 c m d p X w h1 hc h2 hd (by omega) hm)
 have hok:=hid (fun (p X:List UInt8) h h1 h2=> @Qlg rsS okS p X h h1 h2)
 have hFt:=hid (fun j h=>QhZ rsS ks bs j h)
 have hFl:=hid (fun ks h=>Qd0 rsS ks bs h)
 have hF0:=hid (show QcR rsS (ks.take 0) bs=bs from rfl)
 have hCj:=hid (fun A c w h=>QbO A 1 c [bs] w h (by omega) (by rw[QaW];omega))
 rw[QaW,hbl]at hCj
 generalize allB rsS ks bs=WB at *
 generalize allE ks bs=WE at *
 go_enter Tryz.func62,Tryz.ntmps62
 go_wp2_with fail
 (with_reducible refine (hfB.out _).mono ?_);rintro e w1 ⟨rfl,rfl⟩
 by_cases hf:32≤m∧m≤4096
 ·rw[decide_eq_true hf]
  go_wp2_with fail
  go_loopw [20] (fun i wr=>∃j:Nat,j≤k∧i= .int .i64 j∧wr=w1∧Hid (∀ t,t<j→(ks.getD t []).length=32)) (fun i _=>k-(intOf i).toNat)
  case atStart=>exact⟨0,by omega,rfl,rfl,hid (fun t h=>by omega)⟩
  case round=>
   obtain⟨j,hj,rfl,rfl,hall⟩:=hrel
   by_cases hlt:j<k
   ·obtain⟨b,o,Ak,nk,ck,rfl,hbb,hck,hcap,hrd,_⟩:=hp.at_ hlt
    have hlen:=hrd.len
    by_cases h32:nk=32
    ·have hS:Hid (∀ t,t<j+1→(ks.getD t []).length=32):=hid (fun t ht=>by
      by_cases e:t=j
      ·rw[e,hlen,h32]
      ·exact hall.out t (by omega))
     have hI:((nk:Int) != 32)=false:=by simp;omega
     clear hlen hrd hcap
     replace h32:=hid h32
     go_wp2_with fail
     go_roundw
     case rel=>exact⟨j+1,by omega,by go_num,trivial,hS⟩
     case measure=>simp[intOf];omega
    ·have hB:=hid (hbad.out (fun h=>h32 (by rw[←hlen];exact h.2 _ (QcV ks j (by omega)))))
     have hI:((nk:Int) != 32)=true:=by simp;omega
     go_wp2_with fail
     go_ret2
     refine⟨Later.refl _,none,0,?_,?_⟩
     ·rw[hB.out.1,hB.out.2];rfl
     ·rw[hB.out.1];exact Qdo _ _ _
   ·obtain rfl:k=j:=by omega
    have hF:=hid (hfit.out ⟨by rw[Qgf,hbl];exact hf,fun p hp'=>by
     obtain⟨t,ht⟩:=List.getElem?_of_mem hp'
     have htl:=(QyC.1 ht).1
     have:=hall.out t (by omega)
     rwa [Qys,ht]at this⟩)
    clear hbad hfit
    go_wp2_with fail
    have J2:=Qaa wr (.cells #[.slice B m d] 22)
    have hpp:=Qeq (Blk.new wr 22 [.slice B m d]) (Qcz (hb.later J2) hd)
    (with_reducible refine (hCj.out _ _ _ hpp).mono ?_);rintro e w3 ⟨A3,c3,rfl,hown3,j3⟩
    have L3:=J2.trans j3
    replace hown3:=hown3.mono J2.size
    go_wp2_with fail
    go_loopw [10,33] (fun v i wr'=>∃(j:Nat) (A':Option Addr) (c':Nat),j≤k∧i= .int .i64 j∧v= .slice A' m c'∧OwnB wr' wr.heap.size A' m c' (QcR rsS (ks.take j) bs)∧Later wr wr') (fun _ i _=>k-(intOf i).toNat)
    case atStart=>exact⟨0,A3,c3,by omega,rfl,rfl,by rw[hF0.out];exact hown3,L3⟩
    case round=>
     clear hown3 L3 hpp J2 j3
     rename_i _ _ wz
     obtain⟨j,A4,c4,hj,rfl,rfl,hown,L⟩:=hrel
     by_cases hlt:j<k
     ·obtain⟨b,o,Ak,nk,ck,rfl,hbb,hck,hcap,hrd,_⟩:=(hp.later L).at_ hlt
      have hlen:=hrd.len
      have h32:=hall.out j hlt
      rw[h32]at hlen
      subst hlen
      have HF:=hid (hFt.out j (by omega))
      have hXl:=hown.len
      generalize ks.getD j []=p at *
      generalize QcR rsS (ks.take j) bs=X at *
      have hk:=hid (hok.out p X h32 (by omega) (by omega))
      go_wp2_with fail
      (with_reducible refine (hone.out Ak A4 ck m c4 p X _ hrd hcap hown.rd hown.cap (by omega)).mono ?_);rintro e w5 ⟨j5,A5,c5,rfl,ho5⟩
      rw[hk.out.1,hk.out.2,←HF.out]
      rw[hk.out.2,←HF.out]at ho5
      have hl5:=hFl.out (ks.take (j+1)) (by omega)
      rw[hbl]at hl5
      rw[hl5]at ho5 ⊢
      go_wp2_with fail
      go_roundw
      case rel=>exact⟨j+1,A5,c5,by omega,by go_num,rfl,ho5.mono L.size,L.trans j5⟩
      case measure=>simp[intOf];omega
     ·obtain rfl:k=j:=by omega
      have eT:ks.take k=ks:=Qyx (by omega)
      have hl5:=hFl.out ks (by omega)
      rw[eT,←hF.out.1]at hown
      rw[←hF.out.1,hbl]at hl5
      have hWE:=hF.out.2
      go_wp2_with fail
      go_ret2
      exact⟨L,A4,c4,by rw[hl5,hWE];rfl,by rw[hl5];exact hown⟩
 ·rw[decide_eq_false hf]
  have hB:=hid (hbad.out (fun h=>hf (by rw[←hbl];exact h.1)))
  go_wp2_with fail
  go_ret2
  refine⟨Later.refl _,none,0,?_,?_⟩
  ·rw[hB.out.1,hB.out.2];rfl
  ·rw[hB.out.1];exact Qdo _ _ _
set_option maxRecDepth 100000 in
set_option maxHeartbeats 4000000 in
theorem Qrq (A B:Option Addr) (m d k e0:Nat) (ks:List (List UInt8)) (bs:List UInt8) (w:World) (hb:RdB w B m bs) (hd:m≤d) (hp:Parts w (fun _=>False) A k ks) (hm:m≤2097152) (hk:k≤2097152):
 Calls Tryz.prog 62 #[.func (.func 63) #[] #[],.slice B m d,.slice A k e0] w fun e w'=>Later w w'∧∃A' c',e= .returned (.tuple #[.slice A' (allB rsO ks bs).length c',.int .i64 (allE ks bs:Nat)])∧OwnB w' w.heap.size A' (allB rsO ks bs).length c' (allB rsO ks bs):=by
 have hbl:=hb.len
 have hkl:=hp.len
 have hbad:=hid (fun h=> @QkD rsO ks bs h)
 have hfit:=hid (fun h=> @QgZ rsO ks bs h)
 have hfB:=hid (QdL B m d)
 have hone:=hid (fun (A B:Option Addr) (c m d:Nat) (p X:List UInt8) (w:World) h1 hc h2 hd hm=>QoB A B 32 c m d p X w h1 hc h2 hd (by omega) hm)
 have hok:=hid (fun (p X:List UInt8) h h1 h2=> @Qlg rsO okO p X h h1 h2)
 have hFt:=hid (fun j h=>QhZ rsO ks bs j h)
 have hFl:=hid (fun ks h=>Qd0 rsO ks bs h)
 have hF0:=hid (show QcR rsO (ks.take 0) bs=bs from rfl)
 have hCj:=hid (fun A c w h=>QbO A 1 c [bs] w h (by omega) (by rw[QaW];omega))
 rw[QaW,hbl]at hCj
 generalize allB rsO ks bs=WB at *
 generalize allE ks bs=WE at *
 go_enter Tryz.func62,Tryz.ntmps62
 go_wp2_with fail
 (with_reducible refine (hfB.out _).mono ?_);rintro e w1 ⟨rfl,rfl⟩
 by_cases hf:32≤m∧m≤4096
 ·rw[decide_eq_true hf]
  go_wp2_with fail
  go_loopw [20] (fun i wr=>∃j:Nat,j≤k∧i= .int .i64 j∧wr=w1∧Hid (∀ t,t<j→(ks.getD t []).length=32)) (fun i _=>k-(intOf i).toNat)
  case atStart=>exact⟨0,by omega,rfl,rfl,hid (fun t h=>by omega)⟩
  case round=>
   obtain⟨j,hj,rfl,rfl,hall⟩:=hrel
   by_cases hlt:j<k
   ·obtain⟨b,o,Ak,nk,ck,rfl,hbb,hck,hcap,hrd,_⟩:=hp.at_ hlt
    have hlen:=hrd.len
    by_cases h32:nk=32
    ·have hS:Hid (∀ t,t<j+1→(ks.getD t []).length=32):=hid (fun t ht=>by
      by_cases e:t=j
      ·rw[e,hlen,h32]
      ·exact hall.out t (by omega))
     have hI:((nk:Int) != 32)=false:=by simp;omega
     clear hlen hrd hcap
     replace h32:=hid h32
     go_wp2_with fail
     go_roundw
     case rel=>exact⟨j+1,by omega,by go_num,trivial,hS⟩
     case measure=>simp[intOf];omega
    ·have hB:=hid (hbad.out (fun h=>h32 (by rw[←hlen];exact h.2 _ (QcV ks j (by omega)))))
     have hI:((nk:Int) != 32)=true:=by simp;omega
     go_wp2_with fail
     go_ret2
     refine⟨Later.refl _,none,0,?_,?_⟩
     ·rw[hB.out.1,hB.out.2];rfl
     ·rw[hB.out.1];exact Qdo _ _ _
   ·obtain rfl:k=j:=by omega
    have hF:=hid (hfit.out ⟨by rw[Qgf,hbl];exact hf,fun p hp'=>by
     obtain⟨t,ht⟩:=List.getElem?_of_mem hp'
     have htl:=(QyC.1 ht).1
     have:=hall.out t (by omega)
     rwa [Qys,ht]at this⟩)
    clear hbad hfit
    go_wp2_with fail
    have J2:=Qaa wr (.cells #[.slice B m d] 22)
    have hpp:=Qeq (Blk.new wr 22 [.slice B m d]) (Qcz (hb.later J2) hd)
    (with_reducible refine (hCj.out _ _ _ hpp).mono ?_);rintro e w3 ⟨A3,c3,rfl,hown3,j3⟩
    have L3:=J2.trans j3
    replace hown3:=hown3.mono J2.size
    go_wp2_with fail
    go_loopw [10,33] (fun v i wr'=>∃(j:Nat) (A':Option Addr) (c':Nat),j≤k∧i= .int .i64 j∧v= .slice A' m c'∧OwnB wr' wr.heap.size A' m c' (QcR rsO (ks.take j) bs)∧Later wr wr') (fun _ i _=>k-(intOf i).toNat)
    case atStart=>exact⟨0,A3,c3,by omega,rfl,rfl,by rw[hF0.out];exact hown3,L3⟩
    case round=>
     clear hown3 L3 hpp J2 j3
     rename_i _ _ wz
     obtain⟨j,A4,c4,hj,rfl,rfl,hown,L⟩:=hrel
     by_cases hlt:j<k
     ·obtain⟨b,o,Ak,nk,ck,rfl,hbb,hck,hcap,hrd,_⟩:=(hp.later L).at_ hlt
      have hlen:=hrd.len
      have h32:=hall.out j hlt
      rw[h32]at hlen
      subst hlen
      have HF:=hid (hFt.out j (by omega))
      have hXl:=hown.len
      generalize ks.getD j []=p at *
      generalize QcR rsO (ks.take j) bs=X at *
      have hk:=hid (hok.out p X h32 (by omega) (by omega))
      go_wp2_with fail
      (with_reducible refine (hone.out Ak A4 ck m c4 p X _ hrd hcap hown.rd hown.cap (by omega)).mono ?_);rintro e w5 ⟨j5,A5,c5,rfl,ho5⟩
      rw[hk.out.1,hk.out.2,←HF.out]
      rw[hk.out.2,←HF.out]at ho5
      have hl5:=hFl.out (ks.take (j+1)) (by omega)
      rw[hbl]at hl5
      rw[hl5]at ho5 ⊢
      go_wp2_with fail
      go_roundw
      case rel=>exact⟨j+1,A5,c5,by omega,by go_num,rfl,ho5.mono L.size,L.trans j5⟩
      case measure=>simp[intOf];omega
     ·obtain rfl:k=j:=by omega
      have eT:ks.take k=ks:=Qyx (by omega)
      have hl5:=hFl.out ks (by omega)
      rw[eT,←hF.out.1]at hown
      rw[←hF.out.1,hbl]at hl5
      have hWE:=hF.out.2
      go_wp2_with fail
      go_ret2
      exact⟨L,A4,c4,by rw[hl5,hWE];rfl,by rw[hl5];exact hown⟩
 ·rw[decide_eq_false hf]
  have hB:=hid (hbad.out (fun h=>hf (by rw[←hbl];exact h.1)))
  go_wp2_with fail
  go_ret2
  refine⟨Later.refl _,none,0,?_,?_⟩
  ·rw[hB.out.1,hB.out.2];rfl
  ·rw[hB.out.1];exact Qdo _ _ _
theorem QkP (A B:Option Addr) (m d k e0:Nat) (ks:List (List UInt8)) (bs:List UInt8) (w:World) (hb:RdB w B m bs) (hd:m≤d) (hp:Parts w (fun _=>False) A k ks) (hm:m≤2097152) (hk:k≤2097152):
 Calls Tryz.prog 91 #[.slice B m d,.slice A k e0] w fun e w'=>Later w w'∧∃A' c',e= .returned (.tuple #[.slice A' (allB rsS ks bs).length c',.int .i64 (allE ks bs:Nat)])∧OwnB w' w.heap.size A' (allB rsS ks bs).length c' (allB rsS ks bs):=by
 have h:=hid (Qqo A B m d k e0 ks bs w hb hd hp hm hk)
 generalize allB rsS ks bs=X at *
 generalize allE ks bs=E at *
 go_enter Tryz.func91,Tryz.ntmps91
 go_wp2_with fail
 (refine h.out.mono ?_);rintro e w1 ⟨j1,A1,c1,rfl,ho1⟩
 go_wp2_with fail
 go_ret2
 exact⟨j1,A1,c1,rfl,ho1⟩
theorem QkC (A B:Option Addr) (m d k e0:Nat) (ks:List (List UInt8)) (bs:List UInt8) (w:World) (hb:RdB w B m bs) (hd:m≤d) (hp:Parts w (fun _=>False) A k ks) (hm:m≤2097152) (hk:k≤2097152):
 Calls Tryz.prog 18 #[.slice B m d,.slice A k e0] w fun e w'=>Later w w'∧∃A' c',e= .returned (.tuple #[.slice A' (allB rsO ks bs).length c',.int .i64 (allE ks bs:Nat)])∧OwnB w' w.heap.size A' (allB rsO ks bs).length c' (allB rsO ks bs):=by
 have h:=hid (Qrq A B m d k e0 ks bs w hb hd hp hm hk)
 generalize allB rsO ks bs=X at *
 generalize allE ks bs=E at *
 go_enter Tryz.func18,Tryz.ntmps18
 go_wp2_with fail
 (refine h.out.mono ?_);rintro e w1 ⟨j1,A1,c1,rfl,ho1⟩
 go_wp2_with fail
 go_ret2
 exact⟨j1,A1,c1,rfl,ho1⟩
end Go.Proofs.YtdhgpkdjdmlphaaGreat
