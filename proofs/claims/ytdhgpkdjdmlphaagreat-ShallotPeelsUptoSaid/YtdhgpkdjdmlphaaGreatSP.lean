/-
  Lemmas for the last text of this claim (part 16 of 20).
-/
import Derived.ArgAppend
import Derived.BigQuiet
import Derived.BigRegion
import Derived.ChangeOld
import Derived.Deep.RegionWith
import Derived.DeepKeys4
import Derived.JoinedCond
import Derived.LaidMore
import Derived.Laws.BytesArg
import Derived.Laws.CopyOwn
import Derived.Laws.Externs
import Derived.Laws.IdiomStrings
import Derived.Laws.Tables
import Derived.Lib.AppendStr
import Derived.Lib.AppendZerosOnto
import Derived.Lib.Mul64
import Derived.Lib.SlBytesConst
import Derived.LoopN
import Derived.Maps.OwnSet
import Derived.OpenShut
import Derived.OrdersHeld
import Derived.ProofKit
import Derived.Shelf.Spec.BitsCarry
import Derived.ShutString
import Derived.Test.YtdhgpkdjdmlphaaGreatProg
import Derived.Test.YtdhgpkdjdmlphaaGreatRows
import Derived.WalkKit
import Derived.WalkLawsBesides
import Derived.WalkSpells
import Derived.Test.YtdhgpkdjdmlphaaGreatSB
import Derived.Test.YtdhgpkdjdmlphaaGreatSF
import Derived.Test.YtdhgpkdjdmlphaaGreatSL
import Derived.Test.YtdhgpkdjdmlphaaGreatSM
import Derived.Test.YtdhgpkdjdmlphaaGreatSN
import Derived.Test.YtdhgpkdjdmlphaaGreatSO
open List renaming replicate → QCC, getElem?_cons_succ → QCD, getElem?_cons_zero → QCE, length_map → QCG, getElem?_eq_getElem → QCH, nil_append → QCI, cons_append → QCJ, getD_eq_getElem?_getD → QCK, setIfInBounds_toArray → QCL, length_append → QCM, length_replicate → QCO, set_cons_zero → QCP, set_cons_succ → QCQ, getElem?_append_right → QCR, map_toArray → QCS, take_of_length_le → QCT, append_assoc → QCU, mem_cons → QCV, not_mem_nil → QCW, getElem?_eq_some_iff → QCX, getElem?_map → QCY, getElem?_append_left → QC0, map_nil → QC2, length_take → QC5, length_drop → QC7, take_append_drop → QC9, map_cons → QDa, set_append_right → QDe, append_nil → QDg, map_replicate → QDi, eq_nil_of_length_eq_zero → QDj, length_set → QDl, take_append_of_le_length → QDn, map_append → QDo, drop_left' → QDp, range → QDt, mem_map → QDu, drop_append_of_le_length → QDJ, drop_eq_getElem_cons → QDL, replicate_append_replicate → QDM, getElem?_drop → QDN, getElem_mem → QDS, flatten_cons → QDT, take_left' → QDV, getElem?_eq_none → QDW, drop_drop → QD5, replicate_succ → QD6, mem_append → QD7, drop_zero → QD8, drop_succ_cons → QEf, getElem?_take → QEl, drop_eq_nil_of_le → QEn, map_take → QEt, getElem?_range → QEC, mem_singleton → QEG, map_congr_left → QEM, flatten_nil → QEQ, take_zero → QET
open Nat renaming le_refl → QCN, mod_eq_of_lt → QC1, zero_add → QC6, le_trans → QDk, mul_comm → QDz, pow_succ → QDA, lt_or_ge → QDF, min_eq_left → QDG, le_mul_of_pos_right → QDK, sub_self → QD0, add_zero → QEm, add_sub_cancel_left → QEu, pow_zero → QES
open Option renaming toList_some → QCF
open UInt32 renaming ofNat → QDf, ofInt → QEk
open UInt64 renaming ofNat → QC4, toNat_ofNat' → QDb
open UInt8 renaming ofNat → QDc, ofInt → QDh, toNat_inj → QDr, toNat_ofNat' → QDH
set_option linter.all false
namespace Go.Proofs.YtdhgpkdjdmlphaaGreat
open Go.RowKit
open Go.BigFrame
section
variable {P:Program} {ops:Array Oper} {rest:List Oper} {o:Oper} {a:Act} {w:World} {Q:Exit→Act→World→Prop} {α:Type} {F:α→List Value} {sz:Nat} {d:α}
theorem Qe6 (hF:∀x,(F x).length=sz) (h0:0<sz) (hgd:o.guard=none) (s x:Operand) (t:TypeId) (ho:o.op= .call { callee:=.builtin .append,args:= #[s,x],argTypes:= #[t,t] })
 (e:TypeId) (z:Value) (bytes:Nat) (ht:P.underlying t=some (.slice e)) (hinfo:(P.info? e).map (fun i=>(i.zero,i.size,i.bytes))=some (some z,sz,bytes)) (hzs:z.cells.size=sz) (g:Nat)
 (A:Option Addr) (m c:Nat) (xs:List α) (hr:RdF F sz d w A m xs) (hs:a.eval s= .slice (some ⟨g,0,none⟩) 0 0) (hx:a.eval x= .slice A m c) (hsz:m*bytes≤140737488355328) (hby:0<bytes)
 (h:∀A' c' w',RdF F sz d w' A' m xs→Later w w'→wpList P ops Q rest (a.put o.dst (.slice A' m c')) w'):wpList P ops Q (o :: rest) a w:=by
 obtain⟨i,hi,hz,hsize,hbytes⟩:=info_parts hinfo
 have hm:m≤140737488355328:=QDk (QDK _ hby) hsz
 refine wpList_plain hgd fun K hK=>?_
 rcases Nat.eq_zero_or_pos m with hm0|hm0
 ·subst hm0
  have hrun:(Builtin.append_ #[t,t] o.type #[.slice (some ⟨g,0,none⟩) 0 0,.slice A 0 c]).run P w= .ok (.slice (some ⟨g,0,none⟩) 0 0) w:=by
   cases A<;>simp[Builtin.append_,run_underlying ht,sizeOf,typeInfo,hi,Builtin.lenOf,Builtin.firstCells,loadCells,loadCellsFrom,storeCells]
  unfold Oper.wp execOp
  simp only[ho,resolve,invoke,builtin,Sem.run_bind,Sem.run_pure,Result.andThen_ok,QCS,QDa,QC2,hs,hx,hrun]
  exact hK _ _ (h _ _ _ ⟨hr.1,fun h=>absurd h (by omega)⟩ (Later.refl w))
 ·obtain⟨b,o2,rfl,_,_⟩:=hr.2 hm0
  have hlen:(xs.flatMap F).length=m*sz:=by rw[Qb0 hF,hr.1]
  have hrun:=run_append_grow (P:=P) w t o.type e i z ht hi hz ⟨g,0,none⟩ 0 0 [] (by simp) (by simp) ⟨b,o2,none⟩ m c (xs.flatMap F) (by rw[hsize,hlen]) (hr.cells hF h0) (by omega) (by omega) (growslice_fits (by omega) (by rw[hbytes,QC6];exact hsz))
  have hge:=grownCap_ge w (0+m) 0 e
  have hcm:grownCap w (0+m) 0 e≤maxLen:=grownCap_le_maxLen w (0+m) 0 e (by unfold maxLen;omega)
  unfold Oper.wp execOp
  simp only[ho,resolve,invoke,builtin,Sem.run_bind,Sem.run_pure,Result.andThen_ok,QCS,QDa,QC2,hs,hx,hrun]
  generalize grownCap w (0+m) 0 e=cp at *
  rw[QC6]at *
  have hown:(w.drew.alloc (.cells (#[]++(xs.flatMap F).toArray++Builtin.zeroCells z.cells (cp-m)) e)).ownsRow w.heap.size e sz (.slice (some ⟨w.heap.size,0,none⟩) m cp) m (xs.flatMap F):=by
   refine⟨hlen,.inr ⟨w.heap.size,_,_,rfl,QCN _,heap_alloc_new w.drew _,hge,hcm,?_,?_⟩⟩
   ·simp only[Array.size_append,List.size_toArray,size_zeroCells,hzs,hlen]
    rw[Nat.sub_mul,List.length_nil]
    have:=Nat.mul_le_mul_right sz hge
    omega
   ·simp only[Array.toList_append,←hlen]
    rw[QCI,List.take_left]
  exact hK _ _ (h _ _ _ (QnV hF hown hr.1) ((Qab w).trans (Qaa w.drew _)))
end
end Go.Proofs.YtdhgpkdjdmlphaaGreat
namespace Go.Proofs.YtdhgpkdjdmlphaaGreat
open Go.RowKit
structure Hp where
 nod:Nod
 delay:Int
 flags:Int
def hp0:Hp:=⟨nod0,0,0⟩
def HC (x:Hp):List Value:=NC x.nod++[.int .i64 x.delay,.int .i64 x.flags]
theorem Qa6 (x:Hp):(HC x).length=68:=by rw[HC,QCM,Qaw];rfl
theorem QoT (x:Hp):∀u∈HC x,u.oneCell'=true:=by
 intro u hu
 rw[HC]at hu
 rcases QD7.1 hu with h|h
 ·exact QzE _ u h
 ·simp only[QCV,QCW,or_false]at h
  rcases h with rfl|rfl<;>rfl
abbrev RdH:World→Option Addr→Nat→List Hp→Prop:=RdF HC 68 hp0
theorem Qin (x:Hp) {i:Nat} {v:Value} (h:(NC x.nod)[i]?=some v):(HC x)[i]?=some v:=by
 rw[HC,QC0 (QCX.1 h).1]
 exact h
theorem Qgj (x:Hp):(HC x)[66]?=some (.int .i64 x.delay):=by
 rw[HC,QCR (by rw[Qaw];omega),Qaw]
 rfl
theorem QgG (x:Hp):(HC x)[67]?=some (.int .i64 x.flags):=by
 rw[HC,QCR (by rw[Qaw];omega),Qaw]
 rfl
end Go.Proofs.YtdhgpkdjdmlphaaGreat
namespace Go.Proofs.YtdhgpkdjdmlphaaGreat
open Go.RowKit
open Go.BigFrame
structure Stp where
 nm:ByteArray
 delay:Int
 flags:Int
theorem QB7:(Tryz.prog.info? 147).map (fun i=>(i.zero,i.size,i.bytes))=some (some (.agg (HC hp0).toArray),68,104):=by kernel_rfl
theorem Qwq:(Tryz.prog.info? 76).map (fun i=>(i.zero,i.size,i.bytes))=some (some (.agg (HC hp0).toArray),68,104):=by kernel_rfl
theorem QBt:(Tryz.prog.info? 147).bind (·.zero)=some (.agg (HC hp0).toArray):=by kernel_rfl
section
variable {ops:Array Oper} {rest:List Oper} {o:Oper} {a:Act} {w:World} {Q:Exit→Act→World→Prop}
end
theorem QfT (p q r v:List Value) (k:Nat) (hk:p.length=k) (h:q.length=v.length):Qao (p++q++r) k v=p++v++r:=by
 subst hk
 rw[Qao,show p.length+v.length=(p++q).length by rw[QCM,h],QDp rfl,QCU p q r,QDV rfl]
theorem Qy0 (x:Nod) (d f:Int):Qao (Qao (Qao (HC hp0) 0 (NC x)) 66 [.int .i64 d]) 67 [.int .i64 f]=HC ⟨x,d,f⟩:=by
 have h1:Qao (HC hp0) 0 (NC x)=NC x++[.int .i64 0]++[.int .i64 0]:=by
  have:=QfT [] (NC nod0) [.int .i64 0,.int .i64 0] (NC x) 0 rfl (by rw[Qaw,Qaw])
  rw[QCI,QCI]at this
  rw[QCU]
  exact this
 have h2:=QfT (NC x) [.int .i64 0] [.int .i64 0] [.int .i64 d] 66 (Qaw x) rfl
 have h3:=QfT (NC x++[.int .i64 d]) [.int .i64 0] [] [.int .i64 f] 67 (by rw[QCM,Qaw];rfl) rfl
 rw[QDg,QDg]at h3
 rw[h1,h2,h3,HC,QCU]
 rfl
theorem Qre (x:Nod) (d f:Int):Tryz.prog.built 147 [(0,.agg (NC x).toArray),(1,.int .i64 d),(2,.int .i64 f)]=some (HC ⟨x,d,f⟩).toArray:=by
 rw[Qa7 (pl:=[(0,66),(66,1),(67,1)]) Tryz.underlying147 QBt (by kernel_rfl),Qbk (vs:=NC x) (off:=0) rfl (by rw[Qaw];rfl) (by rw[Qaw,Qa6];omega),
  Qbk (vs:=[.int .i64 d]) (off:=66) rfl rfl (by rw[Qb7 _ _ _ (by rw[Qaw,Qa6];omega),Qa6];simp),Qbk (vs:=[.int .i64 f]) (off:=67) rfl rfl (by rw[Qb7 _ _ _ (by rw[Qb7 _ _ _ (by rw[Qaw,Qa6];omega),Qa6];simp),Qb7 _ _ _ (by rw[Qaw,Qa6];omega),Qa6];simp),Qct,Qy0]
def S32 (b:Nat):Value:=.slice (some ⟨b,0,none⟩) 32 32
theorem QtH (gs:List Nat) (k b:Nat) (hg:gs.length=k) (n:Nat) (hk:k<n) (z:Value):(gs.map S32++QCC (n-k) z).set k (S32 b)=(gs++[b]).map S32++QCC (n-(k+1)) z:=by
 have hl:(gs.map S32).length=k:=by rw[QCG,hg]
 rw[QDe _ _ (by omega),hl,QD0,show n-k=n-(k+1)+1 by omega,QD6,QCP,QDo,QCU]
 rfl
set_option maxRecDepth 100000 in
set_option maxHeartbeats 2000000 in
theorem Qk9 (A:Option Addr) (n c:Nat) (xs:List Hp) (w:World) (hx:RdH w A n xs) (hn:n≤1099511627776):
 Calls Tryz.prog 16 #[.slice A n c] w fun e w'=>∃(g:Nat) (gs:List Nat),e= .returned (.slice (some ⟨g,0,none⟩) n n)∧w.heap.size≤g∧Blk w' g 22 (gs.map S32)∧gs.length=n∧(∀ (j b:Nat),gs[j]?=some b→g<b∧Blk w' b 5 ((xs.getD j hp0).nod.pub.val.map W8))∧gs.Pairwise (· <·)∧Later w w':=by
 have hxl:=hx.1
 go_enter Tryz.func16,Tryz.ntmps16
 go_wp2_with (first
  | (refine Qax rfl _ _ 48 rfl 22 (.slice none 0 0) 24 Tryz.underlying48 Qq7 rfl _ _ _ _ n rfl rfl rfl rfl (by omega) (by omega) ?_;intro w1 hb1 hl1)
  | fail)
 have hgl:w.heap.size≤w.heap.size:=QCN _
 generalize hge:w.heap.size=g at hb1 ⊢
 replace hgl:w.heap.size≤g:=Nat.le_of_eq hge
 clear hge
 go_loopw [10] (fun i wr=>∃(k:Nat) (gs:List Nat),i= .int .i64 k∧k≤n∧gs.length=k∧Blk wr g 22 (gs.map S32++QCC (n-k) (.slice none 0 0))∧Hid (∀ (j b:Nat),gs[j]?=some b→g<b∧b<wr.heap.size∧Blk wr b 5 ((xs.getD j hp0).nod.pub.val.map W8))∧Hid (gs.Pairwise (· <·))∧Later w wr) (fun i _=>n-(intOf i).toNat)
 case atStart=>exact⟨0,[],rfl,by omega,rfl,hb1,hid (fun j b h=>by simp at h),hid List.Pairwise.nil,hl1⟩
 case round=>
  clear hb1 hl1
  obtain⟨k,gs,rfl,hk,hgs,hb,hall,hpw,L⟩:=hrel
  by_cases hlt:k<n
  ·obtain⟨b,o,rfl,hbb,hc⟩:=(hx.later L).at_ hlt
   have hcn:∀i v,(NC (xs.getD k hp0).nod)[i]?=some v→wr.cell? ⟨b,o+k*68+i,none⟩=some v:=fun i v hv=>hc i v (Qin _ hv)
   have hlast:=hid (show ∀b':Nat,(gs++[b'])[k]?=some b' from fun b'=>by rw[QCR (by omega),hgs,QD0];rfl)
   generalize hz:xs.getD k hp0=z at hcn
   have hzz:=hid hz
   clear hz hc
   have hgw:g<wr.heap.size:=hb.lt
   go_wp2_with (first
    | (refine QjV rfl _ rfl hcn rfl ?_)
    | fail)
   (with_reducible refine (Qi1 z.nod _).mono ?_);rintro e w2 ⟨g2,rfl,hg2,hp2,l2⟩
   replace hb:=hb.later l2
   have hlen:(gs.map S32++QCC (n-k) (Value.slice none 0 0)).length=n:=by simp;omega
   go_wp2_with (first
    | (refine Qad rfl rfl _ _ _ rfl g k _ _ hb rfl ?hl rfl (by kernel_rfl) ?_;(case hl=>rw[hlen];exact hlt);intro v w3 hv hb3 ho3;have hv':v=S32 g2:=hv.symm;subst hv';rw[QtH gs k g2 hgs n hlt]at hb3)
    | fail)
   refine⟨⟨k+1,gs++[g2],rfl,by omega,by rw[QCM,hgs];rfl,hb3,?_,?_,(L.trans l2).only ho3 hgl⟩,by simp[intOf];omega⟩
   ·refine hid fun j b' h=>?_
    rcases QDF j k with hj|hj
    ·rw[QC0 (by omega)]at h
     obtain⟨h1,h2,h3⟩:=hall.out j b' h
     have h4:=(h3.later l2).only ho3 (by omega)
     exact⟨h1,h4.lt,h4⟩
    ·have hjk:j=k:=by
      have:=(QCX.1 h).1
      rw[QCM,hgs]at this
      simp at this
      omega
     subst hjk
     rw[hlast.out g2]at h
     obtain rfl:g2=b':=by simpa using h
     have h4:=hp2.only ho3 (by omega)
     rw[hzz.out]
     exact⟨by omega,h4.lt,h4⟩
   ·refine hid (List.pairwise_append.2 ⟨hpw.out,List.pairwise_singleton _ _,fun a ha b' hb'=>?_⟩)
    obtain rfl:b'=g2:=by simpa using hb'
    obtain⟨j,hj⟩:=List.getElem?_of_mem ha
    have:=(hall.out j a hj).2.1
    omega
  ·obtain rfl:k=n:=by omega
   rw[QD0,List.replicate_zero,QDg]at hb
   go_wp2
   go_ret
   exact⟨g,gs,rfl,hgl,hb,hgs,fun j b h=>⟨(hall.out j b h).1,(hall.out j b h).2.2⟩,hpw.out,L⟩
theorem Qss {α:Type} {F:α→List Value} {sz:Nat} {d:α} {w:World} {A:Option Addr} {n m:Nat} {xs:List α} (h:RdF F sz d w A n xs) (hm:m≤n):RdF F sz d w A m (xs.take m):=by
 refine⟨by rw[QC5,h.1];omega,fun h0=>?_⟩
 obtain⟨b,o,hA,hb,hc⟩:=h.2 (by omega)
 refine⟨b,o,hA,hb,fun j i v hj hv=>hc j i v (by omega) ?_⟩
 rw[QCK,QEl,if_pos hj]at hv
 rw[QCK]
 exact hv
def byS (xs:List UInt8):ByteArray:=⟨xs.toArray⟩
theorem QjQ (xs:List UInt8):(byS xs).toList=xs:=by rw[ByteArray.toList_eq];rfl
theorem Qzk (xs ys:List UInt8):((byS xs).toList==(byS ys).toList)=decide (xs=ys):=by
 rw[QjQ,QjQ]
 by_cases h:xs=ys
 ·subst h
  simp
 ·rw[decide_eq_false h,beq_eq_false_iff_ne]
  exact h
theorem Qr5 {P:Program} {w:World} {A:Option Addr} {n:Nat} {xs:List UInt8} (h:RdB w A n xs) (src e:TypeId) (hs:P.underlying src=some (.slice e)) (he:P.underlying e=some (.int .u8)) (dst:TypeId) (hd:P.underlying dst=some .string) (c:Nat):
 (convert src dst (.slice A n c)).run P w= .ok (.string (byS xs)) w:=by
 have hl:=h.len
 by_cases h0:0<n
 ·obtain⟨b,o,rfl,hb,hc⟩:=h.2 h0
  have:=run_convert_bytes_arg w src e hs he b o n c (xs.map fun x=>(x.toNat:Int)) (by rw[QCG,hl]) (fun i hi=>by
   have hx:xs[i]?=some (xs[i]'(by omega)):=QCH _
   have:=hc i (W8 (xs[i]'(by omega))) (by rw[QCY,hx];rfl)
   rw[this,QCK,QCY,hx]
   rfl) dst hd
  rw[this]
  congr 2
  rw[strOfNums,byS,List.map_map]
  congr 2
  conv=>rhs;rw[←List.map_id xs]
  refine QEM fun x _=>?_
  simp
 ·obtain rfl:n=0:=by omega
  obtain rfl:xs=[]:=QDj hl
  cases A with
  | none=>exact run_convert_bytes_nil w src e hs he 0 c dst hd
  | some a=>
    rw[run_convert_bytes_string w src dst e _ 0 c hs he hd,run_bytesToString w a 0 c [] (by simp[loadCells,loadCellsFrom])]
    rfl
theorem Qru (A B:Option Addr) (n m c d:Nat) (xs ys:List UInt8) (w:World) (hx:RdB w A n xs) (hy:RdB w B m ys):
 Calls Tryz.prog 21 #[.slice A n c,.slice B m d] w fun e w'=>e= .returned (.bool (decide (xs=ys)))∧w'=w:=by
 have h1:=Qr5 hx 22 5 Tryz.underlying22 Tryz.underlying5 9 Tryz.underlying9 c
 have h2:=Qr5 hy 22 5 Tryz.underlying22 Tryz.underlying5 9 Tryz.underlying9 d
 have hE:=hid (Qzk xs ys)
 generalize decide (xs=ys)=R at *
 generalize byS xs=S at *
 generalize byS ys=T at *
 go_enter Tryz.func21,Tryz.ntmps21
 go_wp2_with fail
 go_ret
 exact⟨by rw[←hE.out];rfl,rfl⟩
set_option maxRecDepth 100000 in
set_option maxHeartbeats 4000000 in
theorem Quo (A:Option Addr) (n c:Nat) (hs:List Hp) (w:World) (hh:RdH w A n hs) (hn:n≤1048576) (hnc:n≤c):
 Calls Tryz.prog 9 #[.slice A n c,.int .i64 4] w fun e w'=>∃A' c',e= .returned (.slice A' (min n 4) c')∧RdH w' A' (min n 4) (hs.take 4)∧Later w w':=by
 have hl:=hh.1
 by_cases h:4<n
 ·have hm:min n 4=4:=by omega
  have hd:decide ((4:Int)<(n:Int))=true:=decide_eq_true (by omega)
  have hr:=Qss hh (m:=4) (by omega)
  rw[hm]
  go_enter Tryz.func9,Tryz.ntmps9
  go_wp2_with (first
   | (refine Qe6 (F:=HC) (d:=hp0) Qa6 (by omega) rfl _ _ _ rfl 76 _ 104 Tryz.underlying26 Qwq rfl w.heap.size A 4 c _ (hr.later (Qaa _ _)) rfl rfl (by omega) (by omega) ?_;intro A1 c1 w1 h1 l1)
   | fail)
  go_ret
  exact⟨A1,c1,rfl,h1,(Qaa _ _).trans l1⟩
 ·have hm:min n 4=n:=by omega
  have hd:decide ((4:Int)<(n:Int))=false:=decide_eq_false (by omega)
  rw[hm,QCT (by omega)]
  go_enter Tryz.func9,Tryz.ntmps9
  go_wp2_with (first
   | (refine Qe6 (F:=HC) (d:=hp0) Qa6 (by omega) rfl _ _ _ rfl 76 _ 104 Tryz.underlying26 Qwq rfl w.heap.size A n c _ (hh.later (Qaa _ _)) rfl rfl (by omega) (by omega) ?_;intro A1 c1 w1 h1 l1)
   | fail)
  go_ret
  exact⟨A1,c1,rfl,h1,(Qaa _ _).trans l1⟩
def kMac (s:List UInt8):List UInt8:=subB s 0 32
def kStr (s:List UInt8):List UInt8:=subB s 32 32
def kPay (s:List UInt8):List UInt8:=subB s 64 32
def kBli (s:List UInt8):List UInt8:=subB s 96 32
def kAlp (s:List UInt8):List UInt8:=subB s 128 32
def kSec (s:List UInt8):List UInt8:=subB s 160 32
def tagB (key al be:List UInt8):List UInt8:=(QbH key (al++be)).take 16
def QlA (h s:List UInt8):Bool:=decide (tagB (kMac s) (subB h 0 32) (subB h 48 240)=subB h 32 16)
def Qcv (h s:List UInt8):List UInt8:=xorB (subB h 48 240++QCC 48 0) (chaS (kStr s) 288)
def Qi4 (s:List UInt8):List UInt8:=Qbj (kBli s) (kAlp s)
def QmH (s:List UInt8):Nat:=Qa2 (kBli s) (kAlp s)
def Qhz (h s:List UInt8):Nat:=if QlA h s=false then 6 else if decE ((Qcv h s).take 32)≠0 then 3 else if (decC ((Qcv h s).take 32)).kd=1 then QmH s else 0
def Qkn (h s:List UInt8):Cmd:=if Qhz h s=0 then decC ((Qcv h s).take 32) else cmd0
def QiY (h s:List UInt8):List UInt8:=if Qhz h s=0∧(decC ((Qcv h s).take 32)).kd=1 then Qi4 s++(Qcv h s).drop 32 else QCC 288 0
theorem Qgu (h s:List UInt8) (hl:h.length=288):(Qcv h s).length=288:=by
 have h1:(subB h 48 240).length=240:=Qam (by omega)
 rw[Qcv,Qa0 (by simp[h1,QaA]),QaA]
theorem Qho (h s:List UInt8) (hl:h.length=288):(QiY h s).length=288:=by
 unfold QiY
 split
 ·rw[QCM,QC7,Qgu h s hl,Qi4,QaV]
 ·rw[QCO]
def relE (s p:List UInt8):Nat:=Qhz (p.take 288) s
def relC (s p:List UInt8):Cmd:=Qkn (p.take 288) s
def Qdq (s p:List UInt8):List UInt8:=Qc2 (kPay s) (p.drop 288) rsO
def relP (s p:List UInt8):List UInt8:=if relE s p=0∧(relC s p).kd=1 then QiY (p.take 288) s++Qdq s p else QCC 768 0
def relB (s p:List UInt8):List UInt8:=if relE s p=0∧(relC s p).kd≠1 then Qdq s p else []
def unwE (k p:List UInt8):Nat:=if Qa2 k (p.take 32)=0 then relE (Qb2 k (p.take 32)) p else Qa2 k (p.take 32)
def unwC (k p:List UInt8):Cmd:=if Qa2 k (p.take 32)=0 then relC (Qb2 k (p.take 32)) p else cmd0
def unwP (k p:List UInt8):List UInt8:=if Qa2 k (p.take 32)=0 then relP (Qb2 k (p.take 32)) p else QCC 768 0
def unwB (k p:List UInt8):List UInt8:=if Qa2 k (p.take 32)=0 then relB (Qb2 k (p.take 32)) p else []
theorem Qbl {P:Program} {fn:Func} {p q u:Tmp} {ty ty2:TypeId} (h:fn.results= #[.cell p ty,.cell q ty2,.tmp u]) (tmps:Array Value) (w:World) (g g2:Nat) (t t2:TypeId) (l l2:List Value) (d d2:TypeDesc)
 (hg:Blk w g t l) (hp:tmps.getD p undef= .pointer (some ⟨g,0,none⟩)) (hu:P.underlying ty=some d) (hd:QbI d=true) (hi:(P.info? ty).map (·.size)=some l.length)
 (hg2:Blk w g2 t2 l2) (hp2:tmps.getD q undef= .pointer (some ⟨g2,0,none⟩)) (hu2:P.underlying ty2=some d2) (hd2:QbI d2=true) (hi2:(P.info? ty2).map (·.size)=some l2.length):
 (results fn tmps).run P w= .ok (.tuple #[.agg l.toArray,.agg l2.toArray,tmps.getD u undef]) w:=by
 have h1:=Qbo (P:=P) w g 0 ty l d (fun j v hv=>by rw[QC6];exact hg.cellD j hv) hu hd hi
 have h2:=Qbo (P:=P) w g2 0 ty2 l2 d2 (fun j v hv=>by rw[QC6];exact hg2.cellD j hv) hu2 hd2 hi2
 have hp':tmps[p]?.getD undef= .pointer (some ⟨g,0,none⟩):=by simpa using hp
 have hq':tmps[q]?.getD undef= .pointer (some ⟨g2,0,none⟩):=by simpa using hp2
 simp[results,h,Sem.run_bind,Result.andThen,hp',hq',asAddr,h1,h2]
theorem QlY (h:List UInt8) (hl:h.length=288):[subB h 0 32,subB h 32 16,subB h 48 240].flatten=h:=by
 rw[subB,subB,subB,QDT,QDT,QDT,QEQ,QDg,QD8,QCT (l:=h.drop 48) (by rw[QC7];omega),show h.drop 48=(h.drop 32).drop 16 by rw[QD5],QC9,QC9]
set_option maxRecDepth 100000 in
set_option maxHeartbeats 2000000 in
theorem Qqa (h:List UInt8) (hl:h.length=288) (w:World):
 Calls Tryz.prog 54 #[.agg (h.map W8).toArray] w fun e w'=>∃A' c',e= .returned (.slice A' 288 c')∧OwnB w' w.heap.size A' 288 c' h∧Later w w':=by
 have hb:=Blk.new w 34 (h.map W8)
 have hJ:=hid (fun B d (w:World) hp=>QcW B 3 d [subB h 0 32,subB h 32 16,subB h 48 240] w hp (by omega) (by rw[QlY h hl];omega))
 rw[QlY h hl,hl]at hJ
 have s0:(subB h 0 32).length=32:=Qam (by omega)
 have s1:(subB h 32 16).length=16:=Qam (by omega)
 have s2:(subB h 48 240).length=240:=Qam (by omega)
 have L:=Qaa w (.cells (h.map W8).toArray 34)
 go_enter Tryz.func54,Tryz.ntmps54
 go_wp2_with fail
 refine Qag [([0,1,2,3,4,5],6),([],7)] [8] [] (by as_aux_lemma=>kernel_rfl) (by as_aux_lemma=>kernel_rfl) (by intro _ _ d _ _ h;cases d<;>exact h) ?_
 simp only[Qai,pick,QCD,QCE,QCF,QCJ,QCI]
 repeat (go_big_quiet_step (fail))
 refine wpQuiet_nil ?_
 go_wp2_with fail
 try refine⟨by first|assumption|exact Qab _|exact Qaa _ _|exact Later.refl _,?_⟩
 try simp only[Qai,pick,QCD,QCE,QCF,QCJ,QCI]
 repeat (go_big_quiet_step (fail))
 refine wpQuiet_nil ?_
 have l2:=(Qab (w.alloc (.cells (h.map W8).toArray 34))).trans (Qaa _ (.cells #[.slice (some ⟨w.heap.size,0,none⟩) 32 32,.slice (some ⟨w.heap.size,32,none⟩) 16 16,.slice (some ⟨w.heap.size,48,none⟩) 240 240] 22))
 have hb2:=hb.later l2
 have P3:=Qfk (bad:=fun _=>False) (ps:=[subB h 0 32,subB h 32 16,subB h 48 240]) ((Blk.new' (n:=w.heap.size+1) (w.alloc (.cells (h.map W8).toArray 34)).drew 22 [.slice (some ⟨w.heap.size,0,none⟩) 32 32,.slice (some ⟨w.heap.size,32,none⟩) 16 16,.slice (some ⟨w.heap.size,48,none⟩) 240 240] (by simp)).rd rfl) (QbO _ _) ⟨QaX (QbK hb2 rfl s0) (QCN _),QaX (QbK hb2 rfl s1) (QCN _),QaX (QbK hb2 rfl s2) (QCN _),trivial⟩
 go_wp2_with fail
 (with_reducible refine (hJ.out _ _ _ P3).mono ?_);rintro e w3 ⟨A3,c3,rfl,o3,l3⟩
 go_wp2_with fail
 try refine⟨by first|assumption|exact Qab _|exact Qaa _ _|exact Later.refl _,?_⟩
 try simp only[Qai,pick,QCD,QCE,QCF,QCJ,QCI]
 repeat (go_big_quiet_step (fail))
 refine wpQuiet_nil ?_
 go_wp2_with fail
 go_ret
 exact⟨_,_,rfl,o3.mono (L.trans l2).size,(L.trans l2).trans l3⟩
set_option maxRecDepth 100000 in
set_option maxHeartbeats 2000000 in
theorem Qs8 (h s:List UInt8) (hl:h.length=288) (hs:s.length=192) (w:World):
 Calls Tryz.prog 17 #[.agg (h.map W8).toArray,.agg (s.map W8).toArray] w fun e w'=>e= .returned (.bool (QlA h s))∧Later w w':=by
 have C1:=Qba w 34 (h.map W8)
 have C2:Bag w ((w.alloc (.cells (h.map W8).toArray 34)).alloc (.cells (s.map W8).toArray 53)) [(w.heap.size+1,53,s.map W8),(w.heap.size,34,h.map W8)]:=
  C1.add (Qaa _ _) (by simp) (by omega) (Blk.new' _ _ _ (by simp))
 clear C1
 have s0:(subB h 0 32).length=32:=Qam (by omega)
 have s1:(subB h 32 16).length=16:=Qam (by omega)
 have s2:(subB h 48 240).length=240:=Qam (by omega)
 have k0:(kMac s).length=32:=Qam (by omega)
 have hC:=hid (fun A B C d e0 (w:World) h1 h2 h3=>Qsn A B C 32 32 2 d 16 e0 (kMac s) (subB h 32 16) [subB h 0 32,subB h 48 240] w h1 (by omega) (by omega) h2 (by omega) h3 (by omega) (by simp[s0,s2]))
 have hF:=hid (show QlA h s=decide ((QbH (kMac s) [subB h 0 32,subB h 48 240].flatten).take 16=subB h 32 16) by
  rw[QlA,tagB,QDT,QDT,QEQ,QDg])
 go_enter Tryz.func17,Tryz.ntmps17
 go_wp2_with fail
 generalize hW:(w.alloc _).alloc _=w1
 replace C2:Bag w w1 [(w.heap.size+1,53,s.map W8),(w.heap.size,34,h.map W8)]:=by rw[←hW];exact C2
 clear hW
 refine Qag [([0,1,2,3,4,5,6,7,8],9),([],10)] [11] [] (by as_aux_lemma=>kernel_rfl) (by as_aux_lemma=>kernel_rfl) (by intro _ _ d _ _ h;cases d<;>exact h) ?_
 simp only[Qai,pick,QCD,QCE,QCF,QCJ,QCI]
 repeat (go_big_quiet_step (fail))
 refine wpQuiet_nil ?_
 go_wp2_with fail
 try refine⟨by first|assumption|exact Qab _|exact Qaa _ _|exact Later.refl _,?_⟩
 try simp only[Qai,pick,QCD,QCE,QCF,QCJ,QCI]
 repeat (go_big_quiet_step (fail))
 refine wpQuiet_nil ?_
 have l2:=(Qab w1).trans (Qaa _ (.cells #[.slice (some ⟨w.heap.size,0,none⟩) 32 32,.slice (some ⟨w.heap.size,48,none⟩) 240 240] 22))
 have B2:=C2.later l2
 have P3:=Qfk (bad:=fun _=>False) (ps:=[subB h 0 32,subB h 48 240]) ((Blk.new w1.drew 22 [.slice (some ⟨w.heap.size,0,none⟩) 32 32,.slice (some ⟨w.heap.size,48,none⟩) 240 240]).rd rfl) (QbO _ _) ⟨QaX (QbK (B2.nth 1 rfl) rfl s0) (QCN _),QaX (QbK (B2.nth 1 rfl) rfl s2) (QCN _),trivial⟩
 go_wp2_with fail
 (refine (hC.out _ _ _ _ _ _ (QbK (B2.nth 0 rfl) rfl k0) (QbK (B2.nth 1 rfl) rfl s1) P3).mono ?_);rintro e w3 ⟨rfl,l3⟩
 rw[←hF.out]
 go_wp2_with fail
 try refine⟨by first|assumption|exact Qab _|exact Qaa _ _|exact Later.refl _,?_⟩
 try simp only[Qai,pick,QCD,QCE,QCF,QCJ,QCI]
 repeat (go_big_quiet_step (fail))
 refine wpQuiet_nil ?_
 go_wp2_with fail
 go_ret
 exact⟨rfl,B2.lat.trans l3⟩
abbrev cz0:List Value:=[.int .u8 0,.int .u8 0,.int .u32 0,.int .u64 0,.int .u8 0,.int .u8 0,.int .u8 0,.int .u8 0,.int .u8 0,.int .u8 0,.int .u8 0,.int .u8 0,.int .u8 0,.int .u8 0,.int .u8 0,.int .u8 0,.int .u8 0,.int .u8 0,.int .u8 0,.int .u8 0]
theorem Qde {w:World} {b p n:Nat} {bs:List UInt8} (h:RdB w (some ⟨b,p,none⟩) n bs) (i:Nat) (hi:i<n):w.cell? ⟨b,p+i,none⟩=some (W8 (bs.getD i 0)):=by
 obtain⟨b',o',he,_,hc⟩:=h.2 (by omega)
 have hl:=h.len
 cases he
 exact hc i _ (by rw[QCY,QCK,QCH (by omega)];rfl)
theorem Qp4 (b:List UInt8) (hb:b.length=32) (d:UInt32) (x:UInt64) (hd:d=(QfQ b).dl) (hx:x=(QfQ b).nx):
 Qao (((CC ⟨b.getD 0 0,b.getD 1 0,0,0,QbE⟩).set 2 (W32 d)).set 3 (W64 x)) 4 (((b.drop 14).map W8).take 16)=CC (QfQ b):=by
 subst hd hx
 have hm:=Qj0 b hb
 have hml:((b.drop 14).map W8).take 16=(subB b 14 16).map W8:=by rw[←QEt];rfl
 have hl:=Qam (bs:=b) (off:=14) (n:=16) (by omega)
 rw[hml,Qao,QCG,hl,QEn (by rw[QDl,QDl,Qan];omega),QDg,CC,CC,hm]
 rfl
theorem QqE (b:List UInt8):decE b=if (!(cmdE (QfQ b)==1)&&(!(b.getD 30 0==0)|| !(b.getD 31 0==0)))=true then 3 else cmdE (QfQ b):=by
 rw[decE]
 congr 1
 simp
theorem Qqm (c:Cmd):cmdE c=0∨cmdE c=1∨cmdE c=3∨cmdE c=11:=by
 unfold cmdE
 split
 ·simp
 ·split
  ·simp
  ·split<;>simp
set_option maxRecDepth 100000 in
set_option maxHeartbeats 8000000 in
theorem QnG (A:Option Addr) (c:Nat) (b:List UInt8) (w:World) (hb:RdB w A 32 b) (hc:32≤c):
 Calls Tryz.prog 134 #[.slice A 32 c] w fun e w'=>e= .returned (.tuple #[.agg (CC (decC b)).toArray,.int .i64 (decE b:Nat)])∧Later w w':=by
 have hbl:=hb.len
 obtain⟨b0,p,rfl,_,_⟩:=hb.2 (by omega)
 have B0:=Qba w 64 cz0
 have hz0:cz0.length=20:=rfl
 have hG1:Hid (∀ w,RdB w (some ⟨b0,p,none⟩) 32 b→Calls Tryz.prog 77 #[.int .i64 2,.slice (some ⟨b0,p,none⟩) 32 c,.int .i64 2,.int .i64 4] w fun e w'=>e= .returned (.tuple #[W64 (QC4 (beN (subB b 2 4) 0)),.int .i64 0])∧Later w w'):=
  hid (fun w h=>QhD _ 32 c 2 4 b w h (by omega) (by omega) (by omega) (by omega))
 have hG2:Hid (∀ w,RdB w (some ⟨b0,p,none⟩) 32 b→Calls Tryz.prog 77 #[.int .i64 2,.slice (some ⟨b0,p,none⟩) 32 c,.int .i64 6,.int .i64 8] w fun e w'=>e= .returned (.tuple #[W64 (QC4 (beN (subB b 6 8) 0)),.int .i64 0])∧Later w w'):=
  hid (fun w h=>QhD _ 32 c 6 8 b w h (by omega) (by omega) (by omega) (by omega))
 have hfill:=hid (Qp4 b hbl _ (QC4 (beN (subB b 6 8) 0)) (Qyz (beN (subB b 2 4) 0)) rfl)
 have hcut:cutA (some ⟨b0,p,none⟩) 30 c=some ⟨b0,p+30,none⟩:=by rw[cutA,if_neg (by omega)];rfl
 have hcutc:cutA (some ⟨b0,p,none⟩) 14 c=some ⟨b0,p+14,none⟩:=by rw[cutA,if_neg (by omega)];rfl
 have hCk:=hid (QgV (QfQ b))
 have hE:=Qqm (QfQ b)
 have hD:=hid (QqE b)
 have hC:=hid (show decC b=if decE b=0 then QfQ b else cmd0 from rfl)
 have hcd:=hb.cut (c:=c) (show 14≤32 by omega) hc
 rw[hcutc]at hcd
 generalize QC4 (beN (subB b 2 4) 0)=x1 at *
 generalize QC4 (beN (subB b 6 8) 0)=x2 at *
 generalize decC b=DC at *
 generalize decE b=DE at *
 generalize cmdE (QfQ b)=e9 at *
 have hb0:=QjJ
 go_enter Tryz.func134,Tryz.ntmps134
 go_wp2_with fail
 generalize hW:w.alloc _=w1
 replace B0:Bag w w1 [(w.heap.size,64,cz0)]:=by rw[←hW];exact B0
 clear hW
 have r1:=(hb.later B0.lat).later (Qab _)
 have c0:=Qde r1 0 (by omega)
 have c1:=Qde r1 1 (by omega)
 have hlb:b0<w1.drew.heap.size:=by
  obtain⟨_,_,he,h,_⟩:=r1.2 (by omega)
  cases he
  exact h
 rw[QEm]at c0
 have hbc:=Qp9 (b.getD 0 0) (b.getD 1 0)
 generalize b.getD 0 0=k0 at *
 generalize b.getD 1 0=k1 at *
 refine Qag [([0,1,2,3,4,5,6],7)] [] [8] (by as_aux_lemma=>kernel_rfl) (by as_aux_lemma=>kernel_rfl) (by intro _ _ d _ _ h;cases d<;>exact h) ?_
 simp only[Qai,pick,QCD,QCE,QCF,QCJ,QCI]
 repeat (first|go_big_quiet_skip|(go_big_quiet_want;(refine QbN _ _ rfl (CC ⟨k0,k1,0,0,QbE⟩) (by simp only[QCS,QDa,QC2];exact hbc) ?_);simp only[Act.put,QCL,QCQ,QCP];go_big_quiet_on)|(go_big_quiet_step (fail)))
 refine wpQuiet_nil ?_
 go_wp2_with fail
 try refine⟨by first|assumption|exact Qab _|exact Qaa _ _|exact Later.refl _,?_⟩
 try simp only[Qai,pick,QCD,QCE,QCF,QCJ,QCI]
 repeat (go_big_quiet_step (fail))
 refine wpQuiet_nil ?_
 go_wp2_with (first
  | (refine Qb8 rfl rfl _ _ rfl (Blk.new w1.drew _ cz0) rfl rfl rfl ?_;intro w3 hb3 ho3)
  | fail)
 have B1:=B0.push ((Qab _).trans (Qaa _ _)) (QCN _) ho3 hb3
 clear hb3 ho3 r1 c0 c1 hlb B0
 generalize w1.heap.size=g3 at *
 (with_reducible refine (hG1.out _ (hb.later B1.lat)).mono ?_);rintro e w4 ⟨rfl,j4⟩
 go_wp2_with fail
 (with_reducible refine (hG2.out _ (hb.later (B1.lat.trans j4))).mono ?_);rintro e w5 ⟨rfl,j5⟩
 replace B1:=(B1.later j4).later j5
 clear j4 j5 hG1 hG2
 go_wp2_with (first
  | (refine Qad rfl rfl _ _ _ rfl g3 2 _ _ (B1.nth 0 rfl) rfl (by rw[Qan];omega) rfl (by kernel_rfl) ?_;intro v6 w6 hv6 hb6 ho6;simp[go_sem]at hv6;subst hv6
     have B2:=B1.write 0 rfl ho6 hb6)
  | (refine Qad rfl rfl _ _ _ rfl g3 3 _ _ (B2.nth 0 rfl) rfl (by rw[QDl,Qan];omega) rfl (by kernel_rfl) ?_;intro v7 w7 hv7 hb7 ho7;simp[go_sem]at hv7;subst hv7
     have B3:=B2.write 0 rfl ho7 hb7)
  | fail)
 clear hb6 ho6 hb7 ho7 B1 B2
 have B4:=B3.drew
 have hlb:b0<w7.drew.heap.size:=by
  obtain⟨_,_,he,h,_⟩:=(hb.later B4.lat).2 (by omega)
  cases he
  exact h
 refine Qag [] [0,1,2,3] [4] (by as_aux_lemma=>kernel_rfl) (by as_aux_lemma=>kernel_rfl) (by intro _ _ d _ _ h;cases d<;>exact h) ?_
 simp only[Qai,pick,QCD,QCE,QCF,QCJ,QCI]
 repeat (go_big_quiet_step (fail))
 refine wpQuiet_nil ?_
 go_wp2_with (first
  | (refine QaC rfl _ _ _ _ rfl 5 Tryz.underlying22 QbY g3 4 16 16 _ _ (B4.nth 0 rfl) (some ⟨b0,p+14,none⟩) 18 (c-14) ((b.drop 14).map W8) (Rd.later hcd B4.lat) (QaW _) rfl rfl (by have:=Qan ⟨k0,k1,0,0,QbE⟩;simp only[QDl];omega) ?_;intro w8 hb8 ho8;rw[hfill.out]at hb8
     have B5:=B4.write 0 rfl ho8 hb8)
  | (refine QcL rfl _ rfl (B5.nth 0 rfl) rfl ?_)
  | fail)
 (with_reducible refine (hCk.out _).mono ?_);rintro e w9 ⟨rfl,j9⟩
 have B6:=B5.later j9
 have r9:=hb.later B6.lat
 have c30:=Qde r9 30 (by omega)
 have c31:=Qde r9 31 (by omega)
 clear hb8 ho8 B5 B4 B3 j9 hcd hcutc hfill hCk r9 hlb hbc
 generalize b.getD 30 0=d30 at *
 generalize b.getD 31 0=d31 at *
 generalize QfQ b=cm at *
 rcases hE with rfl|rfl|rfl|rfl
 all_goals
  cases h30:(d30==0)<;>cases h31:(d31==0)
  all_goals
   have hDE:=hD.out
   have hDC:=hC.out
   rw[h30,h31]at hDE
   simp at hDE
   rw[hDE]at hDC
   simp at hDC
   replace hDE:=hid hDE
   replace hDC:=hid hDC
   have n30:(d30 != 0)= !(d30==0):=rfl
   have n31:(d31 != 0)= !(d31==0):=rfl
   rw[h30]at n30
   rw[h31]at n31
   clear hD hC
   go_wp2_with (first
    | (refine QcL rfl _ rfl (B6.nth 0 rfl) rfl ?_)
    | (refine Qah rfl _ _ rfl (CC cmd0) (by simp only[QCS,QC2];exact hb0) ?_)
    | (refine Qb8 rfl rfl _ _ rfl (B6.nth 1 rfl) rfl rfl hz0 ?_;intro w10 hb10 ho10)
    | fail)
   exact bodyPost_ret (Qaf rfl _ _ _ _ _ _ hb10 rfl Tryz.underlying64 rfl (by rw[Qan];exact Qep)) rfl ⟨by rw[hDE.out,hDC.out];rfl,(B6.write 1 rfl ho10 hb10).lat⟩
section
variable {ops:Array Oper} {rest:List Oper} {o:Oper} {a:Act} {w:World} {Q:Exit→Act→World→Prop}
theorem Qc4 {P:Program} {J:Act→Prop} (ty:TypeId) (x:Operand) (ho:o.op= .load ty x) {w0:World} {bad:List Nat} {g:Nat} {t:TypeId} {l:List Value} (off:Nat) (vs:List Value) (hb:Blk w0 g t l) (hn:∀b∈bad,g≠b) (hx:a.eval x= .pointer (some ⟨g,off,none⟩))
 (hv:∀j v,vs[j]?=some v→l[off+j]?=some v) (d:TypeDesc) (hu:P.underlying ty=some d) (hd:QbI d=true) (hi:(P.info? ty).map (·.size)=some vs.length) (h:J (a.put o.dst (.agg vs.toArray))):o.quiet P a (Spared w0 bad) J:=
 Qa3 _ x ho g off vs (fun _ hw j v hv'=>Blk.cellD (hw.blk hb hn) _ (hv j v hv')) hx d hu hd hi h
end
theorem QdM (l:List Value):∀j v,l[j]?=some v→l[0+j]?=some v:=fun j v h=>by rw[QC6];exact h
theorem Qod {w:World} {g n k:Nat} {t:TypeId} {bs:List UInt8} {rest:List Value} (h:Blk w g t (bs.map W8++rest)) (hn:bs.length=n) (hk:k<n):Rd w (some ⟨g,k,none⟩) (n-k) ((bs.drop k).map W8):=by
 have h1:=(Qfr h hn).cut (k:=k) (c:=n+1) (by omega) (by omega)
 rw[show cutA (some ⟨g,0,none⟩) k (n+1)=some ⟨g,k,none⟩ by
  rw[cutA,if_neg (by omega)]
  show some ((⟨g,0,none⟩:Addr).add k)=_
  rw[Qdl,QC6]]at h1
 exact h1
theorem Qug (nb pl:List UInt8) (hn:nb.length=32) (hp:pl.length=288):putB (putB (putB (QCC 288 0) 0 nb) 32 ((pl.drop 32).take 16)) 48 (pl.drop 48)=nb++pl.drop 32:=by
 have h:=Qyh (nb++pl.drop 32) (by rw[QCM,QC7];omega)
 rw[QDV hn,QDp hn,show (nb++pl.drop 32).drop 48=pl.drop 48 by rw[List.drop_append,QEn (by omega),QCI,hn,QD5]]at h
 exact h
theorem Qpx (h s:List UInt8) (hl:h.length=288):[subB h 48 240,QCC 48 0].flatten.length=288∧xorB [subB h 48 240,QCC 48 0].flatten (chaS (kStr s) 288)=Qcv h s:=by
 have s2:(subB h 48 240).length=240:=Qam (by omega)
 rw[QDT,QDT,QEQ,QDg]
 exact⟨by rw[QCM,s2,QCO],rfl⟩
set_option maxRecDepth 100000 in
set_option maxHeartbeats 8000000 in
theorem Qr8 (h s:List UInt8) (hl:h.length=288) (hs:s.length=192) (w:World):
 Calls Tryz.prog 101 #[.agg (h.map W8).toArray,.agg (s.map W8).toArray] w fun e w'=>e= .returned (.tuple #[.agg (CC (Qkn h s)).toArray,.agg ((QiY h s).map W8).toArray,.int .i64 (Qhz h s:Nat)])∧Later w w':=by
 have HZ:=hid zcH
 have l0:(QCC 288 (0:UInt8)).length=288:=QCO
 have C1:=Qba w 34 (h.map W8)
 have C2:=C1.add (Qaa _ (.cells (s.map W8).toArray 53)) (k:=w.heap.size+1) (by simp) (by omega) (Blk.new' _ _ _ (by simp))
 have C3:=C2.add (Qaa _ (.cells cz0.toArray 64)) (k:=w.heap.size+2) (by simp) (by omega) (Blk.new' _ _ _ (by simp))
 have C4:=C3.add (Qaa _ (.cells Tryz.zeroCells34 34)) (k:=w.heap.size+3) (by simp) (by omega) ((Blk.new' _ _ Tryz.zeroCells34.toList (by simp)).cast HZ.out)
 clear C1 C2 C3
 have s2:(subB h 48 240).length=240:=Qam (by omega)
 have k1:(kStr s).length=32:=Qam (by omega)
 have hF:=hid (Qs8 h s hl hs)
 have hpf:=Qpx h s hl
 have hT:=hid (fun B d g (w:World) hk hp=>QiN (some ⟨g,32,none⟩) 32 2 d B (kStr s) [subB h 48 240,QCC 48 0] w hk hp (by omega) (by rw[hpf.1];omega))
 rw[hpf.1,hpf.2]at hT
 have hpl:=Qgu h s hl
 have hD:=hid (fun A c (w:World) h1 h2=>QnG A c ((Qcv h s).take 32) w h1 h2)
 have hE:Hid (Qhz h s=if QlA h s=false then 6 else if decE ((Qcv h s).take 32)≠0 then 3 else if (decC ((Qcv h s).take 32)).kd=1 then QmH s else 0):=hid rfl
 have hC:Hid (Qkn h s=if Qhz h s=0 then decC ((Qcv h s).take 32) else cmd0):=hid rfl
 have hN:Hid (QiY h s=if Qhz h s=0∧(decC ((Qcv h s).take 32)).kd=1 then Qi4 s++(Qcv h s).drop 32 else QCC 288 0):=hid rfl
 have hX:=hid (fun (w:World)=>Qoq s (kBli s) (kAlp s) hs rfl rfl w)
 have hput:=hid (Qug (Qi4 s) (Qcv h s) (QaV _ _) hpl)
 have hXb:Hid (Qbj (kBli s) (kAlp s)=Qi4 s∧Qa2 (kBli s) (kAlp s)=QmH s):=hid ⟨rfl,rfl⟩
 rw[hXb.out.1,hXb.out.2]at hX
 have nbl:(Qi4 s).length=32:=QaV _ _
 have hb0:=QjJ
 have hbh:=Qpb
 clear hpf hXb
 generalize Qkn h s=OC at *
 generalize QiY h s=ON at *
 generalize Qhz h s=OE at *
 generalize QlA h s=F at *
 generalize Qcv h s=pl at *
 generalize decE (pl.take 32)=dE at *
 generalize decC (pl.take 32)=dC at *
 generalize QmH s=nE at *
 generalize Qi4 s=nb at *
 have hnbl:=nbl
 generalize QCC 288 (0:UInt8)=Z at *
 have hzl:(Z.map W8).length=288:=by rw[QCG];exact l0
 have hz0:cz0.length=20:=rfl
 go_enter Tryz.func101,Tryz.ntmps101
 go_wp2_with (first
  | (refine Qof rfl _ rfl (C4.nth 3 rfl) hl rfl ?_)
  | (refine QeN rfl _ rfl (C4.nth 2 rfl) hs rfl ?_)
  | fail)
 (with_reducible refine (hF.out _).mono ?_);rintro e w5 ⟨rfl,l5⟩
 replace C4:=C4.later l5
 clear l5 hF
 cases F
 ·have HE:=hE.out
  rw[if_pos rfl]at HE
  have HC:=hC.out
  rw[HE,if_neg (by decide)]at HC
  have HN:=hN.out
  rw[HE,if_neg (by simp)]at HN
  replace HE:=hid HE
  replace HC:=hid HC
  replace HN:=hid HN
  clear hE hC hN
  go_wp2_with (first
   | (refine Qah rfl 64 _ rfl (CC cmd0) (by simp only[QCS,QC2];exact hb0) ?_)
   | (refine Qah rfl 34 _ rfl (Z.map W8) (by simp only[QCS,QC2];exact hbh) ?_)
   | (refine Qb8 rfl rfl _ _ rfl (C4.nth 1 rfl) rfl rfl hz0 ?_;intro w6 hb6 ho6
      have C5:=C4.write 1 rfl ho6 hb6)
   | (refine QeK rfl rfl _ _ rfl (C5.nth 0 rfl) rfl rfl l0 hzl ?_;intro w7 hb7 ho7
      have C6:=C5.write 0 rfl ho7 hb7)
   | fail)
  exact bodyPost_ret (Qbl rfl _ _ _ _ _ _ _ _ _ _ (C6.nth 1 rfl) rfl Tryz.underlying64 rfl (by rw[Qan];exact Qep) (C6.nth 0 rfl) rfl Tryz.underlying34 rfl (by rw[QCG,l0];exact Qc7)) rfl ⟨by rw[HE.out,HC.out,HN.out];rfl,C6.lat⟩
 ·replace hE:Hid (OE=if dE≠0 then 3 else if dC.kd=1 then nE else 0):=hid (by rw[hE.out,if_neg (by decide)])
  go_wp2_with fail
  have C5:=C4.drew
  clear C4
  refine Qag [([0,1,2,3,4],5),([],6),([],7)] [8,9,10,11,12] [] (by as_aux_lemma=>kernel_rfl) (by as_aux_lemma=>kernel_rfl) (by intro _ _ d _ _ h;cases d<;>exact h) ?_
  simp only[Qai,pick,QCD,QCE,QCF,QCJ,QCI]
  repeat (go_big_quiet_step (fail))
  refine wpQuiet_nil ?_
  go_wp2_with (first
   | (refine Qax rfl _ _ _ rfl 5 _ 1 Tryz.underlying22 QcR rfl _ _ _ _ 48 rfl rfl rfl rfl (by omega) (by omega) ?_;intro w6 hb6 hl6)
   | fail)
  try refine⟨by first|assumption|exact Qab _|exact Qaa _ _|exact Later.refl _,?_⟩
  try simp only[Qai,pick,QCD,QCE,QCF,QCJ,QCI]
  repeat (go_big_quiet_step (fail))
  refine wpQuiet_nil ?_
  have C6:=C5.later hl6
  go_wp2_with fail
  try refine⟨by first|assumption|exact Qab _|exact Qaa _ _|exact Later.refl _,?_⟩
  try simp only[Qai,pick,QCD,QCE,QCF,QCJ,QCI]
  repeat (go_big_quiet_step (fail))
  refine wpQuiet_nil ?_
  have l7:=Qaa w6 (.cells #[.slice (some ⟨w.heap.size,48,none⟩) 240 240,.slice (some ⟨w5.drew.heap.size,0,none⟩) 48 48] 22)
  have C7:=C6.later l7
  have P7:=Qfk (bad:=fun _=>False) (ps:=[subB h 48 240,QCC 48 0]) ((Blk.new w6 22 [.slice (some ⟨w.heap.size,48,none⟩) 240 240,.slice (some ⟨w5.drew.heap.size,0,none⟩) 48 48]).rd rfl) (QbO _ _) ⟨QaX (QbK (C7.nth 3 rfl) rfl s2) (QCN _),QaX (show RdB _ (some ⟨w5.drew.heap.size,0,none⟩) 48 (QCC 48 0) from (hb6.later l7).rd rfl) (QCN _),trivial⟩
  have hk7:=QbK (C7.nth 2 rfl) rfl k1
  go_wp2_with fail
  (refine (hT.out _ _ _ _ hk7 P7).mono ?_);rintro e w8 ⟨A8,c8,rfl,o8,l8⟩
  obtain⟨g8,r8,rfl,hg8,hb8,hc8,hcc8⟩:=Qj8 o8 (by omega)
  have C8:=C7.fresh l8 hg8 hb8
  clear C5 C6 C7 P7 hk7 l7 hl6 hb6 hT o8 hb8 hg8 hc8
  go_wp2_with fail
  try refine⟨by first|assumption|exact Qab _|exact Qaa _ _|exact Later.refl _,?_⟩
  try simp only[Qai,pick,QCD,QCE,QCF,QCJ,QCI]
  repeat (go_big_quiet_step (fail))
  refine wpQuiet_nil ?_
  go_wp2_with fail
  (refine (hD.out _ _ _ ((Qfr (C8.nth 0 rfl) hpl).take (m:=32) (by omega)) (by omega)).mono ?_);rintro e w9 ⟨rfl,l9⟩
  have C9:=C8.later l9
  clear C8 l9 hD
  by_cases hd0:dE=0
  ·subst hd0
   replace hE:Hid (OE=if dC.kd=1 then nE else 0):=hid (by rw[hE.out,if_neg (by simp)])
   cases hk1:(dC.kd==1)
   ·have hkn: ¬dC.kd=1:=by simpa using hk1
    have n1:(dC.kd != 1)=true:=by rw[bne,hk1];rfl
    have HE:OE=0:=by rw[hE.out,if_neg hkn]
    have HC:OC=dC:=by rw[hC.out,HE,if_pos rfl]
    have HN:ON=Z:=by rw[hN.out,if_neg (fun h=>hkn h.2)]
    replace HE:=hid HE
    replace HC:=hid HC
    replace HN:=hid HN
    clear hE hC hN hkn
    go_wp2_with (first
     | (refine Qb8 rfl rfl _ _ rfl (Blk.new w9 _ cz0) rfl rfl rfl ?_;intro w10 hb10 ho10
        have C10:=C9.push (Qaa _ _) (QCN _) ho10 hb10
        have hc0:=(Qen hb10).1)
     | (refine QcL rfl _ rfl (C10.nth 0 rfl) rfl ?_)
     | (refine Qah rfl 34 _ rfl (Z.map W8) (by simp only[QCS,QC2];exact hbh) ?_)
     | (refine Qb8 rfl rfl _ _ rfl (C10.nth 3 rfl) rfl rfl hz0 ?_;intro w11 hb11 ho11
        have C11:=C10.write 3 rfl ho11 hb11)
     | (refine QeK rfl rfl _ _ rfl (C11.nth 2 rfl) rfl rfl l0 hzl ?_;intro w12 hb12 ho12
        have C12:=C11.write 2 rfl ho12 hb12)
     | fail)
    exact bodyPost_ret (Qbl rfl _ _ _ _ _ _ _ _ _ _ (C12.nth 3 rfl) rfl Tryz.underlying64 rfl (by rw[Qan];exact Qep) (C12.nth 2 rfl) rfl Tryz.underlying34 rfl (by rw[QCG,l0];exact Qc7)) rfl ⟨by rw[HE.out,HC.out,HN.out];rfl,C12.lat⟩
   ·have hky:dC.kd=1:=by simpa using hk1
    have n1:(dC.kd != 1)=false:=by rw[bne,hk1];rfl
    replace hE:Hid (OE=nE):=hid (by rw[hE.out,if_pos hky])
    have l1:(putB Z 0 nb).length=288:=by rw[QbJ (by omega)];exact l0
    have l2:(putB (putB Z 0 nb) 32 ((pl.drop 32).take 16)).length=288:=by rw[QbJ (by rw[QC5,QC7];omega)];exact l1
    have e3:((pl.drop 48).take 240)=pl.drop 48:=QCT (by rw[QC7];omega)
    have HNL:(nb++pl.drop 32).length=288:=by rw[QCM,QC7];omega
    replace e3:=hid e3
    generalize hZ2:putB (putB Z 0 nb) 32 ((pl.drop 32).take 16)=Z2 at *
    generalize hZ1:putB Z 0 nb=Z1 at *
    replace hZ1:=hid hZ1
    replace hZ2:=hid hZ2
    replace hky:=hid hky
    go_wp2_with (first
     | (refine Qb8 rfl rfl _ _ rfl (Blk.new w9 _ cz0) rfl rfl rfl ?_;intro w10 hb10 ho10
        have C10:=C9.push (Qaa _ _) (QCN _) ho10 hb10
        have hc0:=(Qen hb10).1)
     | (refine QeN rfl _ rfl ((C10.later (Qaa _ _)).nth 4 rfl) hs rfl ?_)
     | fail)
    (with_reducible refine (hX.out _).mono ?_);rintro e w11 ⟨rfl,l11⟩
    have C11:=(C10.fresh (Qaa _ _) (QCN _) ((Blk.new w10 _ Tryz.zeroCells34.toList).cast HZ.out)).later l11
    clear hb10 ho10 l11 C10 C9
    have hc0':=(Qen (C11.nth 1 rfl)).1
    by_cases hn0:nE=0
    ·subst hn0
     have HE:=hE.out
     have HC:OC=dC:=by rw[hC.out,HE,if_pos rfl]
     have HN:ON=nb++pl.drop 32:=by rw[hN.out,if_pos ⟨HE,hky.out⟩]
     replace HE:=hid HE
     replace HC:=hid HC
     replace HN:=hid HN
     clear hE hC hN
     generalize nb++pl.drop 32=NX at *
     have hNX:=hid (QhJ NX 288 HNL)
     go_wp2_with (first
      | (refine Qm9 0 32 rfl rfl _ _ rfl (C11.nth 0 rfl) rfl rfl Qc6 hnbl (by omega) ?_;intro w12 hb12 ho12;rw[hZ1.out]at hb12
         have C12:=C11.write 0 rfl ho12 hb12)
      | fail)
     have C13:=C12.drew
     clear C11 C12 hb12 ho12
     have r32:=Qod (k:=32) (C13.nth 2 rfl) hpl (by omega)
     refine Qag [] [0,1,2,3] [4] (by as_aux_lemma=>kernel_rfl) (by as_aux_lemma=>kernel_rfl) (by intro _ _ d _ _ h;cases d<;>exact h) ?_
     simp only[Qai,pick,QCD,QCE,QCF,QCJ,QCI]
     repeat (go_big_quiet_step (fail))
     refine wpQuiet_nil ?_
     go_wp2_with (first
      | (refine QaC rfl _ _ _ _ rfl 5 Tryz.underlying22 QbY w10.heap.size 32 16 16 _ _ (C13.nth 0 rfl) (some ⟨g8,32,none⟩) 256 (c8-32) ((pl.drop 32).map W8) r32 (QaW _) rfl rfl (by rw[QCG];omega) ?_;intro w14 hb14 ho14;rw[←QEt,Qdu,hZ2.out]at hb14
         have C14:=C13.write 0 rfl ho14 hb14)
      | fail)
     have C15:=C14.drew
     simp only[Act.put,QCL,QCQ,QCP]
     have r48:=Qod (k:=48) (C15.nth 2 rfl) hpl (by omega)
     refine Qag [] [0,1,2,3] [4] (by as_aux_lemma=>kernel_rfl) (by as_aux_lemma=>kernel_rfl) (by intro _ _ d _ _ h;cases d<;>exact h) ?_
     simp only[Qai,pick,QCD,QCE,QCF,QCJ,QCI]
     repeat (go_big_quiet_step (fail))
     refine wpQuiet_nil ?_
     go_wp2_with (first
      | (refine QaC rfl _ _ _ _ rfl 5 Tryz.underlying22 QbY w10.heap.size 48 240 240 _ _ (C15.nth 0 rfl) (some ⟨g8,48,none⟩) 240 (c8-48) ((pl.drop 48).map W8) r48 (QaW _) rfl rfl (by rw[QCG];omega) ?_;intro w16 hb16 ho16;rw[←QEt,Qdu,e3.out,hput.out]at hb16
         have C16:=C15.write 0 rfl ho16 hb16)
      | fail)
     simp only[Act.put,QCL,QCQ,QCP]
     clear hb14 ho14 hb16 ho16 C13 C14 C15 r32 r48
     have hne03:=C16.ne 0 4 rfl rfl (by decide)
     refine Qef [0,1] [2,3,4] (fun i=>if i=1 then [2] else []) (fun i=>if i=2 then w.heap.size+2 else w.heap.size+3) (by as_aux_lemma=>kernel_rfl) (by as_aux_lemma=>kernel_rfl) (by intro _ _ d _ _ h;cases d<;>exact h) ?_
     refine⟨_,rfl,rfl,?_⟩
     refine Qc4 _ _ rfl 0 (CC dC) (C16.nth 1 rfl) (by simp) rfl (QdM _) _ Tryz.underlying64 rfl (by rw[Qan];exact Qep) ?_
     simp only[Act.put,QCL,QCQ,QCP]
     refine⟨_,rfl,rfl,?_⟩
     refine Qc4 _ _ rfl 0 (NX.map W8) (C16.nth 0 rfl) (by intro b hb;simp at hb;subst hb;exact hne03) rfl (QdM _) _ Tryz.underlying34 rfl (by rw[QCG,HNL];exact Qc7) ?_
     simp only[Act.put,QCL,QCQ,QCP]
     simp only[QjR,QgS,pick,QCD,QCE,QCF,QCJ,QCI]
     refine Qb8 rfl rfl _ _ rfl (C16.drew.nth 4 rfl) rfl rfl hz0 ?_
     intro w17 hb17 ho17
     have C17:=C16.drew.write 4 rfl ho17 hb17
     refine⟨ho17,?_⟩
     refine QeK rfl rfl _ _ rfl (C17.nth 3 rfl) rfl rfl HNL hzl ?_
     intro w18 hb18 ho18
     have C18:=C17.write 3 rfl ho18 hb18
     refine⟨ho18,?_⟩
     go_wp2_with fail
     refine⟨World.grownBy.refl _ _,?_⟩
     go_wp2_with fail
     exact bodyPost_ret (Qbl rfl _ _ _ _ _ _ _ _ _ _ (C18.nth 4 rfl) rfl Tryz.underlying64 rfl (by rw[Qan];exact Qep) (C18.nth 3 rfl) rfl Tryz.underlying34 rfl (by rw[QCG,HNL];exact Qc7)) rfl ⟨by rw[HE.out,HC.out,HN.out];rfl,C18.lat⟩
    ·have hne:((nE:Int) != 0)=true:=by simp;omega
     have HE:=hE.out
     have HC:OC=cmd0:=by rw[hC.out,HE,if_neg hn0]
     have HN:ON=Z:=by rw[hN.out,HE,if_neg (fun h=>hn0 h.1)]
     replace HE:=hid HE
     replace HC:=hid HC
     replace HN:=hid HN
     clear hE hC hN
     go_wp2_with (first
      | (refine Qm9 0 32 rfl rfl _ _ rfl (C11.nth 0 rfl) rfl rfl Qc6 hnbl (by omega) ?_;intro w12 hb12 ho12;rw[hZ1.out]at hb12
         have C12:=C11.write 0 rfl ho12 hb12)
      | (refine Qah rfl 64 _ rfl (CC cmd0) (by simp only[QCS,QC2];exact hb0) ?_)
      | (refine Qah rfl 34 _ rfl (Z.map W8) (by simp only[QCS,QC2];exact hbh) ?_)
      | (refine Qb8 rfl rfl _ _ rfl (C12.nth 4 rfl) rfl rfl hz0 ?_;intro w13 hb13 ho13
         have C13:=C12.write 4 rfl ho13 hb13)
      | (refine QeK rfl rfl _ _ rfl (C13.nth 3 rfl) rfl rfl l0 hzl ?_;intro w14 hb14 ho14
         have C14:=C13.write 3 rfl ho14 hb14)
      | fail)
     exact bodyPost_ret (Qbl rfl _ _ _ _ _ _ _ _ _ _ (C14.nth 4 rfl) rfl Tryz.underlying64 rfl (by rw[Qan];exact Qep) (C14.nth 3 rfl) rfl Tryz.underlying34 rfl (by rw[QCG,l0];exact Qc7)) rfl ⟨by rw[HE.out,HC.out,HN.out];rfl,C14.lat⟩
  ·have HE:OE=3:=by rw[hE.out,if_pos hd0]
   have HC:OC=cmd0:=by rw[hC.out,HE,if_neg (by decide)]
   have HN:ON=Z:=by rw[hN.out,HE,if_neg (by simp)]
   have hne:((dE:Int) != 0)=true:=by simp;omega
   replace HE:=hid HE
   replace HC:=hid HC
   replace HN:=hid HN
   clear hE hC hN
   go_wp2_with (first
    | (refine Qb8 rfl rfl _ _ rfl (Blk.new w9 _ cz0) rfl rfl rfl ?_;intro w10 hb10 ho10
       have C10:=C9.push (Qaa _ _) (QCN _) ho10 hb10)
    | (refine Qah rfl 64 _ rfl (CC cmd0) (by simp only[QCS,QC2];exact hb0) ?_)
    | (refine Qah rfl 34 _ rfl (Z.map W8) (by simp only[QCS,QC2];exact hbh) ?_)
    | (refine Qb8 rfl rfl _ _ rfl (C10.nth 3 rfl) rfl rfl hz0 ?_;intro w11 hb11 ho11
       have C11:=C10.write 3 rfl ho11 hb11)
    | (refine QeK rfl rfl _ _ rfl (C11.nth 2 rfl) rfl rfl l0 hzl ?_;intro w12 hb12 ho12
       have C12:=C11.write 2 rfl ho12 hb12)
    | fail)
   exact bodyPost_ret (Qbl rfl _ _ _ _ _ _ _ _ _ _ (C12.nth 3 rfl) rfl Tryz.underlying64 rfl (by rw[Qan];exact Qep) (C12.nth 2 rfl) rfl Tryz.underlying34 rfl (by rw[QCG,l0];exact Qc7)) rfl ⟨by rw[HE.out,HC.out,HN.out];rfl,C12.lat⟩
def Qcw (b:List UInt8):Nat:=beN (subB b 28 2) 0
def QgX (b:List UInt8):Prt:=⟨b.getD 16 0,QC4 (beN (subB b 20 8) 0),((b.getD 17 0).toNat:Int),((b.getD 18 0).toNat:Int),subB b 30 (Qcw b)⟩
def parE (b:List UInt8):Nat:=
 if b.length≠480 then 2 else if b.take 16≠QCC 16 0 then 7 else if b.getD 16 0<1∨3<b.getD 16 0 then 1
 else if b.getD 19 0≠0∨450<Qcw b then 3 else if prtE (QgX b)≠0∨b.drop (30+Qcw b)≠QCC (450-Qcw b) 0 then 3 else 0
def parP (b:List UInt8):Prt:=if parE b=0 then QgX b else prt0
def recE (k p:List UInt8):Nat:=
 if unwE k p≠0 then unwE k p else if (unwC k p).kd=1 then 10 else if (unwC k p).kd=4 then 0 else if parE (unwB k p)≠0 then parE (unwB k p)
 else if (parP (unwB k p)).kd≠(if (unwC k p).kd=3 then 2 else 1) then 10 else 0
set_option maxRecDepth 100000 in
set_option maxHeartbeats 2000000 in
theorem Qo4 (b:List UInt8) (hl:b.length=768) (w:World):
 Calls Tryz.prog 13 #[.agg (b.map W8).toArray] w fun e w'=>∃A' c',e= .returned (.slice A' 768 c')∧OwnB w' w.heap.size A' 768 c' b∧Later w w':=by
 have hb:Blk (w.alloc (.cells (b.map W8).toArray 37)) w.heap.size 37 (b.map W8):=Blk.new _ _ _
 have s0:(subB b 0 288).length=288:=Qam (by omega)
 have s1:(subB b 288 480).length=480:=Qam (by omega)
 have hfl:[subB b 0 288,subB b 288 480].flatten=b:=by
  rw[subB,subB,QDT,QDT,QEQ,QDg,QD8,QCT (l:=b.drop 288) (by rw[QC7];omega),QC9]
 have hJ:=hid (fun B d (w:World) hp=>QcW B 2 d [subB b 0 288,subB b 288 480] w hp (by omega) (by rw[hfl];omega))
 rw[hfl,hl]at hJ
 have hB:=hid (fun (w:World)=>Qqa (subB b 0 288) s0 w)
 have L:=Qaa w (.cells (b.map W8).toArray 37)
 have Rs:Hid (subB b 0 288=subB b 0 288):=hid rfl
 generalize hS:subB b 0 288=S0 at *
 replace hS:=hid hS
 go_enter Tryz.func13,Tryz.ntmps13
 go_wp2_with fail
 generalize hW:w.alloc _=w1 at *
 clear hW
 refine Qag [([0,1,3,4],2),([],5),([],6)] [7] [] (by as_aux_lemma=>kernel_rfl) (by as_aux_lemma=>kernel_rfl) (by intro _ _ d _ _ h;cases d<;>exact h) ?_
 simp only[Qai,pick,QCD,QCE,QCF,QCJ,QCI]
 repeat (first|go_big_quiet_skip|(go_big_quiet_want;(refine QgH 0 288 _ rfl hb.drew rfl Tryz.underlying34 rfl Qc7 hS.out s0 ?_);simp only[Act.put,QCL,QCQ,QCP];go_big_quiet_on)|(go_big_quiet_step (fail)))
 refine wpQuiet_nil ?_
 go_wp2_with fail
 (with_reducible refine (hB.out _).mono ?_);rintro e w2 ⟨A2,c2,rfl,o2,l2⟩
 go_wp2_with fail
 try refine⟨by first|assumption|exact Qab _|exact Qaa _ _|exact Later.refl _,?_⟩
 try simp only[Qai,pick,QCD,QCE,QCF,QCJ,QCI]
 repeat (go_big_quiet_step (fail))
 refine wpQuiet_nil ?_
 have l3:=Qaa w2 (.cells #[.slice A2 288 c2,.slice (some ⟨w.heap.size,288,none⟩) 480 480] 22)
 have hb3:=((hb.later (Qab _)).later l2).later l3
 have P3:=Qfk (bad:=fun _=>False) (ps:=[S0,subB b 288 480]) ((Blk.new w2 22 [.slice A2 288 c2,.slice (some ⟨w.heap.size,288,none⟩) 480 480]).rd rfl) (QbO _ _) ⟨QaX (o2.later l3).rd o2.cap,QaX (QbK hb3 rfl s1) (QCN _),trivial⟩
 go_wp2_with fail
 try refine⟨by first|assumption|exact Qab _|exact Qaa _ _|exact Later.refl _,?_⟩
 try simp only[Qai,pick,QCD,QCE,QCF,QCJ,QCI]
 repeat (go_big_quiet_step (fail))
 refine wpQuiet_nil ?_
 go_wp2_with fail
 (refine (hJ.out _ _ _ P3).mono ?_);rintro e w4 ⟨A4,c4,rfl,o4,l4⟩
 go_wp2_with fail
 try refine⟨by first|assumption|exact Qab _|exact Qaa _ _|exact Later.refl _,?_⟩
 try simp only[Qai,pick,QCD,QCE,QCF,QCJ,QCI]
 repeat (go_big_quiet_step (fail))
 refine wpQuiet_nil ?_
 go_wp2_with fail
 go_ret
 exact⟨_,_,rfl,o4.mono (((L.trans (Qab _)).trans l2).trans l3).size,(((L.trans (Qab _)).trans l2).trans l3).trans l4⟩
theorem Qyg:(Tryz.prog.info? 66).map (·.size)=some 20:=by kernel_rfl
theorem QBF:(Tryz.prog.info? 66).bind (·.zero)=some (.agg (CC cmd0).toArray):=by kernel_rfl
theorem Qql (c:Cmd):Tryz.prog.built 66 [(0,.agg (CC c).toArray)]=some (CC c).toArray:=by
 rw[Qa7 (pl:=[(0,20)]) Tryz.underlying66 QBF (by kernel_rfl),Qbk (vs:=CC c) (off:=0) rfl (by rw[Qan];rfl) (by rw[Qan,Qan];omega),Qct,Qas _ _ (by rw[Qan,Qan])]
def PC (c:Cmd) (P:List UInt8) (v:Value):List Value:=CC c++(P.map W8++[v])
def nil8:Value:=.slice none 0 0
def z768:List UInt8:=QCC 768 0
theorem Qat:z768.length=768:=QCO
theorem QaD (c:Cmd) {P:List UInt8} (h:P.length=768) (v:Value):(PC c P v).length=789:=by
 rw[PC,QCM,QCM,Qan,QCG,h]
 rfl
theorem QyS (c:Cmd) (P:List UInt8) {v:Value} (h:v.oneCell'=true):∀u∈PC c P v,u.oneCell'=true:=by
 intro u hu
 rw[PC]at hu
 rcases QD7.1 hu with hu|hu
 ·exact QoS c u hu
 ·rcases QD7.1 hu with hu|hu
  ·exact QaW P u hu
  ·rw[QEG.1 hu];exact h
theorem QbF:(Tryz.prog.info? 68).map (·.size)=some 789:=by kernel_rfl
theorem QvO:(Tryz.prog.info? 68).bind (·.zero)=some (.agg (PC cmd0 z768 nil8).toArray):=by
 rw[PC,z768,QDi]
 kernel_rfl
theorem zcPe:Tryz.zeroCells68.toList=PC cmd0 z768 nil8:=by
 rw[PC,z768,QDi]
 kernel_rfl
theorem QgA:Tryz.prog.built 68 []=some (PC cmd0 z768 nil8).toArray:=by
 rw[Qa7 (pl:=[(0,20),(20,768),(788,1)]) Tryz.underlying68 QvO (by kernel_rfl),Qct]
theorem Qk3 {A B vs:List Value} (h:vs.length=A.length):Qao (A++B) 0 vs=vs++B:=by
 rw[Qao,QET,QCI,QC6,h,List.drop_left]
theorem Qr6 (c:Cmd):Tryz.prog.built 68 [(0,.agg (CC c).toArray)]=some (PC c z768 nil8).toArray:=by
 rw[Qa7 (pl:=[(0,20),(20,768),(788,1)]) Tryz.underlying68 QvO (by kernel_rfl),Qbk (vs:=CC c) (off:=0) rfl (by rw[Qan];rfl) (by rw[Qan,QaD _ Qat];omega),Qct,PC,PC,Qk3 (by rw[Qan,Qan])]
theorem Qew (c:Cmd) (P:List UInt8) (v:Value):∀j u,(CC c)[j]?=some u→(PC c P v)[0+j]?=some u:=fun j u h=>by
 rw[QC6,PC,QC0 (QCX.1 h).1]
 exact h
theorem Qww (c:Cmd) (P:List UInt8) (v:Value):∀j u,(P.map W8)[j]?=some u→(PC c P v)[20+j]?=some u:=fun j u h=>by
 rw[PC,QCR (by rw[Qan];omega),Qan,QEu,QC0 (QCX.1 h).1]
 exact h
theorem QwG (c:Cmd) {P:List UInt8} (h:P.length=768) (v:Value):(PC c P v)[788]?=some v:=by
 rw[PC,QCR (by rw[Qan];omega),Qan,QCR (by rw[QCG,h];omega),QCG,h]
 rfl
theorem Qx1 (c:Cmd) {P:List UInt8} (h:P.length=768) (v v':Value):(PC c P v).set 788 v'=PC c P v':=by
 rw[PC,QDe _ _ (by rw[Qan];omega),Qan,QDe _ _ (by rw[QCG,h];omega),QCG,h]
 rfl
theorem Qr2 (c:Cmd) {P vs:List UInt8} (v:Value) (k:Nat) (h:k+vs.length≤P.length):Qao (PC c P v) (20+k) (vs.map W8)=PC c (putB P k vs) v:=by
 have hc:=Qan c
 rw[PC,PC,←Qdu,Qao,Qao,List.take_append,hc,QCT (by omega),QEu,QDn (by rw[QCG];omega),List.drop_append,hc,QEn (by omega),QCI,QCG,show 20+k+vs.length-20=k+vs.length by omega,QDJ (by rw[QCG];omega)]
 simp only[QCU]
section
variable {ops:Array Oper} {rest:List Oper} {o:Oper} {a:Act} {w:World} {Q:Exit→Act→World→Prop}
theorem QaY (hgd:o.guard=none) (hd:o.dst=none) (x y:Operand) (ho:o.op= .store 68 x y) {g:Nat} {t:TypeId} {l:List Value} {c:Cmd} {P:List UInt8} {v:Value} (hg:Blk w g t l) (hx:a.eval x= .pointer (some ⟨g,0,none⟩)) (hy:a.eval y= .agg (PC c P v).toArray) (hP:P.length=768) (hv:v.oneCell'=true) (hl:l.length=789)
 (h:∀w',Blk w' g t (PC c P v)→Only g w w'→wpList Tryz.prog ops Q rest a w'):wpList Tryz.prog ops Q (o :: rest) a w:=
 QaJ hgd hd _ x y ho g t l _ hg hx hy 789 QbF (QaD c hP v) hl (QyS c P hv) h
theorem QnA (hw:Region.wanted o (yielded ops a.tmps)=true) (x:Operand) (ho:o.op= .load 68 x) {g:Nat} {t:TypeId} {c:Cmd} {P:List UInt8} {v:Value} (hb:Blk w g t (PC c P v)) (hP:P.length=768) (hx:a.eval x= .pointer (some ⟨g,0,none⟩))
 (h:wpList Tryz.prog ops Q rest (a.put o.dst (.agg (PC c P v).toArray)) w):wpList Tryz.prog ops Q (o :: rest) a w:=
 Qay hw _ x ho g 0 _ (fun j v hv=>by rw[QC6];exact hb.cellD j hv) hx _ Tryz.underlying68 rfl (by rw[QaD c hP];exact QbF) h
theorem QiF (hw:Region.wanted o (yielded ops a.tmps)=true) (x:Operand) (ho:o.op= .load 66 x) {g:Nat} {t:TypeId} {c:Cmd} {P:List UInt8} {v:Value} (hb:Blk w g t (PC c P v)) (hx:a.eval x= .pointer (some ⟨g,0,none⟩))
 (h:wpList Tryz.prog ops Q rest (a.put o.dst (.agg (CC c).toArray)) w):wpList Tryz.prog ops Q (o :: rest) a w:=
 Qay hw _ x ho g 0 _ (fun j v hv=>hb.cellD _ (Qew _ _ _ j v hv)) hx _ Tryz.underlying66 rfl (by rw[Qan];exact Qyg) h
end
set_option maxRecDepth 100000 in
theorem Qgt (c:Cmd) (w:World):Calls Tryz.prog 31 #[.agg (CC c).toArray] w fun e w'=>e= .returned (.bool (!(c.kd==1)))∧Later w w':=by
 have hb:Blk (w.alloc (.cells (CC c).toArray 66)) w.heap.size 66 (CC c):=Blk.new _ _ _
 have c0:=(Qen hb).1
 have n1:(c.kd != 1)= !(c.kd==1):=rfl
 go_enter Tryz.func31,Tryz.ntmps31
 go_wp2
 go_ret
 exact⟨rfl,Qaa _ _⟩
set_option maxRecDepth 100000 in
theorem Qun (c:Cmd) (w:World):Calls Tryz.prog 30 #[.agg (CC c).toArray] w fun e w'=>e= .returned (.int .i64 (c.dl.toNat:Nat))∧Later w w':=by
 have hb:Blk (w.alloc (.cells (CC c).toArray 66)) w.heap.size 66 (CC c):=Blk.new _ _ _
 have c0:=(Qen hb).2.2.1
 have hw:IntKind.i64.wrap (c.dl.toNat:Int)=(c.dl.toNat:Int):=by
  have:=c.dl.toNat_lt
  simp only[IntKind.wrap,IntKind.bits,IntKind.signed]
  simp
  omega
 go_enter Tryz.func30,Tryz.ntmps30
 go_wp2
 go_ret
 exact⟨rfl,Qaa _ _⟩
theorem Qf0 (s p:List UInt8) (hp:p.length=768) (hs:s.length=192):(relP s p).length=768:=by
 have h1:(p.take 288).length=288:=by rw[QC5];omega
 have hf:fitW (kPay s) (p.drop 288):=⟨Qam (by omega),by rw[QC7];omega,by rw[QC7];omega⟩
 unfold relP
 split
 ·rw[QCM,Qho _ _ h1,Qdq,Qet okO hf,QcK _ _ _ hf.2.1,QC7,hp]
 ·exact QCO
theorem QfM (s p:List UInt8) (hp:p.length=768) (hs:s.length=192):(Qdq s p).length=480:=by
 have hf:fitW (kPay s) (p.drop 288):=⟨Qam (by omega),by rw[QC7];omega,by rw[QC7];omega⟩
 rw[Qdq,Qet okO hf,QcK _ _ _ hf.2.1,QC7,hp]
theorem QtM (p:List UInt8) (k n:Nat) (h:p.length=k+n):subB p k n=p.drop k:=by rw[subB,QCT (by rw[QC7];omega)]
theorem QxV (hd bd:List UInt8) (h1:hd.length=288) (h2:bd.length=480):putB (putB z768 0 hd) 288 (bd.take 480)=hd++bd:=by
 rw[QCT (by omega),z768,show QCC 768 (0:UInt8)=QCC 288 0++QCC 480 0 by rw[QDM],Qeu _ _ _ (by rw[QCO,h1]),Qe9 _ _ _ 288 h1 (by rw[QCO,h2])]
theorem QtW {w:World} {base g n c:Nat} {bs:List UInt8} {rest:List Value} (h:Blk w g 5 (bs.map W8++rest)) (hb:base≤g) (hn:bs.length=n) (hc:c=(bs.map W8++rest).length) (hm:(bs.map W8++rest).length≤maxLen):OwnB w base (some ⟨g,0,none⟩) n c bs:=by
 subst hc
 have:=QvG h hb hm
 rw[QCG,hn]at this
 exact this
theorem QxY {w:World} {base n c:Nat} {A:Option Addr} {bs:List UInt8} {l:List Value} (h:OwnB w base A n c bs) (hc:c=l.length):l.length≤maxLen:=by
 subst hc
 rcases h.2 with ⟨hv,_⟩|⟨g,cap,cur,hv,_,_,_,hm,_⟩
 ·injection hv with _ _ h3
  omega
 ·injection hv with _ _ h3
  omega
set_option maxRecDepth 100000 in
set_option maxHeartbeats 8000000 in
theorem QlL (s p:List UInt8) (hp:p.length=768) (hs:s.length=192) (w:World):
 Calls Tryz.prog 66 #[.agg (s.map W8).toArray,.agg (p.map W8).toArray] w fun e w'=>∃A' c',e= .returned (.tuple #[.agg (PC (relC s p) (relP s p) (.slice A' (relB s p).length c')).toArray,.int .i64 (relE s p:Nat)])∧OwnB w' w.heap.size A' (relB s p).length c' (relB s p)∧Later w w':=by
 have HZ:=hid zcPe
 have HH:=hid zcH
 have C1:=Qba w 53 (s.map W8)
 have C2:=C1.add (Qaa _ (.cells (p.map W8).toArray 37)) (k:=w.heap.size+1) (by simp) (by omega) (Blk.new' _ _ _ (by simp))
 have C3:=C2.add (Qaa _ (.cells Tryz.zeroCells68 68)) (k:=w.heap.size+2) (by simp) (by omega) ((Blk.new' _ _ Tryz.zeroCells68.toList (by simp)).cast HZ.out)
 clear C1 C2
 have hdl:(p.take 288).length=288:=by rw[QC5];omega
 have k2:(kPay s).length=32:=Qam (by omega)
 have bl:(p.drop 288).length=480:=by rw[QC7];omega
 have hO:=hid (Qr8 (p.take 288) s hdl hs)
 have hf:fitW (kPay s) (p.drop 288):=⟨k2,by omega,by omega⟩
 have hWi:=hid (fun A B c d (w:World) h1 hc h2 hd=>Qrt A B 32 c 480 d (kPay s) (p.drop 288) w h1 hc h2 hd (by omega) (by omega))
 rw[Qfd okO hf]at hWi
 have hBl:=QfM s p hp hs
 have hst:=hid (QtM p 288 480 hp)
 have hE:Hid (relE s p=Qhz (p.take 288) s):=hid rfl
 have hC:Hid (relC s p=Qkn (p.take 288) s):=hid rfl
 have hP:Hid (relP s p=if relE s p=0∧(relC s p).kd=1 then QiY (p.take 288) s++Qdq s p else z768):=hid rfl
 have hB:Hid (relB s p=if relE s p=0∧(relC s p).kd≠1 then Qdq s p else []):=hid rfl
 have hON:=Qho (p.take 288) s hdl
 have hput:=hid (QxV (QiY (p.take 288) s) (Qdq s p) hON hBl)
 rw[show Qc2 (kPay s) (p.drop 288) rsO=Qdq s p from rfl,hBl]at hWi
 have hcz:Hid (Qhz (p.take 288) s≠0→Qkn (p.take 288) s=cmd0):=hid (fun h=>by rw[Qkn,if_neg h])
 rw[←hE.out]at hcz hO
 have hsh:Hid (subB p 0 288=p.take 288):=hid rfl
 generalize relP s p=RP at *
 generalize relB s p=RB at *
 generalize Qdq s p=BD at *
 generalize QiY (p.take 288) s=ON at *
 generalize relE s p=RE at *
 generalize hRC:relC s p=RC at *
 have HC:=hC.out
 rw[←HC]at hO hcz
 clear HC hC hE hRC
 generalize p.take 288=PH at *
 generalize p.drop 288=PD at *
 have hb0:=QgA
 have hb1:=Qql RC
 have hb2:=Qr6 RC
 have hzl:(PC cmd0 z768 nil8).length=789:=QaD _ Qat _
 have lh:((QCC 288 (0:UInt8)).map W8).length=288:=by rw[QCG,QCO]
 generalize QCC 288 (0:UInt8)=ZH at *
 go_enter Tryz.func66,Tryz.ntmps66
 go_wp2_with (first
  | (refine QoD 0 288 rfl _ rfl (C3.nth 1 rfl) rfl Tryz.underlying34 rfl Qc7 hsh.out hdl ?_)
  | (refine QeN rfl _ rfl (C3.nth 2 rfl) hs rfl ?_)
  | fail)
 (with_reducible refine (hO.out _).mono ?_);rintro e w5 ⟨rfl,l5⟩
 replace C3:=C3.later l5
 clear l5 hO
 have Ca:=C3.fresh (Qaa _ (.cells cz0.toArray 64)) (QCN _) (Blk.new w5 64 cz0)
 have Cb:=Ca.add (Qaa _ (.cells Tryz.zeroCells34 34)) (k:=w5.heap.size+1) (fun q hq e=>by
  have:=(Ca.blk q hq).lt
  simp at this
  omega) (by have:=C3.lat.size;omega) ((Blk.new' _ 34 Tryz.zeroCells34.toList (by simp)).cast HH.out)
 clear Ca C3
 by_cases hr:RE=0
 ·subst hr
  replace hP:Hid (RP=if RC.kd=1 then ON++BD else z768):=hid (by rw[hP.out];simp)
  replace hB:Hid (RB=if RC.kd≠1 then BD else []):=hid (by rw[hB.out];simp)
  clear hcz
  go_wp2_with (first
   | (refine Qb8 rfl rfl _ _ rfl (Cb.nth 1 rfl) rfl rfl rfl ?_;intro w6 hb6 ho6
      have Cc:=Cb.write 1 rfl ho6 hb6)
   | (refine QeK rfl rfl _ _ rfl (Cc.nth 0 rfl) rfl rfl hON lh ?_;intro w7 hb7 ho7
      have Cd:=Cc.write 0 rfl ho7 hb7)
   | fail)
  have Ce:=Cd.drew
  clear Cb Cc Cd hb6 ho6 hb7 ho7
  refine Qag [([0,1,2,3,4],5)] [6,7,8,9,10] [] (by as_aux_lemma=>kernel_rfl) (by as_aux_lemma=>kernel_rfl) (by intro _ _ d _ _ h;cases d<;>exact h) ?_
  simp only[Qai,pick,QCD,QCE,QCF,QCJ,QCI]
  repeat (go_big_quiet_step (fail))
  refine wpQuiet_nil ?_
  go_wp2_with fail
  (refine (hWi.out _ _ _ _ _ (QbK (Ce.nth 4 rfl) rfl k2) (by omega) (QbK (Ce.nth 3 rfl) hst.out bl) (QCN _)).mono ?_);rintro e w8 ⟨l8,A8,c8,rfl,o8⟩
  go_wp2_with fail
  try refine⟨by first|assumption|exact Qab _|exact Qaa _ _|exact Later.refl _,?_⟩
  try simp only[Qai,pick,QCD,QCE,QCF,QCJ,QCI]
  repeat (go_big_quiet_step (fail))
  refine wpQuiet_nil ?_
  obtain⟨g8,r8,rfl,hg8,hb8,hc8,hcc8⟩:=Qj8 o8 (by omega)
  have hm8:(BD.map W8++r8).length≤maxLen:=QxY o8 hc8
  have Cf:=Ce.fresh l8 hg8 hb8
  replace hc8:=hid hc8
  clear o8 Ce hWi hb8 hg8
  go_wp2_with (first
   | (refine QcL rfl _ rfl (Cf.nth 2 rfl) rfl ?_)
   | (refine Qah rfl 66 _ rfl (CC RC) (by simp only[QCS,QDa,QC2];exact hb1) ?_)
   | (refine Qah rfl 68 _ rfl (PC RC z768 nil8) (by simp only[QCS,QDa,QC2];exact hb2) ?_)
   | (refine QaY rfl rfl _ _ rfl ((Blk.new w8 _ Tryz.zeroCells68.toList).cast HZ.out) rfl rfl Qat rfl hzl ?_;intro w9 hb9 ho9
      have Cg:=Cf.push (Qaa _ _) (QCN _) ho9 hb9)
   | (refine QiF rfl _ rfl (Cg.nth 0 rfl) rfl ?_)
   | fail)
  (with_reducible refine (Qgt RC _).mono ?_);rintro e w10 ⟨rfl,l10⟩
  have Ch:=Cg.later l10
  clear hb9 ho9 Cg Cf
  cases hk:(RC.kd==1)
  ·have hkn:RC.kd≠1:=by simpa using hk
   have HP:RP=z768:=by rw[hP.out,if_neg hkn]
   have HB:RB=BD:=by rw[hB.out,if_pos hkn]
   replace HP:=hid HP
   replace HB:=hid HB
   go_wp2_with (first
    | (refine Qad rfl rfl _ _ _ rfl w8.heap.size 788 _ _ (Ch.nth 0 rfl) rfl (by rw[QaD _ Qat];omega) rfl (by kernel_rfl) ?_;intro v11 w11 hv11 hb11 ho11;simp[go_sem]at hv11;subst hv11;rw[Qx1 _ Qat]at hb11
       have Ci:=Ch.write 0 rfl ho11 hb11)
    | (refine QnA rfl _ rfl (Ci.nth 0 rfl) Qat rfl ?_)
    | (refine QaY rfl rfl _ _ rfl (Ci.nth 4 rfl) rfl rfl Qat rfl hzl ?_;intro w12 hb12 ho12
       have Cj:=Ci.write 4 rfl ho12 hb12)
    | fail)
   refine bodyPost_ret (Qaf rfl _ _ _ _ _ _ hb12 rfl Tryz.underlying68 rfl (by rw[QaD _ Qat];exact QbF)) rfl ⟨some ⟨g8,0,none⟩,c8,by rw[HP.out,HB.out,hBl];rfl,?_,Cj.lat⟩
   rw[HB.out,hBl]
   exact QtW (Cj.nth 1 rfl) (Cj.at_low 1 rfl) hBl hc8.out hm8
  ·have hky:RC.kd=1:=by simpa using hk
   have HP:RP=ON++BD:=by rw[hP.out,if_pos hky]
   have HB:RB=[]:=by rw[hB.out,if_neg (by simp[hky])]
   have hPl:(ON++BD).length=768:=by rw[QCM];omega
   have l1:(putB z768 0 ON).length=768:=by rw[QbJ (by rw[Qat];omega)];exact Qat
   replace HP:=hid HP
   replace HB:=hid HB
   have r8:=hid (fun w (h:Blk w g8 5 (BD.map W8++r8))=>(show Rd w (some ⟨g8,0,none⟩) 480 (BD.map W8) from Qfr h hBl))
   generalize ON++BD=PK at *
   have hs1:=hid (Qr2 RC (P:=z768) (vs:=ON) nil8 0 (by rw[Qat];omega))
   have hs2:=hid (Qr2 RC (P:=putB z768 0 ON) (vs:=BD.take 480) nil8 288 (by rw[l1,QC5];omega))
   rw[hput.out]at hs2
   generalize putB z768 0 ON=P1 at *
   go_wp2_with (first
    | (refine Qof rfl _ rfl (Ch.nth 2 rfl) hON rfl ?_)
    | (refine Qak rfl rfl 34 _ _ rfl w8.heap.size 20 _ _ (ON.map W8) (Ch.nth 0 rfl) rfl rfl (by rw[QCG,hON];exact Qc7) (by rw[QaD _ Qat,QCG];omega) (QaW _) ?_;intro w11 hb11 ho11;rw[hs1.out]at hb11
       have Ci:=Ch.write 0 rfl ho11 hb11)
    | (refine QaC rfl _ _ _ _ rfl 5 Tryz.underlying22 QbY w8.heap.size 308 480 480 _ _ (Ci.nth 0 rfl) (some ⟨g8,0,none⟩) 480 c8 (BD.map W8) (r8.out _ (Ci.nth 1 rfl)) (QaW _) rfl rfl (by rw[QaD _ l1];omega) ?_;intro w13 hb13 ho13;rw[←QEt,hs2.out]at hb13
       have Ck:=Ci.write 0 rfl ho13 hb13)
    | (refine QnA rfl _ rfl (Ck.nth 0 rfl) hPl rfl ?_)
    | (refine QaY rfl rfl _ _ rfl (Ck.nth 4 rfl) rfl rfl hPl rfl hzl ?_;intro w12 hb12 ho12
       have Cj:=Ck.write 4 rfl ho12 hb12)
    | fail)
   refine bodyPost_ret (Qaf rfl _ _ _ _ _ _ hb12 rfl Tryz.underlying68 rfl (by rw[QaD _ hPl];exact QbF)) rfl ⟨none,0,by rw[HP.out,HB.out];rfl,?_,Cj.lat⟩
   rw[HB.out]
   exact Qcn _ _ _
 ·have hne:((RE:Int) != 0)=true:=by simp;omega
  have HC:=hcz.out hr
  subst HC
  have HP:RP=z768:=by rw[hP.out,if_neg (fun h=>hr h.1)]
  have HB:RB=[]:=by rw[hB.out,if_neg (fun h=>hr h.1)]
  replace HP:=hid HP
  replace HB:=hid HB
  clear hP hB
  go_wp2_with (first
   | (refine Qb8 rfl rfl _ _ rfl (Cb.nth 1 rfl) rfl rfl rfl ?_;intro w6 hb6 ho6
      have Cc:=Cb.write 1 rfl ho6 hb6)
   | (refine QeK rfl rfl _ _ rfl (Cc.nth 0 rfl) rfl rfl hON lh ?_;intro w7 hb7 ho7
      have Cd:=Cc.write 0 rfl ho7 hb7)
   | (refine Qah rfl 68 _ rfl (PC cmd0 z768 nil8) (by simp only[QCS,QC2];exact hb0) ?_)
   | (refine QaY rfl rfl _ _ rfl (Cd.nth 2 rfl) rfl rfl Qat rfl hzl ?_;intro w12 hb12 ho12
      have Cj:=Cd.write 2 rfl ho12 hb12)
   | fail)
  refine bodyPost_ret (Qaf rfl _ _ _ _ _ _ hb12 rfl Tryz.underlying68 rfl (by rw[QaD _ Qat];exact QbF)) rfl ⟨none,0,by rw[HP.out,HB.out];rfl,?_,Cj.lat⟩
  rw[HB.out]
  exact Qcn _ _ _
set_option maxRecDepth 100000 in
set_option maxHeartbeats 4000000 in
theorem Qjp (A:Option Addr) (n c:Nat) (k p:List UInt8) (w:World) (hk:RdB w A n k) (hn:n≤140737488355328) (hp:p.length=768):
 Calls Tryz.prog 22 #[.slice A n c,.agg (p.map W8).toArray] w fun e w'=>∃A' c',e= .returned (.tuple #[.agg (PC (unwC k p) (unwP k p) (.slice A' (unwB k p).length c')).toArray,.int .i64 (unwE k p:Nat)])∧OwnB w' w.heap.size A' (unwB k p).length c' (unwB k p)∧Later w w':=by
 have HZ:=hid zcPe
 have C1:=Qba w 37 (p.map W8)
 have C2:=C1.add (Qaa _ (.cells Tryz.zeroCells68 68)) (k:=w.heap.size+1) (by simp) (by omega) ((Blk.new' _ _ Tryz.zeroCells68.toList (by simp)).cast HZ.out)
 clear C1
 have hal:(p.take 32).length=32:=by rw[QC5];omega
 have hPe:=hid (fun (w:World) B d hk' hu=>QoH A B n c 32 d k (p.take 32) w hk' hu hn (by omega))
 have hsl:=QcM k (p.take 32)
 have hO:=hid (QlL (Qb2 k (p.take 32)) p hp hsl)
 have hE:Hid (unwE k p=if Qa2 k (p.take 32)=0 then relE (Qb2 k (p.take 32)) p else Qa2 k (p.take 32)):=hid rfl
 have hC:Hid (unwC k p=if Qa2 k (p.take 32)=0 then relC (Qb2 k (p.take 32)) p else cmd0):=hid rfl
 have hP:Hid (unwP k p=if Qa2 k (p.take 32)=0 then relP (Qb2 k (p.take 32)) p else z768):=hid rfl
 have hB:Hid (unwB k p=if Qa2 k (p.take 32)=0 then relB (Qb2 k (p.take 32)) p else []):=hid rfl
 have hRPl:=Qf0 (Qb2 k (p.take 32)) p hp hsl
 have hsh:Hid (subB p 0 32=p.take 32):=hid rfl
 generalize unwE k p=UE at *
 generalize unwC k p=UC at *
 generalize unwP k p=UP at *
 generalize unwB k p=UB at *
 generalize Qa2 k (p.take 32)=ME at *
 generalize relP (Qb2 k (p.take 32)) p=RP at *
 generalize relC (Qb2 k (p.take 32)) p=RC at *
 generalize relB (Qb2 k (p.take 32)) p=RB at *
 generalize relE (Qb2 k (p.take 32)) p=RE at *
 generalize Qb2 k (p.take 32)=S at *
 generalize p.take 32=al at *
 have hb0:=QgA
 have hzl:(PC cmd0 z768 nil8).length=789:=QaD _ Qat _
 have hz1:=Quf
 go_enter Tryz.func22,Tryz.ntmps22
 go_wp2_with fail
 (refine (hPe.out _ _ _ (hk.later C2.lat) (QbK (C2.nth 1 rfl) hsh.out hal)).mono ?_);rintro e w3 ⟨rfl,l3⟩
 replace C2:=C2.later l3
 clear hPe l3
 by_cases h0:ME=0
 ·subst h0
  replace hE:=hid (hE.out.trans (if_pos rfl))
  replace hC:=hid (hC.out.trans (if_pos rfl))
  replace hP:=hid (hP.out.trans (if_pos rfl))
  replace hB:=hid (hB.out.trans (if_pos rfl))
  go_wp2_with (first
   | (refine Qec rfl rfl _ _ rfl (Blk.new w3 _ Tryz.zeroCells53.toList) rfl rfl hsl hz1 ?_;intro w4 hb4 ho4
      have C3:=C2.push (Qaa _ _) (QCN _) ho4 hb4)
   | (refine QeN rfl _ rfl (C3.nth 0 rfl) hsl rfl ?_)
   | (refine QeM rfl _ rfl (C3.nth 2 rfl) hp rfl ?_)
   | fail)
  (with_reducible refine (hO.out _).mono ?_);rintro e w5 ⟨A5,c5,rfl,o5,l5⟩
  have hone:(Value.slice A5 RB.length c5).oneCell'=true:=rfl
  have C4:=C3.later l5
  have hlow:∀b,(Value.slice A5 RB.length c5).ownBlock=some b→b≠w.heap.size+1:=fun b hb e=>by
   have h1:=(World.ownsRow.lt o5 b hb).1
   have h2:=(C3.nth 1 rfl).lt
   omega
  go_wp2_with (first
   | (refine QaY rfl rfl _ _ rfl (C4.nth 1 rfl) rfl rfl hRPl hone hzl ?_;intro w6 hb6 ho6
      have C5:=C4.write 1 rfl ho6 hb6
      have o6:=QhC o5 ho6 hlow)
   | fail)
  refine bodyPost_ret (Qaf rfl _ _ _ _ _ _ hb6 rfl Tryz.underlying68 rfl (by rw[QaD _ hRPl];exact QbF)) rfl ⟨A5,c5,by rw[hE.out,hC.out,hP.out,hB.out];rfl,?_,C5.lat⟩
  rw[hB.out]
  exact Qcu o6 C3.lat.size
 ·have hne:((ME:Int) != 0)=true:=by simp;omega
  replace hE:=hid (hE.out.trans (if_neg h0))
  replace hC:=hid (hC.out.trans (if_neg h0))
  replace hP:=hid (hP.out.trans (if_neg h0))
  replace hB:=hid (hB.out.trans (if_neg h0))
  go_wp2_with (first
   | (refine Qec rfl rfl _ _ rfl (Blk.new w3 _ Tryz.zeroCells53.toList) rfl rfl hsl hz1 ?_;intro w4 hb4 ho4
      have C3:=C2.push (Qaa _ _) (QCN _) ho4 hb4)
   | (refine Qah rfl 68 _ rfl (PC cmd0 z768 nil8) (by simp only[QCS,QC2];exact hb0) ?_)
   | (refine QaY rfl rfl _ _ rfl (C3.nth 1 rfl) rfl rfl Qat rfl hzl ?_;intro w6 hb6 ho6
      have C5:=C3.write 1 rfl ho6 hb6)
   | fail)
  refine bodyPost_ret (Qaf rfl _ _ _ _ _ _ hb6 rfl Tryz.underlying68 rfl (by rw[QaD _ Qat];exact QbF)) rfl ⟨none,0,by rw[hE.out,hC.out,hP.out,hB.out];rfl,?_,C5.lat⟩
  rw[hB.out]
  exact Qcn _ _ _
def bigB:Nat→Nat→List UInt8
 | 0,_=>[]
 | w+1,n=>bigB w (n/256)++[QDc n]
theorem Qap:∀w n,(bigB w n).length=w
 | 0,_=>rfl
 | w+1,n=>by rw[bigB,QCM,Qap w];rfl
theorem Qge:∀w n,beN (bigB w n) 0=n%256^w
 | 0,n=>by rw[bigB,beN,QES,Nat.mod_one]
 | w+1,n=>by
   rw[bigB,Qfu,Qge w]
   show n/256%256^w*256+(QDc n).toNat=_
   rw[QDH,show 2^8=256 from rfl,QDA,QDz (256^w),Nat.mod_mul]
   omega
def encB (c:Cmd):List UInt8:=[c.kd,c.fl]++(bigB 4 c.dl.toNat++(bigB 8 c.nx.toNat++(c.ma.val++[0,0])))
theorem QcH (c:Cmd):(encB c).length=32:=by simp[encB,Qap,c.ma.2]
theorem QwF {a b:Cmd} (h1:a.kd=b.kd) (h2:a.fl=b.fl) (h3:a.dl=b.dl) (h4:a.nx=b.nx) (h5:a.ma.val=b.ma.val):a=b:=by
 cases a
 cases b
 simp only at h1 h2 h3 h4
 subst h1 h2 h3 h4
 congr
 exact Subtype.ext h5
theorem QlF (c:Cmd):QfQ (encB c)=c:=by
 have hm:=c.ma.2
 refine QwF rfl rfl ?_ ?_ ?_
 ·show QDf (beN (subB (encB c) 2 4) 0)=c.dl
  rw[encB,QbW _ _ _ 2 4 rfl (Qap _ _),Qge,QC1 (by have:=c.dl.toNat_lt;omega),UInt32.ofNat_toNat]
 ·show QC4 (beN (subB (encB c) 6 8) 0)=c.nx
  rw[encB,←QCU,QbW _ _ _ 6 8 (by rw[QCM,Qap];rfl) (Qap _ _),Qge,QC1 (by have:=c.nx.toNat_lt;omega),UInt64.ofNat_toNat]
 ·rw[Qj0 _ (QcH c),encB,←QCU,←QCU,QbW _ _ _ 14 16 (by rw[QCM,QCM,Qap,Qap];rfl) hm]
theorem QlI (c:Cmd):(encB c).getD 30 0=0∧(encB c).getD 31 0=0:=by
 have h:encB c=([c.kd,c.fl]++bigB 4 c.dl.toNat++bigB 8 c.nx.toNat++c.ma.val)++[0,0]:=by simp[encB]
 have hl:([c.kd,c.fl]++bigB 4 c.dl.toNat++bigB 8 c.nx.toNat++c.ma.val).length=30:=by simp[Qap,c.ma.2]
 rw[h]
 constructor
 ·rw[QCK,QCR (by omega),hl];rfl
 ·rw[QCK,QCR (by omega),hl];rfl
theorem Qog (c:Cmd):decE (encB c)=cmdE c:=by
 rw[decE,QlF,(QlI c).1,(QlI c).2,if_neg (fun h=>by have:=h.2;simp at this)]
theorem QvB (c:Cmd) (h:cmdE c=0):decC (encB c)=c:=by rw[decC,Qog,if_pos h,QlF]
theorem Qj5 (key:List UInt8) (n:Nat) (h:n≤288):chaS key n=(chaS key 288).take n:=by
 rw[QhN key n 5 (by omega),QhN key 288 5 (by omega),List.take_take,QDG h]
theorem Qnp {p q s t:List UInt8} (h:p.length=s.length):xorB (p++q) (s++t)=xorB p s++xorB q t:=List.zipWith_append h
theorem QlM (p q:List UInt8) (k:Nat):(xorB p q).drop k=xorB (p.drop k) (q.drop k):=List.drop_zipWith
theorem Qih (p q:List UInt8) (k:Nat):(xorB p q).take k=xorB (p.take k) (q.take k):=List.take_zipWith
def Qe7 (st:Nat→List UInt8):Nat→List UInt8
 | 0=>[]
 | k+1=>xorB (Qe7 st k++QCC 48 0) ((chaS (kStr (st k)) 288).drop (288-48*(k+1)))
theorem Qdg (st:Nat→List UInt8):∀k,k≤5→(Qe7 st k).length=48*k
 | 0,_=>rfl
 | k+1,h=>by
   have ih:=Qdg st k (by omega)
   rw[Qe7,Qa0 (by simp[ih,QaA];omega),QC7,QaA]
   omega
def betA (n:Nat) (sl st:Nat→List UInt8):Nat→List UInt8
 | 0=>xorB (sl (n-1)++QCC (208-48*(n-1)) 0) (chaS (kStr (st (n-1))) (240-48*(n-1)))++Qe7 st (n-1)
 | j+1=>xorB (sl (n-2-j)++(tagB (kMac (st (n-1-j))) (kAlp (st (n-1-j))) (betA n sl st j)++(betA n sl st j).take 192)) (chaS (kStr (st (n-2-j))) 240)
def tagA (n:Nat) (sl st:Nat→List UInt8) (j:Nat):List UInt8:=tagB (kMac (st (n-1-j))) (kAlp (st (n-1-j))) (betA n sl st j)
def hdrA (n:Nat) (sl st:Nat→List UInt8) (j:Nat):List UInt8:=kAlp (st (n-1-j))++(tagA n sl st j++betA n sl st j)
theorem Qbx (k al be:List UInt8):(tagB k al be).length=16:=by rw[tagB,QC5,QaN];rfl
section
variable {n:Nat} {sl st:Nat→List UInt8} (hn1:1≤n) (hn5:n≤5) (hsl:∀k,(sl k).length=32)
include hn1 hn5 hsl
theorem Qbw:∀j,(betA n sl st j).length=240
 | 0=>by
   have:=Qdg st (n-1) (by omega)
   rw[betA,QCM,Qa0 (by rw[QCM,hsl,QCO,QaA];omega),QaA,this]
   omega
 | j+1=>by
   have ih:=Qbw j
   rw[betA,Qa0 (by rw[QCM,hsl,QCM,Qbx,QC5,ih,QaA];omega),QaA]
theorem Qpy (j:Nat):xorB (betA n sl st (j+1)) (chaS (kStr (st (n-2-j))) 240)=sl (n-2-j)++(tagA n sl st j++(betA n sl st j).take 192):=by
 have ih:=Qbw (st:=st) hn1 hn5 hsl j
 rw[betA,Qev (by rw[QCM,hsl,QCM,Qbx,QC5,ih,QaA];omega)]
 rfl
theorem Qml:∀j,j+1≤n→(betA n sl st j).drop (240-48*(n-1-j))=Qe7 st (n-1-j)
 | 0,_=>by
   rw[betA,Nat.sub_zero,QDp (by rw[Qa0 (by rw[QCM,hsl,QCO,QaA];omega),QaA])]
 | j+1,hj=>by
   have ih:=Qml j (by omega)
   have hbl:=Qbw (st:=st) hn1 hn5 hsl j
   obtain⟨i,hi⟩:∃i,i=n-2-j:=⟨_,rfl⟩
   have hi1:n-1-j=i+1:=by omega
   have hi2:n-1-(j+1)=i:=by omega
   have hfl:=Qdg st i (by omega)
   rw[hi1]at ih
   have hX:(chaS (kStr (st i)) 240).drop (240-48*i)=((chaS (kStr (st i)) 288).drop (240-48*i)).take (48*i):=by
    rw[Qj5 _ 240 (by omega),List.drop_take,show 240-(240-48*i)=48*i by omega]
   have hB:((betA n sl st j).take 192).drop (192-48*i)=xorB (Qe7 st i) (((chaS (kStr (st i)) 288).drop (240-48*i)).take (48*i)):=by
    rw[List.drop_take,show 192-(192-48*i)=48*i by omega,show 192-48*i=240-48*(i+1) by omega,ih,Qe7,Qih,QDV hfl,show 288-48*(i+1)=240-48*i by omega]
   have hcut:(sl i++(tagB (kMac (st (n-1-j))) (kAlp (st (n-1-j))) (betA n sl st j)++(betA n sl st j).take 192)).drop (240-48*i)=((betA n sl st j).take 192).drop (192-48*i):=by
    rw[←QCU,List.drop_append,QEn (by rw[QCM,hsl,Qbx];omega),QCI,QCM,hsl,Qbx,show 240-48*i-(32+16)=192-48*i by omega]
   rw[hi2,betA,←hi,QlM,hcut,hB,hX,Qev (by rw[hfl,QC5,QC7,QaA];omega)]
theorem Qkg (j:Nat) (ha:(kAlp (st (n-1-j))).length=32):subB (hdrA n sl st j) 0 32=kAlp (st (n-1-j))∧subB (hdrA n sl st j) 32 16=tagA n sl st j∧subB (hdrA n sl st j) 48 240=betA n sl st j:=by
 have ht:(tagA n sl st j).length=16:=Qbx _ _ _
 have hb:=Qbw (st:=st) hn1 hn5 hsl j
 refine⟨Qjm _ _ _ ha,QbW _ _ _ _ _ ha ht,?_⟩
 rw[hdrA,←QCU,Qmk _ _ _ _ (by rw[QCM,ha,ht]) hb]
theorem Qmv (j:Nat) (ha:(kAlp (st (n-1-j))).length=32):(hdrA n sl st j).length=288:=by
 have hb:=Qbw (st:=st) hn1 hn5 hsl j
 rw[hdrA,QCM,QCM,ha,hb,tagA,Qbx]
theorem Qw4 (j:Nat) (ha:(kAlp (st (n-1-j))).length=32):QlA (hdrA n sl st j) (st (n-1-j))=true:=by
 obtain⟨h1,h2,h3⟩:=Qkg (sl:=sl) hn1 hn5 hsl j ha
 rw[QlA,h1,h2,h3]
 exact decide_eq_true rfl
theorem Que (ha:(kAlp (st (n-1))).length=32):(Qcv (hdrA n sl st 0) (st (n-1))).take 32=sl (n-1):=by
 have h3:=(Qkg (sl:=sl) hn1 hn5 hsl 0 (by rw[Nat.sub_zero];exact ha)).2.2
 have hb:=Qbw (st:=st) hn1 hn5 hsl 0
 rw[Qcv,h3,Qih,QDn (by omega),betA]
 have h1:(xorB (sl (n-1)++QCC (208-48*(n-1)) 0) (chaS (kStr (st (n-1))) (240-48*(n-1)))).length=240-48*(n-1):=by
  rw[Qa0 (by rw[QCM,hsl,QCO,QaA];omega),QaA]
 rw[QDn (by rw[h1];omega),Qih,QDV (hsl _),Qj5 _ (240-48*(n-1)) (by omega),List.take_take,QDG (by omega)]
 exact Qev (by rw[hsl,QC5,QaA];omega)
theorem Qvq (j:Nat) (hj:j+1<n) (ha:(kAlp (st (n-1-(j+1)))).length=32):Qcv (hdrA n sl st (j+1)) (st (n-1-(j+1)))=sl (n-1-(j+1))++(tagA n sl st j++betA n sl st j):=by
 have h3:=(Qkg (sl:=sl) hn1 hn5 hsl (j+1) ha).2.2
 have hb:=Qbw (st:=st) hn1 hn5 hsl j
 have hb1:=Qbw (st:=st) hn1 hn5 hsl (j+1)
 have hf:=Qml (st:=st) hn1 hn5 hsl j (by omega)
 obtain⟨i,hi⟩:∃i,i=n-2-j:=⟨_,rfl⟩
 have hi1:n-1-j=i+1:=by omega
 have hi2:n-1-(j+1)=i:=by omega
 have hfl:=Qdg st i (by omega)
 have hpl:=Qpy (st:=st) hn1 hn5 hsl j
 rw[hi1]at hf
 rw[←hi]at hpl
 rw[hi2]
 rw[Qcv,h3]
 have hS:chaS (kStr (st i)) 288=chaS (kStr (st i)) 240++(chaS (kStr (st i)) 288).drop 240:=by rw[Qj5 _ 240 (by omega),QC9]
 have hd:(betA n sl st j).drop 192=(chaS (kStr (st i)) 288).drop 240:=by
  have h4:(betA n sl st j).drop 192=(Qe7 st (i+1)).drop (48*i):=by rw[←hf,QD5,show 240-48*(i+1)+48*i=192 by omega]
  rw[h4,Qe7,QlM,QDp hfl,QD5,show 288-48*(i+1)+48*i=240 by omega,Qg1 _ _ (by rw[QC7,QaA])]
 rw[hS,Qnp (by rw[hb1,QaA]),hpl,Qg1 _ _ (by rw[QC7,QaA]),QCU,QCU,←hd,QC9]
end
theorem QgD (d:Int) (h0:0≤d) (h1:d<4294967296):((QEk d).toNat:Int)=d:=by
 rw[Qll]
 omega
theorem Qea (d:Int) (h0:0≤d) (h1:d<256):((QDh d).toNat:Int)=d:=by
 rw[QoR]
 omega
def Qbr (p:Prt):List UInt8:=QCC 16 0++([p.kd,QDh p.ix,QDh p.ct,0]++(bigB 8 p.id.toNat++(bigB 2 p.da.length++(p.da++QCC (450-p.da.length) 0))))
theorem QdW (p:Prt) (h:p.da.length≤450):(Qbr p).length=480:=by
 simp[Qbr,Qap]
 omega
theorem QoN:∀(l:List UInt8) (k:Nat),l.length=k→bigB k (beN l 0)=l:=by
 intro l k h
 induction k generalizing l with
 | zero=>rw[QDj h];rfl
 | succ k ih=>
   have hne:l≠[]:=by rintro rfl;cases h
   obtain⟨q,b,rfl⟩:∃q b,l=q++[b]:=⟨l.dropLast,l.getLast hne,(List.dropLast_concat_getLast hne).symm⟩
   have hq:q.length=k:=by simpa using h
   have hb:=b.toNat_lt
   have e:beN (q++[b]) 0=beN q 0*256+b.toNat:=by rw[Qfu];rfl
   rw[bigB,e,show (beN q 0*256+b.toNat)/256=beN q 0 by omega,ih q hq]
   congr 2
   apply QDr.1
   rw[QDH]
   show (beN q 0*256+b.toNat)%256=_
   omega
theorem QsQ (b:List UInt8) (hb:b.length=480) (n:Nat) (_hn:n≤450):
 b=b.take 16++([b.getD 16 0,b.getD 17 0,b.getD 18 0,b.getD 19 0]++(subB b 20 8++(subB b 28 2++(subB b 30 n++b.drop (30+n))))):=by
 have h1:subB b 30 n++b.drop (30+n)=b.drop 30:=by rw[subB,←QD5,QC9]
 have h2:subB b 28 2++b.drop 30=b.drop 28:=by rw[subB,show b.drop 30=(b.drop 28).drop 2 by rw[QD5],QC9]
 have h3:subB b 20 8++b.drop 28=b.drop 20:=by rw[subB,show b.drop 28=(b.drop 20).drop 8 by rw[QD5],QC9]
 have g:∀i (h:i<b.length),b.getD i 0=b[i]:=fun i h=>by rw[QCK,QCH h];rfl
 have h4:[b.getD 16 0,b.getD 17 0,b.getD 18 0,b.getD 19 0]++b.drop 20=b.drop 16:=by
  rw[g 16 (by omega),g 17 (by omega),g 18 (by omega),g 19 (by omega),QDL (i:=16) (by omega),QDL (i:=17) (by omega),QDL (i:=18) (by omega),QDL (i:=19) (by omega)]
  rfl
 rw[h1,h2,h3,h4,QC9]
theorem Qvt (b:List UInt8) (hb:b.length=480):Qcw b<65536:=by
 have:=Qsh (subB b 28 2) 0 1 (by omega)
 rw[Qam (by omega)]at this
 unfold Qcw
 omega
theorem Qji (b:UInt8):QDh (b.toNat:Int)=b:=by
 apply QDr.1
 have:=b.toNat_lt
 have:=Qea (b.toNat:Int) (by omega) (by omega)
 omega
theorem QlN (b:List UInt8) (hb:b.length=480) (hs:Qcw b≤450):(QgX b).da.length=Qcw b:=Qam (by omega)
theorem Qmy (b:List UInt8) (hb:b.length=480) (h16:b.take 16=QCC 16 0) (hs:Qcw b≤450):
 Qbr (QgX b)=b↔b.getD 19 0=0∧b.drop (30+Qcw b)=QCC (450-Qcw b) 0:=by
 have hc:=QsQ b hb (Qcw b) hs
 have hl:=QlN b hb hs
 have e1:bigB 8 (QgX b).id.toNat=subB b 20 8:=by
  show bigB 8 (QC4 (beN (subB b 20 8) 0)).toNat=_
  have h8:(subB b 20 8).length=8:=Qam (by omega)
  have:=Qsh (subB b 20 8) 0 1 (by omega)
  rw[h8]at this
  rw[QDb,QC1 (by omega)]
  exact QoN _ _ h8
 have e2:bigB 2 (QgX b).da.length=subB b 28 2:=by
  rw[hl]
  exact QoN _ _ (Qam (by omega))
 have e3:Qbr (QgX b)=b.take 16++([b.getD 16 0,b.getD 17 0,b.getD 18 0,0]++(subB b 20 8++(subB b 28 2++(subB b 30 (Qcw b)++QCC (450-Qcw b) 0)))):=by
  rw[Qbr,e1,e2,hl,h16]
  show _++([b.getD 16 0,QDh ((b.getD 17 0).toNat:Int),QDh ((b.getD 18 0).toNat:Int),0]++_)=_
  rw[Qji,Qji]
  rfl
 constructor
 ·intro h
  have h':Qbr (QgX b)=b.take 16++([b.getD 16 0,b.getD 17 0,b.getD 18 0,b.getD 19 0]++(subB b 20 8++(subB b 28 2++(subB b 30 (Qcw b)++b.drop (30+Qcw b))))):=h.trans hc
  rw[e3]at h'
  have h2:=List.append_cancel_left h'
  have h3:=List.append_inj h2 rfl
  have h4:=List.append_cancel_left h3.2
  have h5:=List.append_cancel_left (List.append_cancel_left h4)
  refine⟨?_,h5.symm⟩
  have:=h3.1
  simp only[List.cons.injEq,and_true,true_and]at this
  exact this.symm
 ·rintro⟨h1,h2⟩
  rw[e3]
  conv=>rhs;rw[hc]
  rw[h1,h2]
theorem QwD {a b:Prt} (h1:a.kd=b.kd) (h2:a.id=b.id) (h3:a.ix=b.ix) (h4:a.ct=b.ct) (h5:a.da=b.da):a=b:=by
 cases a
 cases b
 simp only at h1 h2 h3 h4 h5
 subst h1 h2 h3 h4 h5
 rfl
theorem Qff {p:Prt} (h:prtE p=0): ¬(p.kd<1∨3<p.kd)∧p.da.length≤450∧1≤p.ct∧p.ct≤16∧0≤p.ix∧p.ix<p.ct:=by
 unfold prtE at h
 split at h
 ·cases h
 ·rename_i h1
  split at h
  ·cases h
  ·rename_i h2
   split at h
   ·cases h
   ·rename_i h3
    exact⟨h1,by omega,by omega,by omega,by omega,by omega⟩
theorem QnU (p:Prt) (h:prtE p=0):parE (Qbr p)=0∧parP (Qbr p)=p:=by
 obtain⟨h1,h2,h3,h4,h5,h6⟩:=Qff h
 have hl:=QdW p h2
 have g:∀i x,(Qbr p)[i]?=some x→(Qbr p).getD i 0=x:=fun i x h=>by rw[QCK,h];rfl
 have t16:(Qbr p).take 16=QCC 16 0:=QDV (by simp)
 have d16:(Qbr p).drop 16=[p.kd,QDh p.ix,QDh p.ct,0]++(bigB 8 p.id.toNat++(bigB 2 p.da.length++(p.da++QCC (450-p.da.length) 0))):=QDp (by simp)
 have a16:(Qbr p).getD 16 0=p.kd∧(Qbr p).getD 17 0=QDh p.ix∧(Qbr p).getD 18 0=QDh p.ct∧(Qbr p).getD 19 0=0:=by
  have e:∀i,(Qbr p)[16+i]?=((Qbr p).drop 16)[i]?:=fun i=>by rw[QDN]
  exact⟨g 16 _ (by rw[show 16=16+0 from rfl,e,d16];rfl),g 17 _ (by rw[show 17=16+1 from rfl,e,d16];rfl),g 18 _ (by rw[show 18=16+2 from rfl,e,d16];rfl),g 19 _ (by rw[show 19=16+3 from rfl,e,d16];rfl)⟩
 have s20:subB (Qbr p) 20 8=bigB 8 p.id.toNat:=by
  rw[Qbr,←QCU,QbW _ _ _ 20 8 (by simp) (Qap _ _)]
 have s28:subB (Qbr p) 28 2=bigB 2 p.da.length:=by
  rw[Qbr,←QCU,←QCU,QbW _ _ _ 28 2 (by simp[Qap]) (Qap _ _)]
 have hs:Qcw (Qbr p)=p.da.length:=by
  rw[Qcw,s28,Qge]
  omega
 have s30:subB (Qbr p) 30 p.da.length=p.da:=by
  rw[Qbr,←QCU,←QCU,←QCU,QbW _ _ _ 30 _ (by simp[Qap]) rfl]
 have hof:QgX (Qbr p)=p:=by
  refine QwD a16.1 ?_ ?_ ?_ ?_
  ·show QC4 (beN (subB (Qbr p) 20 8) 0)=p.id
   rw[s20,Qge,QC1 (by have:=p.id.toNat_lt;omega),UInt64.ofNat_toNat]
  ·show (((Qbr p).getD 17 0).toNat:Int)=p.ix
   rw[a16.2.1,Qea _ (by omega) (by omega)]
  ·show (((Qbr p).getD 18 0).toNat:Int)=p.ct
   rw[a16.2.2.1,Qea _ (by omega) (by omega)]
  ·show subB (Qbr p) 30 (Qcw (Qbr p))=p.da
   rw[hs,s30]
 have hag:=(Qmy (Qbr p) hl t16 (by omega)).1 (by rw[hof])
 have hE:parE (Qbr p)=0:=by
  rw[parE,if_neg (by omega),if_neg (fun f=>f t16),a16.1,if_neg h1,if_neg (by rw[hag.1,hs];simp;omega),hof,h,if_neg (by rw[hag.2];simp)]
 exact⟨hE,by rw[parP,if_pos hE,hof]⟩
end Go.Proofs.YtdhgpkdjdmlphaaGreat
namespace Go.Proofs.YtdhgpkdjdmlphaaGreat
open Go.ChangeShapes Go.WideShapes Go.ChangeAt Go.RowKit
open _root_.Go.Proofs.YtdhgpkdjdmlphaaGreat.Rows (uptoBulk uptoBulkAll uptoSmall)
section
variable {H:Type} {enc:TypeId×Value→H} {w:World} {base b0:Nat} {sp:Nat→Bool} {held:Bool} {r:Reach}
set_option maxRecDepth 100000 in
theorem Qt9 {fuel:Nat} {cs:List Value} {x:DataW H×List MemPlace} (h:DataW.trod enc Tryz.prog w base sp held fuel 76 cs=some x):∃y:Hp,cs=HC y:=by
 obtain⟨xs,m,rfl,rfl,hl,hxl,he⟩:=DataW.trod_struct Tryz.underlying76 h
 have hn:Tryz.prog.cellsOf 76=68:=by kernel_rfl
 have hN:Tryz.prog.cellsOf 74=66:=by kernel_rfl
 have hI:Tryz.prog.cellsOf 3=1:=by kernel_rfl
 rw[hn]at hl
 have hxl3:xs.length=3:=hxl
 have e0:DataW.trod enc Tryz.prog w base sp held m 74 ((cs.drop 0).take (Tryz.prog.cellsOf 74))=xs[0]?:=he 0 _ rfl
 have e1:DataW.trod enc Tryz.prog w base sp held m 3 ((cs.drop 66).take (Tryz.prog.cellsOf 3))=xs[1]?:=he 1 _ rfl
 have e2:DataW.trod enc Tryz.prog w base sp held m 3 ((cs.drop 67).take (Tryz.prog.cellsOf 3))=xs[2]?:=he 2 _ rfl
 rw[hN,QCH (by omega)]at e0
 rw[hI,QCH (by omega)]at e1 e2
 obtain⟨y,hy,_⟩:=QtP e0
 obtain⟨z1,hz1,_,_⟩:=DataW.trod_int Tryz.underlying3 e1
 obtain⟨z2,hz2,_,_⟩:=DataW.trod_int Tryz.underlying3 e2
 have c1:=Qex hz1
 have c2:=Qex hz2
 refine⟨⟨y,z1,z2⟩,?_⟩
 have hd:cs.drop 66=[.int .i64 z1,.int .i64 z2]:=by
  apply List.ext_getElem?
  intro i
  rw[QDN]
  rcases i with _|_|i
  ·exact c1
  ·exact c2
  ·rw[QDW (by omega),QDW (by simp)]
 rw[HC,←hd]
 rw[QD8]at hy
 show cs=NC y++cs.drop 66
 rw[←hy,QC9]
theorem Qto {fuel:Nat} {v:Value} {x:DataW H×List MemPlace} (h:DataW.trod enc Tryz.prog w base sp held fuel 26 [v]=some x):
 ∃A n c xs,v= .slice A n c∧n≤c∧RdH w A n xs∧n+1≤uptoBulk x.1:=by
 rcases DataW.trod_slice Tryz.underlying26 h with ⟨hcs,rfl⟩|⟨a,len,cap,elems,rest,n,rfl,hcs,rfl,hb,hl,hm,hlen,hel,hsp,hns⟩
 ·obtain rfl:v= .slice none 0 0:=by simpa using hcs
  exact⟨none,0,0,[],rfl,QCN _,Qoz w,by simp[uptoBulk]⟩
 ·obtain rfl:v= .slice (some a) len cap:=by simpa using hcs
  have hc:Tryz.prog.cellsOf 76=68:=by kernel_rfl
  have each:∀i,∃y:Hp,i<len→w.cells? base (a.add (i*68)) 68=some (HC y):=by
   intro i
   by_cases hi:i<len
   ·have hE:=hel i hi
    rw[hc]at hE
    have hy:elems[i]?=some (elems[i]'(by omega)):=QCH _
    rw[hy,Option.bind_eq_some_iff]at hE
    obtain⟨c1,hc1,hy1⟩:=hE
    obtain⟨y,rfl⟩:=Qt9 hy1
    exact⟨y,fun _=>hc1⟩
   ·exact⟨hp0,fun h=>absurd h hi⟩
  obtain⟨f,hf⟩:=Classical.axiomOfChoice each
  have hfl:∀j,j<len→((QDt len).map f).getD j hp0=f j:=by
   intro j hj
   rw[QCK,QCY,QEC hj]
   rfl
  have e2:=Qoi (elems.map (·.1))
  rw[QCG,hlen]at e2
  refine⟨some a,len,cap,(QDt len).map f,rfl,hl,⟨by simp,fun h0=>?_⟩,?_⟩
  ·have e0:a.add (0*68)=a:=by simp[Addr.add]
   have h00:=(QjY (hf 0 h0)).2 0 (by omega)
   rw[e0]at h00
   have e1:a.add 0=a:=by simp[Addr.add]
   rw[e1,show (HC (f 0))[0]?=some (.string (f 0).nod.nm) from rfl]at h00
   obtain⟨h1,h2⟩:=Qmp h00
   obtain⟨b,o,s⟩:=a
   simp only at h1
   subst h1
   refine⟨b,o,rfl,h2,fun j i v hj hv=>?_⟩
   rw[hfl j hj]at hv
   have hi:i<68:=by
    have:=(QCX.1 hv).1
    rwa [Qa6]at this
   have:=(QjY (hf j hj)).2 i hi
   rw[Qdl,Qdl]at this
   rw[this]
   exact hv
  ·simp only[uptoBulk]
   omega
set_option maxRecDepth 100000 in
theorem Qsd {v:Value} {d:DataW H} {ps:List MemPlace} (ht:Tryz.prog.underlying 26=some (.slice 76)) (hval:Value.okWide Tryz.prog w r b0 26 v) (h:DataW.Trod enc Tryz.prog w base sp held 26 v d ps):
 ∃A n c xs,v= .slice A n c∧n≤c∧RdH w A n xs∧n+1≤uptoBulk d:=by
 obtain⟨A,n,c,rfl⟩:=okWide_slice ht hval
 obtain⟨f,hf⟩:=h
 obtain⟨A',n',c',ns,h1,h2,h3,h4⟩:=Qto hf
 exact⟨A',n',c',ns,h1,h2,h3,h4⟩
set_option maxRecDepth 100000 in
theorem Qs0 {fuel:Nat} {cs:List Value} {x:DataW H×List MemPlace} (h:DataW.trod enc Tryz.prog w base sp held fuel 25 cs=some x):∃(p:Prt) (A:Option Addr) (n c:Nat),cs=PaC p (.slice A n c)∧RdB w A n p.da∧n+1≤uptoBulk x.1:=by
 obtain⟨xs,m,rfl,rfl,hl,hxl,he⟩:=DataW.trod_struct Tryz.underlying25 h
 have hn:Tryz.prog.cellsOf 25=5:=by kernel_rfl
 have h8:Tryz.prog.cellsOf 5=1:=by kernel_rfl
 have h64:Tryz.prog.cellsOf 23=1:=by kernel_rfl
 have hI:Tryz.prog.cellsOf 3=1:=by kernel_rfl
 have hB:Tryz.prog.cellsOf 22=1:=by kernel_rfl
 rw[hn]at hl
 have hxl5:xs.length=5:=hxl
 have e0:DataW.trod enc Tryz.prog w base sp held m 5 ((cs.drop 0).take (Tryz.prog.cellsOf 5))=xs[0]?:=he 0 _ rfl
 have e1:DataW.trod enc Tryz.prog w base sp held m 23 ((cs.drop 1).take (Tryz.prog.cellsOf 23))=xs[1]?:=he 1 _ rfl
 have e2:DataW.trod enc Tryz.prog w base sp held m 3 ((cs.drop 2).take (Tryz.prog.cellsOf 3))=xs[2]?:=he 2 _ rfl
 have e3:DataW.trod enc Tryz.prog w base sp held m 3 ((cs.drop 3).take (Tryz.prog.cellsOf 3))=xs[3]?:=he 3 _ rfl
 have e4:DataW.trod enc Tryz.prog w base sp held m 22 ((cs.drop 4).take (Tryz.prog.cellsOf 22))=xs[4]?:=he 4 _ rfl
 rw[h8,QCH (by omega)]at e0
 rw[h64,QCH (by omega)]at e1
 rw[hI,QCH (by omega)]at e2 e3
 rw[hB,QCH (by omega)]at e4
 obtain⟨z0,hz0,_,w0⟩:=DataW.trod_int Tryz.underlying5 e0
 obtain⟨z1,hz1,_,w1⟩:=DataW.trod_int Tryz.underlying23 e1
 obtain⟨z2,hz2,_,_⟩:=DataW.trod_int Tryz.underlying3 e2
 obtain⟨z3,hz3,_,_⟩:=DataW.trod_int Tryz.underlying3 e3
 have r0:0≤z0∧z0≤255:=by simpa [Lit.wf,IntKind.min,IntKind.max,IntKind.signed,IntKind.bits] using w0
 have r1:0≤z1∧z1≤18446744073709551615:=by simpa [Lit.wf,IntKind.min,IntKind.max,IntKind.signed,IntKind.bits] using w1
 match cs,hl with
 | [a,b,c,d,v],_=>
   simp only[QD8,QEf,List.take_succ_cons,QET]at hz0 hz1 hz2 hz3 e4
   obtain⟨A,n,cp,bs,rfl,h1,h2,h3,h4⟩:=QjW Tryz.underlying22 Tryz.underlying5 QvV e4
   obtain rfl:a=W8 (QDc z0.toNat):=by rw[←QbC z0 r0.1 (by omega)];simpa using hz0
   obtain rfl:b=W64 (QC4 z1.toNat):=by rw[←Qbc z1 r1.1 (by omega)];simpa using hz1
   obtain rfl:c= .int .i64 z2:=by simpa using hz2
   obtain rfl:d= .int .i64 z3:=by simpa using hz3
   refine⟨⟨QDc z0.toNat,QC4 z1.toNat,z2,z3,bs⟩,A,n,cp,rfl,h3,?_⟩
   have hbl:=h3.len
   have:=Qou (d:=xs[4].1) (l:=xs.map (·.1)) (QDu.2 ⟨_,QDS _,rfl⟩)
   simp only[uptoBulk]
   omega
set_option maxRecDepth 100000 in
theorem Qs9 {v:Value} {d:DataW H} {pl:List MemPlace} (hval:Value.okWide Tryz.prog w r b0 25 v) (h:DataW.Trod enc Tryz.prog w base sp held 25 v d pl):∃(p:Prt) (A:Option Addr) (n c:Nat),v= .agg (PaC p (.slice A n c)).toArray∧RdB w A n p.da∧n+1≤uptoBulk d:=by
 simp only[Value.okWide,Tryz.underlying25]at hval
 obtain⟨cs,rfl,h2,_⟩:=hval
 obtain⟨fuel,hf⟩:=h
 obtain⟨p,A,n,c,hy,h3,h4⟩:=Qs0 hf
 have hy':cs.toList=PaC p (.slice A n c):=hy
 exact⟨p,A,n,c,by rw[←hy'],h3,h4⟩
end
end Go.Proofs.YtdhgpkdjdmlphaaGreat
