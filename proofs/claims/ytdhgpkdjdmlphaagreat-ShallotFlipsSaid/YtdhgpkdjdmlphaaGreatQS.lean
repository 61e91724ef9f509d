/-
  Lemmas for the last text of this claim (part 19 of 20).
-/
import Derived.ArgAppend
import Derived.BigQuiet
import Derived.BigRegion
import Derived.ChangeOld
import Derived.Deep.RegionWith
import Derived.DeepKeys4
import Derived.JoinedCond
import Derived.LaidMore
import Derived.Laws.BytesArg
import Derived.Laws.CopyOwn
import Derived.Laws.Externs
import Derived.Laws.IdiomStrings
import Derived.Laws.Tables
import Derived.Lib.AppendStr
import Derived.Lib.AppendZerosOnto
import Derived.Lib.Mul64
import Derived.Lib.SlBytesConst
import Derived.LoopN
import Derived.Maps.OwnSet
import Derived.OpenShut
import Derived.OrdersHeld
import Derived.ProofKit
import Derived.Shelf.Spec.BitsCarry
import Derived.ShutString
import Derived.Test.YtdhgpkdjdmlphaaGreatProg
import Derived.Test.YtdhgpkdjdmlphaaGreatRows
import Derived.WalkKit
import Derived.WalkLawsBesides
import Derived.WalkSpells
import Derived.Test.YtdhgpkdjdmlphaaGreatQC
import Derived.Test.YtdhgpkdjdmlphaaGreatQF
import Derived.Test.YtdhgpkdjdmlphaaGreatQP
import Derived.Test.YtdhgpkdjdmlphaaGreatQQ
import Derived.Test.YtdhgpkdjdmlphaaGreatQR
open BitVec renaming toNat_ushiftRight → QDG
open List renaming replicate → QCA, getElem?_cons_succ → QCB, getElem?_cons_zero → QCC, length_map → QCE, cons_append → QCF, nil_append → QCG, getElem?_eq_getElem → QCH, getD_eq_getElem?_getD → QCI, setIfInBounds_toArray → QCJ, length_append → QCK, length_replicate → QCM, set_cons_zero → QCN, set_cons_succ → QCO, take_of_length_le → QCP, getElem?_append_right → QCQ, append_assoc → QCR, getElem?_map → QCS, getElem?_eq_some_iff → QCT, getElem?_append_left → QCU, map_toArray → QCW, length_take → QC1, map_nil → QC2, length_drop → QC3, map_cons → QC7, take_succ_eq_append_getElem → QC8, take_append_drop → QC9, set_append_right → QDb, append_nil → QDf, map_replicate → QDg, map_append → QDh, length_set → QDi, eq_nil_of_length_eq_zero → QDj, take_append_of_le_length → QDk, drop_left' → QDn, drop_append_of_le_length → QDH, flatten_cons → QDN, getElem?_drop → QDP, getElem?_set_ne → QDV, take_left' → QDY, replicate_succ → QD7, drop_zero → QEb, flatMap_cons → QEd, getElem?_take → QEh, drop_eq_nil_of_le → QEj, getElem?_set_self → QEk, drop_eq_getElem_cons → QEp, map_congr_left → QEJ, range_succ → QEK, flatten_nil → QEN
open Nat renaming le_refl → QCL, lt_of_lt_of_le → QC0, zero_add → QC6, le_trans → QDl, div_eq_of_lt → QDo, shiftRight_eq_div_pow → QDB, lt_or_ge → QDC, le_mul_of_pos_right → QDI, sub_self → QDR, mod_mod → QDZ, add_zero → QD9, pow_mul → QEf, add_sub_cancel_left → QEw
open Option renaming toList_some → QCD
open UInt32 renaming ofInt → QEg
open UInt64 renaming ofInt → QDs, toNat_inj → QEr
open UInt8 renaming ofNat → QDc, ofInt → QDe, toNat_inj → QDD, toNat_ofNat' → QDK
set_option linter.all false
namespace Go.Proofs.YtdhgpkdjdmlphaaGreat
open Go.RowKit
open Go.BigFrame
section
variable {P:Program} {ops:Array Oper} {rest:List Oper} {o:Oper} {a:Act} {w:World} {Q:Exit→Act→World→Prop} {α:Type} {F:α→List Value} {sz:Nat} {d:α}
theorem Qfm (hF:∀x,(F x).length=sz) (h0:0<sz) (hgd:o.guard=none) (s x:Operand) (t:TypeId) (ho:o.op= .call { callee:=.builtin .append,args:= #[s,x],argTypes:= #[t,t] })
 (e:TypeId) (z:Value) (bytes:Nat) (ht:P.underlying t=some (.slice e)) (hinfo:(P.info? e).map (fun i=>(i.zero,i.size,i.bytes))=some (some z,sz,bytes)) (hzs:z.cells.size=sz) (g:Nat)
 (A:Option Addr) (m c:Nat) (xs:List α) (hr:RdF F sz d w A m xs) (hs:a.eval s= .slice (some ⟨g,0,none⟩) 0 0) (hx:a.eval x= .slice A m c) (hsz:m*bytes≤140737488355328) (hby:0<bytes)
 (h:∀A' c' w',RdF F sz d w' A' m xs→Later w w'→wpList P ops Q rest (a.put o.dst (.slice A' m c')) w'):wpList P ops Q (o :: rest) a w:=by
 obtain⟨i,hi,hz,hsize,hbytes⟩:=info_parts hinfo
 have hm:m≤140737488355328:=QDl (QDI _ hby) hsz
 refine wpList_plain hgd fun K hK=>?_
 rcases Nat.eq_zero_or_pos m with hm0|hm0
 ·subst hm0
  have hrun:(Builtin.append_ #[t,t] o.type #[.slice (some ⟨g,0,none⟩) 0 0,.slice A 0 c]).run P w= .ok (.slice (some ⟨g,0,none⟩) 0 0) w:=by
   cases A<;>simp[Builtin.append_,run_underlying ht,sizeOf,typeInfo,hi,Builtin.lenOf,Builtin.firstCells,loadCells,loadCellsFrom,storeCells]
  unfold Oper.wp execOp
  simp only[ho,resolve,invoke,builtin,Sem.run_bind,Sem.run_pure,Result.andThen_ok,QCW,QC7,QC2,hs,hx,hrun]
  exact hK _ _ (h _ _ _ ⟨hr.1,fun h=>absurd h (by omega)⟩ (Later.refl w))
 ·obtain⟨b,o2,rfl,_,_⟩:=hr.2 hm0
  have hlen:(xs.flatMap F).length=m*sz:=by rw[QbY hF,hr.1]
  have hrun:=run_append_grow (P:=P) w t o.type e i z ht hi hz ⟨g,0,none⟩ 0 0 [] (by simp) (by simp) ⟨b,o2,none⟩ m c (xs.flatMap F) (by rw[hsize,hlen]) (hr.cells hF h0) (by omega) (by omega) (growslice_fits (by omega) (by rw[hbytes,QC6];exact hsz))
  have hge:=grownCap_ge w (0+m) 0 e
  have hcm:grownCap w (0+m) 0 e≤maxLen:=grownCap_le_maxLen w (0+m) 0 e (by unfold maxLen;omega)
  unfold Oper.wp execOp
  simp only[ho,resolve,invoke,builtin,Sem.run_bind,Sem.run_pure,Result.andThen_ok,QCW,QC7,QC2,hs,hx,hrun]
  generalize grownCap w (0+m) 0 e=cp at *
  rw[QC6]at *
  have hown:(w.drew.alloc (.cells (#[]++(xs.flatMap F).toArray++Builtin.zeroCells z.cells (cp-m)) e)).ownsRow w.heap.size e sz (.slice (some ⟨w.heap.size,0,none⟩) m cp) m (xs.flatMap F):=by
   refine⟨hlen,.inr ⟨w.heap.size,_,_,rfl,QCL _,heap_alloc_new w.drew _,hge,hcm,?_,?_⟩⟩
   ·simp only[Array.size_append,List.size_toArray,size_zeroCells,hzs,hlen]
    rw[Nat.sub_mul,List.length_nil]
    have:=Nat.mul_le_mul_right sz hge
    omega
   ·simp only[Array.toList_append,←hlen]
    rw[QCG,List.take_left]
  exact hK _ _ (h _ _ _ (Qng hF hown hr.1) ((Qab w).trans (Qaa w.drew _)))
end
structure Stp where
 nm:ByteArray
 delay:Int
 flags:Int
theorem QBY:(Tryz.prog.info? 147).map (fun i=>(i.zero,i.size,i.bytes))=some (some (.agg (HC hp0).toArray),68,104):=by kernel_rfl
theorem Qwc:(Tryz.prog.info? 76).map (fun i=>(i.zero,i.size,i.bytes))=some (some (.agg (HC hp0).toArray),68,104):=by kernel_rfl
theorem QBQ:(Tryz.prog.info? 147).bind (·.zero)=some (.agg (HC hp0).toArray):=by kernel_rfl
section
variable {ops:Array Oper} {rest:List Oper} {o:Oper} {a:Act} {w:World} {Q:Exit→Act→World→Prop}
end
theorem Qf6 (p q r v:List Value) (k:Nat) (hk:p.length=k) (h:q.length=v.length):Qaq (p++q++r) k v=p++v++r:=by
 subst hk
 rw[Qaq,show p.length+v.length=(p++q).length by rw[QCK,h],QDn rfl,QCR p q r,QDY rfl]
theorem Qzs (x:Nod) (d f:Int):Qaq (Qaq (Qaq (HC hp0) 0 (NC x)) 66 [.int .i64 d]) 67 [.int .i64 f]=HC ⟨x,d,f⟩:=by
 have h1:Qaq (HC hp0) 0 (NC x)=NC x++[.int .i64 0]++[.int .i64 0]:=by
  have:=Qf6 [] (NC nod0) [.int .i64 0,.int .i64 0] (NC x) 0 rfl (by rw[Qa1,Qa1])
  rw[QCG,QCG]at this
  rw[QCR]
  exact this
 have h2:=Qf6 (NC x) [.int .i64 0] [.int .i64 0] [.int .i64 d] 66 (Qa1 x) rfl
 have h3:=Qf6 (NC x++[.int .i64 d]) [.int .i64 0] [] [.int .i64 f] 67 (by rw[QCK,Qa1];rfl) rfl
 rw[QDf,QDf]at h3
 rw[h1,h2,h3,HC,QCR]
 rfl
theorem Qq3 (x:Nod) (d f:Int):Tryz.prog.built 147 [(0,.agg (NC x).toArray),(1,.int .i64 d),(2,.int .i64 f)]=some (HC ⟨x,d,f⟩).toArray:=by
 rw[QbD (pl:=[(0,66),(66,1),(67,1)]) Tryz.underlying147 QBQ (by kernel_rfl),Qck (vs:=NC x) (off:=0) rfl (by rw[Qa1];rfl) (by rw[Qa1,Qa4];omega),
  Qck (vs:=[.int .i64 d]) (off:=66) rfl rfl (by rw[Qcx _ _ _ (by rw[Qa1,Qa4];omega),Qa4];simp),Qck (vs:=[.int .i64 f]) (off:=67) rfl rfl (by rw[Qcx _ _ _ (by rw[Qcx _ _ _ (by rw[Qa1,Qa4];omega),Qa4];simp),Qcx _ _ _ (by rw[Qa1,Qa4];omega),Qa4];simp),Qdv,Qzs]
def S32 (b:Nat):Value:=.slice (some ⟨b,0,none⟩) 32 32
theorem Qup (gs:List Nat) (k b:Nat) (hg:gs.length=k) (n:Nat) (hk:k<n) (z:Value):(gs.map S32++QCA (n-k) z).set k (S32 b)=(gs++[b]).map S32++QCA (n-(k+1)) z:=by
 have hl:(gs.map S32).length=k:=by rw[QCE,hg]
 rw[QDb _ _ (by omega),hl,QDR,show n-k=n-(k+1)+1 by omega,QD7,QCN,QDh,QCR]
 rfl
set_option maxRecDepth 100000 in
set_option maxHeartbeats 2000000 in
theorem Qk7 (A:Option Addr) (n c:Nat) (xs:List Hp) (w:World) (hx:RdH w A n xs) (hn:n≤1099511627776):
 Calls Tryz.prog 16 #[.slice A n c] w fun e w'=>∃(g:Nat) (gs:List Nat),e= .returned (.slice (some ⟨g,0,none⟩) n n)∧w.heap.size≤g∧Blk w' g 22 (gs.map S32)∧gs.length=n∧(∀ (j b:Nat),gs[j]?=some b→g<b∧Blk w' b 5 ((xs.getD j hp0).nod.pub.val.map W8))∧gs.Pairwise (· <·)∧Later w w':=by
 have hxl:=hx.1
 go_enter Tryz.func16,Tryz.ntmps16
 go_wp2_with (first
  | (refine Qax rfl _ _ 48 rfl 22 (.slice none 0 0) 24 Tryz.underlying48 Qr3 rfl _ _ _ _ n rfl rfl rfl rfl (by omega) (by omega) ?_;intro w1 hb1 hl1)
  | fail)
 have hgl:w.heap.size≤w.heap.size:=QCL _
 generalize hge:w.heap.size=g at hb1 ⊢
 replace hgl:w.heap.size≤g:=Nat.le_of_eq hge
 clear hge
 go_loopw [10] (fun i wr=>∃(k:Nat) (gs:List Nat),i= .int .i64 k∧k≤n∧gs.length=k∧Blk wr g 22 (gs.map S32++QCA (n-k) (.slice none 0 0))∧Hid (∀ (j b:Nat),gs[j]?=some b→g<b∧b<wr.heap.size∧Blk wr b 5 ((xs.getD j hp0).nod.pub.val.map W8))∧Hid (gs.Pairwise (· <·))∧Later w wr) (fun i _=>n-(intOf i).toNat)
 case atStart=>exact⟨0,[],rfl,by omega,rfl,hb1,hid (fun j b h=>by simp at h),hid List.Pairwise.nil,hl1⟩
 case round=>
  clear hb1 hl1
  obtain⟨k,gs,rfl,hk,hgs,hb,hall,hpw,L⟩:=hrel
  by_cases hlt:k<n
  ·obtain⟨b,o,rfl,hbb,hc⟩:=(hx.later L).at_ hlt
   have hcn:∀i v,(NC (xs.getD k hp0).nod)[i]?=some v→wr.cell? ⟨b,o+k*68+i,none⟩=some v:=fun i v hv=>hc i v (QfO _ hv)
   have hlast:=hid (show ∀b':Nat,(gs++[b'])[k]?=some b' from fun b'=>by rw[QCQ (by omega),hgs,QDR];rfl)
   generalize hz:xs.getD k hp0=z at hcn
   have hzz:=hid hz
   clear hz hc
   have hgw:g<wr.heap.size:=hb.lt
   go_wp2_with (first
    | (refine QpU rfl _ rfl hcn rfl ?_)
    | fail)
   (with_reducible refine (Qje z.nod _).mono ?_);rintro e w2 ⟨g2,rfl,hg2,hp2,l2⟩
   replace hb:=hb.later l2
   have hlen:(gs.map S32++QCA (n-k) (Value.slice none 0 0)).length=n:=by simp;omega
   go_wp2_with (first
    | (refine Qac rfl rfl _ _ _ rfl g k _ _ hb rfl ?hl rfl (by kernel_rfl) ?_;(case hl=>rw[hlen];exact hlt);intro v w3 hv hb3 ho3;have hv':v=S32 g2:=hv.symm;subst hv';rw[Qup gs k g2 hgs n hlt]at hb3)
    | fail)
   refine⟨⟨k+1,gs++[g2],rfl,by omega,by rw[QCK,hgs];rfl,hb3,?_,?_,(L.trans l2).only ho3 hgl⟩,by simp[intOf];omega⟩
   ·refine hid fun j b' h=>?_
    rcases QDC j k with hj|hj
    ·rw[QCU (by omega)]at h
     obtain⟨h1,h2,h3⟩:=hall.out j b' h
     have h4:=(h3.later l2).only ho3 (by omega)
     exact⟨h1,h4.lt,h4⟩
    ·have hjk:j=k:=by
      have:=(QCT.1 h).1
      rw[QCK,hgs]at this
      simp at this
      omega
     subst hjk
     rw[hlast.out g2]at h
     obtain rfl:g2=b':=by simpa using h
     have h4:=hp2.only ho3 (by omega)
     rw[hzz.out]
     exact⟨by omega,h4.lt,h4⟩
   ·refine hid (List.pairwise_append.2 ⟨hpw.out,List.pairwise_singleton _ _,fun a ha b' hb'=>?_⟩)
    obtain rfl:b'=g2:=by simpa using hb'
    obtain⟨j,hj⟩:=List.getElem?_of_mem ha
    have:=(hall.out j a hj).2.1
    omega
  ·obtain rfl:k=n:=by omega
   rw[QDR,List.replicate_zero,QDf]at hb
   go_wp2
   go_ret
   exact⟨g,gs,rfl,hgl,hb,hgs,fun j b h=>⟨(hall.out j b h).1,(hall.out j b h).2.2⟩,hpw.out,L⟩
theorem Qtw {α:Type} {F:α→List Value} {sz:Nat} {d:α} {w:World} {A:Option Addr} {n m:Nat} {xs:List α} (h:RdF F sz d w A n xs) (hm:m≤n):RdF F sz d w A m (xs.take m):=by
 refine⟨by rw[QC1,h.1];omega,fun h0=>?_⟩
 obtain⟨b,o,hA,hb,hc⟩:=h.2 (by omega)
 refine⟨b,o,hA,hb,fun j i v hj hv=>hc j i v (by omega) ?_⟩
 rw[QCI,QEh,if_pos hj]at hv
 rw[QCI]
 exact hv
def byS (xs:List UInt8):ByteArray:=⟨xs.toArray⟩
theorem QjI (xs:List UInt8):(byS xs).toList=xs:=by rw[ByteArray.toList_eq];rfl
theorem Qzd (xs ys:List UInt8):((byS xs).toList==(byS ys).toList)=decide (xs=ys):=by
 rw[QjI,QjI]
 by_cases h:xs=ys
 ·subst h
  simp
 ·rw[decide_eq_false h,beq_eq_false_iff_ne]
  exact h
theorem Qrn {P:Program} {w:World} {A:Option Addr} {n:Nat} {xs:List UInt8} (h:RdB w A n xs) (src e:TypeId) (hs:P.underlying src=some (.slice e)) (he:P.underlying e=some (.int .u8)) (dst:TypeId) (hd:P.underlying dst=some .string) (c:Nat):
 (convert src dst (.slice A n c)).run P w= .ok (.string (byS xs)) w:=by
 have hl:=h.len
 by_cases h0:0<n
 ·obtain⟨b,o,rfl,hb,hc⟩:=h.2 h0
  have:=run_convert_bytes_arg w src e hs he b o n c (xs.map fun x=>(x.toNat:Int)) (by rw[QCE,hl]) (fun i hi=>by
   have hx:xs[i]?=some (xs[i]'(by omega)):=QCH _
   have:=hc i (W8 (xs[i]'(by omega))) (by rw[QCS,hx];rfl)
   rw[this,QCI,QCS,hx]
   rfl) dst hd
  rw[this]
  congr 2
  rw[strOfNums,byS,List.map_map]
  congr 2
  conv=>rhs;rw[←List.map_id xs]
  refine QEJ fun x _=>?_
  simp
 ·obtain rfl:n=0:=by omega
  obtain rfl:xs=[]:=QDj hl
  cases A with
  | none=>exact run_convert_bytes_nil w src e hs he 0 c dst hd
  | some a=>
    rw[run_convert_bytes_string w src dst e _ 0 c hs he hd,run_bytesToString w a 0 c [] (by simp[loadCells,loadCellsFrom])]
    rfl
theorem Qrt (A B:Option Addr) (n m c d:Nat) (xs ys:List UInt8) (w:World) (hx:RdB w A n xs) (hy:RdB w B m ys):
 Calls Tryz.prog 21 #[.slice A n c,.slice B m d] w fun e w'=>e= .returned (.bool (decide (xs=ys)))∧w'=w:=by
 have h1:=Qrn hx 22 5 Tryz.underlying22 Tryz.underlying5 9 Tryz.underlying9 c
 have h2:=Qrn hy 22 5 Tryz.underlying22 Tryz.underlying5 9 Tryz.underlying9 d
 have hE:=hid (Qzd xs ys)
 generalize decide (xs=ys)=R at *
 generalize byS xs=S at *
 generalize byS ys=T at *
 go_enter Tryz.func21,Tryz.ntmps21
 go_wp2_with fail
 go_ret
 exact⟨by rw[←hE.out];rfl,rfl⟩
end Go.Proofs.YtdhgpkdjdmlphaaGreat
namespace Go.Proofs.YtdhgpkdjdmlphaaGreat
open Go.RowKit
structure Car where
 vs:List Vst
 bd:List UInt8
 tk:Int
 er:Nat
section
variable {xs:List Nod} {k:Nat} {id:UInt64} {tk:Int} {p:List UInt8} {vs:List Vst}
end
end Go.Proofs.YtdhgpkdjdmlphaaGreat
namespace Go.Proofs.YtdhgpkdjdmlphaaGreat
open Go.RowKit
open Go.BigFrame
def leM (a e:Nat):Nat:=if e≠0∧(a=0∨e<a) then e else a
theorem Qm1 (es:List Nat) (k:Nat) (h:k<es.length):Qb0 (es.take (k+1))=leM (Qb0 (es.take k)) (es.getD k 0):=by
 rw[Qb0,Qb0,QC8 h,List.foldl_append,QCI,QCH h]
 rfl
def eVM (e:Nat):Value:=.int .i64 (e:Int)
set_option maxRecDepth 100000 in
theorem Qfu (A:Option Addr) (n c:Nat) (es:List Nat) (w:World) (hr:Rd w A n (es.map eVM)) (hn:n≤1048576):
 Calls Tryz.prog 8 #[.slice A n c] w fun e w'=>e= .returned (.int .i64 (Qb0 es:Nat))∧Later w w':=by
 have hl:es.length=n:=by have:=hr.1;rwa [QCE]at this
 have hst:=hid (Qm1 es)
 have h0:Hid (Qb0 (es.take 0)=0):=hid rfl
 have hn':Hid (Qb0 (es.take n)=Qb0 es):=hid (by rw[QCP (by omega)])
 go_enter Tryz.func8,Tryz.ntmps8
 go_wp2_with fail
 go_loopw [3,8] (fun s i wr=>∃k:Nat,k≤n∧i= .int .i64 k∧s= .int .i64 (Qb0 (es.take k):Nat)∧Later w wr) (fun _ i _=>n-(intOf i).toNat)
 case atStart=>exact⟨0,by omega,rfl,by rw[h0.out];rfl,Later.refl w⟩
 case round=>
  obtain⟨k,hk,rfl,rfl,L⟩:=hrel
  by_cases hlt:k<n
  ·obtain⟨b,o,rfl,hb,hc⟩:=(hr.later L).2 (by omega)
   have c1:wr.cell? ⟨b,o+k,none⟩=some (eVM (es.getD k 0)):=hc k _ (by rw[QCS,QCI,QCH (by omega)];rfl)
   have hS:=hst.out k (by omega)
   rw[eVM]at c1
   clear hc
   generalize es.getD k 0=x at *
   generalize Qb0 (es.take k)=y at *
   replace hS:=hid hS
   by_cases e0:x=0
   ·have f1:((x:Int) != 0)=false:=by simp[e0]
    have hz:=hid (hS.out.trans (by rw[leM,if_neg (by simp[e0])]))
    clear e0
    go_wp2_with fail
    exact⟨⟨k+1,by omega,by go_num,by rw[hz.out],L⟩,by simp[intOf];omega⟩
   have f1:((x:Int) != 0)=true:=by simp[e0]
   by_cases e1:y=0
   ·have f2:((y:Int)==0)=true:=by simp[e1]
    have hz:=hid (hS.out.trans (by rw[leM,if_pos ⟨e0,.inl e1⟩]))
    clear e0 e1
    go_wp2_with fail
    exact⟨⟨k+1,by omega,by go_num,by rw[hz.out],L⟩,by simp[intOf];omega⟩
   have f2:((y:Int)==0)=false:=by simp[e1]
   by_cases e2:x<y
   ·have f3:decide ((x:Int)<(y:Int))=true:=decide_eq_true (by omega)
    have hz:=hid (hS.out.trans (by rw[leM,if_pos ⟨e0,.inr e2⟩]))
    clear e0 e1
    go_wp2_with fail
    exact⟨⟨k+1,by omega,by go_num,by rw[hz.out],L⟩,by simp[intOf];omega⟩
   ·have f3:decide ((x:Int)<(y:Int))=false:=decide_eq_false (by omega)
    have hz:=hid (hS.out.trans (by rw[leM,if_neg (fun h=>h.2.elim e1 e2)]))
    clear e0 e1
    go_wp2_with fail
    exact⟨⟨k+1,by omega,by go_num,by rw[hz.out],L⟩,by simp[intOf];omega⟩
  ·obtain rfl:k=n:=by omega
   rw[hn'.out]
   go_wp2_with fail
   go_ret
   exact⟨rfl,L⟩
section
variable {P:Program} {ops:Array Oper} {rest:List Oper} {o:Oper} {a:Act} {w:World} {Q:Exit→Act→World→Prop} {t:TypeId}
theorem go_b {p:Array (Nat×Operand)} (_ho:o.op= .build t p) (h:wpList P ops Q (o :: rest) a w):wpList P ops Q (o :: rest) a w:=h
theorem go_a {s x:Operand} (_ho:o.op= .call { callee:=.builtin .append,args:= #[s,x],argTypes:= #[t,t] }) (h:wpList P ops Q (o :: rest) a w):wpList P ops Q (o :: rest) a w:=h
theorem go_l {x:Operand} (_ho:o.op= .load t x) (h:wpList P ops Q (o :: rest) a w):wpList P ops Q (o :: rest) a w:=h
theorem Qa7 {x y:Operand} (_ho:o.op= .store t x y) (h:wpList P ops Q (o :: rest) a w):wpList P ops Q (o :: rest) a w:=h
end
theorem Qha:(Tryz.prog.info? 76).map (·.size)=some 68:=by kernel_rfl
theorem Qxr:(Tryz.prog.info? 147).map (fun i=>(i.zero,i.size))=some (some (.agg (HC hp0).toArray),68):=by kernel_rfl
set_option maxRecDepth 100000 in
set_option maxHeartbeats 4000000 in
theorem Qvr (A:Option Addr) (n c:Nat) (hs:List Hp) (w:World) (hh:RdH w A n hs) (hn:n≤1048576):
 Calls Tryz.prog 12 #[.slice A n c] w fun e w'=>∃A' c',e= .returned (.slice A' n c')∧RdH w' A' n hs∧Later w w':=by
 have hl:=hh.1
 go_enter Tryz.func12,Tryz.ntmps12
 go_wp2_with fail
 go_loopw [3,8] (fun v i wr=>∃(k:Nat) (A':Option Addr) (c':Nat),k≤n∧i= .int .i64 k∧v= .slice A' k c'∧wr.ownsRow w.heap.size 147 68 (.slice A' k c') k ((hs.take k).flatMap HC)∧Later w wr) (fun _ i _=>n-(intOf i).toNat)
 case atStart=>exact⟨0,none,0,by omega,rfl,rfl,World.ownsRow_nil w _ _ 68,Later.refl w⟩
 case round=>
  obtain⟨k,A1,c1,hk,rfl,rfl,hown,L⟩:=hrel
  by_cases hlt:k<n
  ·obtain⟨b,o,rfl,hb,hc⟩:=(hh.later L).at_ hlt
   have htk:(hs.take (k+1)).flatMap HC=(hs.take k).flatMap HC++[hs.getD k hp0].flatMap HC:=by
    rw[List.take_add_one,List.flatMap_append,QCI,QCH (by omega)]
    rfl
   generalize hs.getD k hp0=z at *
   replace htk:=hid htk
   replace hc:=hid hc
   have hzz:Tryz.zeroCells76.toList.length=68:=by kernel_rfl
   replace hzz:=hid hzz
   have hbn:=hid (QnC z.nod)
   have hbh:=hid (Qq3 z.nod z.delay z.flags)
   go_wp2_with (first
    | (refine go_l rfl ?_;refine QaB rfl 76 _ rfl b (o+k*68) (HC z) hc.out rfl _ Tryz.underlying76 rfl (by rw[Qa4];exact Qha) ?_)
    | (refine Qa7 rfl ?_;refine QaO rfl rfl 76 _ _ rfl wr.heap.size _ _ (HC z) (Blk.new wr _ Tryz.zeroCells76.toList) rfl rfl 68 Qha (Qa4 _) hzz.out (Qoq _) ?_;intro w3 hb3 ho3
       have l3:Later wr w3:=(Qaa wr _).only ho3 (QCL _)
       have c66:=hb3.cellD 66 (Qkg z)
       have c67:=hb3.cellD 67 (Qkl z)
       have hb3l:=hb3.lt)
    | (refine go_l rfl ?_;refine Qu1 rfl _ rfl (y:=z.nod) (off:=0) (fun i v hv=>by rw[QC6];exact hb3.cellD i (QfO z hv)) rfl ?_)
    | (refine go_b rfl ?_;refine Qam ?hw 86 _ rfl (NC z.nod) (by simp only[QCW,QC7,QC2];exact hbn.out) ?_;(case hw=>rfl))
    | (refine go_b rfl ?_;refine Qam ?hw 147 _ rfl (HC z) (by simp only[QCW,QC7,QC2];exact hbh.out) ?_;(case hw=>rfl))
    | (refine Qqq rfl 41 _ rfl 147 68 _ (HC z) Tryz.underlying41 Qxr (by omega) (by omega) (Qa4 z) rfl ?_
       have hz4:Blk (w3.alloc (.cells (HC z).toArray 147)) w3.heap.size 147 ([z].flatMap HC):=by simp only[QEd,List.flatMap_nil,QDf];exact Blk.new w3 _ _)
    | (refine go_a rfl ?_;refine Qh1 (F:=HC) (d:=hp0) Qa4 Qoq (by omega) rfl _ _ _ rfl 147 _ 104 Tryz.underlying41 QBY rfl w _ k _ (Qft hown (l3.trans (Qaa _ _))) ((L.trans l3).trans (Qaa _ _)) _ 1 1 [z] (Qya Qa4 hz4 rfl) rfl rfl (by omega) (by omega) ?_;intro A4 c4 w4 hown4 hl4 _)
    | fail)
   rw[←htk.out]at hown4
   exact⟨⟨k+1,A4,c4,by omega,by go_num,rfl,hown4,hl4⟩,by simp[intOf];omega⟩
  ·obtain rfl:k=n:=by omega
   rw[QCP (by omega)]at hown
   go_wp2_with fail
   go_ret
   exact⟨A1,c1,rfl,Qng (d:=hp0) Qa4 hown hl,L⟩
def putL (k n j:Nat):List UInt8:=QCA (k-j) 0++(bigB k n).drop (k-j)
theorem Qsq (k n:Nat):putL k n 0=QCA k 0:=by
 rw[putL,Nat.sub_zero,QEj (by rw[Qat];omega),QDf]
theorem QuV (k n:Nat):putL k n k=bigB k n:=by rw[putL,QDR,List.replicate_zero,QCG,QEb]
theorem Qnu (k n j:Nat) (h:j≤k):(putL k n j).length=k:=by
 rw[putL,QCK,QCM,QC3,Qat]
 omega
theorem Qta (k n j:Nat) (h:j<k):(putL k n j).set (k-1-j) (QDc (n/256^j))=putL k n (j+1):=by
 have hg:=Qom k n (k-1-j) (by omega)
 rw[show k-1-(k-1-j)=j by omega]at hg
 have hd:(bigB k n).drop (k-(j+1))=QDc (n/256^j) :: (bigB k n).drop (k-j):=by
  rw[show k-(j+1)=k-1-j by omega,QEp (by rw[Qat];omega),show k-1-j+1=k-j by omega]
  rw[QCH (by rw[Qat];omega)]at hg
  rw[Option.some.inj hg]
 rw[putL,putL,hd,show k-j=(k-(j+1))+1 by omega,List.replicate_succ',QCR,QDb _ _ (by rw[QCM];omega),QCM,show k-1-j-(k-(j+1))=0 by omega]
 rfl
theorem Quy (n:UInt64) (j:Nat):(QgZ n (8*j)).toUInt8=QDc (n.toNat/256^j):=by
 apply QDD.1
 have e:(QgZ n (8*j)).toNat=n.toNat/2^(8*j):=by
  show (n.toBitVec >>> (8*j)).toNat=_
  rw[QDG,QDB]
  rfl
 rw[UInt64.toNat_toUInt8,e,QDK,show (2:Nat)^(8*j)=256^j by rw[show (256:Nat)=2^8 from rfl,←QEf]]
theorem QtX (n:UInt64) (k:Nat) (h:n.toNat<256^k):QgZ n (8*k)=0:=by
 apply QEr.1
 show (n.toBitVec >>> (8*k)).toNat=_
 rw[QDG,QDB,show (2:Nat)^(8*k)=256^k by rw[show (256:Nat)=2^8 from rfl,←QEf]]
 exact QDo h
theorem cnt8 (k:Nat) (h:k≤8):cnt (8*QDs (k:Int))=8*k:=(by decide:∀k:Fin 9,cnt (8*QDs (k.val:Int))=8*k.val) ⟨k,by omega⟩
set_option maxRecDepth 100000 in
set_option maxHeartbeats 4000000 in
theorem QhV (k:Nat) (hk:1≤k) (h8:k≤8) (n:UInt64) (hn:k=8∨n.toNat<256^k) (w:World):
 Calls Tryz.prog 90 #[.int .i64 2,.int .i64 (k:Int),W64 n] w fun e w'=>∃g,e= .returned (.tuple #[.slice (some ⟨g,0,none⟩) k k,.int .i64 0])∧w.heap.size≤g∧Blk w' g 5 ((bigB k n.toNat).map W8)∧Later w w':=by
 have hv:=hid (QjD k hk h8)
 have hf:=hid (fun h=>QtX n k h)
 have hst:=hid (Qta k n.toNat)
 have hpl:=hid (Qnu k n.toNat)
 have hp0:=hid (Qsq k n.toNat)
 have hpk:=hid (QuV k n.toNat)
 have hpb:=hid (Quy n)
 go_enter Tryz.func90,Tryz.ntmps90
 go_wp2_with fail
 refine (hv.out w).mono ?_
 rintro e w1 ⟨rfl,j1⟩
 have hck:=cnt8 k h8
 have hT:Hid ((decide ((k:Int)<8)=false)∨(decide ((k:Int)<8)=true∧QgZ n (8*k)=0)):=hid (by
  by_cases h:k=8
  ·exact .inl (decide_eq_false (by omega))
  ·exact .inr ⟨decide_eq_true (by omega),hf.out (hn.resolve_left h)⟩)
 clear hf hn
 rcases hT.out with hT1|⟨hT1,hT2⟩
 all_goals
  clear hT
  go_wp2_with (first
   | (refine Qax rfl _ _ _ rfl 5 _ 1 Tryz.underlying22 Qb4 rfl _ _ _ _ k rfl rfl rfl rfl (by omega) (by omega) ?_;intro w2 hb2 hl2)
   | fail)
  replace hb2:Blk w2 w1.heap.size 5 ((putL k n.toNat 0).map W8):=by
   rw[hp0.out,QDg]
   exact hb2
  have L2:=j1.trans hl2
  have hg1:=j1.size
  clear hl2 hT1 hck
  generalize w1.heap.size=g at *
  go_loopw [29] (fun i wr=>∃j:Nat,j≤k∧i= .int .i64 j∧Blk wr g 5 ((putL k n.toNat j).map W8)∧Later w wr) (fun i _=>k-(intOf i).toNat)
  case atStart=>exact⟨0,by omega,rfl,hb2,L2⟩
  case round=>
   clear hb2 L2
   obtain⟨j,hj,rfl,hb,L⟩:=hrel
   by_cases hjk:j<k
   ·have hcj:=cnt8 j (by omega)
    have hby:=hid (hpb.out j)
    have hsj:=hid (hst.out j hjk)
    have hlj:=hpl.out j (by omega)
    have e1:((k:Int)-1-(j:Int)).toNat=k-1-j:=by omega
    have e0:(0:Int)≤(k:Int)-1-(j:Int)∧(k:Int)-1-(j:Int)<(k:Int):=by omega
    generalize putL k n.toNat j=PJ at *
    go_wp2_with (first
     | (refine Qa7 rfl ?_;refine Qac rfl rfl _ _ _ rfl g (k-1-j) _ _ hb rfl (by rw[QCE,hlj];omega) rfl (by kernel_rfl) ?_;intro v4 w4 hv4 hb4 ho4;simp[go_sem]at hv4;subst hv4)
     | fail)
    rw[hby.out,QbP,hsj.out]at hb4
    exact⟨⟨j+1,by omega,by go_num,hb4,L.only ho4 hg1⟩,by simp[intOf];omega⟩
   ·obtain rfl:j=k:=by omega
    rw[hpk.out]at hb
    go_wp2_with fail
    go_ret2
    exact⟨g,rfl,hg1,hb,L⟩
theorem QxY {L:List UInt8} {x y:UInt8} (k:Nat) (h:k+2≤L.length):putB L k [x,y]=(L.set k x).set (k+1) y:=by
 apply List.ext_getElem?
 intro i
 have hl:(L.take k).length=k:=by rw[QC1];omega
 rw[putB,QCR]
 by_cases h1:i<k
 ·rw[QCU (by omega),QEh,if_pos h1,QDV (by omega),QDV (by omega)]
 ·by_cases h2:i=k
  ·subst h2
   rw[QCQ (by omega),hl,QDR,QDV (by omega),QEk (by omega)]
   rfl
  ·by_cases h3:i=k+1
   ·subst h3
    rw[QCQ (by omega),hl,QEw,QEk (by rw[QDi];omega)]
    rfl
   ·rw[QCQ (by omega),hl,QDV (by omega),QDV (by omega),QCQ (by show 2≤_;omega),QDP]
    congr 1
    show k+2+(i-k-2)=i
    omega
theorem Qvp (p:Prt) (h:p.da.length≤450):putB (putB (putB (fr3 p) 20 (bigB 8 p.id.toNat)) 28 (bigB 2 p.da.length)) 30 p.da=QeY p:=by
 have h8:(bigB 8 p.id.toNat).take 8=bigB 8 p.id.toNat:=QCP (by rw[Qat];omega)
 have hb2:bigB 2 p.da.length=[QDc (p.da.length/256),QDc p.da.length]:=rfl
 have e1:QDe ((p.da.length:Int)/256)=QDc (p.da.length/256):=by
  rw[show ((p.da.length:Int)/256)=((p.da.length/256:Nat):Int) by omega,Qfz]
 have e2:QDe ((p.da.length:Int)%256)=QDc p.da.length:=by
  rw[show ((p.da.length:Int)%256)=((p.da.length%256:Nat):Int) by omega,Qfz]
  apply QDD.1
  rw[QDK,QDK,QDZ]
 have hk:frK p 8=putB (fr3 p) 20 (bigB 8 p.id.toNat):=by rw[frK,h8]
 rw[←Qyy p h,hk,hb2,e1,e2,QxY 28 (by rw[←hk,Qqv];omega)]
theorem QAe (n:Nat) (h:n<65536):(QDs (n:Int)).toNat=n:=by
 show ((n:Int)%(2:Int)^64).toNat%2^64=n
 omega
set_option maxRecDepth 100000 in
set_option maxHeartbeats 4000000 in
theorem QqF (p:Prt) (A:Option Addr) (n c:Nat) (w:World) (hr:RdB w A n p.da) (hn:n≤1048576):
 Calls Tryz.prog 50 #[.agg (PaC p (.slice A n c)).toArray] w fun e w'=>∃A' c',e= .returned (.tuple #[.slice A' (frmR p).length c',.int .i64 (prtE p:Nat)])∧OwnB w' w.heap.size A' (frmR p).length c' (frmR p)∧Later w w':=by
 have hl:=hr.len
 have hCk:=hid (fun w=>QpN p A n c hl w)
 have hz:=hid (fun h=>QiI (p:=p) h)
 have hR:Hid (frmR p=if prtE p=0 then QeY p else []):=hid rfl
 have C1:=Qbr w 25 (PaC p (.slice A n c))
 have hP8:=hid (fun w=>QhV 8 (by omega) (by omega) p.id (.inl rfl) w)
 generalize frmR p=R at *
 generalize prtE p=E at *
 go_enter Tryz.func50,Tryz.ntmps50
 go_wp2_with (first
  | (refine go_l rfl ?_;refine QkG rfl _ rfl (C1.nth 0 rfl) rfl ?_)
  | fail)
 (refine (hCk.out _).mono ?_);rintro e w2 ⟨rfl,j2⟩
 have C2:=C1.later j2
 clear C1 j2 hCk
 by_cases h0:E=0
 case neg=>
  have hne:((E:Int) != 0)=true:=by simp;omega
  have hR':=hid (hR.out.trans (if_neg h0))
  go_wp2_with fail
  go_ret2
  exact⟨none,0,by rw[hR'.out];rfl,by rw[hR'.out];exact Qdj _ _ _,C2.lat⟩
 subst h0
 have hz':=hid (hz.out (by trivial))
 have hR':=hid (hR.out.trans (if_pos (by trivial)))
 have hn450:n≤450:=by have:=hz'.out.2.1;omega
 have hend:=hid (Qvp p (by omega))
 have hlb:=Qfb p (by omega)
 clear hz hR hz'
 obtain⟨c0,c1,c2,c3,c4⟩:=Qb6 (C2.nth 0 rfl)
 go_wp2_with fail
 refine (hP8.out _).mono ?_
 rintro e w3 ⟨g3,rfl,hg3,hb3,j3⟩
 have C3:=C2.later j3
 obtain⟨c0,c1,c2,c3,c4⟩:=Qb6 (C3.nth 0 rfl)
 go_wp2_with fail
 have hP2:=QhV 2 (by omega) (by omega) (QDs (n:Int)) (.inr (by rw[QAe n (by omega)];omega)) w3
 rw[QAe n (by omega)]at hP2
 refine hP2.mono ?_
 rintro e w4 ⟨g4,rfl,hg4,hb4,j4⟩
 clear hP2
 have C4:=C3.later j4
 have hb3':=hb3.later j4
 have hfs:=hid (QvA p)
 rw[Qoi]at hfs
 have l0:(QCA 480 (Value.int .u8 0)).length=480:=by rw[QCM]
 have hf3:=Qg6 p
 obtain⟨c0,c1,c2,c3,c4⟩:=Qb6 (C4.nth 0 rfl)
 go_wp2_with (first
  | (refine Qax rfl _ _ _ rfl 5 _ 1 Tryz.underlying22 Qb4 rfl _ _ _ _ 480 rfl rfl rfl rfl (by omega) (by omega) ?_;intro w5 hb5 hl5
     have C5:=C4.fresh hl5 (QCL _) hb5
     obtain⟨c0,c1,c2,c3,c4⟩:=Qb6 (C5.nth 1 rfl))
  | (refine Qa7 rfl ?_;refine Qac rfl rfl _ _ _ rfl w4.heap.size 16 _ _ (C5.nth 0 rfl) rfl (by rw[l0];omega) rfl (by kernel_rfl) ?_;intro v6 w6 hv6 hb6 ho6;simp[go_sem]at hv6;subst hv6
     have C6:=C5.write 0 rfl ho6 hb6
     obtain⟨c0,c1,c2,c3,c4⟩:=Qb6 (C6.nth 1 rfl))
  | (refine Qa7 rfl ?_;refine Qac rfl rfl _ _ _ rfl w4.heap.size 17 _ _ (C6.nth 0 rfl) rfl (by rw[QDi,l0];omega) rfl (by kernel_rfl) ?_;intro v7 w7 hv7 hb7 ho7;simp[go_sem]at hv7;subst hv7
     have C7:=C6.write 0 rfl ho7 hb7
     obtain⟨c0,c1,c2,c3,c4⟩:=Qb6 (C7.nth 1 rfl))
  | (refine Qa7 rfl ?_;refine Qac rfl rfl _ _ _ rfl w4.heap.size 18 _ _ (C7.nth 0 rfl) rfl (by rw[QDi,QDi,l0];omega) rfl (by kernel_rfl) ?_;intro v8 w8 hv8 hb8 ho8;simp[go_sem]at hv8;subst hv8
     rw[hfs.out]at hb8
     have C8:=C7.write 0 rfl ho8 hb8
     have l8:=((hl5.only ho6 (QCL _)).only ho7 (QCL _)).only ho8 (QCL _))
  | (refine Qar rfl _ _ _ _ rfl 5 Tryz.underlying22 Qbu w4.heap.size 20 460 460 _ _ (C8.nth 0 rfl) (some ⟨g3,0,none⟩) 8 8 ((bigB 8 p.id.toNat).map W8) ((hb3'.later l8).rd (by rw[QCE,Qat])) (QaC _) rfl rfl (by rw[QCE,hf3];omega) ?_;intro w9 hb9 ho9
     rw[QCP (by rw[QCE,Qat];omega),Qcn]at hb9
     have C9:=C8.write 0 rfl ho9 hb9
     have l9:=l8.only ho9 (QCL _))
  | (refine Qar rfl _ _ _ _ rfl 5 Tryz.underlying22 Qbu w4.heap.size 28 452 452 _ _ (C9.nth 0 rfl) (some ⟨g4,0,none⟩) 2 2 ((bigB 2 n).map W8) ((hb4.later l9).rd (by rw[QCE,Qat])) (QaC _) rfl rfl (by rw[QCE,Qbc (by rw[hf3,Qat];omega),hf3];omega) ?_;intro wa hba hoa
     rw[QCP (by rw[QCE,Qat];omega),Qcn]at hba
     have Ca:=(C9.write 0 rfl hoa hba).drew
     obtain⟨c0,c1,c2,c3,c4⟩:=Qb6 (Ca.nth 1 rfl)
     have hlg:=(Ca.nth 1 rfl).lt)
  | fail)
 simp only[Act.put,QCJ,QCO,QCN]
 refine Qaf [] [0,1,2,3] [4] (by as_aux_lemma=>kernel_rfl) (by as_aux_lemma=>kernel_rfl) (by intro _ _ d _ _ h;cases d<;>exact h) ?_
 simp only[Qah,pick,QCB,QCC,QCD,QCF,QCG]
 repeat (go_big_quiet_step (fail))
 refine wpQuiet_nil ?_
 go_wp2_with (first
  | (refine Qar rfl _ _ _ _ rfl 5 Tryz.underlying22 Qbu w4.heap.size 30 450 450 _ _ (Ca.nth 0 rfl) A n c (p.da.map W8) (Rd.later hr Ca.lat) (QaC _) rfl rfl (by rw[QCE,Qbc (by rw[Qbc (by rw[hf3,Qat];omega),hf3,Qat];omega),Qbc (by rw[hf3,Qat];omega),hf3];omega) ?_;intro wb hbb hob
     have Cb:=Ca.write 0 rfl hob hbb)
  | fail)
 rw[←hl]at hbb
 rw[QCP (by rw[QCE];omega),Qcn,hend.out]at hbb
 go_ret2
 have ho:=QcX hbb (Ca.at_low 0 rfl) (by rw[QCE,hlb];omega)
 rw[QCE,hlb]at ho
 exact⟨some ⟨w4.heap.size,0,none⟩,480,by rw[hR'.out,hlb];rfl,by rw[hR'.out,hlb];exact ho,Cb.lat⟩
theorem Qpo {ops:Array Oper} {o:Oper} {a:Act} (hw:Region.wanted o (yielded ops a.tmps)=true) (x y:Operand) (ho:o.op= .buildSlice 22 2 #[(0,x),(1,y)]) {u v:UInt8} (hx:a.eval x=W8 u) (hy:a.eval y=W8 v):
 Makes Tryz.prog ops o (fun g=>.slice (some ⟨g,0,none⟩) 2 2) (.cells #[W8 u,W8 v] 5) a:=
 ⟨hw,fun w=>by
   unfold execOp
   rw[ho]
   simp only[QCW,QC7,QC2,hx,hy]
   simp[go_sem,W8]⟩
set_option maxRecDepth 100000 in
set_option maxHeartbeats 4000000 in
theorem Qm2 (c:Cmd) (h:cmdE c=0) (w:World):Calls Tryz.prog 115 #[.agg (CC c).toArray] w fun e w'=>∃A' c',e= .returned (.tuple #[.slice A' 32 c',.int .i64 0])∧OwnB w' w.heap.size A' 32 c' (encB c)∧Later w w':=by
 have C1:=Qbr w 64 (CC c)
 have hCk:=hid (fun w=>QgN c w)
 rw[h]at hCk
 have hP4:=hid (fun w=>QhV 4 (by omega) (by omega) c.dl.toUInt64 (.inr (by have:=c.dl.toNat_lt;simpa using this)) w)
 have hP8:=hid (fun w=>QhV 8 (by omega) (by omega) c.nx (.inl rfl) w)
 go_enter Tryz.func115,Tryz.ntmps115
 go_wp2_with (first
  | (refine go_l rfl ?_;refine QcG rfl _ rfl (C1.nth 0 rfl) rfl ?_)
  | fail)
 refine (hCk.out _).mono ?_
 rintro e w2 ⟨rfl,j2⟩
 have C2:=C1.later j2
 obtain⟨k0,k1,k2,k3,k4⟩:=QeR (C2.nth 0 rfl)
 go_wp2_with fail
 refine (hP4.out w2).mono ?_
 rintro e w3 ⟨g3,rfl,hg3,hb3,j3⟩
 have C3:=C2.later j3
 obtain⟨k0,k1,k2,k3,k4⟩:=QeR (C3.nth 0 rfl)
 go_wp2_with fail
 refine (hP8.out w3).mono ?_
 rintro e w4 ⟨g4,rfl,hg4,hb4,j4⟩
 have C4:=(C3.later j4).drew
 have hB3:=(hb3.later j4).drew
 have hB4:=hb4.drew
 obtain⟨k0,k1,k2,k3,k4⟩:=QeR (C4.nth 0 rfl)
 have hlw:=(C4.nth 0 rfl).lt
 have r16:RdB w4.drew (some ⟨w.heap.size,4,none⟩) 16 c.ma.val:=Qc9 hlw (fun j v hv=>k4 j v hv) c.ma.2
 go_wp2_with fail
 refine Qau [0,1,2,3,5,6,7,8] [([],1,9),([],2,4),([],1,10),([],1,11)] [12,13] [] [4] (fun _=>(fun g=>.slice (some ⟨g,0,none⟩) 2 2,.cells #[W8 c.kd,W8 c.fl] 5)) (by as_aux_lemma=>kernel_rfl) (by as_aux_lemma=>kernel_rfl) (by intro _ _ d _ _ h;cases d<;>exact h) (by intro _ _ d _ _ h;cases d<;>exact h) ?_
 simp only[pick,QCB,QCC,QCD,QCF,QCG]
 repeat (go_big_quiet_step (fail))
 refine wpQuiet_nil ?_
 refine⟨?mk,?_⟩
 case mk=>
  refine⟨fun o ho=>?_,trivial⟩
  simp only[QCB,QCC,Option.some.injEq]at ho
  subst ho
  exact Qpo rfl _ _ rfl rfl rfl
 simp only[Qa5,pick,QCB,QCC,QCD,QCF,QCG]
 refine wpQuiet_nil ?_
 intro p1 q1
 go_wp2_with (first
  | (refine Qax rfl _ _ _ rfl 5 _ 1 Tryz.underlying22 Qb4 rfl _ _ _ _ 2 rfl rfl rfl rfl (by omega) (by omega) ?_;intro p2 hz2 q2)
  | fail)
 try refine⟨by first|assumption|exact Qab _|exact Qaa _ _|exact Later.refl _,?_⟩
 try simp only[Qah,pick,QCB,QCC,QCD,QCF,QCG]
 repeat (go_big_quiet_step (fail))
 refine wpQuiet_nil ?_
 intro p3 g5 q3 hg5 _ hb5
 refine wpQuiet_nil ?_
 intro p4 q4
 go_wp2_with fail
 have q5:=Qaa p4 (.cells #[.slice (some ⟨g5,0,none⟩) 2 2,.slice (some ⟨g3,0,none⟩) 4 4,.slice (some ⟨g4,0,none⟩) 8 8,.slice (some ⟨w.heap.size,4,none⟩) 16 16,.slice (some ⟨p1.heap.size,0,none⟩) 2 2] 22)
 try refine⟨by first|assumption|exact Qab _|exact Qaa _ _|exact Later.refl _,?_⟩
 try simp only[Qah,pick,QCB,QCC,QCD,QCF,QCG]
 repeat (go_big_quiet_step (fail))
 refine wpQuiet_nil ?_
 intro p6 q6
 go_wp2_with fail
 have L6:=q1.trans (q2.trans (q3.trans (q4.trans (q5.trans q6))))
 have h4:(bigB 4 c.dl.toUInt64.toNat).length=4:=Qat _ _
 have h8:(bigB 8 c.nx.toNat).length=8:=Qat _ _
 have hz:Blk p6 p1.heap.size 5 (([0,0]:List UInt8).map W8):=Blk.later (show Blk p2 p1.heap.size 5 (([0,0]:List UInt8).map W8) from hz2) (q3.trans (q4.trans (q5.trans q6)))
 have hP:=QdW (((Blk.new p4 22 [.slice (some ⟨g5,0,none⟩) 2 2,.slice (some ⟨g3,0,none⟩) 4 4,.slice (some ⟨g4,0,none⟩) 8 8,.slice (some ⟨w.heap.size,4,none⟩) 16 16,.slice (some ⟨p1.heap.size,0,none⟩) 2 2]).later q6).rd rfl) (ps:=[[c.kd,c.fl],bigB 4 c.dl.toUInt64.toNat,bigB 8 c.nx.toNat,c.ma.val,[0,0]])
  ⟨QaW (Qb8 (Blk.later (show Blk p3 g5 5 (([c.kd,c.fl]:List UInt8).map W8) from hb5) (q4.trans (q5.trans q6))) rfl) (QCL _),QaW (Qb8 (hB3.later L6) h4) (QCL _),QaW (Qb8 (hB4.later L6) h8) (QCL _),QaW (r16.later L6) (QCL _),QaW (Qb8 hz rfl) (QCL _),trivial⟩
 have hfl:([[c.kd,c.fl],bigB 4 c.dl.toUInt64.toNat,bigB 8 c.nx.toNat,c.ma.val,[0,0]]:List (List UInt8)).flatten=encB c:=by
  simp only[QDN,QEN,QDf]
  rfl
 have hJ:=QcP (some ⟨p4.heap.size,0,none⟩) 5 5 _ p6 hP (by omega) (by rw[hfl,QcC];omega)
 rw[hfl,QcC]at hJ
 refine hJ.mono ?_
 rintro e p7 ⟨A7,c7,rfl,o7,q7⟩
 clear hJ hP
 go_wp2_with fail
 try refine⟨by first|assumption|exact Qab _|exact Qaa _ _|exact Later.refl _,?_⟩
 try simp only[Qah,pick,QCB,QCC,QCD,QCF,QCG]
 repeat (go_big_quiet_step (fail))
 refine wpQuiet_nil ?_
 intro p8 q8
 go_wp2_with fail
 go_ret2
 exact⟨A7,c7,rfl,QdZ (Qbo o7 q8) (QDl C4.lat.size L6.size),C4.lat.trans (L6.trans (q7.trans q8))⟩
theorem Qvk {w:World} {base g sz N:Nat} {e:TypeId} {l:List Value} (h:Blk w g e l) (hb:base≤g) (hl:l.length=N*sz) (hm:N≤maxLen):w.ownsRow base e sz (.slice (some ⟨g,0,none⟩) N N) N l:=
 ⟨hl,.inr ⟨g,N,l.toArray,rfl,hb,h,QCL _,hm,by simp[hl],by simp[←hl]⟩⟩
theorem QtL {w:World} {base sz n c:Nat} {e:TypeId} {A:Option Addr} {vs:List Value} (h:w.ownsRow base e sz (.slice A n c) n vs) (hn:0<n):
 ∃g rest,A=some ⟨g,0,none⟩∧base≤g∧Blk w g e (vs++rest)∧n≤c∧c≤maxLen∧(vs++rest).length=c*sz:=by
 rcases h.2 with ⟨hv,h0⟩|⟨g,cap,cur,hv,hb,hh,hnc,hm,hs,ht⟩
 ·omega
 ·cases hv
  have e:vs++cur.toList.drop (n*sz)=cur.toList:=by rw[←ht,QC9]
  refine⟨g,cur.toList.drop (n*sz),rfl,hb,?_,hnc,hm,?_⟩
  ·rw[e]
   exact hh
  ·rw[e,Array.length_toList,hs]
theorem Qrp {w:World} {base g sz n c:Nat} {e:TypeId} {vs rest:List Value} (h:Blk w g e (vs++rest)) (hb:base≤g) (hl:vs.length=n*sz) (hc:(vs++rest).length=c*sz) (hn:n≤c) (hm:c≤maxLen):w.ownsRow base e sz (.slice (some ⟨g,0,none⟩) n c) n vs:=
 ⟨hl,.inr ⟨g,c,(vs++rest).toArray,rfl,hb,h,hn,hm,by simp only[List.size_toArray];exact hc,by show (vs++rest).take _=vs;rw[←hl,List.take_left]⟩⟩
theorem QlA (l r vs:List Value) (o:Nat) (h:o+vs.length≤l.length):Qaq (l++r) o vs=Qaq l o vs++r:=by
 rw[Qaq,Qaq,QDk (by omega),QDH (by omega),QCR,QCR,QCR]
section
variable {P:Program} {ops:Array Oper} {rest:List Oper} {o:Oper} {a:Act} {w:World} {Q:Exit→Act→World→Prop} {α:Type} {F:α→List Value} {sz:Nat}
theorem Qes (hF:∀x,(F x).length=sz) (hF1:∀x,∀u∈F x,u.oneCell'=true) (d:α) (hgd:o.guard=none) (hd:o.dst=none) (ty:TypeId) (x y:Operand) (ho:o.op= .store ty x y) {base g n c:Nat} {e:TypeId} {xs:List α}
 (hown:w.ownsRow base e sz (.slice (some ⟨g,0,none⟩) n c) n (xs.flatMap F)) (hn:xs.length=n) (j:Nat) (hj:j<n) (v:α) (hx:a.eval x= .pointer (some ⟨g,j*sz,none⟩)) (hy:a.eval y= .agg (F v).toArray) (hi:(P.info? ty).map (·.size)=some sz)
 (h:∀w',w'.ownsRow base e sz (.slice (some ⟨g,0,none⟩) n c) n ((xs.set j v).flatMap F)→Only g w w'→wpList P ops Q rest a w'):wpList P ops Q (o :: rest) a w:=by
 obtain⟨g',r,hg,hb,hB,hnc,hm,hl⟩:=QtL hown (by omega)
 obtain rfl:g=g':=by simpa using hg
 have hfl:=QbY hF xs
 rw[hn]at hfl
 have hjn:j*sz+sz≤n*sz:=by
  rw[←Nat.succ_mul]
  exact Nat.mul_le_mul_right _ hj
 refine Qai hgd hd ty x y ho g (j*sz) e _ (F v) hB hx hy (by rw[hF];exact hi) (by rw[QCK,hF];omega) (hF1 v) ?_
 intro w' hb' ho'
 have e1:Qaq (xs.flatMap F) (j*sz) (F v)=(xs.set j v).flatMap F:=by
  have:=Qms hF d (off:=0) (vs:=F v) (y:=v) xs j (by omega) (by rw[hF];omega) (by rw[Qal _ _ (by rw[hF,hF])])
  rwa [QD9]at this
 have e2:((xs.set j v).flatMap F).length=n*sz:=by rw[QbY hF,QDi,hn]
 rw[QlA _ _ _ _ (by rw[hF];omega),e1]at hb'
 exact h w' (Qrp hb' hb e2 (by rw[QCK]at hl ⊢;omega) hnc hm) ho'
end
def Qi0 (kd:UInt8) (hs:List Hp) (j:Nat):List Cmd:=QeX kd hs j++QCA (hs.length-j) cmd0
theorem QpM (kd:UInt8) (hs:List Hp):Qi0 kd hs 0=QCA hs.length cmd0:=by
 rw[Qi0,Nat.sub_zero]
 rfl
theorem Qsb (kd:UInt8) (hs:List Hp):Qi0 kd hs hs.length=QeX kd hs hs.length:=by rw[Qi0,QDR,List.replicate_zero,QDf]
theorem Ql7 (kd:UInt8) (hs:List Hp) (j:Nat) (h:j≤hs.length):(Qi0 kd hs j).length=hs.length:=by
 rw[Qi0,QCK,Qda,QCM]
 omega
theorem Qo8 (kd:UInt8) (hs:List Hp) (j:Nat) (h:j<hs.length):(Qi0 kd hs j).set j (QcN (lcK kd) hs j)=Qi0 kd hs (j+1):=by
 have hc:QeX kd hs (j+1)=QeX kd hs j++[QcN (lcK kd) hs j]:=by rw[QeX,QEK,QDh];rfl
 rw[Qi0,Qi0,hc,QDb _ _ (by rw[Qda];omega),Qda,QDR,show hs.length-j=hs.length-(j+1)+1 by omega,QD7,QCN,QCR]
 rfl
theorem Qpd (k:UInt8):Tryz.prog.built 64 [(0,W8 k)]=some (CC ⟨k,0,0,0,QbJ⟩).toArray:=by kernel_rfl
theorem Qsu (kd:UInt8) (h:kd=2∨kd=3):Qdg (lcK kd)=true:=by rcases h with rfl|rfl<;>decide
set_option maxRecDepth 100000 in
set_option maxHeartbeats 4000000 in
theorem QpL (kd:UInt8) (hkd:kd=2∨kd=3) (A:Option Addr) (n cc:Nat) (hs:List Hp) (w:World) (hh:RdH w A n hs) (hn:n≤1048576):
 Calls Tryz.prog 112 #[.agg (CC (lcK kd)).toArray,.slice A n cc] w fun e w'=>e= .returned (.int .i64 (QeU (lcK kd) hs:Nat))∧Later w w':=by
 have hl:=hh.1
 have hE:=hid (Quo kd hkd hs)
 have k2: ¬kd<2:=by rcases hkd with rfl|rfl<;>decide
 have k4: ¬ 4<kd:=by rcases hkd with rfl|rfl<;>decide
 have hSh:=hid (fun w=>QjG (lcK kd) w)
 rw[Qsu kd hkd]at hSh
 clear hkd
 have B0:=Qbr w 64 (CC (lcK kd))
 rw[hl]at hE
 generalize QeU (lcK kd) hs=E at *
 obtain⟨c0,c1,c2,c3,c4⟩:=QeR (B0.nth 0 rfl)
 change _=some (W8 kd)at c0
 go_enter Tryz.func112,Tryz.ntmps112
 go_wp2_with fail
 generalize hW:w.alloc _=w1
 replace B0:Bag w w1 [(w.heap.size,64,CC (lcK kd))]:=by rw[←hW];exact B0
 clear hW c0 c1 c2 c3 c4
 go_loopw [18] (fun i wr=>∃k:Nat,k≤n∧i= .int .i64 k∧Hid (∀ j,j<k→badH (hs.getD j hp0)=false)∧Later w1 wr) (fun i _=>n-(intOf i).toNat)
 case atStart=>exact⟨0,by omega,rfl,hid (fun j hj=>absurd hj (by omega)),Later.refl _⟩
 case round=>
  obtain⟨k,hk,rfl,hz,L⟩:=hrel
  by_cases hlt:k<n
  ·obtain⟨b,o,rfl,hbb,hc⟩:=(hh.later (B0.lat.trans L)).at_ hlt
   have c66:wr.cell? ⟨b,o+k*68+66,none⟩=some (.int .i64 (hs.getD k hp0).delay):=hc 66 _ (Qkg _)
   have c67:wr.cell? ⟨b,o+k*68+67,none⟩=some (.int .i64 (hs.getD k hp0).flags):=hc 67 _ (Qkl _)
   have hno:=hid (fun h=>Qo0 (hs:=hs) (p:=badH) (k:=k) (by omega) h)
   have hgo:=hid (fun h:badH (hs.getD k hp0)=false=>Qqy (p:=fun j=>badH (hs.getD j hp0)=false) hz.out h)
   have hbd:Hid (badH (hs.getD k hp0)=(decide ((hs.getD k hp0).delay<0)||decide (1000000<(hs.getD k hp0).delay)||decide ((hs.getD k hp0).flags<0)||decide (255<(hs.getD k hp0).flags))):=hid rfl
   clear hc
   generalize badH (hs.getD k hp0)=bb at *
   generalize (hs.getD k hp0).delay=dl at *
   generalize (hs.getD k hp0).flags=fl at *
   have hbad:=hid (fun h:bb=true=>show E=1 from hE.out.trans (if_pos (hno.out h)))
   clear hno
   by_cases a1:dl<0
   ·have hX:=hid (hbad.out (by rw[hbd.out];simp[a1]))
    go_wp2_with fail
    go_ret
    exact⟨by rw[hX.out];rfl,B0.lat.trans L⟩
   by_cases a2:1000000<dl
   ·have hX:=hid (hbad.out (by rw[hbd.out];simp[a2]))
    go_wp2_with fail
    go_ret
    exact⟨by rw[hX.out];rfl,B0.lat.trans L⟩
   by_cases a3:fl<0
   ·have hX:=hid (hbad.out (by rw[hbd.out];simp[a3]))
    go_wp2_with fail
    go_ret
    exact⟨by rw[hX.out];rfl,B0.lat.trans L⟩
   by_cases a4:255<fl
   ·have hX:=hid (hbad.out (by rw[hbd.out];simp[a4]))
    go_wp2_with fail
    go_ret
    exact⟨by rw[hX.out];rfl,B0.lat.trans L⟩
   have hG:=hid (hgo.out (by rw[hbd.out];simp[a1,a2,a3,a4]))
   clear hgo hbd hbad
   go_wp2_with fail
   exact⟨⟨k+1,by omega,by go_num,hG,L⟩,by simp[intOf];omega⟩
  ·obtain rfl:k=n:=by omega
   replace hE:=hid (hE.out.trans (if_neg (by rw[Qq5 (by rw[hl];exact hz.out)];decide)))
   by_cases h5:k<1∨5<k
   ·have e:=hid (hE.out.trans (if_pos h5))
    by_cases h1:k<1
    ·have f1:decide ((k:Int)<1)=true:=decide_eq_true (by omega)
     clear h1 h5
     go_wp2_with fail
     go_ret
     exact⟨by rw[e.out];rfl,B0.lat.trans L⟩
    ·have f1:decide ((k:Int)<1)=false:=decide_eq_false (by omega)
     have f2:decide ((5:Int)<(k:Int))=true:=decide_eq_true (by omega)
     clear h5
     go_wp2_with fail
     go_ret
     exact⟨by rw[e.out];rfl,B0.lat.trans L⟩
   ·have f1:decide ((k:Int)<1)=false:=decide_eq_false (by omega)
    have f2:decide ((5:Int)<(k:Int))=false:=decide_eq_false (by omega)
    replace hE:=hid (hE.out.trans (if_neg h5))
    have B1:=B0.later L
    go_wp2_with (first
     | (refine go_l rfl ?_;refine QcG rfl _ rfl (B1.nth 0 rfl) rfl ?_)
     | fail)
    refine (hSh.out wr).mono ?_
    rintro e w4 ⟨rfl,j4⟩
    have B4:=B1.later j4
    go_wp2_with fail
    go_loopw [64] (fun i wq=>∃j:Nat,j≤k∧i= .int .i64 j∧Hid (∀ i,i+1<j→((hs.getD (i+1) hp0).nod.id==0)=false)∧Later w4 wq) (fun i _=>k-(intOf i).toNat)
    case atStart=>exact⟨0,by omega,rfl,hid (fun i h=>by omega),Later.refl _⟩
    case round=>
     obtain⟨j,hj,rfl,hg,L4⟩:=hrel
     by_cases hjk:j<k
     ·obtain⟨b,o,rfl,hbb,hc⟩:=(hh.later (B4.lat.trans L4)).at_ hjk
      have d1:wr.cell? ⟨b,o+j*68+1,none⟩=some (W64 (hs.getD j hp0).nod.id):=hc 1 _ (Qz5 _)
      clear hc
      by_cases h0:0<j
      ·obtain⟨i,rfl⟩:∃i,j=i+1:=⟨j-1,by omega⟩
       have hno:=hid (fun h=>Qsi (hs:=hs) (p:=fun h=>h.nod.id==0) (k:=i) (by omega) h)
       have hgo:Hid (((hs.getD (i+1) hp0).nod.id==0)=false→∀t,t+1<i+1+1→((hs.getD (t+1) hp0).nod.id==0)=false):=hid (fun h t h1=>by
        by_cases e:t=i
        ·rw[e];exact h
        ·exact hg.out t (by omega))
       generalize (hs.getD (i+1) hp0).nod.id=z at *
       have f0:decide ((0:Int)<(i:Int)+1)=true:=decide_eq_true (by omega)
       cases hzz:(z==0)
       ·have hG:=hid (hgo.out hzz)
        go_wp2_with fail
        exact⟨⟨i+1+1,by omega,by go_num,hG,L4⟩,by simp[intOf];omega⟩
       ·have e:=hid (hE.out.trans (if_pos (hno.out hzz)))
        go_wp2_with fail
        go_ret
        exact⟨by rw[e.out];rfl,B4.lat.trans L4⟩
      ·obtain rfl:j=0:=by omega
       go_wp2_with fail
       exact⟨⟨1,by omega,by go_num,hid (fun i h=>by omega),L4⟩,by simp[intOf];omega⟩
     ·obtain rfl:j=k:=by omega
      have e:=hid (hE.out.trans (if_neg (by rw[QuD (hs:=hs) (p:=fun h=>h.nod.id==0) (fun t ht=>hg.out t (by omega))];decide)))
      go_wp2_with fail
      go_ret
      exact⟨by rw[e.out];rfl,B4.lat.trans L4⟩
set_option maxRecDepth 100000 in
set_option maxHeartbeats 8000000 in
theorem QsU (kd:UInt8) (hkd:kd=2∨kd=3) (A:Option Addr) (n cc:Nat) (hs:List Hp) (w:World) (hh:RdH w A n hs) (hn:n≤1048576):
 Calls Tryz.prog 75 #[.agg (CC (lcK kd)).toArray,.slice A n cc] w fun e w'=>∃A' c',e= .returned (.tuple #[.slice A' (Qma kd hs).length c',.int .i64 (QeU (lcK kd) hs:Nat)])∧
  RdF CC 20 cmd0 w' A' (Qma kd hs).length (Qma kd hs)∧Later w w':=by
 have hl:=hh.1
 have hPe:=hid (fun w h=>QpL kd hkd A n cc hs w h hn)
 have hR:Hid (Qma kd hs=if QeU (lcK kd) hs=0 then QeX kd hs hs.length else []):=hid rfl
 have B0:=Qbr w 64 (CC (lcK kd))
 have hst:=hid (Qo8 kd hs)
 have hp0':=hid (QpM kd hs)
 have hpa:=hid (Qsb kd hs)
 have hpl:=hid (Ql7 kd hs)
 have hml:=hid (Qqx kd hs)
 have hmm:=hid (Qrv kd hs)
 have hbk:=hid Qpd
 have hcl:=hid (Qda kd hs hs.length)
 generalize QeU (lcK kd) hs=E at *
 generalize Qma kd hs=R at *
 generalize Qi0 kd hs=CP at *
 generalize QeX kd hs hs.length=CA at *
 generalize QcN (lcK kd) hs=PC0 at *
 clear hkd
 rw[hl]at hst hp0' hpa hpl hml hmm hcl
 go_enter Tryz.func75,Tryz.ntmps75
 go_wp2_with (first
  | (refine go_l rfl ?_;refine QcG rfl _ rfl (B0.nth 0 rfl) rfl ?_)
  | fail)
 refine (hPe.out _ (hh.later B0.lat)).mono ?_
 rintro e w1 ⟨rfl,j1⟩
 have B1:=B0.later j1
 by_cases hE:E=0
 case neg=>
  have fE:((E:Int) != 0)=true:=bne_iff_ne.2 (by omega)
  have hX:=hid (hR.out.trans (if_neg hE))
  go_wp2_with fail
  go_ret2
  exact⟨none,0,by rw[hX.out];rfl,by rw[hX.out];exact QoY _,B1.lat⟩
 subst hE
 have hX:=hid (hR.out.trans (if_pos (by trivial)))
 clear hR B0 hPe
 go_wp2_with (first
  | (refine QkI Qao (by omega) cmd0 rfl _ _ _ rfl 64 32 Tryz.underlying179 QzD _ _ _ _ n rfl rfl rfl rfl (by omega) (by omega) ?_;intro w2 hb2 hl2)
  | fail)
 have own2:w2.ownsRow w1.heap.size 64 20 (.slice (some ⟨w1.heap.size,0,none⟩) n n) n ((CP 0).flatMap CC):=by
  rw[hp0'.out]
  exact Qvk hb2 (QCL _) (by rw[QbY Qao,QCM]) (by unfold maxLen;omega)
 clear hb2
 generalize hg1:w1.heap.size=g1 at own2 ⊢
 go_loopw [21] (fun i wr=>∃j:Nat,j≤n∧i= .int .i64 j∧wr.ownsRow g1 64 20 (.slice (some ⟨g1,0,none⟩) n n) n ((CP j).flatMap CC)∧Later w1 wr) (fun i _=>n-(intOf i).toNat)
 case atStart=>exact⟨0,by omega,rfl,own2,hl2⟩
 case round=>
  clear own2
  obtain⟨j,hj,rfl,own,L⟩:=hrel
  have B:=B1.later L
  by_cases hjn:j<n
  ·obtain⟨b,o,rfl,hbb,hc⟩:=(hh.later B.lat).at_ hjn
   have hCl:=hpl.out j (by omega)
   have hsj:=hid (hst.out j hjn)
   have c66:wr.cell? ⟨b,o+j*68+66,none⟩=some (.int .i64 (hs.getD j hp0).delay):=hc 66 _ (Qkg _)
   have c67:wr.cell? ⟨b,o+j*68+67,none⟩=some (.int .i64 (hs.getD j hp0).flags):=hc 67 _ (Qkl _)
   clear hc
   replace c66:=hid c66
   replace c67:=hid c67
   have tr:Hid (∀ (w':World),Later wr w'→w'.cell? ⟨b,o+j*68+66,none⟩=some (.int .i64 (hs.getD j hp0).delay)∧w'.cell? ⟨b,o+j*68+67,none⟩=some (.int .i64 (hs.getD j hp0).flags)∧b<w'.heap.size):=hid (fun w' l=>⟨(l.below.cell (p:=⟨b,o+j*68+66,none⟩) hbb).trans c66.out,(l.below.cell (p:=⟨b,o+j*68+67,none⟩) hbb).trans c67.out,QC0 hbb l.size⟩)
   have hne:∀x,(Value.slice (some ⟨g1,0,none⟩) n n).ownBlock=some x→x≠wr.heap.size:=fun x hx=>by have:=(World.ownsRow.lt own x hx).2;omega
   by_cases hlast:j+1<n
   ·have f1:decide ((j:Int)+1<(n:Int))=true:=decide_eq_true (by omega)
    obtain⟨b2,o2,hbo,hbb2,hc2⟩:=(hh.later B.lat).at_ hlast
    obtain⟨rfl,rfl⟩:b=b2∧o=o2:=by simpa using hbo
    have d1:wr.cell? ⟨b,o+(j+1)*68+1,none⟩=some (W64 (hs.getD (j+1) hp0).nod.id):=hc2 1 _ (Qz5 _)
    have hpc:=hid (hmm.out j (by omega))
    have e2:((j:Int)+1).toNat=j+1:=by omega
    clear hc2 hbo hml hmm
    generalize (hs.getD (j+1) hp0).nod.id=nx at *
    generalize (hs.getD j hp0).delay=dl at *
    generalize (hs.getD j hp0).flags=fl at *
    replace d1:=hid d1
    go_wp2_with (first
     | (refine go_b rfl ?_;refine Qam ?hw 64 _ rfl (CC ⟨1,0,0,0,QbJ⟩) (by simp only[QCW,QC7,QC2];exact hbk.out 1) ?_;(case hw=>rfl))
     | (refine Qa7 rfl ?_;refine Qb9 rfl rfl _ _ rfl (Blk.new wr _ cz0) rfl rfl rfl ?_;intro w3 hb3 ho3
        have l3:Later wr w3:=(Qaa wr _).only ho3 (QCL _)
        have own3:=QcL (Qft own (Qaa wr (.cells cz0.toArray 64))) ho3 hne
        have d3:=(l3.below.cell (p:=⟨b,o+(j+1)*68+1,none⟩) hbb).trans d1.out
        have hbl:=QC0 hbb l3.size)
     | (refine Qa7 rfl ?_;refine Qac rfl rfl _ _ _ rfl wr.heap.size 3 _ _ hb3 rfl (by rw[Qao];omega) rfl (by kernel_rfl) ?_;intro v4 w4 hv4 hb4 ho4;simp[go_sem]at hv4;subst hv4
        have l4:=l3.only ho4 (QCL _)
        have own4:=QcL own3 ho4 hne
        obtain⟨f66,f67,hbl4⟩:=tr.out w4 l4)
     | (refine Qa7 rfl ?_;refine Qac rfl rfl _ _ _ rfl wr.heap.size 2 _ _ hb4 rfl (by rw[QDi,Qao];omega) rfl (by kernel_rfl) ?_;intro v5 w5 hv5 hb5 ho5;simp[go_sem]at hv5;subst hv5
        have l5:=l4.only ho5 (QCL _)
        have own5:=QcL own4 ho5 hne
        obtain⟨f66',f67',hbl5⟩:=tr.out w5 l5)
     | (refine Qa7 rfl ?_;refine Qac rfl rfl _ _ _ rfl wr.heap.size 1 _ _ hb5 rfl (by rw[QDi,QDi,Qao];omega) rfl (by kernel_rfl) ?_;intro v6 w6 hv6 hb6 ho6;simp[go_sem]at hv6;subst hv6
        have l6:=l5.only ho6 (QCL _)
        have own6:=QcL own5 ho6 hne
        replace hb6:Blk w6 wr.heap.size 64 (CC ⟨1,QDe fl,QEg dl,nx,QbJ⟩):=hb6)
     | (refine go_l rfl ?_;refine QcG rfl _ rfl hb6 rfl ?_)
     | (refine Qa7 rfl ?_;refine Qes Qao Qor cmd0 rfl rfl _ _ _ rfl own6 hCl j hjn ⟨1,QDe fl,QEg dl,nx,QbJ⟩ rfl rfl Qen ?_;intro w7 own7 ho7)
     | fail)
    rw[←hpc.out,hsj.out]at own7
    exact⟨⟨j+1,by omega,by go_num,own7,(L.trans l6).only ho7 (Nat.le_of_eq hg1)⟩,by simp[intOf];omega⟩
   ·have f1:decide ((j:Int)+1<(n:Int))=false:=decide_eq_false (by omega)
    have hpc:=hid (hml.out j (by omega))
    clear hml hmm
    generalize (hs.getD j hp0).delay=dl at *
    generalize (hs.getD j hp0).flags=fl at *
    have tb:Hid (∀ (w':World),Later wr w'→w'.cell? ⟨w.heap.size,0,none⟩=some (W8 kd)∧(∀ q v,(QbJ.val.map W8)[q]?=some v→w'.cell? ⟨w.heap.size,4+q,none⟩=some v)∧w.heap.size<w'.heap.size):=hid (fun w' l=>by
     have h:=(B.later l).nth 0 rfl
     obtain⟨c0,_,_,_,c4⟩:=QeR h
     exact⟨c0,c4,h.lt⟩)
    go_wp2_with (first
     | (refine go_b rfl ?_;refine Qam ?hw 64 _ rfl (CC ⟨1,0,0,0,QbJ⟩) (by simp only[QCW,QC7,QC2];exact hbk.out 1) ?_;(case hw=>rfl))
     | (refine Qa7 rfl ?_;refine Qb9 rfl rfl _ _ rfl (Blk.new wr _ cz0) rfl rfl rfl ?_;intro w3 hb3 ho3
        have l3:Later wr w3:=(Qaa wr _).only ho3 (QCL _)
        have own3:=QcL (Qft own (Qaa wr (.cells cz0.toArray 64))) ho3 hne
        obtain⟨c0,c4,hlw⟩:=tb.out w3 l3)
     | (refine Qa7 rfl ?_;refine Qac rfl rfl _ _ _ rfl wr.heap.size 0 _ _ hb3 rfl (by rw[Qao];omega) rfl (by kernel_rfl) ?_;intro v4 w4 hv4 hb4 ho4;simp[go_sem]at hv4;subst hv4
        have l4:=l3.only ho4 (QCL _)
        have own4:=QcL own3 ho4 hne
        replace hb4:Blk w4 wr.heap.size 64 (CC ⟨kd,0,0,0,QbJ⟩):=hb4
        obtain⟨c0',c4',hlw'⟩:=tb.out w4 l4)
     | (refine go_l rfl ?_;refine QaB rfl 31 _ rfl w.heap.size 4 (QbJ.val.map W8) c4' rfl _ Tryz.underlying31 rfl Qsh ?_)
     | (refine Qa7 rfl ?_;refine Qai rfl rfl _ _ _ rfl wr.heap.size 4 _ _ (QbJ.val.map W8) hb4 rfl rfl Qsh (by rw[Qao,QCE,QbJ.2];omega) (QaC _) ?_;intro w8 hb8 ho8
        rw[Qvz]at hb8
        have l8:=l4.only ho8 (QCL _)
        have own8:=QcL own4 ho8 hne
        obtain⟨f66,f67,hbl4⟩:=tr.out w8 l8)
     | (refine Qa7 rfl ?_;refine Qac rfl rfl _ _ _ rfl wr.heap.size 2 _ _ hb8 rfl (by rw[Qao];omega) rfl (by kernel_rfl) ?_;intro v5 w5 hv5 hb5 ho5;simp[go_sem]at hv5;subst hv5
        have l5:=l8.only ho5 (QCL _)
        have own5:=QcL own8 ho5 hne
        obtain⟨f66',f67',hbl5⟩:=tr.out w5 l5)
     | (refine Qa7 rfl ?_;refine Qac rfl rfl _ _ _ rfl wr.heap.size 1 _ _ hb5 rfl (by rw[QDi,Qao];omega) rfl (by kernel_rfl) ?_;intro v6 w6 hv6 hb6 ho6;simp[go_sem]at hv6;subst hv6
        have l6:=l5.only ho6 (QCL _)
        have own6:=QcL own5 ho6 hne
        replace hb6:Blk w6 wr.heap.size 64 (CC ⟨kd,QDe fl,QEg dl,0,QbJ⟩):=hb6)
     | (refine go_l rfl ?_;refine QcG rfl _ rfl hb6 rfl ?_)
     | (refine Qa7 rfl ?_;refine Qes Qao Qor cmd0 rfl rfl _ _ _ rfl own6 hCl j hjn ⟨kd,QDe fl,QEg dl,0,QbJ⟩ rfl rfl Qen ?_;intro w7 own7 ho7)
     | fail)
    rw[←hpc.out,hsj.out]at own7
    exact⟨⟨j+1,by omega,by go_num,own7,(L.trans l6).only ho7 (Nat.le_of_eq hg1)⟩,by simp[intOf];omega⟩
  ·obtain rfl:j=n:=by omega
   rw[hpa.out]at own
   go_wp2_with fail
   go_ret2
   exact⟨some ⟨g1,0,none⟩,j,by rw[hX.out,hcl.out];rfl,by rw[hX.out,hcl.out];exact Qng (d:=cmd0) Qao own hcl.out,B.lat⟩
theorem Qs6 (g:Nat) (w:World):Calls Tryz.prog 145 #[.int .i64 0,.pointer (some ⟨g,0,none⟩)] w fun e w'=>e= .returned (.tuple #[])∧Later w w':=by
 go_enter Tryz.func145,Tryz.ntmps145
 go_wp2_with fail
 exact bodyPost_end (results_none rfl _ _ _) rfl ⟨rfl,Later.refl w⟩
set_option maxRecDepth 100000 in
set_option maxHeartbeats 4000000 in
theorem Qt8 (A:Option Addr) (n c:Nat) (cs:List Cmd) (w:World) (hcr:RdF CC 20 cmd0 w A n cs) (h1:1≤n) (h5:n≤5) (hok:∀i,i<n→cmdE (cs.getD i cmd0)=0∧((cs.getD i cmd0).kd=1↔i+1<n)):
 Calls Tryz.prog 113 #[.slice A n c,.int .i64 (n:Int)] w fun e w'=>e= .returned (.int .i64 0)∧Later w w':=by
 have hmf:∀(fn:Fn) (first cap:Array Value) (w:World),(Instr.makeFunc fn first cap).run Tryz.prog w= .ok (.func fn first cap) w:=fun _ _ _ _=>rfl
 have hok':=hid hok
 clear hok
 have k1:decide ((n:Int)<1)=false:=decide_eq_false (by omega)
 have k5:decide ((5:Int)<(n:Int))=false:=decide_eq_false (by omega)
 have hNt:=hid Qs6
 go_enter Tryz.func113,Tryz.ntmps113
 go_wp2_with (first
  | (refine Qa7 rfl ?_;refine Qac rfl rfl _ _ _ rfl w.heap.size 0 _ _ (Blk.new w _ [.int .i64 0]) rfl (by simp) rfl (by kernel_rfl) ?_;intro v1 w1 hv1 hb1 ho1;simp[go_sem]at hv1;subst hv1)
  | fail)
 have l1:Later w w1:=(Qaa w _).only ho1 (QCL _)
 go_loopw [13] (fun i wr=>∃k:Nat,k≤n∧i= .int .i64 k∧Later w1 wr) (fun i _=>n-(intOf i).toNat)
 case atStart=>exact⟨0,by omega,rfl,Later.refl _⟩
 case round=>
  obtain⟨k,hk,rfl,L⟩:=hrel
  by_cases hlt:k<n
  ·obtain⟨b,o,rfl,hb,hc⟩:=(hcr.later (l1.trans L)).at_ hlt
   obtain⟨hE0,hkd⟩:=hok'.out k hlt
   have hCk:=hid (fun w=>QgN (cs.getD k cmd0) w)
   rw[hE0]at hCk
   generalize cs.getD k cmd0=C at *
   obtain⟨lb,e1,e2⟩:∃lb:Bool,((k:Int)+1==(n:Int))=lb∧(C.kd==1)= !lb:=by
    by_cases hl:k+1=n
    ·exact⟨true,by simp;omega,by simp only[Bool.not_true,beq_eq_false_iff_ne];intro e;have:=hkd.1 e;omega⟩
    ·exact⟨false,by simp;omega,by simp only[Bool.not_false,beq_iff_eq];exact hkd.2 (by omega)⟩
   clear hkd hE0
   go_wp2_with (first
    | (refine go_l rfl ?_;refine QaB rfl 64 _ rfl b (o+k*20) (CC C) hc rfl _ Tryz.underlying64 rfl (by rw[Qao];exact Qen) ?_)
    | (refine Qa7 rfl ?_;refine Qb9 rfl rfl _ _ rfl (Blk.new wr _ cz0) rfl rfl rfl ?_;intro w2 hb2 ho2
       have l2:Later wr w2:=(Qaa wr _).only ho2 (QCL _))
    | (refine go_l rfl ?_;refine QcG rfl _ rfl hb2 rfl ?_)
    | fail)
   refine (hCk.out w2).mono ?_
   rintro e w3 ⟨rfl,j3⟩
   go_wp2_with fail
   refine (hNt.out _ w3).mono ?_
   rintro e w4 ⟨rfl,j4⟩
   have c0:=(QeR (hb2.later (j3.trans j4))).1
   have hl4:=(hb2.later (j3.trans j4)).lt
   cases lb
   all_goals
    go_wp2_with fail
    exact⟨⟨k+1,by omega,by go_num,L.trans (l2.trans (j3.trans j4))⟩,by simp[intOf];omega⟩
  ·obtain rfl:k=n:=by omega
   have c0:=(hb1.later L).cellD 0 (u:=.int .i64 0) rfl
   have hlw:=(hb1.later L).lt
   go_wp2_with fail
   go_ret
   exact⟨rfl,l1.trans L⟩
theorem QxG:Tryz.zeroCells53.toList.length=192:=by kernel_rfl
theorem QoX:(Tryz.prog.info? 53).map (·.size)=some 192:=by kernel_rfl
set_option maxRecDepth 100000 in
set_option maxHeartbeats 4000000 in
theorem QmK (A:Option Addr) (m d:Nat) (xs:List (List UInt8)) (st:Nat→List UInt8) (hstx:∀i,i<m→xs.getD i []=st i) (w:World) (hr:RdK 192 w A m xs) (hxl:∀x∈xs,x.length=192) (h1:1≤m) (h5:m≤5) (hmd:m≤d):
 Calls Tryz.prog 114 #[.slice A m d] w fun e w'=>∃A' c',e= .returned (.tuple #[.slice A' (48*(m-1)) c',.int .i64 0])∧OwnB w' w.heap.size A' (48*(m-1)) c' (QeZ st (m-1))∧Later w w':=by
 have hxn:=hr.1
 have hst:=hid (fun k (h:k<m)=>hxl _ (QdK xs k (by omega)))
 have hfs:Hid (∀ k,k<m→QeZ st (k+1)=xorB (QeZ st k++QCA 48 0) ((chaS (subB (xs.getD k []) 32 32) 288).drop (288-48*(k+1)))):=hid (fun k hk=>by rw[hstx k hk];rfl)
 have hf0:Hid (QeZ st 0=[]):=hid rfl
 have hfl:=hid (fun k h=>Qdf st k h)
 have hchl:=hid (fun key=>QaD key 288)
 generalize QeZ st=FA at *
 clear hstx
 obtain⟨b,o,rfl,hb,hc⟩:∃b o,A=some ⟨b,o,none⟩∧b<w.heap.size∧∀k,k<m→∀(w':World),Later w w'→∀j v,((xs.getD k []).map W8)[j]?=some v→w'.cell? ⟨b,o+k*192+j,none⟩=some v:=by
  obtain⟨b,o,hA,hb,_⟩:=hr.sub (k:=0) (by omega)
  refine⟨b,o,hA,hb,fun k hk w' l j v hv=>?_⟩
  obtain⟨b',o',hA',_,h⟩:=hr.sub (k:=k) hk
  rw[hA]at hA'
  cases hA'
  have:=h w' l 0 192 (xs.getD k []) (by rw[subB,QEb,QCP (by have:=hst.out k hk;omega)]) j v hv
  rwa [QD9]at this
 have k1:decide ((m:Int)<1)=false:=decide_eq_false (by omega)
 have k2:decide ((5:Int)<(m:Int))=false:=decide_eq_false (by omega)
 have hcut:∀W,(Instr.sliceAt 45 (.slice (some ⟨b,o,none⟩) m d) none (some (.int .i64 ((m:Int)-1))) none).run Tryz.prog W= .ok (.slice (some ⟨b,o,none⟩) (m-1) d) W:=fun W=>by
  simp[go_sem]
  omega
 replace hc:=hid hc
 clear hr
 go_enter Tryz.func114,Tryz.ntmps114
 go_wp2_with fail
 go_loopw [4,24] (fun v i wr=>∃(k:Nat) (A':Option Addr) (c':Nat),k≤m-1∧i= .int .i64 k∧v= .slice A' (48*k) c'∧OwnB wr w.heap.size A' (48*k) c' (FA k)∧Later w wr) (fun _ i _=>m-1-(intOf i).toNat)
 case atStart=>exact⟨0,none,0,by omega,rfl,rfl,by rw[hf0.out];exact Qdj _ _ _,Later.refl w⟩
 case round=>
  obtain⟨k,A1,c1,hk,rfl,rfl,hown,L⟩:=hrel
  by_cases hlt:k<m-1
  ·have hTl:=hst.out k (by omega)
   have hkl:(subB (xs.getD k []) 32 32).length=32:=Qan (by omega)
   have hck:=hc.out k (by omega) wr L
   have hs:=hid (hfs.out k (by omega))
   have hbw:=QC0 hb L.size
   have hcap1:=OwnB.cap hown
   have hFk:=hfl.out k (by omega)
   generalize hT:xs.getD k []=T at *
   clear hT
   have hS32:Hid (∀ {w':World} {g:Nat},Blk w' g 53 (T.map W8)→RdB w' (some ⟨g,32,none⟩) 32 (subB T 32 32)):=hid (fun h=>QbU h rfl hkl)
   generalize subB T 32 32=S at *
   generalize FA k=F at *
   go_wp2_with (first
    | (refine go_l rfl ?_;refine QaB rfl 53 _ rfl b (o+k*192) (T.map W8) hck rfl _ Tryz.underlying53 rfl (by rw[QCE,hTl];exact QoX) ?_)
    | (refine Qa7 rfl ?_;refine Qf8 192 rfl rfl _ _ rfl (Blk.new wr _ Tryz.zeroCells53.toList) rfl rfl QoX hTl QxG ?_;intro w2 hb2 ho2
       have l2:Later wr w2:=(Qaa wr _).only ho2 (QCL _))
    | fail)
   refine (QjN (some ⟨wr.heap.size,32,none⟩) 32 288 S w2 (hS32.out hb2) (by omega)).mono ?_
   rintro e w3 ⟨A3,c3,rfl,o3,j3⟩
   have hcap3:=OwnB.cap o3
   go_wp2_with (first
    | (refine Qax rfl _ _ _ rfl 5 _ 1 Tryz.underlying22 Qb4 rfl _ _ _ _ 48 rfl rfl rfl rfl (by omega) (by omega) ?_;intro w4 hb4 hl4)
    | fail)
   have hz48:QCA 48 (Value.int .u8 0)=(QCA 48 (0:UInt8)).map W8:=by rw[QDg];rfl
   rw[hz48]at hb4
   have J4:=(l2.trans j3).trans hl4
   have P4:=Qev (Blk.new w4 22 [.slice A1 (48*k) c1,.slice (some ⟨w3.heap.size,0,none⟩) 48 48]) (QaW (OwnB.rd (Qbo hown (J4.trans (Qaa _ _)))) hcap1) (QaW (Qb8 (hb4.later (Qaa _ _)) (by rw[QCM])) (QCL _))
   have hflat:([F,QCA 48 (0:UInt8)]:List (List UInt8)).flatten=F++QCA 48 0:=by simp
   have hFl2:(F++QCA 48 (0:UInt8)).length=48*k+48:=by rw[QCK,QCM,hFk]
   have hJn:=QcP (some ⟨w4.heap.size,0,none⟩) 2 2 _ _ P4 (by omega) (by rw[hflat,hFl2];omega)
   rw[hflat,hFl2]at hJn
   refine hJn.mono ?_
   rintro e w5 ⟨A5,c5,rfl,o5,j5⟩
   have hcap5:=OwnB.cap o5
   clear hJn P4 hb4
   have hch:=hchl.out S
   obtain⟨DA,dc,hcut2,hbd,hdc⟩:∃(DA:Option Addr) (dc:Nat),(∀ W,(Instr.sliceAt 22 (.slice A3 288 c3) (some (.int .i64 ((288:Int)-(48*(k:Int)+48)))) none none).run Tryz.prog W= .ok (.slice DA (48*k+48) dc) W)∧RdB w5 DA (48*k+48) ((chaS S 288).drop (288-48*(k+1)))∧48*k+48≤dc:=by
    refine⟨cutA A3 (288-48*(k+1)) c3,c3-(288-48*(k+1)),fun W=>?_,?_,by omega⟩
    ·have:=Qh5 A3 288 c3 .i64 (288-48*(k+1)) (by omega) W
     rw[show (288:Int)-(48*(k:Int)+48)=((288-48*(k+1):Nat):Int) by omega,this,show 288-(288-48*(k+1))=48*k+48 by omega]
    ·have h:=RdB.cut ((OwnB.rd o3).later (hl4.trans ((Qaa _ _).trans j5))) (k:=288-48*(k+1)) (by omega) hcap3
     rwa [show 288-(288-48*(k+1))=48*k+48 by omega]at h
   have J5:=J4.trans ((Qaa _ _).trans j5)
   have P6:=Qev (Blk.new w5 22 [.slice A5 (48*k+48) c5,.slice DA (48*k+48) dc]) (QaW (OwnB.rd (Qbo o5 (Qaa _ _))) hcap5) (QaW (RdB.later hbd (Qaa _ _)) hdc)
   have hX:=QmB (some ⟨w5.heap.size,0,none⟩) 2 (48*k+48) _ _ _ P6 hFl2 (by rw[QC3,hch];omega) (by omega)
   rw[←hs.out]at hX
   go_wp2_with fail
   refine hX.mono ?_
   rintro e w6 ⟨A6,c6,rfl,o6,j6⟩
   clear hX P6
   go_wp2_with fail
   exact⟨⟨k+1,A6,c6,by omega,by go_num,rfl,QdZ o6 (L.trans (J5.trans (Qaa _ _))).size,L.trans (J5.trans ((Qaa _ _).trans j6))⟩,by simp[intOf];omega⟩
  ·obtain rfl:k=m-1:=by omega
   go_wp2_with fail
   go_ret2
   exact⟨A1,c1,rfl,hown,L⟩
def hdrS (n:Nat) (sl st:Nat→List UInt8):Nat→List UInt8
 | 0=>QCA 288 0
 | j+1=>hdrA n sl st j
theorem QBX {H al be:List UInt8} (hH:H.length=288) (ha:al.length=32) (hb:be.length=240):∃Y:List UInt8,Y.length=16∧putB (putB H 0 al) 48 be=al++(Y++be):=by
 obtain⟨X,Y,Z,rfl,hX,hY,hZ⟩:∃X Y Z:List UInt8,H=X++(Y++Z)∧X.length=32∧Y.length=16∧Z.length=240:=⟨H.take 32,(H.drop 32).take 16,(H.drop 32).drop 16,by rw[QC9,QC9],by rw[QC1];omega,by rw[QC1,QC3];omega,by rw[QC3,QC3];omega⟩
 have s1:putB (X++(Y++Z)) 0 al=al++(Y++Z):=by
  have:=QbH [] X (Y++Z) al 0 rfl (by omega)
  simpa using this
 have s2:putB (al++(Y++Z)) 48 be=al++(Y++be):=by
  have:=QbH (al++Y) Z [] be 48 (by rw[QCK];omega) (by omega)
  simpa using this
 exact⟨Y,hY,by rw[s1,s2]⟩
theorem QxD {al Y be:List UInt8} (ha:al.length=32) (hY:Y.length=16) (hb:be.length=240):subB (al++(Y++be)) 0 32=al∧subB (al++(Y++be)) 48 240=be:=by
 constructor
 ·rw[subB,QEb,QDY ha]
 ·rw[subB,←QCR,QDn (by rw[QCK];omega),QCP (by omega)]
theorem QjX {w:World} {b p n:Nat} {r:List UInt8} (hb:b<w.heap.size) (hc:∀j v,(r.map W8)[j]?=some v→w.cell? ⟨b,p+j,none⟩=some v) (hn:r.length=n):RdB w (some ⟨b,p,none⟩) n r:=Qc9 hb hc hn
set_option maxRecDepth 100000 in
set_option maxHeartbeats 8000000 in
theorem Qpa (A B:Option Addr) (n c d:Nat) (cs:List Cmd) (xs:List (List UInt8)) (w:World) (hcr:RdF CC 20 cmd0 w A n cs) (hr:RdK 192 w B n xs) (hxl:∀x∈xs,x.length=192) (h1:1≤n) (h5:n≤5) (hnd:n≤d)
 (hok:∀i,i<n→cmdE (cs.getD i cmd0)=0∧((cs.getD i cmd0).kd=1↔i+1<n))
 (sl st:Nat→List UInt8) (hsa:∀k,(sl k).length=32) (hsl:∀i,i<n→encB (cs.getD i cmd0)=sl i) (hst:∀i,i<n→xs.getD i []=st i):
 Calls Tryz.prog 76 #[.slice A n c,.slice B n d] w fun e w'=>e= .returned (.tuple #[.agg ((hdrA n sl st (n-1)).map W8).toArray,.int .i64 0])∧Later w w':=by
 have hok':=hid hok
 obtain⟨F,hF⟩:∃F,F=48*(n-1):=⟨_,rfl⟩
 obtain⟨Z,hZ⟩:∃Z,Z=208-F:=⟨_,rfl⟩
 have hEr:=hid (fun w h=>Qt8 A n c cs w h h1 h5 hok)
 have hFi:=hid (fun w h=>QmK B n d xs st hst w h hxl h1 h5 hnd)
 rw[←hF]at hFi
 have hb0:Hid (betA n sl st 0=xorB (sl (n-1)++QCA Z 0) (chaS (subB (st (n-1)) 32 32) (32+Z))++QeZ st (n-1)):=hid (by
  rw[betA,←hF,←hZ,show 240-F=32+Z by omega]
  rfl)
 have hsll:=hid hsa
 have hstl:Hid (∀ i,i<n→(st i).length=192):=hid (fun i hi=>by rw[←hst i hi];exact hxl _ (QdK xs i (by have:=hr.1;omega)))
 obtain⟨bS,oS,rfl,hbS,hcS⟩:∃b o,B=some ⟨b,o,none⟩∧b<w.heap.size∧∀k,k<n→∀(w':World),Later w w'→∀(off q:Nat) (r:List UInt8),subB (st k) off q=r→∀j v,(r.map W8)[j]?=some v→w'.cell? ⟨b,o+k*192+off+j,none⟩=some v:=by
  obtain⟨b,o,hA,hb,_⟩:=hr.sub (k:=0) (by omega)
  refine⟨b,o,hA,hb,fun k hk=>?_⟩
  obtain⟨b',o',hA',_,h⟩:=hr.sub (k:=k) hk
  rw[hA]at hA'
  cases hA'
  rw[←hst k hk]
  exact h
 replace hcS:=hid hcS
 have hcM:Hid (∀ k,k<n→∀(w':World),Later w w'→∀j v,((subB (st k) 0 32).map W8)[j]?=some v→w'.cell? ⟨bS,oS+k*192+j,none⟩=some v):=hid (fun k hk w' h j v hv=>by
  have:=hcS.out k hk w' h 0 32 _ rfl j v hv
  rwa [QD9]at this)
 have hkl:Hid (∀ k off,k<n→off+32≤192→(subB (st k) off 32).length=32):=hid (fun k off hk ho=>Qan (by rw[hstl.out k hk];omega))
 have hbl:=hid (fun j=>Qbx (st:=st) h1 h5 hsa j)
 have hsl':=hid hsl
 have hZ1:(240:Int)-(F:Int)-32=(Z:Int):=by omega
 have hZF:32+Z+F=240:=by omega
 clear hst hsl hF hZ hok hxl
 have B0:Bag w (w.alloc (.cells Tryz.zeroCells34 34)) [(w.heap.size,34,(QCA 288 (0:UInt8)).map W8)]:=(Bag.none w).add (Qaa _ _) (by simp) (QCL _) ((Blk.new w _ Tryz.zeroCells34.toList).cast zcH)
 go_enter Tryz.func76,Tryz.ntmps76
 go_wp2_with fail
 refine (hEr.out _ (hcr.later B0.lat)).mono ?_
 rintro e w1 ⟨rfl,j1⟩
 have B1:=B0.later j1
 go_wp2_with fail
 refine (hFi.out w1 (hr.later B1.lat)).mono ?_
 rintro e w2 ⟨A2,c2,rfl,o2,j2⟩
 have B2:=B1.later j2
 have rF:=OwnB.rd o2
 have cF:=OwnB.cap o2
 clear hEr hFi B0 B1 o2
 have hB3:Blk (w2.alloc (.cells Tryz.zeroCells34 34)) w2.heap.size 34 ((hdrS n sl st 0).map W8):=(Blk.new w2 _ Tryz.zeroCells34.toList).cast zcH
 go_wp2_with fail
 have l3:Later w2 (w2.alloc (.cells Tryz.zeroCells34 34)):=Qaa _ _
 generalize w2.alloc (.cells Tryz.zeroCells34 34)=w3 at *
 generalize hgH:w2.heap.size=gH at *
 go_loopw [10] (fun iv wr=>∃j:Nat,j≤n∧iv= .int .i64 ((n:Int)-1-(j:Int))∧Blk wr gH 34 ((hdrS n sl st j).map W8)∧Later w2 wr) (fun iv _=>(intOf iv+1).toNat)
 case atStart=>exact⟨0,by omega,by simp,hB3,l3⟩
 case round=>
  clear hB3 l3
  obtain⟨j,hj,rfl,hB,L⟩:=hrel
  have hLw:=(B2.lat.trans L)
  by_cases hjn:j<n
  ·obtain⟨i,hi⟩:∃i,i=n-1-j:=⟨_,rfl⟩
   have hcast:(n:Int)-1-(j:Int)=(i:Int):=by omega
   rw[hcast]
   have hin:i<n:=by omega
   have hHl:(hdrS n sl st j).length=288:=by
    cases j with
    | zero=>exact QCM
    | succ j=>
      show (hdrA n sl st j).length=288
      rw[hdrA,QCK,QCK,Qc4 (hstl.out _ (by omega)),hbl.out,tagA,Qbw]
   obtain⟨b,o,rfl,hbb,hc⟩:=(hcr.later hLw).at_ hin
   obtain⟨hE0,_⟩:=hok'.out i hin
   have hEn:=hid (fun w=>Qm2 (cs.getD i cmd0) hE0 w)
   rw[hsl'.out i hin]at hEn
   have hml:=hkl.out i 0 hin (by omega)
   have hsl3:=hkl.out i 32 hin (by omega)
   have hal:=hkl.out i 128 hin (by omega)
   have hmM:=hid (fun w' h=>hcM.out i hin w' h)
   have hmS:=hid (fun w' h=>hcS.out i hin w' h 32 32 _ rfl)
   have hmA:=hid (fun w' h=>hcS.out i hin w' h 128 32 _ rfl)
   have hge:(0:Int)≤(i:Int):=by omega
   have hbr:=hbl.out j
   have hst':Hid (hdrS n sl st (j+1)=subB (st i) 128 32++(tagB (subB (st i) 0 32) (subB (st i) 128 32) (betA n sl st j)++betA n sl st j)):=hid (by
    show hdrA n sl st j=_
    rw[hdrA,tagA,←hi]
    rfl)
   have hbe:Hid (betA n sl st j=if j=0 then xorB (sl i++QCA Z 0) (chaS (subB (st i) 32 32) (32+Z))++QeZ st (n-1) else xorB (sl i++(subB (hdrS n sl st j) 32 16++(subB (hdrS n sl st j) 48 240).take 192)) (chaS (subB (st i) 32 32) 240)):=hid (by
    cases j with
    | zero=>
      rw[if_pos rfl,hb0.out,show i=n-1 by omega]
    | succ j=>
      obtain⟨_,h2,h3⟩:=QkK h1 h5 hsll.out (st:=st) j (Qc4 (hstl.out _ (by omega)))
      rw[if_neg (by omega)]
      show _=xorB (sl i++(subB (hdrA n sl st j) 32 16++(subB (hdrA n sl st j) 48 240).take 192)) _
      rw[h2,h3,betA,show n-2-j=i by omega]
      rfl)
   generalize betA n sl st j=BJ at *
   generalize hdrS n sl st j=H at *
   generalize subB (st i) 0 32=M at *
   generalize subB (st i) 128 32=AL at *
   generalize subB (st i) 32 32=S at *
   have hslil:=hsll.out i
   replace hcast:=hid hcast
   replace hi:=hid hi
   generalize sl i=SL at *
   clear hE0
   go_wp2_with (first
    | (refine go_l rfl ?_;refine QaB rfl 64 _ rfl b (o+i*20) (CC (cs.getD i cmd0)) hc rfl _ Tryz.underlying64 rfl (by rw[Qao];exact Qen) ?_)
    | fail)
   refine (hEn.out wr).mono ?_
   rintro e w4 ⟨A4,c4,rfl,o4,j4⟩
   have r4:=OwnB.rd o4
   have cp4:=OwnB.cap o4
   clear o4 hEn
   have J4:=hLw.trans j4
   have hb4:=hB.later j4
   have hbS4:bS<w4.heap.size:=QC0 hbS J4.size
   have rS4:=QjX hbS4 (hmS.out w4 J4) hsl3
   have rF4:=RdB.later rF (L.trans j4)
   by_cases hj0:j=0
   case' pos=>
    have e0:((i:Int)==(n:Int)-1)=true:=by have:=hi.out;simp;omega
    have hbe':=hid (hbe.out.trans (if_pos hj0))
    clear hbe
    go_wp2_with (first
     | (refine Qax rfl _ _ _ rfl 5 _ 1 Tryz.underlying22 Qb4 rfl _ _ _ _ Z rfl rfl rfl rfl (by omega) (by omega) ?_;intro w5 hb5 hl5)
     | fail)
    have hzZ:QCA Z (Value.int .u8 0)=(QCA Z (0:UInt8)).map W8:=by rw[QDg];rfl
    rw[hzZ]at hb5
    have r4':=RdB.later r4 hl5
    have P5:=Qev (Blk.new w5 22 [.slice A4 32 c4,.slice (some ⟨w4.heap.size,0,none⟩) Z Z]) (QaW (RdB.later r4' (Qaa _ _)) cp4) (QaW (Qb8 (hb5.later (Qaa _ _)) (by rw[QCM])) (QCL _))
    have hflt:([SL,QCA Z (0:UInt8)]:List (List UInt8)).flatten=SL++QCA Z 0:=by simp
    have hfll:(SL++QCA Z (0:UInt8)).length=32+Z:=by rw[QCK,QCM,hslil]
    have hTu:=QiJ (some ⟨bS,oS+i*192+32,none⟩) 32 2 2 _ S _ _ (RdB.later rS4 (hl5.trans (Qaa _ _))) P5 (by omega) (by rw[hflt,hfll];omega)
    rw[hflt,hfll]at hTu
    clear hb5
    go_wp2_with fail
    refine hTu.mono ?_
    rintro e w6 ⟨A6,c6,rfl,o6,j6⟩
    clear hTu P5
    have J6:=hl5.trans ((Qaa w5 (.cells #[.slice A4 32 c4,.slice (some ⟨w4.heap.size,0,none⟩) Z Z] 22)).trans j6)
    have P7:=Qev (Blk.new w6 22 [.slice A6 (32+Z) c6,.slice A2 F c2]) (QaW (OwnB.rd (Qbo o6 (Qaa _ _))) (OwnB.cap o6)) (QaW (RdB.later rF4 (J6.trans (Qaa _ _))) cF)
    have hfl7:([xorB (SL++QCA Z 0) (chaS S (32+Z)),QeZ st (n-1)]:List (List UInt8)).flatten=BJ:=by rw[hbe'.out];simp
    have hJn:=QcP (some ⟨w6.heap.size,0,none⟩) 2 2 _ _ P7 (by omega) (by rw[hfl7,hbr];omega)
    rw[hfl7,hbr]at hJn
    go_wp2_with fail
    refine hJn.mono ?_
    rintro e w9 ⟨A9,c9,rfl,o9,j9⟩
    clear hJn P7
    have L9:Later w4 w9:=J6.trans ((Qaa _ _).trans j9)
    clear o6 j9 j6 J6 hbe'
   case' neg=>
    have e0:((i:Int)==(n:Int)-1)=false:=by have:=hi.out;simp;omega
    have hbe':=hid (hbe.out.trans (if_neg hj0))
    clear hbe
    have hbd:=hb4.drew
    have hlH:=hbd.lt
    have h3:(subB H 32 16).length=16:=Qan (by omega)
    have h4:(subB H 48 240).length=240:=Qan (by omega)
    have hbS4d:=QC0 hbS4 (Qab w4).size
    go_wp2_with fail
    refine Qaf [([0,1,2,3,4,5,6,7,8,9,10],11),([],12)] [13,14,15,16,17] [] (by as_aux_lemma=>kernel_rfl) (by as_aux_lemma=>kernel_rfl) (by intro _ _ d _ _ h;cases d<;>exact h) ?_
    simp only[Qah,pick,QCB,QCC,QCD,QCF,QCG]
    repeat (go_big_quiet_step (fail))
    refine wpQuiet_nil ?_
    go_wp2_with fail
    try refine⟨by first|assumption|exact Qab _|exact Qaa _ _|exact Later.refl _,?_⟩
    try simp only[Qah,pick,QCB,QCC,QCD,QCF,QCG]
    repeat (go_big_quiet_step (fail))
    refine wpQuiet_nil ?_
    go_wp2_with fail
    have JW:Later w4 (w4.alloc (.cells #[.slice A4 32 c4,.slice (some ⟨gH,32,none⟩) 16 16,.slice (some ⟨gH,48,none⟩) 192 240] 22)).drew:=(Qaa _ _).trans (Qab _)
    have hP:=QdW ((Blk.new w4 22 [.slice A4 32 c4,.slice (some ⟨gH,32,none⟩) 16 16,.slice (some ⟨gH,48,none⟩) 192 240]).drew.rd rfl) (ps:=[SL,subB H 32 16,(subB H 48 240).take 192]) ⟨QaW (RdB.later r4 JW) cp4,QaW (QbU (hb4.later JW) rfl h3) (QCL _),QaW (RdB.take (QbU (hb4.later JW) rfl h4) (by omega)) (by omega),trivial⟩
    have hfl:([SL,subB H 32 16,(subB H 48 240).take 192]:List (List UInt8)).flatten=SL++(subB H 32 16++(subB H 48 240).take 192):=by simp
    have hfll:(SL++(subB H 32 16++(subB H 48 240).take 192)).length=240:=by rw[QCK,QCK,QC1];omega
    have hTu:=QiJ (some ⟨bS,oS+i*192+32,none⟩) 32 3 3 _ S _ _ (RdB.later rS4 JW) hP (by omega) (by rw[hfl,hfll];omega)
    rw[hfl,hfll,←hbe'.out]at hTu
    refine hTu.mono ?_
    rintro e w9 ⟨A9,c9,rfl,o9,j9⟩
    have L9:Later w4 w9:=JW.trans j9
    go_wp2_with fail
    try refine⟨by first|assumption|exact Qab _|exact Qaa _ _|exact Later.refl _,?_⟩
    try simp only[Qah,pick,QCB,QCC,QCD,QCF,QCG]
    repeat (go_big_quiet_step (fail))
    refine wpQuiet_nil ?_
    clear hTu hP hfl hfll hbd hlH h3 h4 hbS4d hbe'
   all_goals
    have hb9:=hb4.later L9
    have J9:=J4.trans L9
    have hbS9:=QC0 hbS4 L9.size
    have dA:=hmA.out w9 J9
    obtain⟨Y,hY,hH2⟩:=QBX (be:=BJ) hHl hal hbr
    obtain⟨hsA,hsB⟩:=QxD hal hY hbr
    replace hH2:=hid hH2
    have hH1:(putB H 0 AL).length=288:=by rw[Qbc (by omega),hHl]
    go_wp2_with (first
     | (refine go_l rfl ?_;refine Qg4 rfl _ rfl dA hal rfl ?_)
     | (refine Qa7 rfl ?_;refine Qf1 0 32 rfl rfl _ _ rfl hb9 rfl rfl Qbd hal (by omega) ?_;intro wa hba hoa
        have la:Later w2 wa:=(L.trans (j4.trans L9)).only hoa (by rw[←hgH];exact QCL _)
        have r9b:=OwnB.rd (Qgo o9 hb9 (by decide) hoa))
     | (refine Qh4 48 240 rfl _ _ _ _ rfl 5 Tryz.underlying22 Qbu hba r9b rfl rfl (by omega) ?_;intro wb hbb hob)
     | fail)
    rw[hH2.out]at hbb
    simp only[Act.put,QCJ,QCO,QCN]
    have lb:Later w2 wb:=la.only hob (by rw[←hgH];exact QCL _)
    have hbd:=hbb.drew
    have hlH:=hbd.lt
    have Jb:=B2.lat.trans lb
    have hbSb:bS<wb.drew.heap.size:=QC0 hbS (Jb.trans (Qab _)).size
    clear hba hoa hob la hb9 o9 dA
    refine Qaf [([0,1,2,3,4,5,6,7,8,9,10,11],12),([],13)] [] [14] (by as_aux_lemma=>kernel_rfl) (by as_aux_lemma=>kernel_rfl) (by intro _ _ d _ _ h;cases d<;>exact h) ?_
    simp only[Qah,pick,QCB,QCC,QCD,QCF,QCG]
    repeat (go_big_quiet_step (fail))
    refine wpQuiet_nil ?_
    go_wp2_with fail
    try refine⟨by first|assumption|exact Qab _|exact Qaa _ _|exact Later.refl _,?_⟩
    try simp only[Qah,pick,QCB,QCC,QCD,QCF,QCG]
    repeat (go_big_quiet_step (fail))
    refine wpQuiet_nil ?_
    go_wp2_with fail
    have JW:Later wb (wb.alloc (.cells #[.slice (some ⟨gH,0,none⟩) 32 32,.slice (some ⟨gH,48,none⟩) 240 240] 22)).drew:=(Qaa _ _).trans (Qab _)
    have hbW:=hbb.later JW
    have hP:=QdW ((Blk.new wb 22 [.slice (some ⟨gH,0,none⟩) 32 32,.slice (some ⟨gH,48,none⟩) 240 240]).drew.rd rfl) (ps:=[AL,BJ]) ⟨QaW (QbU hbW hsA hal) (QCL _),QaW (QbU hbW hsB hbr) (QCL _),trivial⟩
    have hfl:([AL,BJ]:List (List UInt8)).flatten=AL++BJ:=by simp
    have rM:=QjX (QC0 (QC0 hbS Jb.size) JW.size) (hmM.out _ (Jb.trans JW)) hml
    have hSh:=QlE (some ⟨bS,oS+i*192,none⟩) (some ⟨wb.heap.size,0,none⟩) 32 32 2 2 M [AL,BJ] _ rM (QCL _) (by omega) hP (by omega) (by rw[hfl,QCK];omega)
    rw[hfl]at hSh
    have hTg:Hid ((Qbb M (AL++BJ)).take 16=tagB M AL BJ):=hid rfl
    rw[hTg.out]at hSh
    have hTl:=Qbw M AL BJ
    generalize tagB M AL BJ=TG at *
    refine hSh.mono ?_
    rintro e wc ⟨Ac,cc,rfl,oc,jc⟩
    go_wp2_with fail
    try refine⟨by first|assumption|exact Qab _|exact Qaa _ _|exact Later.refl _,?_⟩
    try simp only[Qah,pick,QCB,QCC,QCD,QCF,QCG]
    repeat (go_big_quiet_step (fail))
    refine wpQuiet_nil ?_
    have hbc:=hbW.later jc
    go_wp2_with (first
     | (refine Qh4 32 16 rfl _ _ _ _ rfl 5 Tryz.underlying22 Qbu hbc (OwnB.rd oc) rfl rfl (by rw[QCK,QCK];omega) ?_;intro wd hbd2 hod)
     | fail)
    rw[QbH AL Y BJ TG 32 hal (by omega),←hst'.out]at hbd2
    exact⟨⟨j+1,by omega,by rw[show (n:Int)-1-((j+1:Nat):Int)=(i:Int)-1 by have:=hcast.out;omega],hbd2,(lb.trans (JW.trans jc)).only hod (by rw[←hgH];exact QCL _)⟩,by simp only[intOf];omega⟩
  ·have hjn':j=n:=by omega
   have fge:decide ((0:Int)≤(n:Int)-1-(j:Int))=false:=decide_eq_false (by omega)
   obtain⟨m,rfl⟩:∃m,n=m+1:=⟨n-1,by omega⟩
   have hH:Hid (hdrS (m+1) sl st j=hdrA (m+1) sl st m):=hid (by rw[hjn'];rfl)
   have hHl:(hdrS (m+1) sl st j).length=288:=by
    rw[hH.out,hdrA,QCK,QCK,Qc4 (hstl.out _ (by omega)),hbl.out,tagA,Qbw]
   have hB0:=(B2.later L).nth 0 rfl
   have hz:((QCA 288 (0:UInt8)).map W8).length=288:=by rw[QCE,QCM]
   replace hjn':=hid hjn'
   generalize hdrS (m+1) sl st j=H at *
   go_wp2_with (first
    | (refine go_l rfl ?_;refine Qj3 rfl _ rfl hB hHl rfl ?_)
    | (refine Qa7 rfl ?_;refine QdC rfl rfl _ _ rfl hB0 rfl rfl hHl hz ?_;intro w5 hb5 ho5)
    | fail)
   exact bodyPost_ret (Qag rfl _ _ _ _ _ _ hb5 rfl Tryz.underlying34 rfl (by rw[QCE,hHl];exact QcK)) rfl ⟨by rw[hH.out];rfl,hLw.only ho5 (QCL _)⟩
end Go.Proofs.YtdhgpkdjdmlphaaGreat
