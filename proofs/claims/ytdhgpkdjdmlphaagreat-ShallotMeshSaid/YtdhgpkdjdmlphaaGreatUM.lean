/-
  Lemmas for the last text of this claim (part 13 of 20).
-/
import Derived.ArgAppend
import Derived.BigQuiet
import Derived.BigRegion
import Derived.ChangeOld
import Derived.Deep.RegionWith
import Derived.DeepKeys4
import Derived.JoinedCond
import Derived.LaidMore
import Derived.Laws.BytesArg
import Derived.Laws.CopyOwn
import Derived.Laws.Externs
import Derived.Laws.IdiomStrings
import Derived.Laws.Tables
import Derived.Lib.AppendStr
import Derived.Lib.AppendZerosOnto
import Derived.Lib.Mul64
import Derived.Lib.SlBytesConst
import Derived.LoopN
import Derived.Maps.OwnSet
import Derived.OpenShut
import Derived.OrdersHeld
import Derived.ProofKit
import Derived.Shelf.Spec.BitsCarry
import Derived.ShutString
import Derived.Test.YtdhgpkdjdmlphaaGreatProg
import Derived.Test.YtdhgpkdjdmlphaaGreatRows
import Derived.WalkKit
import Derived.WalkLawsBesides
import Derived.WalkSpells
import Derived.Test.YtdhgpkdjdmlphaaGreatUB
import Derived.Test.YtdhgpkdjdmlphaaGreatUD
import Derived.Test.YtdhgpkdjdmlphaaGreatUE
import Derived.Test.YtdhgpkdjdmlphaaGreatUJ
import Derived.Test.YtdhgpkdjdmlphaaGreatUK
import Derived.Test.YtdhgpkdjdmlphaaGreatUL
open List renaming replicate → QGn, getElem?_cons_succ → QGo, getElem?_cons_zero → QGp, getD_eq_getElem?_getD → QGq, length_map → QGr, getElem?_eq_getElem → QGt, cons_append → QGu, nil_append → QGv, setIfInBounds_toArray → QGw, length_append → QGy, set_cons_zero → QGz, length_replicate → QGA, set_cons_succ → QGB, map_toArray → QGC, take_of_length_le → QGD, getElem?_append_right → QGE, getElem?_map → QGF, getElem?_append_left → QGG, map_nil → QGH, append_assoc → QGI, mem_cons → QGJ, not_mem_nil → QGK, getElem?_eq_some_iff → QGL, length_take → QGP, length_drop → QGQ, map_cons → QGR, length_set → QGV, append_nil → QGW, take_append_drop → QGX, take_succ_eq_append_getElem → QGY, set_append_right → QG1, map_append → QG6, eq_nil_of_length_eq_zero → QG7, drop_left' → QHc, getElem_mem → QHi, getElem?_drop → QHA, flatten_cons → QHH, take_left' → QHK, drop_drop → QHY, map_take → QH0, drop_eq_nil_of_le → QIh, drop_zero → QIk, drop_append → QIG, flatten_nil → QIH
open Nat renaming le_refl → QGx, zero_add → QGT, le_trans → QG9, add_zero → QIf
open Option renaming toList_some → QGs, map_eq_some_iff → QIg
open UInt64 renaming ofNat → QGS
set_option linter.all false
namespace Go.Proofs.YtdhgpkdjdmlphaaGreat
open Go.RowKit
open Go.BigFrame
theorem QBb {pre post:List Value} {xs:List UInt8} {off k:Nat} (hp:pre.length=off) (h:k<xs.length) (x:UInt8) (hx:xs[k]?=some x):(pre++xs.map W8++post)[off+k]?=some (W8 x):=by
 rw[QGI,QGE (by omega),show off+k-pre.length=k by omega,QGG (by rw[QGr];exact h),QGF,hx]
 rfl
theorem QBu {pre post:List Value} {xs:List UInt8} {off k:Nat} (hp:pre.length=off) (h:k<xs.length) (x:UInt8):(pre++xs.map W8++post).set (off+k) (W8 x)=pre++(xs.set k x).map W8++post:=by
 rw[QGI,QG1 _ _ (by omega),show off+k-pre.length=k by omega,List.set_append_left _ _ (by rw[QGr];exact h),Qcx,QGI]
set_option maxRecDepth 100000 in
set_option maxHeartbeats 2000000 in
theorem Qos (g off n c c2:Nat) (t:TypeId) (A:Option Addr) (pre post:List Value) (xs ys:List UInt8) (w:World) (hb:Blk w g t (pre++xs.map W8++post)) (hp:pre.length=off) (hxl:xs.length=n) (hy:RdB w A n ys) (hoff:0<n→Off A g) (hn:n≤1048576):
 Calls Tryz.prog 166 #[.slice (some ⟨g,off,none⟩) n c,.slice A n c2] w fun e w'=>e= .returned (.tuple #[])∧Blk w' g t (pre++(xorB xs ys).map W8++post)∧Only g w w':=by
 have hyl:=hy.len
 have hlen:xs.length=ys.length:=by omega
 have hX:=hid (fun k=>Qh5 hlen k)
 have hG:=hid (fun k (h:k<xs.length)=>Qne hlen h)
 have hS:=hid (fun k (h:k<xs.length)=>Qle hlen h)
 have hA:=hid (Qns hlen)
 have hN:=hid (Qky xs ys)
 go_enter Tryz.func166,Tryz.ntmps166
 go_wp2_with fail
 go_loopw [8] (fun i wr=>∃k:Nat,k≤n∧i= .int .i64 k∧Blk wr g t (pre++(Qhe xs ys k).map W8++post)∧Only g w wr) (fun i _=>n-(intOf i).toNat)
 case atStart=>exact⟨0,by omega,rfl,by rw[hN.out];exact hb,World.grownBy.refl w _⟩
 case round=>
  clear hb
  obtain⟨k,hk,rfl,hb,ho'⟩:=hrel
  by_cases hlt:k<n
  ·have hy':RdB wr A n ys:=Rd.only hy ho' (fun b o e h=>hoff (by omega) _ e h)
   obtain⟨b2,o2,rfl,hb2,hc2⟩:=RdB.at_ hy' (by omega)
   have c1:=hc2 k hlt
   have hxk:=hX.out k (by omega)
   have d1:=hb.cellD (off+k) (QBb hp (by omega) _ (hG.out k (by omega)))
   have HS:=hid (hS.out k (by omega))
   clear hc2
   generalize xs.getD k 0=x at *
   generalize ys.getD k 0=y at *
   go_wp2_with (first
    | (refine Qad rfl rfl _ _ _ rfl g (off+k) _ _ hb rfl (by simp only[QGy,QGr];omega) rfl Qb2 ?_;intro v' w5 hv' hb5 ho5;simp[go_sem]at hv';subst hv')
    | fail)
   rw[QBu hp (by omega),HS.out]at hb5
   go_roundw
   case rel=>exact⟨k+1,by omega,by go_num,hb5,ho'.trans ho5⟩
   case measure=>simp[intOf];omega
  ·obtain rfl:n=k:=by omega
   rw[←hxl,hA.out]at hb
   go_wp2_with fail
   exact bodyPost_end (results_none rfl _ _ _) rfl ⟨rfl,hb,ho'⟩
theorem QwV (g off n c c2:Nat) (t:TypeId) (A:Option Addr) (bs ys:List UInt8) (rest:List Value) (w:World) (hb:Blk w g t (bs.map W8++rest)) (hbl:bs.length=n) (h32:32≤n) (hoff:off=32∨(off=0∧n=32)) (hy:RdB w A (n-32) ys) (hA:0<n-32→Off A g) (hn:n≤1048576):
 Calls Tryz.prog 166 #[.slice (some ⟨g,off,none⟩) (n-32) c,.slice A (n-32) c2] w fun e w'=>e= .returned (.tuple #[])∧Blk w' g t ((bs.take 32++xorB (bs.drop 32) ys).map W8++rest)∧Only g w w':=by
 have e0:bs.map W8++rest=(bs.take 32).map W8++(bs.drop 32).map W8++rest:=by rw[←QG6,QGX]
 rcases hoff with rfl|⟨rfl,rfl⟩
 ·rw[e0]at hb
  refine (Qos g 32 (n-32) c c2 t A _ rest (bs.drop 32) ys w hb (by rw[QGr,QGP];omega) (by rw[QGQ];omega) hy hA (by omega)).mono ?_
  rintro e w' ⟨he,hb',ho⟩
  exact⟨he,by rw[QG6];exact hb',ho⟩
 ·have hd:bs.drop 32=[]:=QG7 (by rw[QGQ];omega)
  have hyn:ys=[]:=QG7 hy.len
  refine (Qos g 0 0 c c2 t A [] (bs.map W8++rest) [] ys w hb rfl rfl hy hA (by omega)).mono ?_
  rintro e w' ⟨he,hb',ho⟩
  refine⟨he,?_,ho⟩
  subst hyn
  rw[hd,show xorB [] []=[] from rfl,QGW,QGD (by omega)]
  exact hb'
def QeK (K:List UInt8) (r:Nat) (bs:List UInt8):List UInt8:=
 if r=2∨r=4 then xorB (bs.take 32) (QbY K (bs.drop 32))++bs.drop 32 else bs.take 32++xorB (bs.drop 32) (chaS (xorB K (bs.take 32)) (bs.length-32))
theorem QfM (K:List UInt8) (r:Nat) (bs:List UInt8) (h:32≤bs.length):(QeK K r bs).length=bs.length:=by
 unfold QeK
 split
 ·rw[QGy,Qbc (by rw[QaU,QGP];omega),QaU,QGQ]
  omega
 ·rw[QGy,Qbc (by rw[QaE,QGQ]),QaE,QGP]
  omega
theorem Qpc (K:List UInt8) (r:Nat) (bs:List UInt8) (h:32≤bs.length):QeK K r (QeK K r bs)=bs:=by
 by_cases hr:r=2∨r=4
 ·have l1:(bs.take 32).length=(QbY K (bs.drop 32)).length:=by rw[QaU,QGP];omega
  have l2:(xorB (bs.take 32) (QbY K (bs.drop 32))).length=32:=by rw[Qbc l1,QaU]
  rw[QeK,if_pos hr,QeK,if_pos hr,QHK l2,QHc l2,QeU l1,QGX]
 ·have l0:(bs.take 32).length=32:=by rw[QGP];omega
  have l1:(bs.drop 32).length=(chaS (xorB K (bs.take 32)) (bs.length-32)).length:=by rw[QaE,QGQ]
  have l2:(bs.take 32++xorB (bs.drop 32) (chaS (xorB K (bs.take 32)) (bs.length-32))).length=bs.length:=by
   have:=QfM K r bs h
   rwa [QeK,if_neg hr]at this
  rw[QeK,if_neg hr,QeK,if_neg hr,l2,QHK l0,QHc l0,QeU l1,QGX]
theorem QvC:(Tryz.prog.info? 30).map (·.size)=some 32:=by kernel_rfl
theorem Qly {w:World} {g:Nat} {t:TypeId} {bs:List UInt8} {n:Nat} (h:Blk w g t (bs.map W8)) (hn:bs.length=n):RdB w (some ⟨g,0,none⟩) n bs:=h.rd (by rw[QGr,hn])
set_option maxRecDepth 100000 in
set_option maxHeartbeats 4000000 in
theorem Qxt (g n c:Nat) (K bs:List UInt8) (r:Nat) (rest:List Value) (w:World) (hb:Blk w g 5 (bs.map W8++rest)) (hbl:bs.length=n) (h32:32≤n) (hn:n≤4096) (hc:n≤c) (hK:K.length=32) (h1:1≤r) (h4:r≤4):
 Calls Tryz.prog 133 #[.slice (some ⟨g,0,none⟩) n c,.agg (K.map W8).toArray,.int .i64 r] w fun e w'=>e= .returned (.tuple #[])∧Blk w' g 5 ((QeK K r bs).map W8++rest)∧Only g w w':=by
 have hcl:∀W,(Instr.sliceAt 22 (.slice (some ⟨g,0,none⟩) n c) none (some (.int .i64 32)) none).run Tryz.prog W= .ok (.slice (some ⟨g,0,none⟩) 32 c) W:=fun W=>Qv1 (some ⟨g,0,none⟩) n c .i64 32 (by omega) W
 obtain⟨off,hoff,hcr⟩:∃off,(off=32∨(off=0∧n=32))∧∀W,(Instr.sliceAt 22 (.slice (some ⟨g,0,none⟩) n c) (some (.int .i64 32)) none none).run Tryz.prog W= .ok (.slice (some ⟨g,off,none⟩) (n-32) (c-32)) W:=by
  have h:=fun W=>QjJ (some ⟨g,0,none⟩) n c .i64 32 h32 W
  unfold cutA at h
  by_cases hc32:c=32
  ·rw[if_pos hc32]at h
   exact⟨0,.inr ⟨rfl,by omega⟩,h⟩
  ·rw[if_neg hc32]at h
   exact⟨32,.inl rfl,h⟩
 have hrdR:∀w',Blk w' g 5 (bs.map W8++rest)→RdB w' (some ⟨g,off,none⟩) (n-32) (bs.drop 32):=fun w' hb'=>by
  rcases hoff with rfl|⟨rfl,rfl⟩
  ·have:=(Qf7 hb' hbl).cut (k:=32) (c:=n+33) h32 (by omega)
   rw[cutA,if_neg (by omega)]at this
   exact this
  ·rw[QG7 (show (bs.drop 32).length=0 by rw[QGQ];omega)]
   exact⟨rfl,fun h=>absurd h (by omega)⟩
 have hrdR:=hid hrdR
 have hm1:=hid (fun g off n c c2 t A pre post xs ys w hb hp hxl hy ho hn=>Qos g off n c c2 t A pre post xs ys w hb hp hxl hy ho hn)
 have hm2:=hid (fun c c2 A ys w hb hy hA=>QwV g off n c c2 5 A bs ys rest w hb hbl h32 hoff hy hA (by omega))
 replace hoff:=hid hoff
 have htl:(bs.take 32).length=32:=by rw[QGP];omega
 have hdl:(bs.drop 32).length=n-32:=by rw[QGQ];omega
 by_cases hr:r=2∨r=4
 ·have hT:=hid (show QeK K r bs=xorB (bs.take 32) (QbY K (bs.drop 32))++bs.drop 32 by rw[QeK,if_pos hr])
  have hG:=QaU K (bs.drop 32)
  have hTag:=hid (fun A B c d w h1 hc h2=>Ql8 A B 32 c 1 d K [bs.drop 32] w h1 hc (by omega) h2 (by omega) (by rw[Qb5,hdl];omega))
  rw[Qb5]at hTag
  generalize QeK K r bs=TB at *
  generalize QbY K (bs.drop 32)=G at *
  rcases hr with rfl|rfl
  all_goals
   go_enter Tryz.func133,Tryz.ntmps133
   go_wp2_with fail
   have B1:=Qbk w 30 (K.map W8)
   generalize w.alloc (.cells (K.map W8).toArray 30)=w1 at *
   refine Qaf [] [0,1,2,3,4,5] [] (by as_aux_lemma=>kernel_rfl) (by as_aux_lemma=>kernel_rfl) (by intro _ _ d _ _ h;cases d<;>exact h) ?_
   simp only[Qaj,pick,QGo,QGp,QGs,QGu,QGv]
   repeat (go_big_quiet_step (fail))
   refine wpQuiet_nil ?_
   go_wp2_with fail
   have B2:=B1.later ((Qaa w1 (.cells #[.slice (some ⟨g,off,none⟩) (n-32) (c-32)] 22)).trans (Qab _))
   have hb2:=hb.later B2.lat
   have hpp:=Qhv (Blk.new w1 22 [.slice (some ⟨g,off,none⟩) (n-32) (c-32)]).drew (Qef (c:=c-32) (hrdR.out _ hb2) (by omega))
   (with_reducible refine (hTag.out _ _ _ _ _ (Qly (B2.nth 0 rfl) hK) (QGx _) hpp).mono ?_);rintro e w3 ⟨rfl,j3⟩
   go_wp2_with (first
    | (refine QhO 32 rfl rfl _ _ rfl (Blk.new w3 _ (QGn 32 (.int .u8 0))) rfl rfl QvC hG rfl ?_;intro w4 hb4 ho4)
    | fail)
   have L4:=B2.lat.trans ((j3.trans (Qaa w3 _)).only ho4 j3.size)
   have hb5:=hb.later L4
   rw[show bs.map W8++rest=[]++(bs.take 32).map W8++((bs.drop 32).map W8++rest) by rw[QGv,←QGI,←QG6,QGX]]at hb5
   have hgl:=hb.lt
   have hgs:=(B2.lat.trans j3).size
   (refine (hm1.out g 0 32 _ _ _ _ _ _ _ _ _ hb5 rfl htl (Qly hb4 hG) (fun _ ad e=>by cases e;show w3.heap.size≠g;omega) (by omega)).mono ?_);rintro e w5 ⟨rfl,hb6,ho6⟩
   rw[QGv,←QGI,←QG6,←hT.out]at hb6
   go_wp2_with fail
   (try simp only[Exit.inBlock,Exit.then])
   exact bodyPost_ret (results_none rfl _ _ _) rfl ⟨rfl,hb6,L4.thenOnly ho6⟩
 ·have hT:=hid (show QeK K r bs=bs.take 32++xorB (bs.drop 32) (chaS (xorB K (bs.take 32)) (n-32)) by rw[QeK,if_neg hr,hbl])
  have hr':r=1∨r=3:=by omega
  clear hr
  have hxl:(xorB K (bs.take 32)).length=32:=by rw[Qbc (by omega),htl]
  have hSt:=hid (fun A c w h=>Qk1 A c (n-32) (xorB K (bs.take 32)) w h (by omega))
  generalize QeK K r bs=TB at *
  generalize hXe:xorB K (bs.take 32)=X at *
  replace hXe:=hid hXe
  generalize chaS X (n-32)=ST at *
  rcases hr' with rfl|rfl
  all_goals
   go_enter Tryz.func133,Tryz.ntmps133
   go_wp2_with fail
   have B1:=(Qbk w 30 (K.map W8)).drew
   generalize w.alloc (.cells (K.map W8).toArray 30)=w1 at *
   refine Qaf [] [0,1,2,3,4,5] [] (by as_aux_lemma=>kernel_rfl) (by as_aux_lemma=>kernel_rfl) (by intro _ _ d _ _ h;cases d<;>exact h) ?_
   simp only[Qaj,pick,QGo,QGp,QGs,QGu,QGv]
   repeat (go_big_quiet_step (fail))
   refine wpQuiet_nil ?_
   go_wp2_with fail
   have hb1:=hb.later B1.lat
   have hgl:=hb.lt
   have hk1:=B1.nth 0 rfl
   (refine (hm1.out w.heap.size 0 32 _ _ _ _ [] [] K (bs.take 32) _ (by rw[QGv,QGW];exact hk1) rfl hK ((Qf7 hb1 hbl).take h32) (fun _ ad e=>by cases e;show g≠w.heap.size;omega) (by omega)).mono ?_);rintro e w5 ⟨rfl,hk2,ho2⟩
   rw[QGv,QGW,hXe.out]at hk2
   have B2:=B1.write 0 rfl ho2 hk2
   have hb2:=hb.later B2.lat
   go_wp2_with fail
   (refine (hSt.out _ _ _ (Qly hk2 hxl)).mono ?_);rintro e w6 ⟨A6,c6,rfl,hown6,j6⟩
   go_wp2_with fail
   have hgs:=B2.lat.size
   (refine (hm2.out _ _ _ ST _ (hb2.later j6) hown6.rd (fun _ ad e=>by subst e;have:=(hown6.lt ad.block rfl).1;omega)).mono ?_);rintro e w7 ⟨rfl,hb7,ho7⟩
   rw[←hT.out]at hb7
   go_wp2_with fail
   exact bodyPost_end (results_none rfl _ _ _) rfl ⟨rfl,hb7,(B2.lat.trans j6).thenOnly ho7⟩
abbrev lab1:ByteArray:=⟨#[119,105,100,101,49]⟩
abbrev lab2:ByteArray:=⟨#[119,105,100,101,50]⟩
abbrev lab3:ByteArray:=⟨#[119,105,100,101,51]⟩
abbrev lab4:ByteArray:=⟨#[119,105,100,101,52]⟩
def labW (r:Int):ByteArray:=if r=1 then lab1 else if r=2 then lab2 else if r=3 then lab3 else lab4
def okR (rs:List Int):Prop:=∀r∈rs,1≤r∧r≤4
instance (rs:List Int):Decidable (okR rs):=by unfold okR;infer_instance
def fitW (key bs:List UInt8):Prop:=key.length=32∧32≤bs.length∧bs.length≤4096
instance (key bs:List UInt8):Decidable (fitW key bs):=by unfold fitW;infer_instance
def QdZ (key:List UInt8) (rs:List Int) (bs:List UInt8):List UInt8:=rs.foldl (fun b r=>QeK (derB key (labW r)) r.toNat b) bs
theorem Qc0 (key:List UInt8):∀(rs:List Int) (bs:List UInt8),32≤bs.length→(QdZ key rs bs).length=bs.length
 | [],_,_=>rfl
 | r :: rs,bs,h=>by
   show (QdZ key rs (QeK _ _ bs)).length=_
   have:=QfM (derB key (labW r)) r.toNat bs h
   rw[Qc0 key rs _ (by omega),this]
theorem Qh1 (key:List UInt8) (rs rs':List Int) (bs:List UInt8):QdZ key (rs++rs') bs=QdZ key rs' (QdZ key rs bs):=by rw[QdZ,List.foldl_append];rfl
theorem Qk5 (key:List UInt8):∀(rs:List Int) (bs:List UInt8),32≤bs.length→QdZ key rs.reverse (QdZ key rs bs)=bs
 | [],_,_=>rfl
 | r :: rs,bs,h=>by
   have hl:=QfM (derB key (labW r)) r.toNat bs h
   rw[List.reverse_cons,Qh1]
   show QdZ key [r] (QdZ key rs.reverse (QdZ key rs (QeK (derB key (labW r)) r.toNat bs)))=bs
   rw[Qk5 key rs _ (by omega)]
   exact Qpc _ _ _ h
def Qfz (key bs:List UInt8) (rs:List Int):Nat:=if okR rs then (if fitW key bs then 0 else 2) else 1
def Qdk (key bs:List UInt8) (rs:List Int):List UInt8:=if okR rs then (if fitW key bs then QdZ key rs bs else []) else []
theorem Qhp (B:Option Addr) (m d:Nat) (w:World):
 Calls Tryz.prog 99 #[.slice B m d] w fun e w'=>e= .returned (.bool (decide (32≤m∧m≤4096)))∧w'=w:=by
 by_cases h1:32≤m
 ·by_cases h2:m≤4096
  ·have e1:(32:Int)≤(m:Int):=by omega
   have e2:(m:Int)≤4096:=by omega
   rw[decide_eq_true (show 32≤m∧m≤4096 from ⟨h1,h2⟩)]
   go_enter Tryz.func99,Tryz.ntmps99
   go_wp2
   go_ret
   exact⟨rfl,rfl⟩
  ·have e1:(32:Int)≤(m:Int):=by omega
   have e2: ¬(m:Int)≤4096:=by omega
   rw[decide_eq_false (show ¬(32≤m∧m≤4096) from fun h=>h2 h.2)]
   go_enter Tryz.func99,Tryz.ntmps99
   go_wp2
   go_ret
   exact⟨rfl,rfl⟩
 ·have e1: ¬(32:Int)≤(m:Int):=by omega
  rw[decide_eq_false (show ¬(32≤m∧m≤4096) from fun h=>h1 h.1)]
  go_enter Tryz.func99,Tryz.ntmps99
  go_wp2
  go_ret
  exact⟨rfl,rfl⟩
theorem QwF (A B:Option Addr) (n c m d:Nat) (w:World):
 Calls Tryz.prog 132 #[.slice A n c,.slice B m d] w fun e w'=>e= .returned (.bool (decide (n=32∧32≤m∧m≤4096)))∧w'=w:=by
 have hf:=hid (Qhp B m d)
 by_cases h0:n=32
 ·subst h0
  rw[show decide (32=32∧32≤m∧m≤4096)=decide (32≤m∧m≤4096) by simp]
  go_enter Tryz.func132,Tryz.ntmps132
  go_wp2_with fail
  (with_reducible refine (hf.out _).mono ?_);rintro e w1 ⟨rfl,rfl⟩
  go_wp2_with fail
  go_ret
  exact⟨by simp,rfl⟩
 ·have e1:((n:Int)==32)=false:=by simp;omega
  rw[decide_eq_false (show ¬(n=32∧32≤m∧m≤4096) from fun h=>h0 h.1)]
  go_enter Tryz.func132,Tryz.ntmps132
  go_wp2_with fail
  go_ret
  exact⟨by simp,rfl⟩
theorem QuR {key bs:List UInt8} {rs:List Int} (h: ¬okR rs):Qdk key bs rs=[]:=by rw[Qdk,if_neg h]
theorem Que {key bs:List UInt8} {rs:List Int} (h: ¬okR rs):Qfz key bs rs=1:=by rw[Qfz,if_neg h]
theorem QoI {key bs:List UInt8} {rs:List Int} (h:okR rs) (h2: ¬fitW key bs):Qdk key bs rs=[]:=by rw[Qdk,if_pos h,if_neg h2]
theorem QpI {key bs:List UInt8} {rs:List Int} (h:okR rs) (h2: ¬fitW key bs):Qfz key bs rs=2:=by rw[Qfz,if_pos h,if_neg h2]
theorem QeZ {key bs:List UInt8} {rs:List Int} (h:okR rs) (h2:fitW key bs):Qdk key bs rs=QdZ key rs bs:=by rw[Qdk,if_pos h,if_pos h2]
theorem QfW {key bs:List UInt8} {rs:List Int} (h:okR rs) (h2:fitW key bs):Qfz key bs rs=0:=by rw[Qfz,if_pos h,if_pos h2]
def intV (r:Int):Value:=.int .i64 r
theorem QCu {w:World} {C:Option Addr} {k:Nat} {rs:List Int} (h:Rd w C k (rs.map intV)) {j:Nat} (hj:j<k):∃b o,C=some ⟨b,o,none⟩∧b<w.heap.size∧∀w',Later w w'→w'.cell? ⟨b,o+j,none⟩=some (.int .i64 (rs.getD j 0)):=by
 have hl:rs.length=k:=by have:=h.1;rwa [QGr]at this
 obtain⟨b,o,e,hb,hc⟩:=h.2 (by omega)
 refine⟨b,o,e,hb,fun w' hl'=>(hl'.below.cell (p:=⟨b,o+j,none⟩) hb).trans (hc j _ ?_)⟩
 rw[QGF,QGt (show j<rs.length by omega),QGq,QGt (show j<rs.length by omega)]
 rfl
theorem QrA (key:List UInt8) (rs:List Int) (bs:List UInt8) (j:Nat) (h:j<rs.length):QdZ key (rs.take (j+1)) bs=QeK (derB key (labW (rs.getD j 0))) (rs.getD j 0).toNat (QdZ key (rs.take j) bs):=by
 rw[QGY h,Qh1,QGq,QGt h]
 rfl
def QrY (s:List UInt8):List UInt8:=QdW s [lab1,lab2,lab3,lab4] 4
theorem Qvg (s:List UInt8) (r:Int) (h1:1≤r) (h4:r≤4):(QrY s).drop ((r.toNat-1)*32)=derB s (labW r)++((QrY s).drop ((r.toNat-1)*32)).drop 32:=by
 have l1:=QaK s lab1
 have l2:=QaK s lab2
 have l3:=QaK s lab3
 have l4:=QaK s lab4
 have e:QrY s=derB s lab1++(derB s lab2++(derB s lab3++derB s lab4)):=by simp[QrY,QdW]
 have hr:r=1∨r=2∨r=3∨r=4:=by omega
 rw[e]
 generalize hd1:derB s lab1=d1 at *
 generalize hd2:derB s lab2=d2 at *
 generalize hd3:derB s lab3=d3 at *
 generalize hd4:derB s lab4=d4 at *
 rcases hr with rfl|rfl|rfl|rfl
 ·show (d1++_).drop 0=derB s lab1++((d1++_).drop 0).drop 32
  rw[hd1,QIk,QHc l1]
 ·show (d1++_).drop 32=derB s lab2++((d1++_).drop 32).drop 32
  rw[hd2,QHc l1,QHc l2]
 ·show (d1++_).drop 64=derB s lab3++((d1++_).drop 64).drop 32
  rw[hd3,show (64:Nat)=32+32 from rfl,←QHY,QHc l1,QHc l2,QHc l3]
 ·show (d1++_).drop 96=derB s lab4++((d1++_).drop 96).drop 32
  rw[hd4,show (96:Nat)=32+(32+32) from rfl,←QHY,←QHY,QHc l1,QHc l2,QHc l3]
  have:d4.drop 32=[]:=QIh (by omega)
  rw[this,QGW]
theorem Qyk {w:World} {base n c:Nat} {A:Option Addr} {bs:List UInt8} (h:OwnB w base A n c bs):c≤maxLen:=by
 rcases h.2 with ⟨hv,_⟩|⟨g2,cap,cur,hv,_,_,_,hm,_⟩
 ·cases hv
  exact Nat.zero_le _
 ·cases hv
  exact hm
theorem QB5 (g n c:Nat) (K bs:List UInt8) (r:Nat) (i:Int) (hi:i=(r:Int)) (rest:List Value) (w:World) (hb:Blk w g 5 (bs.map W8++rest)) (hbl:bs.length=n) (h32:32≤n) (hn:n≤4096) (hc:n≤c) (hK:K.length=32) (h1:1≤r) (h4:r≤4):
 Calls Tryz.prog 133 #[.slice (some ⟨g,0,none⟩) n c,.agg (K.map W8).toArray,.int .i64 i] w fun e w'=>e= .returned (.tuple #[])∧Blk w' g 5 ((QeK K r bs).map W8++rest)∧Only g w w':=by
 subst hi
 exact Qxt g n c K bs r rest w hb hbl h32 hn hc hK h1 h4
theorem Qxa {w:World} {g:Nat} {t:TypeId} {ks:List UInt8} (h:Blk w g t (ks.map W8)) {q:Nat} {K r:List UInt8} (hd:ks.drop (q*32)=K++r) {j:Nat} {v:Value} (hv:(K.map W8)[j]?=some v):w.cell? ⟨g,q*32+j,none⟩=some v:=by
 refine h.cellD _ ?_
 rw[QGF,QIg]at hv ⊢
 obtain⟨x,hx,rfl⟩:=hv
 refine⟨x,?_,rfl⟩
 rw[←QHA,hd,QGG (QGL.1 hx).1]
 exact hx
set_option maxRecDepth 100000 in
set_option maxHeartbeats 8000000 in
theorem QiP (A B C:Option Addr) (n c m d k e0:Nat) (key bs:List UInt8) (rs:List Int) (w:World) (hk:RdB w A n key) (hc:n≤c) (hb:RdB w B m bs) (hd:m≤d) (hr:Rd w C k (rs.map intV)) (hn:n≤2097152) (hm:m≤2097152) (hk2:k≤2097152):
 Calls Tryz.prog 100 #[.slice A n c,.slice B m d,.slice C k e0] w fun e w'=>Later w w'∧∃A' c',e= .returned (.tuple #[.slice A' (Qdk key bs rs).length c',.int .i64 (Qfz key bs rs:Nat)])∧OwnB w' w.heap.size A' (Qdk key bs rs).length c' (Qdk key bs rs):=by
 have hkl:=hk.len
 have hbl:=hb.len
 have hrl:rs.length=k:=by have:=hr.1;rwa [QGr]at this
 have hbad:=hid (fun h=>And.intro (@QuR key bs rs h) (@Que key bs rs h))
 have hunf:=hid (fun h h2=>And.intro (@QoI key bs rs h h2) (@QpI key bs rs h h2))
 have hfit:=hid (fun h h2=>And.intro (@QeZ key bs rs h h2) (@QfW key bs rs h h2))
 have hat:=hid (fun j (hj:j<k)=>QCu hr hj)
 have hff:=hid (QwF A B n c m d)
 generalize Qdk key bs rs=WB at *
 generalize Qfz key bs rs=WE at *
 go_enter Tryz.func100,Tryz.ntmps100
 go_wp2_with fail
 go_loopw [16] (fun i wr=>∃j:Nat,j≤k∧i= .int .i64 j∧wr=w∧Hid (∀ t,t<j→1≤rs.getD t 0∧rs.getD t 0≤4)) (fun i _=>k-(intOf i).toNat)
 case atStart=>exact⟨0,by omega,rfl,rfl,hid (fun t h=>by omega)⟩
 case round=>
  obtain⟨j,hj,rfl,rfl,hall⟩:=hrel
  by_cases hlt:j<k
  ·obtain⟨b,o,rfl,hbb,hcell⟩:=hat.out j hlt
   have c1:=hcell wr (Later.refl _)
   clear hcell
   have hmem:rs.getD j 0∈rs:=by rw[QGq,QGt (show j<rs.length by omega)];exact QHi _
   have hbd: ¬(1≤rs.getD j 0∧rs.getD j 0≤4)→Hid (WB=[]∧WE=1):=fun h=>hid (hbad.out (fun hok=>h (hok _ hmem)))
   have hst:1≤rs.getD j 0→rs.getD j 0≤4→Hid (∀ t,t<j+1→1≤rs.getD t 0∧rs.getD t 0≤4):=fun h1 h2=>hid (fun t ht=>by
    by_cases e:t=j
    ·subst e;exact⟨h1,h2⟩
    ·exact hall.out t (by omega))
   clear hmem
   generalize rs.getD j 0=r at *
   by_cases h1:r<1
   ·have hB:=hbd (by omega)
    clear hbd hst
    go_wp2_with fail
    go_ret2
    refine⟨Later.refl _,none,0,?_,?_⟩
    ·rw[hB.out.1,hB.out.2];rfl
    ·rw[hB.out.1];exact Qbi _ _ _
   ·by_cases h2:4<r
    ·have hB:=hbd (by omega)
     clear hbd hst
     go_wp2_with fail
     go_ret2
     refine⟨Later.refl _,none,0,?_,?_⟩
     ·rw[hB.out.1,hB.out.2];rfl
     ·rw[hB.out.1];exact Qbi _ _ _
    ·have hS:=hst (by omega) (by omega)
     clear hbd hst
     go_wp2_with fail
     go_roundw
     case rel=>exact⟨j+1,by omega,by go_num,trivial,hS⟩
     case measure=>simp[intOf];omega
  ·obtain rfl:k=j:=by omega
   have hok:okR rs:=fun r hr'=>by
    obtain⟨t,ht⟩:=List.getElem?_of_mem hr'
    have htl:=(QGL.1 ht).1
    have:=hall.out t (by omega)
    rwa [QGq,ht]at this
   clear hbad
   go_wp2_with fail
   (with_reducible refine (hff.out _).mono ?_);rintro e w1 ⟨rfl,rfl⟩
   by_cases hf:n=32∧32≤m∧m≤4096
   ·rw[decide_eq_true hf]
    have hF:=hid (hfit.out hok ⟨by rw[hkl];exact hf.1,by rw[hbl];exact hf.2⟩)
    obtain⟨rfl,hm32,hm4⟩:=hf
    clear hunf hfit
    have hDe:=hid (fun B d w h1 h2=>Qkn A B 32 c 4 d key [lab1,lab2,lab3,lab4] w h1 hc (by omega) h2 (by omega) (by omega) (by intro x hx;simp only[QGJ,QGK,or_false]at hx;rcases hx with rfl|rfl|rfl|rfl<;>decide))
    have hKW:=hid (fun r h1 h4=>Qvg key r h1 h4)
    have hFt:=hid (fun j h=>QrA key rs bs j h)
    have hFl:=hid (fun rs=>Qc0 key rs bs (by omega))
    have hDl:=hid (fun r=>QaK key (labW r))
    have hTu:=hid QB5
    have hCj:=hid (fun A c w h=>QcT A 1 c [bs] w h (by omega) (by rw[Qb5];omega))
    rw[Qb5,hbl]at hCj
    rw[show QdW key [lab1,lab2,lab3,lab4] 4=QrY key from rfl]at hDe
    have hF0:=hid (show QdZ key (rs.take 0) bs=bs from rfl)
    go_wp2_with fail
    have J1:=Qaa w1 (.cells #[.string lab1,.string lab2,.string lab3,.string lab4] 9)
    have hst:Strs (w1.alloc (.cells #[.string lab1,.string lab2,.string lab3,.string lab4] 9)) (some ⟨w1.heap.size,0,none⟩) 4 [lab1,lab2,lab3,lab4]:=(Blk.new w1 9 [.string lab1,.string lab2,.string lab3,.string lab4]).rd rfl
    (refine (hDe.out _ _ _ (hk.later J1) hst).mono ?_);rintro e w2 ⟨gK,rfl,hgK,hbK,j2⟩
    go_wp2_with fail
    have J2:=(J1.trans j2).trans (Qaa w2 (.cells #[.slice B m d] 22))
    have hpp:=Qhv (Blk.new w2 22 [.slice B m d]) (Qef (hb.later J2) hd)
    (with_reducible refine (hCj.out _ _ _ hpp).mono ?_);rintro e w3 ⟨A3,c3,rfl,hown3,j3⟩
    have L3:=J2.trans j3
    have hbK3:=hbK.later ((Qaa w2 (.cells #[.slice B m d] 22)).trans j3)
    have hgKw:w1.heap.size≤gK:=QG9 J1.size hgK
    replace hown3:=hown3.mono J2.size
    have hmx:=Qyk hown3
    obtain⟨gO,rest,rfl,hgO,hbO,hcO,hcc⟩:=QlZ hown3 (by omega)
    replace hcO:=hid hcO
    clear J1 hst j2 J2 hpp j3 hown3 hbK hgK
    go_wp2_with fail
    have hgl:=hbO.lt
    go_loopw [39] (fun i wr=>∃j:Nat,j≤k∧i= .int .i64 j∧Blk wr gO 5 ((QdZ key (rs.take j) bs).map W8++rest)∧Blk wr gK 30 ((QrY key).map W8)∧Later w1 wr) (fun i _=>k-(intOf i).toNat)
    case atStart=>exact⟨0,by omega,rfl,by rw[hF0.out];exact hbO,hbK3,L3⟩
    case round=>
     clear hbO hbK3 L3 hgl
     obtain⟨j,hj,rfl,hbO,hbK,L⟩:=hrel
     by_cases hlt:j<k
     ·obtain⟨b,o,rfl,hbb,hcell⟩:=hat.out j hlt
      have c1:=hcell wr L
      have hrr:=hall.out j hlt
      have HF:=hid (hFt.out j (by omega))
      have hFlj:=hFl.out (rs.take j)
      have hKr:=hKW.out _ hrr.1 hrr.2
      have hDlr:=hDl.out (rs.getD j 0)
      clear hcell
      generalize rs.getD j 0=r at *
      obtain⟨q,rfl⟩:∃q:Nat,r=(q:Int)+1:=⟨(r-1).toNat,by omega⟩
      have hq4:q<4:=by omega
      have hqn:((q:Int)+1).toNat=q+1:=by omega
      rw[hqn]at HF hKr
      rw[Nat.add_sub_cancel]at hKr
      generalize derB key (labW ((q:Int)+1))=Kr at *
      generalize QdZ key (rs.take j) bs=F at *
      replace hKr:=hid hKr
      clear hqn hrr
      go_wp2_with (first
       | (refine QaM rfl 30 _ rfl gK (q*32) (Kr.map W8) ?hc ?hx _ Tryz.underlying30 rfl ?hi ?_;(case hx=>rfl);(case hi=>rw[QGr,hDlr];exact QvC);(case hc=>intro j v hv;exact Qxa hbK hKr.out hv))
       | fail)
      (refine (hTu.out gO m c3 Kr F (q+1) _ (by omega) rest _ hbO (by omega) hm32 hm4 hcc hDlr (by omega) (by omega)).mono ?_);rintro e w5 ⟨rfl,hb5,ho5⟩
      go_wp2_with fail
      go_roundw
      case rel=>exact⟨j+1,by omega,by go_num,by rw[HF.out];exact hb5,hbK.only ho5 (hbK.ne_type hbO (by decide)),L.only ho5 hgO⟩
      case measure=>simp[intOf];omega
     ·obtain rfl:k=j:=by omega
      rw[QGD (by omega)]at hbO
      have hFl':=hFl.out rs
      rw[←hF.out.1]at hbO hFl'
      have hcw:c3=(WB.map W8++rest).length:=by
       rw[hcO.out,QGy,QGy,QGr,QGr]
       omega
      have hWl:WB.length=m:=by omega
      have hWE:=hF.out.2
      have hown:=Qzo hbO hgO (by rw[←hcw];exact hmx)
      rw[←hcw,QGr,hWl]at hown
      go_wp2_with fail
      go_ret2
      exact⟨L,_,_,by rw[hWl,hWE];rfl,by rw[hWl];exact hown⟩
   ·rw[decide_eq_false hf]
    have hB:=hid (hunf.out hok (fun h=>hf ⟨by rw[←hkl];exact h.1,by rw[←hbl];exact h.2⟩))
    clear hunf hfit
    go_wp2_with fail
    go_ret2
    refine⟨Later.refl _,none,0,?_,?_⟩
    ·rw[hB.out.1,hB.out.2];rfl
    ·rw[hB.out.1];exact Qbi _ _ _
def rsS:List Int:=[1,2,3,4]
def rsO:List Int:=[4,3,2,1]
theorem okS:okR rsS:=by decide
theorem okO:okR rsO:=by decide
theorem QrC {key bs:List UInt8} {rs:List Int} (h:Qfz key bs rs=0):okR rs∧fitW key bs:=by
 unfold Qfz at h
 split at h
 ·split at h
  ·exact⟨by assumption,by assumption⟩
  ·cases h
 ·cases h
theorem QmJ {key bs:List UInt8} {rs:List Int} (h:Qfz key bs rs=0):(Qdk key bs rs).length=bs.length∧Qfz key (Qdk key bs rs) rs.reverse=0∧Qdk key (Qdk key bs rs) rs.reverse=bs:=by
 obtain⟨hok,hf⟩:=QrC h
 have hl:=Qc0 key rs bs hf.2.1
 have hok':okR rs.reverse:=fun r hr=>hok r (List.mem_reverse.1 hr)
 have hf':fitW key (QdZ key rs bs):=⟨hf.1,by rw[hl];exact hf.2.1,by rw[hl];exact hf.2.2⟩
 rw[QeZ hok hf]
 exact⟨hl,QfW hok' hf',by rw[QeZ hok' hf',Qk5 key rs bs hf.2.1]⟩
set_option maxHeartbeats 1000000 in
theorem Qvd (A B:Option Addr) (n c m d:Nat) (key bs:List UInt8) (w:World) (hk:RdB w A n key) (hc:n≤c) (hb:RdB w B m bs) (hd:m≤d) (hn:n≤2097152) (hm:m≤2097152):
 Calls Tryz.prog 78 #[.slice A n c,.slice B m d] w fun e w'=>Later w w'∧∃A' c',e= .returned (.tuple #[.slice A' (Qdk key bs rsS).length c',.int .i64 (Qfz key bs rsS:Nat)])∧OwnB w' w.heap.size A' (Qdk key bs rsS).length c' (Qdk key bs rsS):=by
 have h:=hid (fun C e0 w hk hb hr=>QiP A B C n c m d 4 e0 key bs rsS w hk hc hb hd hr hn hm (by omega))
 generalize Qdk key bs rsS=X at *
 generalize Qfz key bs rsS=E at *
 go_enter Tryz.func78,Tryz.ntmps78
 go_wp2_with fail
 have J:=Qaa w (.cells #[.int .i64 1,.int .i64 2,.int .i64 3,.int .i64 4] 3)
 (refine (h.out _ _ _ (hk.later J) (hb.later J) ((Blk.new w 3 [.int .i64 1,.int .i64 2,.int .i64 3,.int .i64 4]).rd rfl)).mono ?_);rintro e w1 ⟨j1,A1,c1,rfl,ho1⟩
 go_wp2_with fail
 go_ret2
 exact⟨J.trans j1,A1,c1,rfl,ho1.mono J.size⟩
set_option maxHeartbeats 1000000 in
theorem Qt2 (A B:Option Addr) (n c m d:Nat) (key bs:List UInt8) (w:World) (hk:RdB w A n key) (hc:n≤c) (hb:RdB w B m bs) (hd:m≤d) (hn:n≤2097152) (hm:m≤2097152):
 Calls Tryz.prog 63 #[.slice A n c,.slice B m d] w fun e w'=>Later w w'∧∃A' c',e= .returned (.tuple #[.slice A' (Qdk key bs rsO).length c',.int .i64 (Qfz key bs rsO:Nat)])∧OwnB w' w.heap.size A' (Qdk key bs rsO).length c' (Qdk key bs rsO):=by
 have h:=hid (fun C e0 w hk hb hr=>QiP A B C n c m d 4 e0 key bs rsO w hk hc hb hd hr hn hm (by omega))
 generalize Qdk key bs rsO=X at *
 generalize Qfz key bs rsO=E at *
 go_enter Tryz.func63,Tryz.ntmps63
 go_wp2_with fail
 have J:=Qaa w (.cells #[.int .i64 4,.int .i64 3,.int .i64 2,.int .i64 1] 3)
 (refine (h.out _ _ _ (hk.later J) (hb.later J) ((Blk.new w 3 [.int .i64 4,.int .i64 3,.int .i64 2,.int .i64 1]).rd rfl)).mono ?_);rintro e w1 ⟨j1,A1,c1,rfl,ho1⟩
 go_wp2_with fail
 go_ret2
 exact⟨J.trans j1,A1,c1,rfl,ho1.mono J.size⟩
def kMac (s:List UInt8):List UInt8:=subB s 0 32
def kStr (s:List UInt8):List UInt8:=subB s 32 32
def kPay (s:List UInt8):List UInt8:=subB s 64 32
def kBli (s:List UInt8):List UInt8:=subB s 96 32
def kAlp (s:List UInt8):List UInt8:=subB s 128 32
def tagB (key al be:List UInt8):List UInt8:=(QbY key (al++be)).take 16
def QmZ (h s:List UInt8):Bool:=decide (tagB (kMac s) (subB h 0 32) (subB h 48 240)=subB h 32 16)
def QcL (h s:List UInt8):List UInt8:=xorB (subB h 48 240++QGn 48 0) (chaS (kStr s) 288)
def Qkb (s:List UInt8):List UInt8:=QbB (kBli s) (kAlp s)
def Qoz (s:List UInt8):Nat:=Qbt (kBli s) (kAlp s)
def Qim (h s:List UInt8):Nat:=if QmZ h s=false then 6 else if decE ((QcL h s).take 32)≠0 then 3 else if (decC ((QcL h s).take 32)).kd=1 then Qoz s else 0
def QlV (h s:List UInt8):Cmd:=if Qim h s=0 then decC ((QcL h s).take 32) else cmd0
def Qkg (h s:List UInt8):List UInt8:=if Qim h s=0∧(decC ((QcL h s).take 32)).kd=1 then Qkb s++(QcL h s).drop 32 else QGn 288 0
theorem Qg3 (h s:List UInt8) (hl:h.length=288):(QcL h s).length=288:=by
 have h1:(subB h 48 240).length=240:=Qaq (by omega)
 rw[QcL,Qbc (by simp[h1,QaE]),QaE]
theorem QhZ (h s:List UInt8) (hl:h.length=288):(Qkg h s).length=288:=by
 unfold Qkg
 split
 ·rw[QGy,QGQ,Qg3 h s hl,Qkb,QaY]
 ·rw[QGA]
def relE (s p:List UInt8):Nat:=Qim (p.take 288) s
def relC (s p:List UInt8):Cmd:=QlV (p.take 288) s
def QdS (s p:List UInt8):List UInt8:=Qdk (kPay s) (p.drop 288) rsO
def relP (s p:List UInt8):List UInt8:=if relE s p=0∧(relC s p).kd=1 then Qkg (p.take 288) s++QdS s p else QGn 768 0
def relB (s p:List UInt8):List UInt8:=if relE s p=0∧(relC s p).kd≠1 then QdS s p else []
def unwE (k p:List UInt8):Nat:=if Qbt k (p.take 32)=0 then relE (Qdx k (p.take 32)) p else Qbt k (p.take 32)
def unwC (k p:List UInt8):Cmd:=if Qbt k (p.take 32)=0 then relC (Qdx k (p.take 32)) p else cmd0
def unwP (k p:List UInt8):List UInt8:=if Qbt k (p.take 32)=0 then relP (Qdx k (p.take 32)) p else QGn 768 0
def unwB (k p:List UInt8):List UInt8:=if Qbt k (p.take 32)=0 then relB (Qdx k (p.take 32)) p else []
theorem Qd9 {P:Program} {fn:Func} {p q u:Tmp} {ty ty2:TypeId} (h:fn.results= #[.cell p ty,.cell q ty2,.tmp u]) (tmps:Array Value) (w:World) (g g2:Nat) (t t2:TypeId) (l l2:List Value) (d d2:TypeDesc)
 (hg:Blk w g t l) (hp:tmps.getD p undef= .pointer (some ⟨g,0,none⟩)) (hu:P.underlying ty=some d) (hd:QbT d=true) (hi:(P.info? ty).map (·.size)=some l.length)
 (hg2:Blk w g2 t2 l2) (hp2:tmps.getD q undef= .pointer (some ⟨g2,0,none⟩)) (hu2:P.underlying ty2=some d2) (hd2:QbT d2=true) (hi2:(P.info? ty2).map (·.size)=some l2.length):
 (results fn tmps).run P w= .ok (.tuple #[.agg l.toArray,.agg l2.toArray,tmps.getD u undef]) w:=by
 have h1:=Qbw (P:=P) w g 0 ty l d (fun j v hv=>by rw[QGT];exact hg.cellD j hv) hu hd hi
 have h2:=Qbw (P:=P) w g2 0 ty2 l2 d2 (fun j v hv=>by rw[QGT];exact hg2.cellD j hv) hu2 hd2 hi2
 have hp':tmps[p]?.getD undef= .pointer (some ⟨g,0,none⟩):=by simpa using hp
 have hq':tmps[q]?.getD undef= .pointer (some ⟨g2,0,none⟩):=by simpa using hp2
 simp[results,h,Sem.run_bind,Result.andThen,hp',hq',asAddr,h1,h2]
theorem QnH (h:List UInt8) (hl:h.length=288):[subB h 0 32,subB h 32 16,subB h 48 240].flatten=h:=by
 rw[subB,subB,subB,QHH,QHH,QHH,QIH,QGW,QIk,QGD (l:=h.drop 48) (by rw[QGQ];omega),show h.drop 48=(h.drop 32).drop 16 by rw[QHY],QGX,QGX]
set_option maxRecDepth 100000 in
set_option maxHeartbeats 2000000 in
theorem Qss (h:List UInt8) (hl:h.length=288) (w:World):
 Calls Tryz.prog 54 #[.agg (h.map W8).toArray] w fun e w'=>∃A' c',e= .returned (.slice A' 288 c')∧OwnB w' w.heap.size A' 288 c' h∧Later w w':=by
 have hb:=Blk.new w 34 (h.map W8)
 have hJ:=hid (fun B d (w:World) hp=>QcT B 3 d [subB h 0 32,subB h 32 16,subB h 48 240] w hp (by omega) (by rw[QnH h hl];omega))
 rw[QnH h hl,hl]at hJ
 have s0:(subB h 0 32).length=32:=Qaq (by omega)
 have s1:(subB h 32 16).length=16:=Qaq (by omega)
 have s2:(subB h 48 240).length=240:=Qaq (by omega)
 have L:=Qaa w (.cells (h.map W8).toArray 34)
 go_enter Tryz.func54,Tryz.ntmps54
 go_wp2_with fail
 refine Qaf [([0,1,2,3,4,5],6),([],7)] [8] [] (by as_aux_lemma=>kernel_rfl) (by as_aux_lemma=>kernel_rfl) (by intro _ _ d _ _ h;cases d<;>exact h) ?_
 simp only[Qaj,pick,QGo,QGp,QGs,QGu,QGv]
 repeat (go_big_quiet_step (fail))
 refine wpQuiet_nil ?_
 go_wp2_with fail
 try refine⟨by first|assumption|exact Qab _|exact Qaa _ _|exact Later.refl _,?_⟩
 try simp only[Qaj,pick,QGo,QGp,QGs,QGu,QGv]
 repeat (go_big_quiet_step (fail))
 refine wpQuiet_nil ?_
 have l2:=(Qab (w.alloc (.cells (h.map W8).toArray 34))).trans (Qaa _ (.cells #[.slice (some ⟨w.heap.size,0,none⟩) 32 32,.slice (some ⟨w.heap.size,32,none⟩) 16 16,.slice (some ⟨w.heap.size,48,none⟩) 240 240] 22))
 have hb2:=hb.later l2
 have P3:=QfG (bad:=fun _=>False) (ps:=[subB h 0 32,subB h 32 16,subB h 48 240]) ((Blk.new' (n:=w.heap.size+1) (w.alloc (.cells (h.map W8).toArray 34)).drew 22 [.slice (some ⟨w.heap.size,0,none⟩) 32 32,.slice (some ⟨w.heap.size,32,none⟩) 16 16,.slice (some ⟨w.heap.size,48,none⟩) 240 240] (by simp)).rd rfl) (Qb6 _ _) ⟨Qba (Qcc hb2 rfl s0) (QGx _),Qba (Qcc hb2 rfl s1) (QGx _),Qba (Qcc hb2 rfl s2) (QGx _),trivial⟩
 go_wp2_with fail
 (with_reducible refine (hJ.out _ _ _ P3).mono ?_);rintro e w3 ⟨A3,c3,rfl,o3,l3⟩
 go_wp2_with fail
 try refine⟨by first|assumption|exact Qab _|exact Qaa _ _|exact Later.refl _,?_⟩
 try simp only[Qaj,pick,QGo,QGp,QGs,QGu,QGv]
 repeat (go_big_quiet_step (fail))
 refine wpQuiet_nil ?_
 go_wp2_with fail
 go_ret
 exact⟨_,_,rfl,o3.mono (L.trans l2).size,(L.trans l2).trans l3⟩
set_option maxRecDepth 100000 in
set_option maxHeartbeats 2000000 in
theorem Qu4 (h s:List UInt8) (hl:h.length=288) (hs:s.length=192) (w:World):
 Calls Tryz.prog 17 #[.agg (h.map W8).toArray,.agg (s.map W8).toArray] w fun e w'=>e= .returned (.bool (QmZ h s))∧Later w w':=by
 have C1:=Qbk w 34 (h.map W8)
 have C2:Bag w ((w.alloc (.cells (h.map W8).toArray 34)).alloc (.cells (s.map W8).toArray 53)) [(w.heap.size+1,53,s.map W8),(w.heap.size,34,h.map W8)]:=
  C1.add (Qaa _ _) (by simp) (by omega) (Blk.new' _ _ _ (by simp))
 clear C1
 have s0:(subB h 0 32).length=32:=Qaq (by omega)
 have s1:(subB h 32 16).length=16:=Qaq (by omega)
 have s2:(subB h 48 240).length=240:=Qaq (by omega)
 have k0:(kMac s).length=32:=Qaq (by omega)
 have hC:=hid (fun A B C d e0 (w:World) h1 h2 h3=>QuU A B C 32 32 2 d 16 e0 (kMac s) (subB h 32 16) [subB h 0 32,subB h 48 240] w h1 (by omega) (by omega) h2 (by omega) h3 (by omega) (by simp[s0,s2]))
 have hF:=hid (show QmZ h s=decide ((QbY (kMac s) [subB h 0 32,subB h 48 240].flatten).take 16=subB h 32 16) by
  rw[QmZ,tagB,QHH,QHH,QIH,QGW])
 go_enter Tryz.func17,Tryz.ntmps17
 go_wp2_with fail
 generalize hW:(w.alloc _).alloc _=w1
 replace C2:Bag w w1 [(w.heap.size+1,53,s.map W8),(w.heap.size,34,h.map W8)]:=by rw[←hW];exact C2
 clear hW
 refine Qaf [([0,1,2,3,4,5,6,7,8],9),([],10)] [11] [] (by as_aux_lemma=>kernel_rfl) (by as_aux_lemma=>kernel_rfl) (by intro _ _ d _ _ h;cases d<;>exact h) ?_
 simp only[Qaj,pick,QGo,QGp,QGs,QGu,QGv]
 repeat (go_big_quiet_step (fail))
 refine wpQuiet_nil ?_
 go_wp2_with fail
 try refine⟨by first|assumption|exact Qab _|exact Qaa _ _|exact Later.refl _,?_⟩
 try simp only[Qaj,pick,QGo,QGp,QGs,QGu,QGv]
 repeat (go_big_quiet_step (fail))
 refine wpQuiet_nil ?_
 have l2:=(Qab w1).trans (Qaa _ (.cells #[.slice (some ⟨w.heap.size,0,none⟩) 32 32,.slice (some ⟨w.heap.size,48,none⟩) 240 240] 22))
 have B2:=C2.later l2
 have P3:=QfG (bad:=fun _=>False) (ps:=[subB h 0 32,subB h 48 240]) ((Blk.new w1.drew 22 [.slice (some ⟨w.heap.size,0,none⟩) 32 32,.slice (some ⟨w.heap.size,48,none⟩) 240 240]).rd rfl) (Qb6 _ _) ⟨Qba (Qcc (B2.nth 1 rfl) rfl s0) (QGx _),Qba (Qcc (B2.nth 1 rfl) rfl s2) (QGx _),trivial⟩
 go_wp2_with fail
 (refine (hC.out _ _ _ _ _ _ (Qcc (B2.nth 0 rfl) rfl k0) (Qcc (B2.nth 1 rfl) rfl s1) P3).mono ?_);rintro e w3 ⟨rfl,l3⟩
 rw[←hF.out]
 go_wp2_with fail
 try refine⟨by first|assumption|exact Qab _|exact Qaa _ _|exact Later.refl _,?_⟩
 try simp only[Qaj,pick,QGo,QGp,QGs,QGu,QGv]
 repeat (go_big_quiet_step (fail))
 refine wpQuiet_nil ?_
 go_wp2_with fail
 go_ret
 exact⟨rfl,B2.lat.trans l3⟩
abbrev cz0:List Value:=[.int .u8 0,.int .u8 0,.int .u32 0,.int .u64 0,.int .u8 0,.int .u8 0,.int .u8 0,.int .u8 0,.int .u8 0,.int .u8 0,.int .u8 0,.int .u8 0,.int .u8 0,.int .u8 0,.int .u8 0,.int .u8 0,.int .u8 0,.int .u8 0,.int .u8 0,.int .u8 0]
theorem Qdy {w:World} {b p n:Nat} {bs:List UInt8} (h:RdB w (some ⟨b,p,none⟩) n bs) (i:Nat) (hi:i<n):w.cell? ⟨b,p+i,none⟩=some (W8 (bs.getD i 0)):=by
 obtain⟨b',o',he,_,hc⟩:=h.2 (by omega)
 have hl:=h.len
 cases he
 exact hc i _ (by rw[QGF,QGq,QGt (by omega)];rfl)
theorem Qre (b:List UInt8) (hb:b.length=32) (d:UInt32) (x:UInt64) (hd:d=(QgH b).dl) (hx:x=(QgH b).nx):
 Qar (((CC ⟨b.getD 0 0,b.getD 1 0,0,0,QaH⟩).set 2 (W32 d)).set 3 (W64 x)) 4 (((b.drop 14).map W8).take 16)=CC (QgH b):=by
 subst hd hx
 have hm:=Qk7 b hb
 have hml:((b.drop 14).map W8).take 16=(subB b 14 16).map W8:=by rw[←QH0];rfl
 have hl:=Qaq (bs:=b) (off:=14) (n:=16) (by omega)
 rw[hml,Qar,QGr,hl,QIh (by rw[QGV,QGV,Qao];omega),QGW,CC,CC,hm]
 rfl
theorem Qth (b:List UInt8):decE b=if (!(cmdE (QgH b)==1)&&(!(b.getD 30 0==0)|| !(b.getD 31 0==0)))=true then 3 else cmdE (QgH b):=by
 rw[decE]
 congr 1
 simp
theorem QrK (c:Cmd):cmdE c=0∨cmdE c=1∨cmdE c=3∨cmdE c=11:=by
 unfold cmdE
 split
 ·simp
 ·split
  ·simp
  ·split<;>simp
set_option maxRecDepth 100000 in
set_option maxHeartbeats 8000000 in
theorem Qpt (A:Option Addr) (c:Nat) (b:List UInt8) (w:World) (hb:RdB w A 32 b) (hc:32≤c):
 Calls Tryz.prog 134 #[.slice A 32 c] w fun e w'=>e= .returned (.tuple #[.agg (CC (decC b)).toArray,.int .i64 (decE b:Nat)])∧Later w w':=by
 have hbl:=hb.len
 obtain⟨b0,p,rfl,_,_⟩:=hb.2 (by omega)
 have B0:=Qbk w 64 cz0
 have hz0:cz0.length=20:=rfl
 have hG1:Hid (∀ w,RdB w (some ⟨b0,p,none⟩) 32 b→Calls Tryz.prog 77 #[.int .i64 2,.slice (some ⟨b0,p,none⟩) 32 c,.int .i64 2,.int .i64 4] w fun e w'=>e= .returned (.tuple #[W64 (QGS (beN (subB b 2 4) 0)),.int .i64 0])∧Later w w'):=
  hid (fun w h=>Qis _ 32 c 2 4 b w h (by omega) (by omega) (by omega) (by omega))
 have hG2:Hid (∀ w,RdB w (some ⟨b0,p,none⟩) 32 b→Calls Tryz.prog 77 #[.int .i64 2,.slice (some ⟨b0,p,none⟩) 32 c,.int .i64 6,.int .i64 8] w fun e w'=>e= .returned (.tuple #[W64 (QGS (beN (subB b 6 8) 0)),.int .i64 0])∧Later w w'):=
  hid (fun w h=>Qis _ 32 c 6 8 b w h (by omega) (by omega) (by omega) (by omega))
 have hfill:=hid (Qre b hbl _ (QGS (beN (subB b 6 8) 0)) (QAB (beN (subB b 2 4) 0)) rfl)
 have hcut:cutA (some ⟨b0,p,none⟩) 30 c=some ⟨b0,p+30,none⟩:=by rw[cutA,if_neg (by omega)];rfl
 have hcutc:cutA (some ⟨b0,p,none⟩) 14 c=some ⟨b0,p+14,none⟩:=by rw[cutA,if_neg (by omega)];rfl
 have hCk:=hid (Qhx (QgH b))
 have hE:=QrK (QgH b)
 have hD:=hid (Qth b)
 have hC:=hid (show decC b=if decE b=0 then QgH b else cmd0 from rfl)
 have hcd:=hb.cut (c:=c) (show 14≤32 by omega) hc
 rw[hcutc]at hcd
 generalize QGS (beN (subB b 2 4) 0)=x1 at *
 generalize QGS (beN (subB b 6 8) 0)=x2 at *
 generalize decC b=DC at *
 generalize decE b=DE at *
 generalize cmdE (QgH b)=e9 at *
 have hb0:=QkW
 go_enter Tryz.func134,Tryz.ntmps134
 go_wp2_with fail
 generalize hW:w.alloc _=w1
 replace B0:Bag w w1 [(w.heap.size,64,cz0)]:=by rw[←hW];exact B0
 clear hW
 have r1:=(hb.later B0.lat).later (Qab _)
 have c0:=Qdy r1 0 (by omega)
 have c1:=Qdy r1 1 (by omega)
 have hlb:b0<w1.drew.heap.size:=by
  obtain⟨_,_,he,h,_⟩:=r1.2 (by omega)
  cases he
  exact h
 rw[QIf]at c0
 have hbc:=Qsq (b.getD 0 0) (b.getD 1 0)
 generalize b.getD 0 0=k0 at *
 generalize b.getD 1 0=k1 at *
 refine Qaf [([0,1,2,3,4,5,6],7)] [] [8] (by as_aux_lemma=>kernel_rfl) (by as_aux_lemma=>kernel_rfl) (by intro _ _ d _ _ h;cases d<;>exact h) ?_
 simp only[Qaj,pick,QGo,QGp,QGs,QGu,QGv]
 repeat (first|go_big_quiet_skip|(go_big_quiet_want;(refine Qcr _ _ rfl (CC ⟨k0,k1,0,0,QaH⟩) (by simp only[QGC,QGR,QGH];exact hbc) ?_);simp only[Act.put,QGw,QGB,QGz];go_big_quiet_on)|(go_big_quiet_step (fail)))
 refine wpQuiet_nil ?_
 go_wp2_with fail
 try refine⟨by first|assumption|exact Qab _|exact Qaa _ _|exact Later.refl _,?_⟩
 try simp only[Qaj,pick,QGo,QGp,QGs,QGu,QGv]
 repeat (go_big_quiet_step (fail))
 refine wpQuiet_nil ?_
 go_wp2_with (first
  | (refine Qct rfl rfl _ _ rfl (Blk.new w1.drew _ cz0) rfl rfl rfl ?_;intro w3 hb3 ho3)
  | fail)
 have B1:=B0.push ((Qab _).trans (Qaa _ _)) (QGx _) ho3 hb3
 clear hb3 ho3 r1 c0 c1 hlb B0
 generalize w1.heap.size=g3 at *
 (with_reducible refine (hG1.out _ (hb.later B1.lat)).mono ?_);rintro e w4 ⟨rfl,j4⟩
 go_wp2_with fail
 (with_reducible refine (hG2.out _ (hb.later (B1.lat.trans j4))).mono ?_);rintro e w5 ⟨rfl,j5⟩
 replace B1:=(B1.later j4).later j5
 clear j4 j5 hG1 hG2
 go_wp2_with (first
  | (refine Qad rfl rfl _ _ _ rfl g3 2 _ _ (B1.nth 0 rfl) rfl (by rw[Qao];omega) rfl (by kernel_rfl) ?_;intro v6 w6 hv6 hb6 ho6;simp[go_sem]at hv6;subst hv6
     have B2:=B1.write 0 rfl ho6 hb6)
  | (refine Qad rfl rfl _ _ _ rfl g3 3 _ _ (B2.nth 0 rfl) rfl (by rw[QGV,Qao];omega) rfl (by kernel_rfl) ?_;intro v7 w7 hv7 hb7 ho7;simp[go_sem]at hv7;subst hv7
     have B3:=B2.write 0 rfl ho7 hb7)
  | fail)
 clear hb6 ho6 hb7 ho7 B1 B2
 have B4:=B3.drew
 have hlb:b0<w7.drew.heap.size:=by
  obtain⟨_,_,he,h,_⟩:=(hb.later B4.lat).2 (by omega)
  cases he
  exact h
 refine Qaf [] [0,1,2,3] [4] (by as_aux_lemma=>kernel_rfl) (by as_aux_lemma=>kernel_rfl) (by intro _ _ d _ _ h;cases d<;>exact h) ?_
 simp only[Qaj,pick,QGo,QGp,QGs,QGu,QGv]
 repeat (go_big_quiet_step (fail))
 refine wpQuiet_nil ?_
 go_wp2_with (first
  | (refine Qax rfl _ _ _ _ rfl 5 Tryz.underlying22 Qb2 g3 4 16 16 _ _ (B4.nth 0 rfl) (some ⟨b0,p+14,none⟩) 18 (c-14) ((b.drop 14).map W8) (Rd.later hcd B4.lat) (QaX _) rfl rfl (by have:=Qao ⟨k0,k1,0,0,QaH⟩;simp only[QGV];omega) ?_;intro w8 hb8 ho8;rw[hfill.out]at hb8
     have B5:=B4.write 0 rfl ho8 hb8)
  | (refine Qc3 rfl _ rfl (B5.nth 0 rfl) rfl ?_)
  | fail)
 (with_reducible refine (hCk.out _).mono ?_);rintro e w9 ⟨rfl,j9⟩
 have B6:=B5.later j9
 have r9:=hb.later B6.lat
 have c30:=Qdy r9 30 (by omega)
 have c31:=Qdy r9 31 (by omega)
 clear hb8 ho8 B5 B4 B3 j9 hcd hcutc hfill hCk r9 hlb hbc
 generalize b.getD 30 0=d30 at *
 generalize b.getD 31 0=d31 at *
 generalize QgH b=cm at *
 rcases hE with rfl|rfl|rfl|rfl
 all_goals
  cases h30:(d30==0)<;>cases h31:(d31==0)
  all_goals
   have hDE:=hD.out
   have hDC:=hC.out
   rw[h30,h31]at hDE
   simp at hDE
   rw[hDE]at hDC
   simp at hDC
   replace hDE:=hid hDE
   replace hDC:=hid hDC
   have n30:(d30 != 0)= !(d30==0):=rfl
   have n31:(d31 != 0)= !(d31==0):=rfl
   rw[h30]at n30
   rw[h31]at n31
   clear hD hC
   go_wp2_with (first
    | (refine Qc3 rfl _ rfl (B6.nth 0 rfl) rfl ?_)
    | (refine Qah rfl _ _ rfl (CC cmd0) (by simp only[QGC,QGH];exact hb0) ?_)
    | (refine Qct rfl rfl _ _ rfl (B6.nth 1 rfl) rfl rfl hz0 ?_;intro w10 hb10 ho10)
    | fail)
   exact bodyPost_ret (Qac rfl _ _ _ _ _ _ hb10 rfl Tryz.underlying64 rfl (by rw[Qao];exact QeX)) rfl ⟨by rw[hDE.out,hDC.out];rfl,(B6.write 1 rfl ho10 hb10).lat⟩
section
variable {ops:Array Oper} {rest:List Oper} {o:Oper} {a:Act} {w:World} {Q:Exit→Act→World→Prop}
theorem QkN {P:Program} {J:Act→Prop} (ty:TypeId) (x:Operand) (ho:o.op= .load ty x) {w0:World} {bad:List Nat} {g:Nat} {t:TypeId} {l:List Value} (off:Nat) (vs:List Value) (hb:Blk w0 g t l) (hn:∀b∈bad,g≠b) (hx:a.eval x= .pointer (some ⟨g,off,none⟩))
 (hv:∀j v,vs[j]?=some v→l[off+j]?=some v) (d:TypeDesc) (hu:P.underlying ty=some d) (hd:QbT d=true) (hi:(P.info? ty).map (·.size)=some vs.length) (h:J (a.put o.dst (.agg vs.toArray))):o.quiet P a (Spared w0 bad) J:=
 QaJ _ x ho g off vs (fun _ hw j v hv'=>Blk.cellD (hw.blk hb hn) _ (hv j v hv')) hx d hu hd hi h
end
theorem QmQ (l:List Value):∀j v,l[j]?=some v→l[0+j]?=some v:=fun j v h=>by rw[QGT];exact h
theorem Qqs {w:World} {g n k:Nat} {t:TypeId} {bs:List UInt8} {rest:List Value} (h:Blk w g t (bs.map W8++rest)) (hn:bs.length=n) (hk:k<n):Rd w (some ⟨g,k,none⟩) (n-k) ((bs.drop k).map W8):=by
 have h1:=(Qf7 h hn).cut (k:=k) (c:=n+1) (by omega) (by omega)
 rw[show cutA (some ⟨g,0,none⟩) k (n+1)=some ⟨g,k,none⟩ by
  rw[cutA,if_neg (by omega)]
  show some ((⟨g,0,none⟩:Addr).add k)=_
  rw[Qdb,QGT]]at h1
 exact h1
theorem Qyu (nb pl:List UInt8) (hn:nb.length=32) (hp:pl.length=288):putB (putB (putB (QGn 288 0) 0 nb) 32 ((pl.drop 32).take 16)) 48 (pl.drop 48)=nb++pl.drop 32:=by
 have h:=QvN (nb++pl.drop 32) (by rw[QGy,QGQ];omega)
 rw[QHK hn,QHc hn,show (nb++pl.drop 32).drop 48=pl.drop 48 by rw[QIG,QIh (by omega),QGv,hn,QHY]]at h
 exact h
theorem Qrh (h s:List UInt8) (hl:h.length=288):[subB h 48 240,QGn 48 0].flatten.length=288∧xorB [subB h 48 240,QGn 48 0].flatten (chaS (kStr s) 288)=QcL h s:=by
 have s2:(subB h 48 240).length=240:=Qaq (by omega)
 rw[QHH,QHH,QIH,QGW]
 exact⟨by rw[QGy,s2,QGA],rfl⟩
set_option maxRecDepth 100000 in
set_option maxHeartbeats 8000000 in
theorem Qtp (h s:List UInt8) (hl:h.length=288) (hs:s.length=192) (w:World):
 Calls Tryz.prog 101 #[.agg (h.map W8).toArray,.agg (s.map W8).toArray] w fun e w'=>e= .returned (.tuple #[.agg (CC (QlV h s)).toArray,.agg ((Qkg h s).map W8).toArray,.int .i64 (Qim h s:Nat)])∧Later w w':=by
 have HZ:=hid zcH
 have l0:(QGn 288 (0:UInt8)).length=288:=QGA
 have C1:=Qbk w 34 (h.map W8)
 have C2:=C1.add (Qaa _ (.cells (s.map W8).toArray 53)) (k:=w.heap.size+1) (by simp) (by omega) (Blk.new' _ _ _ (by simp))
 have C3:=C2.add (Qaa _ (.cells cz0.toArray 64)) (k:=w.heap.size+2) (by simp) (by omega) (Blk.new' _ _ _ (by simp))
 have C4:=C3.add (Qaa _ (.cells Tryz.zeroCells34 34)) (k:=w.heap.size+3) (by simp) (by omega) ((Blk.new' _ _ Tryz.zeroCells34.toList (by simp)).cast HZ.out)
 clear C1 C2 C3
 have s2:(subB h 48 240).length=240:=Qaq (by omega)
 have k1:(kStr s).length=32:=Qaq (by omega)
 have hF:=hid (Qu4 h s hl hs)
 have hpf:=Qrh h s hl
 have hT:=hid (fun B d g (w:World) hk hp=>Qi4 (some ⟨g,32,none⟩) 32 2 d B (kStr s) [subB h 48 240,QGn 48 0] w hk hp (by omega) (by rw[hpf.1];omega))
 rw[hpf.1,hpf.2]at hT
 have hpl:=Qg3 h s hl
 have hD:=hid (fun A c (w:World) h1 h2=>Qpt A c ((QcL h s).take 32) w h1 h2)
 have hE:Hid (Qim h s=if QmZ h s=false then 6 else if decE ((QcL h s).take 32)≠0 then 3 else if (decC ((QcL h s).take 32)).kd=1 then Qoz s else 0):=hid rfl
 have hC:Hid (QlV h s=if Qim h s=0 then decC ((QcL h s).take 32) else cmd0):=hid rfl
 have hN:Hid (Qkg h s=if Qim h s=0∧(decC ((QcL h s).take 32)).kd=1 then Qkb s++(QcL h s).drop 32 else QGn 288 0):=hid rfl
 have hX:=hid (fun (w:World)=>Qqb s (kBli s) (kAlp s) hs rfl rfl w)
 have hput:=hid (Qyu (Qkb s) (QcL h s) (QaY _ _) hpl)
 have hXb:Hid (QbB (kBli s) (kAlp s)=Qkb s∧Qbt (kBli s) (kAlp s)=Qoz s):=hid ⟨rfl,rfl⟩
 rw[hXb.out.1,hXb.out.2]at hX
 have nbl:(Qkb s).length=32:=QaY _ _
 have hb0:=QkW
 have hbh:=Qsz
 clear hpf hXb
 generalize QlV h s=OC at *
 generalize Qkg h s=ON at *
 generalize Qim h s=OE at *
 generalize QmZ h s=F at *
 generalize QcL h s=pl at *
 generalize decE (pl.take 32)=dE at *
 generalize decC (pl.take 32)=dC at *
 generalize Qoz s=nE at *
 generalize Qkb s=nb at *
 have hnbl:=nbl
 generalize QGn 288 (0:UInt8)=Z at *
 have hzl:(Z.map W8).length=288:=by rw[QGr];exact l0
 have hz0:cz0.length=20:=rfl
 go_enter Tryz.func101,Tryz.ntmps101
 go_wp2_with (first
  | (refine QkZ rfl _ rfl (C4.nth 3 rfl) hl rfl ?_)
  | (refine QfU rfl _ rfl (C4.nth 2 rfl) hs rfl ?_)
  | fail)
 (with_reducible refine (hF.out _).mono ?_);rintro e w5 ⟨rfl,l5⟩
 replace C4:=C4.later l5
 clear l5 hF
 cases F
 ·have HE:=hE.out
  rw[if_pos rfl]at HE
  have HC:=hC.out
  rw[HE,if_neg (by decide)]at HC
  have HN:=hN.out
  rw[HE,if_neg (by simp)]at HN
  replace HE:=hid HE
  replace HC:=hid HC
  replace HN:=hid HN
  clear hE hC hN
  go_wp2_with (first
   | (refine Qah rfl 64 _ rfl (CC cmd0) (by simp only[QGC,QGH];exact hb0) ?_)
   | (refine Qah rfl 34 _ rfl (Z.map W8) (by simp only[QGC,QGH];exact hbh) ?_)
   | (refine Qct rfl rfl _ _ rfl (C4.nth 1 rfl) rfl rfl hz0 ?_;intro w6 hb6 ho6
      have C5:=C4.write 1 rfl ho6 hb6)
   | (refine Qee rfl rfl _ _ rfl (C5.nth 0 rfl) rfl rfl l0 hzl ?_;intro w7 hb7 ho7
      have C6:=C5.write 0 rfl ho7 hb7)
   | fail)
  exact bodyPost_ret (Qd9 rfl _ _ _ _ _ _ _ _ _ _ (C6.nth 1 rfl) rfl Tryz.underlying64 rfl (by rw[Qao];exact QeX) (C6.nth 0 rfl) rfl Tryz.underlying34 rfl (by rw[QGr,l0];exact Qc5)) rfl ⟨by rw[HE.out,HC.out,HN.out];rfl,C6.lat⟩
 ·replace hE:Hid (OE=if dE≠0 then 3 else if dC.kd=1 then nE else 0):=hid (by rw[hE.out,if_neg (by decide)])
  go_wp2_with fail
  have C5:=C4.drew
  clear C4
  refine Qaf [([0,1,2,3,4],5),([],6),([],7)] [8,9,10,11,12] [] (by as_aux_lemma=>kernel_rfl) (by as_aux_lemma=>kernel_rfl) (by intro _ _ d _ _ h;cases d<;>exact h) ?_
  simp only[Qaj,pick,QGo,QGp,QGs,QGu,QGv]
  repeat (go_big_quiet_step (fail))
  refine wpQuiet_nil ?_
  go_wp2_with (first
   | (refine QaA rfl _ _ _ rfl 5 _ 1 Tryz.underlying22 Qc4 rfl _ _ _ _ 48 rfl rfl rfl rfl (by omega) (by omega) ?_;intro w6 hb6 hl6)
   | fail)
  try refine⟨by first|assumption|exact Qab _|exact Qaa _ _|exact Later.refl _,?_⟩
  try simp only[Qaj,pick,QGo,QGp,QGs,QGu,QGv]
  repeat (go_big_quiet_step (fail))
  refine wpQuiet_nil ?_
  have C6:=C5.later hl6
  go_wp2_with fail
  try refine⟨by first|assumption|exact Qab _|exact Qaa _ _|exact Later.refl _,?_⟩
  try simp only[Qaj,pick,QGo,QGp,QGs,QGu,QGv]
  repeat (go_big_quiet_step (fail))
  refine wpQuiet_nil ?_
  have l7:=Qaa w6 (.cells #[.slice (some ⟨w.heap.size,48,none⟩) 240 240,.slice (some ⟨w5.drew.heap.size,0,none⟩) 48 48] 22)
  have C7:=C6.later l7
  have P7:=QfG (bad:=fun _=>False) (ps:=[subB h 48 240,QGn 48 0]) ((Blk.new w6 22 [.slice (some ⟨w.heap.size,48,none⟩) 240 240,.slice (some ⟨w5.drew.heap.size,0,none⟩) 48 48]).rd rfl) (Qb6 _ _) ⟨Qba (Qcc (C7.nth 3 rfl) rfl s2) (QGx _),Qba (show RdB _ (some ⟨w5.drew.heap.size,0,none⟩) 48 (QGn 48 0) from (hb6.later l7).rd rfl) (QGx _),trivial⟩
  have hk7:=Qcc (C7.nth 2 rfl) rfl k1
  go_wp2_with fail
  (refine (hT.out _ _ _ _ hk7 P7).mono ?_);rintro e w8 ⟨A8,c8,rfl,o8,l8⟩
  obtain⟨g8,r8,rfl,hg8,hb8,hc8,hcc8⟩:=QlZ o8 (by omega)
  have C8:=C7.fresh l8 hg8 hb8
  clear C5 C6 C7 P7 hk7 l7 hl6 hb6 hT o8 hb8 hg8 hc8
  go_wp2_with fail
  try refine⟨by first|assumption|exact Qab _|exact Qaa _ _|exact Later.refl _,?_⟩
  try simp only[Qaj,pick,QGo,QGp,QGs,QGu,QGv]
  repeat (go_big_quiet_step (fail))
  refine wpQuiet_nil ?_
  go_wp2_with fail
  (refine (hD.out _ _ _ ((Qf7 (C8.nth 0 rfl) hpl).take (m:=32) (by omega)) (by omega)).mono ?_);rintro e w9 ⟨rfl,l9⟩
  have C9:=C8.later l9
  clear C8 l9 hD
  by_cases hd0:dE=0
  ·subst hd0
   replace hE:Hid (OE=if dC.kd=1 then nE else 0):=hid (by rw[hE.out,if_neg (by simp)])
   cases hk1:(dC.kd==1)
   ·have hkn: ¬dC.kd=1:=by simpa using hk1
    have n1:(dC.kd != 1)=true:=by rw[bne,hk1];rfl
    have HE:OE=0:=by rw[hE.out,if_neg hkn]
    have HC:OC=dC:=by rw[hC.out,HE,if_pos rfl]
    have HN:ON=Z:=by rw[hN.out,if_neg (fun h=>hkn h.2)]
    replace HE:=hid HE
    replace HC:=hid HC
    replace HN:=hid HN
    clear hE hC hN hkn
    go_wp2_with (first
     | (refine Qct rfl rfl _ _ rfl (Blk.new w9 _ cz0) rfl rfl rfl ?_;intro w10 hb10 ho10
        have C10:=C9.push (Qaa _ _) (QGx _) ho10 hb10
        have hc0:=(Qe3 hb10).1)
     | (refine Qc3 rfl _ rfl (C10.nth 0 rfl) rfl ?_)
     | (refine Qah rfl 34 _ rfl (Z.map W8) (by simp only[QGC,QGH];exact hbh) ?_)
     | (refine Qct rfl rfl _ _ rfl (C10.nth 3 rfl) rfl rfl hz0 ?_;intro w11 hb11 ho11
        have C11:=C10.write 3 rfl ho11 hb11)
     | (refine Qee rfl rfl _ _ rfl (C11.nth 2 rfl) rfl rfl l0 hzl ?_;intro w12 hb12 ho12
        have C12:=C11.write 2 rfl ho12 hb12)
     | fail)
    exact bodyPost_ret (Qd9 rfl _ _ _ _ _ _ _ _ _ _ (C12.nth 3 rfl) rfl Tryz.underlying64 rfl (by rw[Qao];exact QeX) (C12.nth 2 rfl) rfl Tryz.underlying34 rfl (by rw[QGr,l0];exact Qc5)) rfl ⟨by rw[HE.out,HC.out,HN.out];rfl,C12.lat⟩
   ·have hky:dC.kd=1:=by simpa using hk1
    have n1:(dC.kd != 1)=false:=by rw[bne,hk1];rfl
    replace hE:Hid (OE=nE):=hid (by rw[hE.out,if_pos hky])
    have l1:(putB Z 0 nb).length=288:=by rw[QbE (by omega)];exact l0
    have l2:(putB (putB Z 0 nb) 32 ((pl.drop 32).take 16)).length=288:=by rw[QbE (by rw[QGP,QGQ];omega)];exact l1
    have e3:((pl.drop 48).take 240)=pl.drop 48:=QGD (by rw[QGQ];omega)
    have HNL:(nb++pl.drop 32).length=288:=by rw[QGy,QGQ];omega
    replace e3:=hid e3
    generalize hZ2:putB (putB Z 0 nb) 32 ((pl.drop 32).take 16)=Z2 at *
    generalize hZ1:putB Z 0 nb=Z1 at *
    replace hZ1:=hid hZ1
    replace hZ2:=hid hZ2
    replace hky:=hid hky
    go_wp2_with (first
     | (refine Qct rfl rfl _ _ rfl (Blk.new w9 _ cz0) rfl rfl rfl ?_;intro w10 hb10 ho10
        have C10:=C9.push (Qaa _ _) (QGx _) ho10 hb10
        have hc0:=(Qe3 hb10).1)
     | (refine QfU rfl _ rfl ((C10.later (Qaa _ _)).nth 4 rfl) hs rfl ?_)
     | fail)
    (with_reducible refine (hX.out _).mono ?_);rintro e w11 ⟨rfl,l11⟩
    have C11:=(C10.fresh (Qaa _ _) (QGx _) ((Blk.new w10 _ Tryz.zeroCells34.toList).cast HZ.out)).later l11
    clear hb10 ho10 l11 C10 C9
    have hc0':=(Qe3 (C11.nth 1 rfl)).1
    by_cases hn0:nE=0
    ·subst hn0
     have HE:=hE.out
     have HC:OC=dC:=by rw[hC.out,HE,if_pos rfl]
     have HN:ON=nb++pl.drop 32:=by rw[hN.out,if_pos ⟨HE,hky.out⟩]
     replace HE:=hid HE
     replace HC:=hid HC
     replace HN:=hid HN
     clear hE hC hN
     generalize nb++pl.drop 32=NX at *
     have hNX:=hid (Qit NX 288 HNL)
     go_wp2_with (first
      | (refine QoP 0 32 rfl rfl _ _ rfl (C11.nth 0 rfl) rfl rfl QfJ hnbl (by omega) ?_;intro w12 hb12 ho12;rw[hZ1.out]at hb12
         have C12:=C11.write 0 rfl ho12 hb12)
      | fail)
     have C13:=C12.drew
     clear C11 C12 hb12 ho12
     have r32:=Qqs (k:=32) (C13.nth 2 rfl) hpl (by omega)
     refine Qaf [] [0,1,2,3] [4] (by as_aux_lemma=>kernel_rfl) (by as_aux_lemma=>kernel_rfl) (by intro _ _ d _ _ h;cases d<;>exact h) ?_
     simp only[Qaj,pick,QGo,QGp,QGs,QGu,QGv]
     repeat (go_big_quiet_step (fail))
     refine wpQuiet_nil ?_
     go_wp2_with (first
      | (refine Qax rfl _ _ _ _ rfl 5 Tryz.underlying22 Qb2 w10.heap.size 32 16 16 _ _ (C13.nth 0 rfl) (some ⟨g8,32,none⟩) 256 (c8-32) ((pl.drop 32).map W8) r32 (QaX _) rfl rfl (by rw[QGr];omega) ?_;intro w14 hb14 ho14;rw[←QH0,QcK,hZ2.out]at hb14
         have C14:=C13.write 0 rfl ho14 hb14)
      | fail)
     have C15:=C14.drew
     simp only[Act.put,QGw,QGB,QGz]
     have r48:=Qqs (k:=48) (C15.nth 2 rfl) hpl (by omega)
     refine Qaf [] [0,1,2,3] [4] (by as_aux_lemma=>kernel_rfl) (by as_aux_lemma=>kernel_rfl) (by intro _ _ d _ _ h;cases d<;>exact h) ?_
     simp only[Qaj,pick,QGo,QGp,QGs,QGu,QGv]
     repeat (go_big_quiet_step (fail))
     refine wpQuiet_nil ?_
     go_wp2_with (first
      | (refine Qax rfl _ _ _ _ rfl 5 Tryz.underlying22 Qb2 w10.heap.size 48 240 240 _ _ (C15.nth 0 rfl) (some ⟨g8,48,none⟩) 240 (c8-48) ((pl.drop 48).map W8) r48 (QaX _) rfl rfl (by rw[QGr];omega) ?_;intro w16 hb16 ho16;rw[←QH0,QcK,e3.out,hput.out]at hb16
         have C16:=C15.write 0 rfl ho16 hb16)
      | fail)
     simp only[Act.put,QGw,QGB,QGz]
     clear hb14 ho14 hb16 ho16 C13 C14 C15 r32 r48
     have hne03:=C16.ne 0 4 rfl rfl (by decide)
     refine Qdv [0,1] [2,3,4] (fun i=>if i=1 then [2] else []) (fun i=>if i=2 then w.heap.size+2 else w.heap.size+3) (by as_aux_lemma=>kernel_rfl) (by as_aux_lemma=>kernel_rfl) (by intro _ _ d _ _ h;cases d<;>exact h) ?_
     refine⟨_,rfl,rfl,?_⟩
     refine QkN _ _ rfl 0 (CC dC) (C16.nth 1 rfl) (by simp) rfl (QmQ _) _ Tryz.underlying64 rfl (by rw[Qao];exact QeX) ?_
     simp only[Act.put,QGw,QGB,QGz]
     refine⟨_,rfl,rfl,?_⟩
     refine QkN _ _ rfl 0 (NX.map W8) (C16.nth 0 rfl) (by intro b hb;simp at hb;subst hb;exact hne03) rfl (QmQ _) _ Tryz.underlying34 rfl (by rw[QGr,HNL];exact Qc5) ?_
     simp only[Act.put,QGw,QGB,QGz]
     simp only[QjL,QgC,pick,QGo,QGp,QGs,QGu,QGv]
     refine Qct rfl rfl _ _ rfl (C16.drew.nth 4 rfl) rfl rfl hz0 ?_
     intro w17 hb17 ho17
     have C17:=C16.drew.write 4 rfl ho17 hb17
     refine⟨ho17,?_⟩
     refine Qee rfl rfl _ _ rfl (C17.nth 3 rfl) rfl rfl HNL hzl ?_
     intro w18 hb18 ho18
     have C18:=C17.write 3 rfl ho18 hb18
     refine⟨ho18,?_⟩
     go_wp2_with fail
     refine⟨World.grownBy.refl _ _,?_⟩
     go_wp2_with fail
     exact bodyPost_ret (Qd9 rfl _ _ _ _ _ _ _ _ _ _ (C18.nth 4 rfl) rfl Tryz.underlying64 rfl (by rw[Qao];exact QeX) (C18.nth 3 rfl) rfl Tryz.underlying34 rfl (by rw[QGr,HNL];exact Qc5)) rfl ⟨by rw[HE.out,HC.out,HN.out];rfl,C18.lat⟩
    ·have hne:((nE:Int) != 0)=true:=by simp;omega
     have HE:=hE.out
     have HC:OC=cmd0:=by rw[hC.out,HE,if_neg hn0]
     have HN:ON=Z:=by rw[hN.out,HE,if_neg (fun h=>hn0 h.1)]
     replace HE:=hid HE
     replace HC:=hid HC
     replace HN:=hid HN
     clear hE hC hN
     go_wp2_with (first
      | (refine QoP 0 32 rfl rfl _ _ rfl (C11.nth 0 rfl) rfl rfl QfJ hnbl (by omega) ?_;intro w12 hb12 ho12;rw[hZ1.out]at hb12
         have C12:=C11.write 0 rfl ho12 hb12)
      | (refine Qah rfl 64 _ rfl (CC cmd0) (by simp only[QGC,QGH];exact hb0) ?_)
      | (refine Qah rfl 34 _ rfl (Z.map W8) (by simp only[QGC,QGH];exact hbh) ?_)
      | (refine Qct rfl rfl _ _ rfl (C12.nth 4 rfl) rfl rfl hz0 ?_;intro w13 hb13 ho13
         have C13:=C12.write 4 rfl ho13 hb13)
      | (refine Qee rfl rfl _ _ rfl (C13.nth 3 rfl) rfl rfl l0 hzl ?_;intro w14 hb14 ho14
         have C14:=C13.write 3 rfl ho14 hb14)
      | fail)
     exact bodyPost_ret (Qd9 rfl _ _ _ _ _ _ _ _ _ _ (C14.nth 4 rfl) rfl Tryz.underlying64 rfl (by rw[Qao];exact QeX) (C14.nth 3 rfl) rfl Tryz.underlying34 rfl (by rw[QGr,l0];exact Qc5)) rfl ⟨by rw[HE.out,HC.out,HN.out];rfl,C14.lat⟩
  ·have HE:OE=3:=by rw[hE.out,if_pos hd0]
   have HC:OC=cmd0:=by rw[hC.out,HE,if_neg (by decide)]
   have HN:ON=Z:=by rw[hN.out,HE,if_neg (by simp)]
   have hne:((dE:Int) != 0)=true:=by simp;omega
   replace HE:=hid HE
   replace HC:=hid HC
   replace HN:=hid HN
   clear hE hC hN
   go_wp2_with (first
    | (refine Qct rfl rfl _ _ rfl (Blk.new w9 _ cz0) rfl rfl rfl ?_;intro w10 hb10 ho10
       have C10:=C9.push (Qaa _ _) (QGx _) ho10 hb10)
    | (refine Qah rfl 64 _ rfl (CC cmd0) (by simp only[QGC,QGH];exact hb0) ?_)
    | (refine Qah rfl 34 _ rfl (Z.map W8) (by simp only[QGC,QGH];exact hbh) ?_)
    | (refine Qct rfl rfl _ _ rfl (C10.nth 3 rfl) rfl rfl hz0 ?_;intro w11 hb11 ho11
       have C11:=C10.write 3 rfl ho11 hb11)
    | (refine Qee rfl rfl _ _ rfl (C11.nth 2 rfl) rfl rfl l0 hzl ?_;intro w12 hb12 ho12
       have C12:=C11.write 2 rfl ho12 hb12)
    | fail)
   exact bodyPost_ret (Qd9 rfl _ _ _ _ _ _ _ _ _ _ (C12.nth 3 rfl) rfl Tryz.underlying64 rfl (by rw[Qao];exact QeX) (C12.nth 2 rfl) rfl Tryz.underlying34 rfl (by rw[QGr,l0];exact Qc5)) rfl ⟨by rw[HE.out,HC.out,HN.out];rfl,C12.lat⟩
def QnL (bs:List UInt8):Prop:=32≤bs.length∧bs.length≤4096
instance (bs:List UInt8):Decidable (QnL bs):=by unfold QnL;infer_instance
def okK (ks:List (List UInt8)):Prop:=∀p∈ks,p.length=32
instance (ks:List (List UInt8)):Decidable (okK ks):=by unfold okK;infer_instance
def QgB (rs:List Int) (ks:List (List UInt8)) (bs:List UInt8):List UInt8:=ks.foldl (fun b p=>QdZ p rs b) bs
theorem Qh9 (rs:List Int):∀(ks:List (List UInt8)) (bs:List UInt8),32≤bs.length→(QgB rs ks bs).length=bs.length
 | [],_,_=>rfl
 | p :: ks,bs,h=>by
   show (QgB rs ks (QdZ p rs bs)).length=_
   have:=Qc0 p rs bs h
   rw[Qh9 rs ks _ (by omega),this]
theorem Qif (rs:List Int) (ks ks':List (List UInt8)) (bs:List UInt8):QgB rs (ks++ks') bs=QgB rs ks' (QgB rs ks bs):=by rw[QgB,List.foldl_append];rfl
theorem Qsc (rs:List Int) (ks:List (List UInt8)) (bs:List UInt8) (j:Nat) (h:j<ks.length):QgB rs (ks.take (j+1)) bs=QdZ (ks.getD j []) rs (QgB rs (ks.take j) bs):=by
 rw[QGY h,Qif,QGq,QGt h]
 rfl
def allE (ks:List (List UInt8)) (bs:List UInt8):Nat:=if QnL bs∧okK ks then 0 else 2
def allB (rs:List Int) (ks:List (List UInt8)) (bs:List UInt8):List UInt8:=if QnL bs∧okK ks then QgB rs ks bs else []
theorem QBA {rs:List Int} {ks:List (List UInt8)} {bs:List UInt8} (h: ¬(QnL bs∧okK ks)):allB rs ks bs=[]∧allE ks bs=2:=⟨by rw[allB,if_neg h],by rw[allE,if_neg h]⟩
theorem Qvo {rs:List Int} {ks:List (List UInt8)} {bs:List UInt8} (h:QnL bs∧okK ks):allB rs ks bs=QgB rs ks bs∧allE ks bs=0:=⟨by rw[allB,if_pos h],by rw[allE,if_pos h]⟩
theorem Qwe {rs:List Int} (hok:okR rs) {p X:List UInt8} (hp:p.length=32) (h1:32≤X.length) (h2:X.length≤4096):Qfz p X rs=0∧Qdk p X rs=QdZ p rs X:=⟨QfW hok ⟨hp,h1,h2⟩,QeZ hok ⟨hp,h1,h2⟩⟩
set_option maxRecDepth 100000 in
set_option maxHeartbeats 4000000 in
theorem QxJ (A B:Option Addr) (m d k e0:Nat) (ks:List (List UInt8)) (bs:List UInt8) (w:World) (hb:RdB w B m bs) (hd:m≤d) (hp:Parts w (fun _=>False) A k ks) (hm:m≤2097152) (hk:k≤2097152):
 Calls Tryz.prog 62 #[.func (.func 78) #[] #[],.slice B m d,.slice A k e0] w fun e w'=>Later w w'∧∃A' c',e= .returned (.tuple #[.slice A' (allB rsS ks bs).length c',.int .i64 (allE ks bs:Nat)])∧OwnB w' w.heap.size A' (allB rsS ks bs).length c' (allB rsS ks bs):=by
 have hbl:=hb.len
 have hkl:=hp.len
 have hbad:=hid (fun h=> @QBA rsS ks bs h)
 have hfit:=hid (fun h=> @Qvo rsS ks bs h)
 have hfB:=hid (Qhp B m d)
 have hone:=hid (fun (A B:Option Addr) (c m d:Nat) (p X:List UInt8) (w:World) h1 hc h2 hd hm=>Qvd A B 32 c m d p X w h1 hc h2 hd (by omega) hm)
 have hok:=hid (fun (p X:List UInt8) h h1 h2=> @Qwe rsS okS p X h h1 h2)
 have hFt:=hid (fun j h=>Qsc rsS ks bs j h)
 have hFl:=hid (fun ks h=>Qh9 rsS ks bs h)
 have hF0:=hid (show QgB rsS (ks.take 0) bs=bs from rfl)
 have hCj:=hid (fun A c w h=>QcT A 1 c [bs] w h (by omega) (by rw[Qb5];omega))
 rw[Qb5,hbl]at hCj
 generalize allB rsS ks bs=WB at *
 generalize allE ks bs=WE at *
 go_enter Tryz.func62,Tryz.ntmps62
 go_wp2_with fail
 (with_reducible refine (hfB.out _).mono ?_);rintro e w1 ⟨rfl,rfl⟩
 by_cases hf:32≤m∧m≤4096
 ·rw[decide_eq_true hf]
  go_wp2_with fail
  go_loopw [20] (fun i wr=>∃j:Nat,j≤k∧i= .int .i64 j∧wr=w1∧Hid (∀ t,t<j→(ks.getD t []).length=32)) (fun i _=>k-(intOf i).toNat)
  case atStart=>exact⟨0,by omega,rfl,rfl,hid (fun t h=>by omega)⟩
  case round=>
   obtain⟨j,hj,rfl,rfl,hall⟩:=hrel
   by_cases hlt:j<k
   ·obtain⟨b,o,Ak,nk,ck,rfl,hbb,hck,hcap,hrd,_⟩:=hp.at_ hlt
    have hlen:=hrd.len
    by_cases h32:nk=32
    ·have hS:Hid (∀ t,t<j+1→(ks.getD t []).length=32):=hid (fun t ht=>by
      by_cases e:t=j
      ·rw[e,hlen,h32]
      ·exact hall.out t (by omega))
     have hI:((nk:Int) != 32)=false:=by simp;omega
     clear hlen hrd hcap
     replace h32:=hid h32
     go_wp2_with fail
     go_roundw
     case rel=>exact⟨j+1,by omega,by go_num,trivial,hS⟩
     case measure=>simp[intOf];omega
    ·have hB:=hid (hbad.out (fun h=>h32 (by rw[←hlen];exact h.2 _ (Qd8 ks j (by omega)))))
     have hI:((nk:Int) != 32)=true:=by simp;omega
     go_wp2_with fail
     go_ret2
     refine⟨Later.refl _,none,0,?_,?_⟩
     ·rw[hB.out.1,hB.out.2];rfl
     ·rw[hB.out.1];exact Qbi _ _ _
   ·obtain rfl:k=j:=by omega
    have hF:=hid (hfit.out ⟨by rw[QnL,hbl];exact hf,fun p hp'=>by
     obtain⟨t,ht⟩:=List.getElem?_of_mem hp'
     have htl:=(QGL.1 ht).1
     have:=hall.out t (by omega)
     rwa [QGq,ht]at this⟩)
    clear hbad hfit
    go_wp2_with fail
    have J2:=Qaa wr (.cells #[.slice B m d] 22)
    have hpp:=Qhv (Blk.new wr 22 [.slice B m d]) (Qef (hb.later J2) hd)
    (with_reducible refine (hCj.out _ _ _ hpp).mono ?_);rintro e w3 ⟨A3,c3,rfl,hown3,j3⟩
    have L3:=J2.trans j3
    replace hown3:=hown3.mono J2.size
    go_wp2_with fail
    go_loopw [10,33] (fun v i wr'=>∃(j:Nat) (A':Option Addr) (c':Nat),j≤k∧i= .int .i64 j∧v= .slice A' m c'∧OwnB wr' wr.heap.size A' m c' (QgB rsS (ks.take j) bs)∧Later wr wr') (fun _ i _=>k-(intOf i).toNat)
    case atStart=>exact⟨0,A3,c3,by omega,rfl,rfl,by rw[hF0.out];exact hown3,L3⟩
    case round=>
     clear hown3 L3 hpp J2 j3
     rename_i _ _ wz
     obtain⟨j,A4,c4,hj,rfl,rfl,hown,L⟩:=hrel
     by_cases hlt:j<k
     ·obtain⟨b,o,Ak,nk,ck,rfl,hbb,hck,hcap,hrd,_⟩:=(hp.later L).at_ hlt
      have hlen:=hrd.len
      have h32:=hall.out j hlt
      rw[h32]at hlen
      subst hlen
      have HF:=hid (hFt.out j (by omega))
      have hXl:=hown.len
      generalize ks.getD j []=p at *
      generalize QgB rsS (ks.take j) bs=X at *
      have hk:=hid (hok.out p X h32 (by omega) (by omega))
      go_wp2_with fail
      (with_reducible refine (hone.out Ak A4 ck m c4 p X _ hrd hcap hown.rd hown.cap (by omega)).mono ?_);rintro e w5 ⟨j5,A5,c5,rfl,ho5⟩
      rw[hk.out.1,hk.out.2,←HF.out]
      rw[hk.out.2,←HF.out]at ho5
      have hl5:=hFl.out (ks.take (j+1)) (by omega)
      rw[hbl]at hl5
      rw[hl5]at ho5 ⊢
      go_wp2_with fail
      go_roundw
      case rel=>exact⟨j+1,A5,c5,by omega,by go_num,rfl,ho5.mono L.size,L.trans j5⟩
      case measure=>simp[intOf];omega
     ·obtain rfl:k=j:=by omega
      have eT:ks.take k=ks:=QGD (by omega)
      have hl5:=hFl.out ks (by omega)
      rw[eT,←hF.out.1]at hown
      rw[←hF.out.1,hbl]at hl5
      have hWE:=hF.out.2
      go_wp2_with fail
      go_ret2
      exact⟨L,A4,c4,by rw[hl5,hWE];rfl,by rw[hl5];exact hown⟩
 ·rw[decide_eq_false hf]
  have hB:=hid (hbad.out (fun h=>hf (by rw[←hbl];exact h.1)))
  go_wp2_with fail
  go_ret2
  refine⟨Later.refl _,none,0,?_,?_⟩
  ·rw[hB.out.1,hB.out.2];rfl
  ·rw[hB.out.1];exact Qbi _ _ _
theorem Qpe (A B:Option Addr) (m d k e0:Nat) (ks:List (List UInt8)) (bs:List UInt8) (w:World) (hb:RdB w B m bs) (hd:m≤d) (hp:Parts w (fun _=>False) A k ks) (hm:m≤2097152) (hk:k≤2097152):
 Calls Tryz.prog 91 #[.slice B m d,.slice A k e0] w fun e w'=>Later w w'∧∃A' c',e= .returned (.tuple #[.slice A' (allB rsS ks bs).length c',.int .i64 (allE ks bs:Nat)])∧OwnB w' w.heap.size A' (allB rsS ks bs).length c' (allB rsS ks bs):=by
 have h:=hid (QxJ A B m d k e0 ks bs w hb hd hp hm hk)
 generalize allB rsS ks bs=X at *
 generalize allE ks bs=E at *
 go_enter Tryz.func91,Tryz.ntmps91
 go_wp2_with fail
 (refine h.out.mono ?_);rintro e w1 ⟨j1,A1,c1,rfl,ho1⟩
 go_wp2_with fail
 go_ret2
 exact⟨j1,A1,c1,rfl,ho1⟩
end Go.Proofs.YtdhgpkdjdmlphaaGreat
