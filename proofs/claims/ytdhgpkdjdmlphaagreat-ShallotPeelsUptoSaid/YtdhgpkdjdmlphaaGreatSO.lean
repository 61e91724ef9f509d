/-
  Lemmas for the last text of this claim (part 15 of 20).
-/
import Derived.ArgAppend
import Derived.BigQuiet
import Derived.BigRegion
import Derived.ChangeOld
import Derived.Deep.RegionWith
import Derived.DeepKeys4
import Derived.JoinedCond
import Derived.LaidMore
import Derived.Laws.BytesArg
import Derived.Laws.CopyOwn
import Derived.Laws.Externs
import Derived.Laws.IdiomStrings
import Derived.Laws.Tables
import Derived.Lib.AppendStr
import Derived.Lib.AppendZerosOnto
import Derived.Lib.Mul64
import Derived.Lib.SlBytesConst
import Derived.LoopN
import Derived.Maps.OwnSet
import Derived.OpenShut
import Derived.OrdersHeld
import Derived.ProofKit
import Derived.Shelf.Spec.BitsCarry
import Derived.ShutString
import Derived.Test.YtdhgpkdjdmlphaaGreatProg
import Derived.Test.YtdhgpkdjdmlphaaGreatRows
import Derived.WalkKit
import Derived.WalkLawsBesides
import Derived.WalkSpells
import Derived.Test.YtdhgpkdjdmlphaaGreatSD
import Derived.Test.YtdhgpkdjdmlphaaGreatSK
import Derived.Test.YtdhgpkdjdmlphaaGreatSM
open List renaming replicate → QCC, getElem?_cons_succ → QCD, getElem?_cons_zero → QCE, length_map → QCG, getElem?_eq_getElem → QCH, nil_append → QCI, cons_append → QCJ, getD_eq_getElem?_getD → QCK, length_append → QCM, getElem?_append_right → QCR, take_of_length_le → QCT, append_assoc → QCU, mem_cons → QCV, not_mem_nil → QCW, getElem?_eq_some_iff → QCX, getElem?_map → QCY, getElem?_append_left → QC0, length_take → QC5, length_drop → QC7, take_append_drop → QC9, take_succ_eq_append_getElem → QDd, set_append_right → QDe, append_nil → QDg, eq_nil_of_length_eq_zero → QDj, map_append → QDo, drop_left' → QDp, getElem?_drop → QDN, getElem_mem → QDS, take_left' → QDV, drop_drop → QD5, drop_zero → QD8, drop_eq_nil_of_le → QEn
open Nat renaming le_refl → QCN, le_trans → QDk
open Option renaming toList_some → QCF, map_eq_some_iff → QEb
set_option linter.all false
namespace Go.Proofs.YtdhgpkdjdmlphaaGreat
open Go.RowKit
open Go.BigFrame
theorem Qxf {pre post:List Value} {xs:List UInt8} {off k:Nat} (hp:pre.length=off) (h:k<xs.length) (x:UInt8) (hx:xs[k]?=some x):(pre++xs.map W8++post)[off+k]?=some (W8 x):=by
 rw[QCU,QCR (by omega),show off+k-pre.length=k by omega,QC0 (by rw[QCG];exact h),QCY,hx]
 rfl
theorem Qxj {pre post:List Value} {xs:List UInt8} {off k:Nat} (hp:pre.length=off) (h:k<xs.length) (x:UInt8):(pre++xs.map W8++post).set (off+k) (W8 x)=pre++(xs.set k x).map W8++post:=by
 rw[QCU,QDe _ _ (by omega),show off+k-pre.length=k by omega,List.set_append_left _ _ (by rw[QCG];exact h),QcF,QCU]
set_option maxRecDepth 100000 in
set_option maxHeartbeats 2000000 in
theorem Qnu (g off n c c2:Nat) (t:TypeId) (A:Option Addr) (pre post:List Value) (xs ys:List UInt8) (w:World) (hb:Blk w g t (pre++xs.map W8++post)) (hp:pre.length=off) (hxl:xs.length=n) (hy:RdB w A n ys) (hoff:0<n→Off A g) (hn:n≤1048576):
 Calls Tryz.prog 166 #[.slice (some ⟨g,off,none⟩) n c,.slice A n c2] w fun e w'=>e= .returned (.tuple #[])∧Blk w' g t (pre++(xorB xs ys).map W8++post)∧Only g w w':=by
 have hyl:=hy.len
 have hlen:xs.length=ys.length:=by omega
 have hX:=hid (fun k=>Qhp hlen k)
 have hG:=hid (fun k (h:k<xs.length)=>Qlz hlen h)
 have hS:=hid (fun k (h:k<xs.length)=>QjG hlen h)
 have hA:=hid (QlB hlen)
 have hN:=hid (QjC xs ys)
 go_enter Tryz.func166,Tryz.ntmps166
 go_wp2_with fail
 go_loopw [8] (fun i wr=>∃k:Nat,k≤n∧i= .int .i64 k∧Blk wr g t (pre++(Qf8 xs ys k).map W8++post)∧Only g w wr) (fun i _=>n-(intOf i).toNat)
 case atStart=>exact⟨0,by omega,rfl,by rw[hN.out];exact hb,World.grownBy.refl w _⟩
 case round=>
  clear hb
  obtain⟨k,hk,rfl,hb,ho'⟩:=hrel
  by_cases hlt:k<n
  ·have hy':RdB wr A n ys:=Rd.only hy ho' (fun b o e h=>hoff (by omega) _ e h)
   obtain⟨b2,o2,rfl,hb2,hc2⟩:=RdB.at_ hy' (by omega)
   have c1:=hc2 k hlt
   have hxk:=hX.out k (by omega)
   have d1:=hb.cellD (off+k) (Qxf hp (by omega) _ (hG.out k (by omega)))
   have HS:=hid (hS.out k (by omega))
   clear hc2
   generalize xs.getD k 0=x at *
   generalize ys.getD k 0=y at *
   go_wp2_with (first
    | (refine Qad rfl rfl _ _ _ rfl g (off+k) _ _ hb rfl (by simp only[QCM,QCG];omega) rfl QbY ?_;intro v' w5 hv' hb5 ho5;simp[go_sem]at hv';subst hv')
    | fail)
   rw[Qxj hp (by omega),HS.out]at hb5
   go_roundw
   case rel=>exact⟨k+1,by omega,by go_num,hb5,ho'.trans ho5⟩
   case measure=>simp[intOf];omega
  ·obtain rfl:n=k:=by omega
   rw[←hxl,hA.out]at hb
   go_wp2_with fail
   exact bodyPost_end (results_none rfl _ _ _) rfl ⟨rfl,hb,ho'⟩
theorem QuW (g off n c c2:Nat) (t:TypeId) (A:Option Addr) (bs ys:List UInt8) (rest:List Value) (w:World) (hb:Blk w g t (bs.map W8++rest)) (hbl:bs.length=n) (h32:32≤n) (hoff:off=32∨(off=0∧n=32)) (hy:RdB w A (n-32) ys) (hA:0<n-32→Off A g) (hn:n≤1048576):
 Calls Tryz.prog 166 #[.slice (some ⟨g,off,none⟩) (n-32) c,.slice A (n-32) c2] w fun e w'=>e= .returned (.tuple #[])∧Blk w' g t ((bs.take 32++xorB (bs.drop 32) ys).map W8++rest)∧Only g w w':=by
 have e0:bs.map W8++rest=(bs.take 32).map W8++(bs.drop 32).map W8++rest:=by rw[←QDo,QC9]
 rcases hoff with rfl|⟨rfl,rfl⟩
 ·rw[e0]at hb
  refine (Qnu g 32 (n-32) c c2 t A _ rest (bs.drop 32) ys w hb (by rw[QCG,QC5];omega) (by rw[QC7];omega) hy hA (by omega)).mono ?_
  rintro e w' ⟨he,hb',ho⟩
  exact⟨he,by rw[QDo];exact hb',ho⟩
 ·have hd:bs.drop 32=[]:=QDj (by rw[QC7];omega)
  have hyn:ys=[]:=QDj hy.len
  refine (Qnu g 0 0 c c2 t A [] (bs.map W8++rest) [] ys w hb rfl rfl hy hA (by omega)).mono ?_
  rintro e w' ⟨he,hb',ho⟩
  refine⟨he,?_,ho⟩
  subst hyn
  rw[hd,show xorB [] []=[] from rfl,QDg,QCT (by omega)]
  exact hb'
def Qeh (K:List UInt8) (r:Nat) (bs:List UInt8):List UInt8:=
 if r=2∨r=4 then xorB (bs.take 32) (QbH K (bs.drop 32))++bs.drop 32 else bs.take 32++xorB (bs.drop 32) (chaS (xorB K (bs.take 32)) (bs.length-32))
theorem Qe4 (K:List UInt8) (r:Nat) (bs:List UInt8) (h:32≤bs.length):(Qeh K r bs).length=bs.length:=by
 unfold Qeh
 split
 ·rw[QCM,Qa0 (by rw[QaN,QC5];omega),QaN,QC7]
  omega
 ·rw[QCM,Qa0 (by rw[QaA,QC7]),QaA,QC5]
  omega
theorem Qnj (K:List UInt8) (r:Nat) (bs:List UInt8) (h:32≤bs.length):Qeh K r (Qeh K r bs)=bs:=by
 by_cases hr:r=2∨r=4
 ·have l1:(bs.take 32).length=(QbH K (bs.drop 32)).length:=by rw[QaN,QC5];omega
  have l2:(xorB (bs.take 32) (QbH K (bs.drop 32))).length=32:=by rw[Qa0 l1,QaN]
  rw[Qeh,if_pos hr,Qeh,if_pos hr,QDV l2,QDp l2,Qev l1,QC9]
 ·have l0:(bs.take 32).length=32:=by rw[QC5];omega
  have l1:(bs.drop 32).length=(chaS (xorB K (bs.take 32)) (bs.length-32)).length:=by rw[QaA,QC7]
  have l2:(bs.take 32++xorB (bs.drop 32) (chaS (xorB K (bs.take 32)) (bs.length-32))).length=bs.length:=by
   have:=Qe4 K r bs h
   rwa [Qeh,if_neg hr]at this
  rw[Qeh,if_neg hr,Qeh,if_neg hr,l2,QDV l0,QDp l0,Qev l1,QC9]
theorem QrB:(Tryz.prog.info? 30).map (·.size)=some 32:=by kernel_rfl
theorem Qj7 {w:World} {g:Nat} {t:TypeId} {bs:List UInt8} {n:Nat} (h:Blk w g t (bs.map W8)) (hn:bs.length=n):RdB w (some ⟨g,0,none⟩) n bs:=h.rd (by rw[QCG,hn])
set_option maxRecDepth 100000 in
set_option maxHeartbeats 4000000 in
theorem Quq (g n c:Nat) (K bs:List UInt8) (r:Nat) (rest:List Value) (w:World) (hb:Blk w g 5 (bs.map W8++rest)) (hbl:bs.length=n) (h32:32≤n) (hn:n≤4096) (hc:n≤c) (hK:K.length=32) (h1:1≤r) (h4:r≤4):
 Calls Tryz.prog 133 #[.slice (some ⟨g,0,none⟩) n c,.agg (K.map W8).toArray,.int .i64 r] w fun e w'=>e= .returned (.tuple #[])∧Blk w' g 5 ((Qeh K r bs).map W8++rest)∧Only g w w':=by
 have hcl:∀W,(Instr.sliceAt 22 (.slice (some ⟨g,0,none⟩) n c) none (some (.int .i64 32)) none).run Tryz.prog W= .ok (.slice (some ⟨g,0,none⟩) 32 c) W:=fun W=>QsN (some ⟨g,0,none⟩) n c .i64 32 (by omega) W
 obtain⟨off,hoff,hcr⟩:∃off,(off=32∨(off=0∧n=32))∧∀W,(Instr.sliceAt 22 (.slice (some ⟨g,0,none⟩) n c) (some (.int .i64 32)) none none).run Tryz.prog W= .ok (.slice (some ⟨g,off,none⟩) (n-32) (c-32)) W:=by
  have h:=fun W=>Qig (some ⟨g,0,none⟩) n c .i64 32 h32 W
  unfold cutA at h
  by_cases hc32:c=32
  ·rw[if_pos hc32]at h
   exact⟨0,.inr ⟨rfl,by omega⟩,h⟩
  ·rw[if_neg hc32]at h
   exact⟨32,.inl rfl,h⟩
 have hrdR:∀w',Blk w' g 5 (bs.map W8++rest)→RdB w' (some ⟨g,off,none⟩) (n-32) (bs.drop 32):=fun w' hb'=>by
  rcases hoff with rfl|⟨rfl,rfl⟩
  ·have:=(Qfr hb' hbl).cut (k:=32) (c:=n+33) h32 (by omega)
   rw[cutA,if_neg (by omega)]at this
   exact this
  ·rw[QDj (show (bs.drop 32).length=0 by rw[QC7];omega)]
   exact⟨rfl,fun h=>absurd h (by omega)⟩
 have hrdR:=hid hrdR
 have hm1:=hid (fun g off n c c2 t A pre post xs ys w hb hp hxl hy ho hn=>Qnu g off n c c2 t A pre post xs ys w hb hp hxl hy ho hn)
 have hm2:=hid (fun c c2 A ys w hb hy hA=>QuW g off n c c2 5 A bs ys rest w hb hbl h32 hoff hy hA (by omega))
 replace hoff:=hid hoff
 have htl:(bs.take 32).length=32:=by rw[QC5];omega
 have hdl:(bs.drop 32).length=n-32:=by rw[QC7];omega
 by_cases hr:r=2∨r=4
 ·have hT:=hid (show Qeh K r bs=xorB (bs.take 32) (QbH K (bs.drop 32))++bs.drop 32 by rw[Qeh,if_pos hr])
  have hG:=QaN K (bs.drop 32)
  have hTag:=hid (fun A B c d w h1 hc h2=>Qkx A B 32 c 1 d K [bs.drop 32] w h1 hc (by omega) h2 (by omega) (by rw[QbL,hdl];omega))
  rw[QbL]at hTag
  generalize Qeh K r bs=TB at *
  generalize QbH K (bs.drop 32)=G at *
  rcases hr with rfl|rfl
  all_goals
   go_enter Tryz.func133,Tryz.ntmps133
   go_wp2_with fail
   have B1:=Qba w 30 (K.map W8)
   generalize w.alloc (.cells (K.map W8).toArray 30)=w1 at *
   refine Qag [] [0,1,2,3,4,5] [] (by as_aux_lemma=>kernel_rfl) (by as_aux_lemma=>kernel_rfl) (by intro _ _ d _ _ h;cases d<;>exact h) ?_
   simp only[Qai,pick,QCD,QCE,QCF,QCJ,QCI]
   repeat (go_big_quiet_step (fail))
   refine wpQuiet_nil ?_
   go_wp2_with fail
   have B2:=B1.later ((Qaa w1 (.cells #[.slice (some ⟨g,off,none⟩) (n-32) (c-32)] 22)).trans (Qab _))
   have hb2:=hb.later B2.lat
   have hpp:=QgN (Blk.new w1 22 [.slice (some ⟨g,off,none⟩) (n-32) (c-32)]).drew (QdN (c:=c-32) (hrdR.out _ hb2) (by omega))
   (with_reducible refine (hTag.out _ _ _ _ _ (Qj7 (B2.nth 0 rfl) hK) (QCN _) hpp).mono ?_);rintro e w3 ⟨rfl,j3⟩
   go_wp2_with (first
    | (refine QgL 32 rfl rfl _ _ rfl (Blk.new w3 _ (QCC 32 (.int .u8 0))) rfl rfl QrB hG rfl ?_;intro w4 hb4 ho4)
    | fail)
   have L4:=B2.lat.trans ((j3.trans (Qaa w3 _)).only ho4 j3.size)
   have hb5:=hb.later L4
   rw[show bs.map W8++rest=[]++(bs.take 32).map W8++((bs.drop 32).map W8++rest) by rw[QCI,←QCU,←QDo,QC9]]at hb5
   have hgl:=hb.lt
   have hgs:=(B2.lat.trans j3).size
   (refine (hm1.out g 0 32 _ _ _ _ _ _ _ _ _ hb5 rfl htl (Qj7 hb4 hG) (fun _ ad e=>by cases e;show w3.heap.size≠g;omega) (by omega)).mono ?_);rintro e w5 ⟨rfl,hb6,ho6⟩
   rw[QCI,←QCU,←QDo,←hT.out]at hb6
   go_wp2_with fail
   (try simp only[Exit.inBlock,Exit.then])
   exact bodyPost_ret (results_none rfl _ _ _) rfl ⟨rfl,hb6,L4.thenOnly ho6⟩
 ·have hT:=hid (show Qeh K r bs=bs.take 32++xorB (bs.drop 32) (chaS (xorB K (bs.take 32)) (n-32)) by rw[Qeh,if_neg hr,hbl])
  have hr':r=1∨r=3:=by omega
  clear hr
  have hxl:(xorB K (bs.take 32)).length=32:=by rw[Qa0 (by omega),htl]
  have hSt:=hid (fun A c w h=>QjN A c (n-32) (xorB K (bs.take 32)) w h (by omega))
  generalize Qeh K r bs=TB at *
  generalize hXe:xorB K (bs.take 32)=X at *
  replace hXe:=hid hXe
  generalize chaS X (n-32)=ST at *
  rcases hr' with rfl|rfl
  all_goals
   go_enter Tryz.func133,Tryz.ntmps133
   go_wp2_with fail
   have B1:=(Qba w 30 (K.map W8)).drew
   generalize w.alloc (.cells (K.map W8).toArray 30)=w1 at *
   refine Qag [] [0,1,2,3,4,5] [] (by as_aux_lemma=>kernel_rfl) (by as_aux_lemma=>kernel_rfl) (by intro _ _ d _ _ h;cases d<;>exact h) ?_
   simp only[Qai,pick,QCD,QCE,QCF,QCJ,QCI]
   repeat (go_big_quiet_step (fail))
   refine wpQuiet_nil ?_
   go_wp2_with fail
   have hb1:=hb.later B1.lat
   have hgl:=hb.lt
   have hk1:=B1.nth 0 rfl
   (refine (hm1.out w.heap.size 0 32 _ _ _ _ [] [] K (bs.take 32) _ (by rw[QCI,QDg];exact hk1) rfl hK ((Qfr hb1 hbl).take h32) (fun _ ad e=>by cases e;show g≠w.heap.size;omega) (by omega)).mono ?_);rintro e w5 ⟨rfl,hk2,ho2⟩
   rw[QCI,QDg,hXe.out]at hk2
   have B2:=B1.write 0 rfl ho2 hk2
   have hb2:=hb.later B2.lat
   go_wp2_with fail
   (refine (hSt.out _ _ _ (Qj7 hk2 hxl)).mono ?_);rintro e w6 ⟨A6,c6,rfl,hown6,j6⟩
   go_wp2_with fail
   have hgs:=B2.lat.size
   (refine (hm2.out _ _ _ ST _ (hb2.later j6) hown6.rd (fun _ ad e=>by subst e;have:=(hown6.lt ad.block rfl).1;omega)).mono ?_);rintro e w7 ⟨rfl,hb7,ho7⟩
   rw[←hT.out]at hb7
   go_wp2_with fail
   exact bodyPost_end (results_none rfl _ _ _) rfl ⟨rfl,hb7,(B2.lat.trans j6).thenOnly ho7⟩
abbrev lab1:ByteArray:=⟨#[119,105,100,101,49]⟩
abbrev lab2:ByteArray:=⟨#[119,105,100,101,50]⟩
abbrev lab3:ByteArray:=⟨#[119,105,100,101,51]⟩
abbrev lab4:ByteArray:=⟨#[119,105,100,101,52]⟩
def labW (r:Int):ByteArray:=if r=1 then lab1 else if r=2 then lab2 else if r=3 then lab3 else lab4
def okR (rs:List Int):Prop:=∀r∈rs,1≤r∧r≤4
instance (rs:List Int):Decidable (okR rs):=by unfold okR;infer_instance
def fitW (key bs:List UInt8):Prop:=key.length=32∧32≤bs.length∧bs.length≤4096
instance (key bs:List UInt8):Decidable (fitW key bs):=by unfold fitW;infer_instance
def Qdx (key:List UInt8) (rs:List Int) (bs:List UInt8):List UInt8:=rs.foldl (fun b r=>Qeh (derB key (labW r)) r.toNat b) bs
theorem QcK (key:List UInt8):∀(rs:List Int) (bs:List UInt8),32≤bs.length→(Qdx key rs bs).length=bs.length
 | [],_,_=>rfl
 | r :: rs,bs,h=>by
   show (Qdx key rs (Qeh _ _ bs)).length=_
   have:=Qe4 (derB key (labW r)) r.toNat bs h
   rw[QcK key rs _ (by omega),this]
theorem Qha (key:List UInt8) (rs rs':List Int) (bs:List UInt8):Qdx key (rs++rs') bs=Qdx key rs' (Qdx key rs bs):=by rw[Qdx,List.foldl_append];rfl
theorem Qjf (key:List UInt8):∀(rs:List Int) (bs:List UInt8),32≤bs.length→Qdx key rs.reverse (Qdx key rs bs)=bs
 | [],_,_=>rfl
 | r :: rs,bs,h=>by
   have hl:=Qe4 (derB key (labW r)) r.toNat bs h
   rw[List.reverse_cons,Qha]
   show Qdx key [r] (Qdx key rs.reverse (Qdx key rs (Qeh (derB key (labW r)) r.toNat bs)))=bs
   rw[Qjf key rs _ (by omega)]
   exact Qnj _ _ _ h
def QeZ (key bs:List UInt8) (rs:List Int):Nat:=if okR rs then (if fitW key bs then 0 else 2) else 1
def Qc2 (key bs:List UInt8) (rs:List Int):List UInt8:=if okR rs then (if fitW key bs then Qdx key rs bs else []) else []
theorem QgB (B:Option Addr) (m d:Nat) (w:World):
 Calls Tryz.prog 99 #[.slice B m d] w fun e w'=>e= .returned (.bool (decide (32≤m∧m≤4096)))∧w'=w:=by
 by_cases h1:32≤m
 ·by_cases h2:m≤4096
  ·have e1:(32:Int)≤(m:Int):=by omega
   have e2:(m:Int)≤4096:=by omega
   rw[decide_eq_true (show 32≤m∧m≤4096 from ⟨h1,h2⟩)]
   go_enter Tryz.func99,Tryz.ntmps99
   go_wp2
   go_ret
   exact⟨rfl,rfl⟩
  ·have e1:(32:Int)≤(m:Int):=by omega
   have e2: ¬(m:Int)≤4096:=by omega
   rw[decide_eq_false (show ¬(32≤m∧m≤4096) from fun h=>h2 h.2)]
   go_enter Tryz.func99,Tryz.ntmps99
   go_wp2
   go_ret
   exact⟨rfl,rfl⟩
 ·have e1: ¬(32:Int)≤(m:Int):=by omega
  rw[decide_eq_false (show ¬(32≤m∧m≤4096) from fun h=>h1 h.1)]
  go_enter Tryz.func99,Tryz.ntmps99
  go_wp2
  go_ret
  exact⟨rfl,rfl⟩
theorem Qrm (A B:Option Addr) (n c m d:Nat) (w:World):
 Calls Tryz.prog 132 #[.slice A n c,.slice B m d] w fun e w'=>e= .returned (.bool (decide (n=32∧32≤m∧m≤4096)))∧w'=w:=by
 have hf:=hid (QgB B m d)
 by_cases h0:n=32
 ·subst h0
  rw[show decide (32=32∧32≤m∧m≤4096)=decide (32≤m∧m≤4096) by simp]
  go_enter Tryz.func132,Tryz.ntmps132
  go_wp2_with fail
  (with_reducible refine (hf.out _).mono ?_);rintro e w1 ⟨rfl,rfl⟩
  go_wp2_with fail
  go_ret
  exact⟨by simp,rfl⟩
 ·have e1:((n:Int)==32)=false:=by simp;omega
  rw[decide_eq_false (show ¬(n=32∧32≤m∧m≤4096) from fun h=>h0 h.1)]
  go_enter Tryz.func132,Tryz.ntmps132
  go_wp2_with fail
  go_ret
  exact⟨by simp,rfl⟩
theorem QsO {key bs:List UInt8} {rs:List Int} (h: ¬okR rs):Qc2 key bs rs=[]:=by rw[Qc2,if_neg h]
theorem Qq2 {key bs:List UInt8} {rs:List Int} (h: ¬okR rs):QeZ key bs rs=1:=by rw[QeZ,if_neg h]
theorem QmL {key bs:List UInt8} {rs:List Int} (h:okR rs) (h2: ¬fitW key bs):Qc2 key bs rs=[]:=by rw[Qc2,if_pos h,if_neg h2]
theorem QmC {key bs:List UInt8} {rs:List Int} (h:okR rs) (h2: ¬fitW key bs):QeZ key bs rs=2:=by rw[QeZ,if_pos h,if_neg h2]
theorem Qet {key bs:List UInt8} {rs:List Int} (h:okR rs) (h2:fitW key bs):Qc2 key bs rs=Qdx key rs bs:=by rw[Qc2,if_pos h,if_pos h2]
theorem Qfd {key bs:List UInt8} {rs:List Int} (h:okR rs) (h2:fitW key bs):QeZ key bs rs=0:=by rw[QeZ,if_pos h,if_pos h2]
def intV (r:Int):Value:=.int .i64 r
theorem QzP {w:World} {C:Option Addr} {k:Nat} {rs:List Int} (h:Rd w C k (rs.map intV)) {j:Nat} (hj:j<k):∃b o,C=some ⟨b,o,none⟩∧b<w.heap.size∧∀w',Later w w'→w'.cell? ⟨b,o+j,none⟩=some (.int .i64 (rs.getD j 0)):=by
 have hl:rs.length=k:=by have:=h.1;rwa [QCG]at this
 obtain⟨b,o,e,hb,hc⟩:=h.2 (by omega)
 refine⟨b,o,e,hb,fun w' hl'=>(hl'.below.cell (p:=⟨b,o+j,none⟩) hb).trans (hc j _ ?_)⟩
 rw[QCY,QCH (show j<rs.length by omega),QCK,QCH (show j<rs.length by omega)]
 rfl
theorem QpE (key:List UInt8) (rs:List Int) (bs:List UInt8) (j:Nat) (h:j<rs.length):Qdx key (rs.take (j+1)) bs=Qeh (derB key (labW (rs.getD j 0))) (rs.getD j 0).toNat (Qdx key (rs.take j) bs):=by
 rw[QDd h,Qha,QCK,QCH h]
 rfl
def Qpl (s:List UInt8):List UInt8:=Qds s [lab1,lab2,lab3,lab4] 4
theorem QrW (s:List UInt8) (r:Int) (h1:1≤r) (h4:r≤4):(Qpl s).drop ((r.toNat-1)*32)=derB s (labW r)++((Qpl s).drop ((r.toNat-1)*32)).drop 32:=by
 have l1:=QaF s lab1
 have l2:=QaF s lab2
 have l3:=QaF s lab3
 have l4:=QaF s lab4
 have e:Qpl s=derB s lab1++(derB s lab2++(derB s lab3++derB s lab4)):=by simp[Qpl,Qds]
 have hr:r=1∨r=2∨r=3∨r=4:=by omega
 rw[e]
 generalize hd1:derB s lab1=d1 at *
 generalize hd2:derB s lab2=d2 at *
 generalize hd3:derB s lab3=d3 at *
 generalize hd4:derB s lab4=d4 at *
 rcases hr with rfl|rfl|rfl|rfl
 ·show (d1++_).drop 0=derB s lab1++((d1++_).drop 0).drop 32
  rw[hd1,QD8,QDp l1]
 ·show (d1++_).drop 32=derB s lab2++((d1++_).drop 32).drop 32
  rw[hd2,QDp l1,QDp l2]
 ·show (d1++_).drop 64=derB s lab3++((d1++_).drop 64).drop 32
  rw[hd3,show (64:Nat)=32+32 from rfl,←QD5,QDp l1,QDp l2,QDp l3]
 ·show (d1++_).drop 96=derB s lab4++((d1++_).drop 96).drop 32
  rw[hd4,show (96:Nat)=32+(32+32) from rfl,←QD5,←QD5,QDp l1,QDp l2,QDp l3]
  have:d4.drop 32=[]:=QEn (by omega)
  rw[this,QDg]
theorem QtS {w:World} {base n c:Nat} {A:Option Addr} {bs:List UInt8} (h:OwnB w base A n c bs):c≤maxLen:=by
 rcases h.2 with ⟨hv,_⟩|⟨g2,cap,cur,hv,_,_,_,hm,_⟩
 ·cases hv
  exact Nat.zero_le _
 ·cases hv
  exact hm
theorem QxG (g n c:Nat) (K bs:List UInt8) (r:Nat) (i:Int) (hi:i=(r:Int)) (rest:List Value) (w:World) (hb:Blk w g 5 (bs.map W8++rest)) (hbl:bs.length=n) (h32:32≤n) (hn:n≤4096) (hc:n≤c) (hK:K.length=32) (h1:1≤r) (h4:r≤4):
 Calls Tryz.prog 133 #[.slice (some ⟨g,0,none⟩) n c,.agg (K.map W8).toArray,.int .i64 i] w fun e w'=>e= .returned (.tuple #[])∧Blk w' g 5 ((Qeh K r bs).map W8++rest)∧Only g w w':=by
 subst hi
 exact Quq g n c K bs r rest w hb hbl h32 hn hc hK h1 h4
theorem Qu9 {w:World} {g:Nat} {t:TypeId} {ks:List UInt8} (h:Blk w g t (ks.map W8)) {q:Nat} {K r:List UInt8} (hd:ks.drop (q*32)=K++r) {j:Nat} {v:Value} (hv:(K.map W8)[j]?=some v):w.cell? ⟨g,q*32+j,none⟩=some v:=by
 refine h.cellD _ ?_
 rw[QCY,QEb]at hv ⊢
 obtain⟨x,hx,rfl⟩:=hv
 refine⟨x,?_,rfl⟩
 rw[←QDN,hd,QC0 (QCX.1 hx).1]
 exact hx
set_option maxRecDepth 100000 in
set_option maxHeartbeats 8000000 in
theorem QiJ (A B C:Option Addr) (n c m d k e0:Nat) (key bs:List UInt8) (rs:List Int) (w:World) (hk:RdB w A n key) (hc:n≤c) (hb:RdB w B m bs) (hd:m≤d) (hr:Rd w C k (rs.map intV)) (hn:n≤2097152) (hm:m≤2097152) (hk2:k≤2097152):
 Calls Tryz.prog 100 #[.slice A n c,.slice B m d,.slice C k e0] w fun e w'=>Later w w'∧∃A' c',e= .returned (.tuple #[.slice A' (Qc2 key bs rs).length c',.int .i64 (QeZ key bs rs:Nat)])∧OwnB w' w.heap.size A' (Qc2 key bs rs).length c' (Qc2 key bs rs):=by
 have hkl:=hk.len
 have hbl:=hb.len
 have hrl:rs.length=k:=by have:=hr.1;rwa [QCG]at this
 have hbad:=hid (fun h=>And.intro (@QsO key bs rs h) (@Qq2 key bs rs h))
 have hunf:=hid (fun h h2=>And.intro (@QmL key bs rs h h2) (@QmC key bs rs h h2))
 have hfit:=hid (fun h h2=>And.intro (@Qet key bs rs h h2) (@Qfd key bs rs h h2))
 have hat:=hid (fun j (hj:j<k)=>QzP hr hj)
 have hff:=hid (Qrm A B n c m d)
 generalize Qc2 key bs rs=WB at *
 generalize QeZ key bs rs=WE at *
 go_enter Tryz.func100,Tryz.ntmps100
 go_wp2_with fail
 go_loopw [16] (fun i wr=>∃j:Nat,j≤k∧i= .int .i64 j∧wr=w∧Hid (∀ t,t<j→1≤rs.getD t 0∧rs.getD t 0≤4)) (fun i _=>k-(intOf i).toNat)
 case atStart=>exact⟨0,by omega,rfl,rfl,hid (fun t h=>by omega)⟩
 case round=>
  obtain⟨j,hj,rfl,rfl,hall⟩:=hrel
  by_cases hlt:j<k
  ·obtain⟨b,o,rfl,hbb,hcell⟩:=hat.out j hlt
   have c1:=hcell wr (Later.refl _)
   clear hcell
   have hmem:rs.getD j 0∈rs:=by rw[QCK,QCH (show j<rs.length by omega)];exact QDS _
   have hbd: ¬(1≤rs.getD j 0∧rs.getD j 0≤4)→Hid (WB=[]∧WE=1):=fun h=>hid (hbad.out (fun hok=>h (hok _ hmem)))
   have hst:1≤rs.getD j 0→rs.getD j 0≤4→Hid (∀ t,t<j+1→1≤rs.getD t 0∧rs.getD t 0≤4):=fun h1 h2=>hid (fun t ht=>by
    by_cases e:t=j
    ·subst e;exact⟨h1,h2⟩
    ·exact hall.out t (by omega))
   clear hmem
   generalize rs.getD j 0=r at *
   by_cases h1:r<1
   ·have hB:=hbd (by omega)
    clear hbd hst
    go_wp2_with fail
    go_ret2
    refine⟨Later.refl _,none,0,?_,?_⟩
    ·rw[hB.out.1,hB.out.2];rfl
    ·rw[hB.out.1];exact Qcn _ _ _
   ·by_cases h2:4<r
    ·have hB:=hbd (by omega)
     clear hbd hst
     go_wp2_with fail
     go_ret2
     refine⟨Later.refl _,none,0,?_,?_⟩
     ·rw[hB.out.1,hB.out.2];rfl
     ·rw[hB.out.1];exact Qcn _ _ _
    ·have hS:=hst (by omega) (by omega)
     clear hbd hst
     go_wp2_with fail
     go_roundw
     case rel=>exact⟨j+1,by omega,by go_num,trivial,hS⟩
     case measure=>simp[intOf];omega
  ·obtain rfl:k=j:=by omega
   have hok:okR rs:=fun r hr'=>by
    obtain⟨t,ht⟩:=List.getElem?_of_mem hr'
    have htl:=(QCX.1 ht).1
    have:=hall.out t (by omega)
    rwa [QCK,ht]at this
   clear hbad
   go_wp2_with fail
   (with_reducible refine (hff.out _).mono ?_);rintro e w1 ⟨rfl,rfl⟩
   by_cases hf:n=32∧32≤m∧m≤4096
   ·rw[decide_eq_true hf]
    have hF:=hid (hfit.out hok ⟨by rw[hkl];exact hf.1,by rw[hbl];exact hf.2⟩)
    obtain⟨rfl,hm32,hm4⟩:=hf
    clear hunf hfit
    have hDe:=hid (fun B d w h1 h2=>Qjx A B 32 c 4 d key [lab1,lab2,lab3,lab4] w h1 hc (by omega) h2 (by omega) (by omega) (by intro x hx;simp only[QCV,QCW,or_false]at hx;rcases hx with rfl|rfl|rfl|rfl<;>decide))
    have hKW:=hid (fun r h1 h4=>QrW key r h1 h4)
    have hFt:=hid (fun j h=>QpE key rs bs j h)
    have hFl:=hid (fun rs=>QcK key rs bs (by omega))
    have hDl:=hid (fun r=>QaF key (labW r))
    have hTu:=hid QxG
    have hCj:=hid (fun A c w h=>QcW A 1 c [bs] w h (by omega) (by rw[QbL];omega))
    rw[QbL,hbl]at hCj
    rw[show Qds key [lab1,lab2,lab3,lab4] 4=Qpl key from rfl]at hDe
    have hF0:=hid (show Qdx key (rs.take 0) bs=bs from rfl)
    go_wp2_with fail
    have J1:=Qaa w1 (.cells #[.string lab1,.string lab2,.string lab3,.string lab4] 9)
    have hst:Strs (w1.alloc (.cells #[.string lab1,.string lab2,.string lab3,.string lab4] 9)) (some ⟨w1.heap.size,0,none⟩) 4 [lab1,lab2,lab3,lab4]:=(Blk.new w1 9 [.string lab1,.string lab2,.string lab3,.string lab4]).rd rfl
    (refine (hDe.out _ _ _ (hk.later J1) hst).mono ?_);rintro e w2 ⟨gK,rfl,hgK,hbK,j2⟩
    go_wp2_with fail
    have J2:=(J1.trans j2).trans (Qaa w2 (.cells #[.slice B m d] 22))
    have hpp:=QgN (Blk.new w2 22 [.slice B m d]) (QdN (hb.later J2) hd)
    (with_reducible refine (hCj.out _ _ _ hpp).mono ?_);rintro e w3 ⟨A3,c3,rfl,hown3,j3⟩
    have L3:=J2.trans j3
    have hbK3:=hbK.later ((Qaa w2 (.cells #[.slice B m d] 22)).trans j3)
    have hgKw:w1.heap.size≤gK:=QDk J1.size hgK
    replace hown3:=hown3.mono J2.size
    have hmx:=QtS hown3
    obtain⟨gO,rest,rfl,hgO,hbO,hcO,hcc⟩:=Qj8 hown3 (by omega)
    replace hcO:=hid hcO
    clear J1 hst j2 J2 hpp j3 hown3 hbK hgK
    go_wp2_with fail
    have hgl:=hbO.lt
    go_loopw [39] (fun i wr=>∃j:Nat,j≤k∧i= .int .i64 j∧Blk wr gO 5 ((Qdx key (rs.take j) bs).map W8++rest)∧Blk wr gK 30 ((Qpl key).map W8)∧Later w1 wr) (fun i _=>k-(intOf i).toNat)
    case atStart=>exact⟨0,by omega,rfl,by rw[hF0.out];exact hbO,hbK3,L3⟩
    case round=>
     clear hbO hbK3 L3 hgl
     obtain⟨j,hj,rfl,hbO,hbK,L⟩:=hrel
     by_cases hlt:j<k
     ·obtain⟨b,o,rfl,hbb,hcell⟩:=hat.out j hlt
      have c1:=hcell wr L
      have hrr:=hall.out j hlt
      have HF:=hid (hFt.out j (by omega))
      have hFlj:=hFl.out (rs.take j)
      have hKr:=hKW.out _ hrr.1 hrr.2
      have hDlr:=hDl.out (rs.getD j 0)
      clear hcell
      generalize rs.getD j 0=r at *
      obtain⟨q,rfl⟩:∃q:Nat,r=(q:Int)+1:=⟨(r-1).toNat,by omega⟩
      have hq4:q<4:=by omega
      have hqn:((q:Int)+1).toNat=q+1:=by omega
      rw[hqn]at HF hKr
      rw[Nat.add_sub_cancel]at hKr
      generalize derB key (labW ((q:Int)+1))=Kr at *
      generalize Qdx key (rs.take j) bs=F at *
      replace hKr:=hid hKr
      clear hqn hrr
      go_wp2_with (first
       | (refine QaG rfl 30 _ rfl gK (q*32) (Kr.map W8) ?hc ?hx _ Tryz.underlying30 rfl ?hi ?_;(case hx=>rfl);(case hi=>rw[QCG,hDlr];exact QrB);(case hc=>intro j v hv;exact Qu9 hbK hKr.out hv))
       | fail)
      (refine (hTu.out gO m c3 Kr F (q+1) _ (by omega) rest _ hbO (by omega) hm32 hm4 hcc hDlr (by omega) (by omega)).mono ?_);rintro e w5 ⟨rfl,hb5,ho5⟩
      go_wp2_with fail
      go_roundw
      case rel=>exact⟨j+1,by omega,by go_num,by rw[HF.out];exact hb5,hbK.only ho5 (hbK.ne_type hbO (by decide)),L.only ho5 hgO⟩
      case measure=>simp[intOf];omega
     ·obtain rfl:k=j:=by omega
      rw[QCT (by omega)]at hbO
      have hFl':=hFl.out rs
      rw[←hF.out.1]at hbO hFl'
      have hcw:c3=(WB.map W8++rest).length:=by
       rw[hcO.out,QCM,QCM,QCG,QCG]
       omega
      have hWl:WB.length=m:=by omega
      have hWE:=hF.out.2
      have hown:=QvG hbO hgO (by rw[←hcw];exact hmx)
      rw[←hcw,QCG,hWl]at hown
      go_wp2_with fail
      go_ret2
      exact⟨L,_,_,by rw[hWl,hWE];rfl,by rw[hWl];exact hown⟩
   ·rw[decide_eq_false hf]
    have hB:=hid (hunf.out hok (fun h=>hf ⟨by rw[←hkl];exact h.1,by rw[←hbl];exact h.2⟩))
    clear hunf hfit
    go_wp2_with fail
    go_ret2
    refine⟨Later.refl _,none,0,?_,?_⟩
    ·rw[hB.out.1,hB.out.2];rfl
    ·rw[hB.out.1];exact Qcn _ _ _
def rsS:List Int:=[1,2,3,4]
def rsO:List Int:=[4,3,2,1]
theorem okS:okR rsS:=by decide
theorem okO:okR rsO:=by decide
theorem QpQ {key bs:List UInt8} {rs:List Int} (h:QeZ key bs rs=0):okR rs∧fitW key bs:=by
 unfold QeZ at h
 split at h
 ·split at h
  ·exact⟨by assumption,by assumption⟩
  ·cases h
 ·cases h
theorem QlE {key bs:List UInt8} {rs:List Int} (h:QeZ key bs rs=0):(Qc2 key bs rs).length=bs.length∧QeZ key (Qc2 key bs rs) rs.reverse=0∧Qc2 key (Qc2 key bs rs) rs.reverse=bs:=by
 obtain⟨hok,hf⟩:=QpQ h
 have hl:=QcK key rs bs hf.2.1
 have hok':okR rs.reverse:=fun r hr=>hok r (List.mem_reverse.1 hr)
 have hf':fitW key (Qdx key rs bs):=⟨hf.1,by rw[hl];exact hf.2.1,by rw[hl];exact hf.2.2⟩
 rw[Qet hok hf]
 exact⟨hl,Qfd hok' hf',by rw[Qet hok' hf',Qjf key rs bs hf.2.1]⟩
set_option maxHeartbeats 1000000 in
theorem Qsq (A B:Option Addr) (n c m d:Nat) (key bs:List UInt8) (w:World) (hk:RdB w A n key) (hc:n≤c) (hb:RdB w B m bs) (hd:m≤d) (hn:n≤2097152) (hm:m≤2097152):
 Calls Tryz.prog 78 #[.slice A n c,.slice B m d] w fun e w'=>Later w w'∧∃A' c',e= .returned (.tuple #[.slice A' (Qc2 key bs rsS).length c',.int .i64 (QeZ key bs rsS:Nat)])∧OwnB w' w.heap.size A' (Qc2 key bs rsS).length c' (Qc2 key bs rsS):=by
 have h:=hid (fun C e0 w hk hb hr=>QiJ A B C n c m d 4 e0 key bs rsS w hk hc hb hd hr hn hm (by omega))
 generalize Qc2 key bs rsS=X at *
 generalize QeZ key bs rsS=E at *
 go_enter Tryz.func78,Tryz.ntmps78
 go_wp2_with fail
 have J:=Qaa w (.cells #[.int .i64 1,.int .i64 2,.int .i64 3,.int .i64 4] 3)
 (refine (h.out _ _ _ (hk.later J) (hb.later J) ((Blk.new w 3 [.int .i64 1,.int .i64 2,.int .i64 3,.int .i64 4]).rd rfl)).mono ?_);rintro e w1 ⟨j1,A1,c1,rfl,ho1⟩
 go_wp2_with fail
 go_ret2
 exact⟨J.trans j1,A1,c1,rfl,ho1.mono J.size⟩
set_option maxHeartbeats 1000000 in
theorem Qrt (A B:Option Addr) (n c m d:Nat) (key bs:List UInt8) (w:World) (hk:RdB w A n key) (hc:n≤c) (hb:RdB w B m bs) (hd:m≤d) (hn:n≤2097152) (hm:m≤2097152):
 Calls Tryz.prog 63 #[.slice A n c,.slice B m d] w fun e w'=>Later w w'∧∃A' c',e= .returned (.tuple #[.slice A' (Qc2 key bs rsO).length c',.int .i64 (QeZ key bs rsO:Nat)])∧OwnB w' w.heap.size A' (Qc2 key bs rsO).length c' (Qc2 key bs rsO):=by
 have h:=hid (fun C e0 w hk hb hr=>QiJ A B C n c m d 4 e0 key bs rsO w hk hc hb hd hr hn hm (by omega))
 generalize Qc2 key bs rsO=X at *
 generalize QeZ key bs rsO=E at *
 go_enter Tryz.func63,Tryz.ntmps63
 go_wp2_with fail
 have J:=Qaa w (.cells #[.int .i64 4,.int .i64 3,.int .i64 2,.int .i64 1] 3)
 (refine (h.out _ _ _ (hk.later J) (hb.later J) ((Blk.new w 3 [.int .i64 4,.int .i64 3,.int .i64 2,.int .i64 1]).rd rfl)).mono ?_);rintro e w1 ⟨j1,A1,c1,rfl,ho1⟩
 go_wp2_with fail
 go_ret2
 exact⟨J.trans j1,A1,c1,rfl,ho1.mono J.size⟩
def QlO (bs:List UInt8):Prop:=32≤bs.length∧bs.length≤4096
instance (bs:List UInt8):Decidable (QlO bs):=by unfold QlO;infer_instance
def okK (ks:List (List UInt8)):Prop:=∀p∈ks,p.length=32
instance (ks:List (List UInt8)):Decidable (okK ks):=by unfold okK;infer_instance
def Qf1 (rs:List Int) (ks:List (List UInt8)) (bs:List UInt8):List UInt8:=ks.foldl (fun b p=>Qdx p rs b) bs
theorem Qhj (rs:List Int):∀(ks:List (List UInt8)) (bs:List UInt8),32≤bs.length→(Qf1 rs ks bs).length=bs.length
 | [],_,_=>rfl
 | p :: ks,bs,h=>by
   show (Qf1 rs ks (Qdx p rs bs)).length=_
   have:=QcK p rs bs h
   rw[Qhj rs ks _ (by omega),this]
theorem Qhb (rs:List Int) (ks ks':List (List UInt8)) (bs:List UInt8):Qf1 rs (ks++ks') bs=Qf1 rs ks' (Qf1 rs ks bs):=by rw[Qf1,List.foldl_append];rfl
theorem QpL (rs:List Int) (ks:List (List UInt8)) (bs:List UInt8) (j:Nat) (h:j<ks.length):Qf1 rs (ks.take (j+1)) bs=Qdx (ks.getD j []) rs (Qf1 rs (ks.take j) bs):=by
 rw[QDd h,Qhb,QCK,QCH h]
 rfl
def allE (ks:List (List UInt8)) (bs:List UInt8):Nat:=if QlO bs∧okK ks then 0 else 2
def allB (rs:List Int) (ks:List (List UInt8)) (bs:List UInt8):List UInt8:=if QlO bs∧okK ks then Qf1 rs ks bs else []
theorem Qyr {rs:List Int} {ks:List (List UInt8)} {bs:List UInt8} (h: ¬(QlO bs∧okK ks)):allB rs ks bs=[]∧allE ks bs=2:=⟨by rw[allB,if_neg h],by rw[allE,if_neg h]⟩
theorem Qty {rs:List Int} {ks:List (List UInt8)} {bs:List UInt8} (h:QlO bs∧okK ks):allB rs ks bs=Qf1 rs ks bs∧allE ks bs=0:=⟨by rw[allB,if_pos h],by rw[allE,if_pos h]⟩
theorem QsS {rs:List Int} (hok:okR rs) {p X:List UInt8} (hp:p.length=32) (h1:32≤X.length) (h2:X.length≤4096):QeZ p X rs=0∧Qc2 p X rs=Qdx p rs X:=⟨Qfd hok ⟨hp,h1,h2⟩,Qet hok ⟨hp,h1,h2⟩⟩
set_option maxRecDepth 100000 in
set_option maxHeartbeats 4000000 in
theorem Qut (A B:Option Addr) (m d k e0:Nat) (ks:List (List UInt8)) (bs:List UInt8) (w:World) (hb:RdB w B m bs) (hd:m≤d) (hp:Parts w (fun _=>False) A k ks) (hm:m≤2097152) (hk:k≤2097152):
 Calls Tryz.prog 62 #[.func (.func 78) #[] #[],.slice B m d,.slice A k e0] w fun e w'=>Later w w'∧∃A' c',e= .returned (.tuple #[.slice A' (allB rsS ks bs).length c',.int .i64 (allE ks bs:Nat)])∧OwnB w' w.heap.size A' (allB rsS ks bs).length c' (allB rsS ks bs):=by
 have hbl:=hb.len
 have hkl:=hp.len
 have hbad:=hid (fun h=> @Qyr rsS ks bs h)
 have hfit:=hid (fun h=> @Qty rsS ks bs h)
 have hfB:=hid (QgB B m d)
 have hone:=hid (fun (A B:Option Addr) (c m d:Nat) (p X:List UInt8) (w:World) h1 hc h2 hd hm=>Qsq A B 32 c m d p X w h1 hc h2 hd (by omega) hm)
 have hok:=hid (fun (p X:List UInt8) h h1 h2=> @QsS rsS okS p X h h1 h2)
 have hFt:=hid (fun j h=>QpL rsS ks bs j h)
 have hFl:=hid (fun ks h=>Qhj rsS ks bs h)
 have hF0:=hid (show Qf1 rsS (ks.take 0) bs=bs from rfl)
 have hCj:=hid (fun A c w h=>QcW A 1 c [bs] w h (by omega) (by rw[QbL];omega))
 rw[QbL,hbl]at hCj
 generalize allB rsS ks bs=WB at *
 generalize allE ks bs=WE at *
 go_enter Tryz.func62,Tryz.ntmps62
 go_wp2_with fail
 (with_reducible refine (hfB.out _).mono ?_);rintro e w1 ⟨rfl,rfl⟩
 by_cases hf:32≤m∧m≤4096
 ·rw[decide_eq_true hf]
  go_wp2_with fail
  go_loopw [20] (fun i wr=>∃j:Nat,j≤k∧i= .int .i64 j∧wr=w1∧Hid (∀ t,t<j→(ks.getD t []).length=32)) (fun i _=>k-(intOf i).toNat)
  case atStart=>exact⟨0,by omega,rfl,rfl,hid (fun t h=>by omega)⟩
  case round=>
   obtain⟨j,hj,rfl,rfl,hall⟩:=hrel
   by_cases hlt:j<k
   ·obtain⟨b,o,Ak,nk,ck,rfl,hbb,hck,hcap,hrd,_⟩:=hp.at_ hlt
    have hlen:=hrd.len
    by_cases h32:nk=32
    ·have hS:Hid (∀ t,t<j+1→(ks.getD t []).length=32):=hid (fun t ht=>by
      by_cases e:t=j
      ·rw[e,hlen,h32]
      ·exact hall.out t (by omega))
     have hI:((nk:Int) != 32)=false:=by simp;omega
     clear hlen hrd hcap
     replace h32:=hid h32
     go_wp2_with fail
     go_roundw
     case rel=>exact⟨j+1,by omega,by go_num,trivial,hS⟩
     case measure=>simp[intOf];omega
    ·have hB:=hid (hbad.out (fun h=>h32 (by rw[←hlen];exact h.2 _ (QdL ks j (by omega)))))
     have hI:((nk:Int) != 32)=true:=by simp;omega
     go_wp2_with fail
     go_ret2
     refine⟨Later.refl _,none,0,?_,?_⟩
     ·rw[hB.out.1,hB.out.2];rfl
     ·rw[hB.out.1];exact Qcn _ _ _
   ·obtain rfl:k=j:=by omega
    have hF:=hid (hfit.out ⟨by rw[QlO,hbl];exact hf,fun p hp'=>by
     obtain⟨t,ht⟩:=List.getElem?_of_mem hp'
     have htl:=(QCX.1 ht).1
     have:=hall.out t (by omega)
     rwa [QCK,ht]at this⟩)
    clear hbad hfit
    go_wp2_with fail
    have J2:=Qaa wr (.cells #[.slice B m d] 22)
    have hpp:=QgN (Blk.new wr 22 [.slice B m d]) (QdN (hb.later J2) hd)
    (with_reducible refine (hCj.out _ _ _ hpp).mono ?_);rintro e w3 ⟨A3,c3,rfl,hown3,j3⟩
    have L3:=J2.trans j3
    replace hown3:=hown3.mono J2.size
    go_wp2_with fail
    go_loopw [10,33] (fun v i wr'=>∃(j:Nat) (A':Option Addr) (c':Nat),j≤k∧i= .int .i64 j∧v= .slice A' m c'∧OwnB wr' wr.heap.size A' m c' (Qf1 rsS (ks.take j) bs)∧Later wr wr') (fun _ i _=>k-(intOf i).toNat)
    case atStart=>exact⟨0,A3,c3,by omega,rfl,rfl,by rw[hF0.out];exact hown3,L3⟩
    case round=>
     clear hown3 L3 hpp J2 j3
     rename_i _ _ wz
     obtain⟨j,A4,c4,hj,rfl,rfl,hown,L⟩:=hrel
     by_cases hlt:j<k
     ·obtain⟨b,o,Ak,nk,ck,rfl,hbb,hck,hcap,hrd,_⟩:=(hp.later L).at_ hlt
      have hlen:=hrd.len
      have h32:=hall.out j hlt
      rw[h32]at hlen
      subst hlen
      have HF:=hid (hFt.out j (by omega))
      have hXl:=hown.len
      generalize ks.getD j []=p at *
      generalize Qf1 rsS (ks.take j) bs=X at *
      have hk:=hid (hok.out p X h32 (by omega) (by omega))
      go_wp2_with fail
      (with_reducible refine (hone.out Ak A4 ck m c4 p X _ hrd hcap hown.rd hown.cap (by omega)).mono ?_);rintro e w5 ⟨j5,A5,c5,rfl,ho5⟩
      rw[hk.out.1,hk.out.2,←HF.out]
      rw[hk.out.2,←HF.out]at ho5
      have hl5:=hFl.out (ks.take (j+1)) (by omega)
      rw[hbl]at hl5
      rw[hl5]at ho5 ⊢
      go_wp2_with fail
      go_roundw
      case rel=>exact⟨j+1,A5,c5,by omega,by go_num,rfl,ho5.mono L.size,L.trans j5⟩
      case measure=>simp[intOf];omega
     ·obtain rfl:k=j:=by omega
      have eT:ks.take k=ks:=QCT (by omega)
      have hl5:=hFl.out ks (by omega)
      rw[eT,←hF.out.1]at hown
      rw[←hF.out.1,hbl]at hl5
      have hWE:=hF.out.2
      go_wp2_with fail
      go_ret2
      exact⟨L,A4,c4,by rw[hl5,hWE];rfl,by rw[hl5];exact hown⟩
 ·rw[decide_eq_false hf]
  have hB:=hid (hbad.out (fun h=>hf (by rw[←hbl];exact h.1)))
  go_wp2_with fail
  go_ret2
  refine⟨Later.refl _,none,0,?_,?_⟩
  ·rw[hB.out.1,hB.out.2];rfl
  ·rw[hB.out.1];exact Qcn _ _ _
theorem QmB (A B:Option Addr) (m d k e0:Nat) (ks:List (List UInt8)) (bs:List UInt8) (w:World) (hb:RdB w B m bs) (hd:m≤d) (hp:Parts w (fun _=>False) A k ks) (hm:m≤2097152) (hk:k≤2097152):
 Calls Tryz.prog 91 #[.slice B m d,.slice A k e0] w fun e w'=>Later w w'∧∃A' c',e= .returned (.tuple #[.slice A' (allB rsS ks bs).length c',.int .i64 (allE ks bs:Nat)])∧OwnB w' w.heap.size A' (allB rsS ks bs).length c' (allB rsS ks bs):=by
 have h:=hid (Qut A B m d k e0 ks bs w hb hd hp hm hk)
 generalize allB rsS ks bs=X at *
 generalize allE ks bs=E at *
 go_enter Tryz.func91,Tryz.ntmps91
 go_wp2_with fail
 (refine h.out.mono ?_);rintro e w1 ⟨j1,A1,c1,rfl,ho1⟩
 go_wp2_with fail
 go_ret2
 exact⟨j1,A1,c1,rfl,ho1⟩
end Go.Proofs.YtdhgpkdjdmlphaaGreat
