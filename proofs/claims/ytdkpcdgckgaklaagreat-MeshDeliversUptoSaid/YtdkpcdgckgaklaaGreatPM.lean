/-
  Lemmas for the last text of this claim (part 13 of 20).
-/
import Derived.ArgAppend
import Derived.BigQuiet
import Derived.BigRegion
import Derived.ChangeOld
import Derived.Deep.RegionWith
import Derived.DeepKeys4
import Derived.JoinedCond
import Derived.LaidMore
import Derived.Laws.CopyOwn
import Derived.Laws.Externs
import Derived.Laws.IdiomStrings
import Derived.Laws.Tables
import Derived.Lib.AppendStr
import Derived.Lib.AppendZerosOnto
import Derived.Lib.Mul64
import Derived.Lib.SlBytesConst
import Derived.LoopN
import Derived.Maps.OwnSet
import Derived.OpenShut
import Derived.OrdersHeld
import Derived.ProofKit
import Derived.Shelf.Spec.BitsCarry
import Derived.ShutString
import Derived.Test.YtdkpcdgckgaklaaGreatProg
import Derived.Test.YtdkpcdgckgaklaaGreatRows
import Derived.WalkKit
import Derived.WalkLawsBesides
import Derived.WalkSpells
import Derived.Test.YtdkpcdgckgaklaaGreatPJ
import Derived.Test.YtdkpcdgckgaklaaGreatPK
import Derived.Test.YtdkpcdgckgaklaaGreatPL
open List renaming replicate → QCn, getElem?_cons_succ → QCo, getElem?_cons_zero → QCp, cons_append → QCr, nil_append → QCs, length_map → QCt, getD_eq_getElem?_getD → QCu, getElem?_eq_getElem → QCv, length_append → QCB, getElem?_append_left → QCD, take_of_length_le → QCE, getElem?_append_right → QCF, getElem?_map → QCH, getElem?_eq_some_iff → QCK, append_assoc → QCL, length_take → QCP, mem_cons → QCQ, length_drop → QCS, not_mem_nil → QCT, set_append_right → QCX, take_succ_eq_append_getElem → QCY, eq_nil_of_length_eq_zero → QC0, append_nil → QC1, take_append_drop → QC3, map_append → QC6, drop_left' → QDg, getElem_mem → QDn, getElem?_eq_none → QDr, set_append_left → QDD, getElem?_drop → QDU, drop_drop → QD8, take_left' → QD9
open Nat renaming le_refl → QCx, le_trans → QC4, zero_le → QEk
open Option renaming toList_some → QCq
set_option linter.all false
namespace Go.Proofs.YtdkpcdgckgaklaaGreat
open Go.RowKit
open Go.BigFrame
theorem Qx6 {pre post:List Value} {xs:List UInt8} {off k:Nat} (hp:pre.length=off) (h:k<xs.length) (x:UInt8) (hx:xs[k]?=some x):(pre++xs.map W8++post)[off+k]?=some (W8 x):=by
 rw[QCL,QCF (by omega),show off+k-pre.length=k by omega,QCD (by rw[QCt];exact h),QCH,hx]
 rfl
theorem Qyk {pre post:List Value} {xs:List UInt8} {off k:Nat} (hp:pre.length=off) (h:k<xs.length) (x:UInt8):(pre++xs.map W8++post).set (off+k) (W8 x)=pre++(xs.set k x).map W8++post:=by
 rw[QCL,QCX _ _ (by omega),show off+k-pre.length=k by omega,QDD _ _ (by rw[QCt];exact h),Qby,QCL]
set_option maxRecDepth 100000 in
set_option maxHeartbeats 2000000 in
theorem Qnx (g off n c c2:Nat) (t:TypeId) (A:Option Addr) (pre post:List Value) (xs ys:List UInt8) (w:World) (hb:Blk w g t (pre++xs.map W8++post)) (hp:pre.length=off) (hxl:xs.length=n) (hy:RdB w A n ys) (hoff:0<n→Off A g) (hn:n≤1048576):
 Calls Tryz.prog 137 #[.slice (some ⟨g,off,none⟩) n c,.slice A n c2] w fun e w'=>e= .returned (.tuple #[])∧Blk w' g t (pre++(xorB xs ys).map W8++post)∧Only g w w':=by
 have hyl:=hy.len
 have hlen:xs.length=ys.length:=by omega
 have hX:=hid (fun k=>Qd4 hlen k)
 have hG:=hid (fun k (h:k<xs.length)=>QgN hlen h)
 have hS:=hid (fun k (h:k<xs.length)=>QfD hlen h)
 have hA:=hid (Qgx hlen)
 have hN:=hid (QfF xs ys)
 go_enter Tryz.func137,Tryz.ntmps137
 go_wp2_with fail
 go_loopw [8] (fun i wr=>∃k:Nat,k≤n∧i= .int .i64 k∧Blk wr g t (pre++(Qfd xs ys k).map W8++post)∧Only g w wr) (fun i _=>n-(intOf i).toNat)
 case atStart=>exact⟨0,by omega,rfl,by rw[hN.out];exact hb,World.grownBy.refl w _⟩
 case round=>
  clear hb
  obtain⟨k,hk,rfl,hb,ho'⟩:=hrel
  by_cases hlt:k<n
  ·have hy':RdB wr A n ys:=Rd.only hy ho' (fun b o e h=>hoff (by omega) _ e h)
   obtain⟨b2,o2,rfl,hb2,hc2⟩:=RdB.at_ hy' (by omega)
   have c1:=hc2 k hlt
   have hxk:=hX.out k (by omega)
   have d1:=hb.cellD (off+k) (Qx6 hp (by omega) _ (hG.out k (by omega)))
   have HS:=hid (hS.out k (by omega))
   clear hc2
   generalize xs.getD k 0=x at *
   generalize ys.getD k 0=y at *
   go_wp2_with (first
    | (refine Qac rfl rfl _ _ _ rfl g (off+k) _ _ hb rfl (by simp only[QCB,QCt];omega) rfl QbR ?_;intro v' w5 hv' hb5 ho5;simp[go_sem]at hv';subst hv')
    | fail)
   rw[Qyk hp (by omega),HS.out]at hb5
   go_roundw
   case rel=>exact⟨k+1,by omega,by go_num,hb5,ho'.trans ho5⟩
   case measure=>simp[intOf];omega
  ·obtain rfl:n=k:=by omega
   rw[←hxl,hA.out]at hb
   go_wp2_with fail
   exact bodyPost_end (results_none rfl _ _ _) rfl ⟨rfl,hb,ho'⟩
theorem Qud (g off n c c2:Nat) (t:TypeId) (A:Option Addr) (bs ys:List UInt8) (rest:List Value) (w:World) (hb:Blk w g t (bs.map W8++rest)) (hbl:bs.length=n) (h32:32≤n) (hoff:off=32∨(off=0∧n=32)) (hy:RdB w A (n-32) ys) (hA:0<n-32→Off A g) (hn:n≤1048576):
 Calls Tryz.prog 137 #[.slice (some ⟨g,off,none⟩) (n-32) c,.slice A (n-32) c2] w fun e w'=>e= .returned (.tuple #[])∧Blk w' g t ((bs.take 32++xorB (bs.drop 32) ys).map W8++rest)∧Only g w w':=by
 have e0:bs.map W8++rest=(bs.take 32).map W8++(bs.drop 32).map W8++rest:=by rw[←QC6,QC3]
 rcases hoff with rfl|⟨rfl,rfl⟩
 ·rw[e0]at hb
  refine (Qnx g 32 (n-32) c c2 t A _ rest (bs.drop 32) ys w hb (by rw[QCt,QCP];omega) (by rw[QCS];omega) hy hA (by omega)).mono ?_
  rintro e w' ⟨he,hb',ho⟩
  exact⟨he,by rw[QC6];exact hb',ho⟩
 ·have hd:bs.drop 32=[]:=QC0 (by rw[QCS];omega)
  have hyn:ys=[]:=QC0 hy.len
  refine (Qnx g 0 0 c c2 t A [] (bs.map W8++rest) [] ys w hb rfl rfl hy hA (by omega)).mono ?_
  rintro e w' ⟨he,hb',ho⟩
  refine⟨he,?_,ho⟩
  subst hyn
  rw[hd,show xorB [] []=[] from rfl,QC1,QCE (by omega)]
  exact hb'
def Qfh (K:List UInt8) (r:Nat) (bs:List UInt8):List UInt8:=
 if r=2∨r=4 then xorB (bs.take 32) (Qbm K (bs.drop 32))++bs.drop 32 else bs.take 32++xorB (bs.drop 32) (chaS (xorB K (bs.take 32)) (bs.length-32))
theorem Qmk (K:List UInt8) (r:Nat) (bs:List UInt8) (h:32≤bs.length):(Qfh K r bs).length=bs.length:=by
 unfold Qfh
 split
 ·rw[QCB,QbB (by rw[QaI,QCP];omega),QaI,QCS]
  omega
 ·rw[QCB,QbB (by rw[QbZ,QCS]),QbZ,QCP]
  omega
theorem Qfq:(Tryz.prog.info? 79).map (·.size)=some 32:=by kernel_rfl
theorem QdH {w:World} {g:Nat} {t:TypeId} {bs:List UInt8} {n:Nat} (h:Blk w g t (bs.map W8)) (hn:bs.length=n):RdB w (some ⟨g,0,none⟩) n bs:=h.rd (by rw[QCt,hn])
set_option maxRecDepth 100000 in
set_option maxHeartbeats 4000000 in
theorem Qu3 (g n c:Nat) (K bs:List UInt8) (r:Nat) (rest:List Value) (w:World) (hb:Blk w g 5 (bs.map W8++rest)) (hbl:bs.length=n) (h32:32≤n) (hn:n≤4096) (hc:n≤c) (hK:K.length=32) (h1:1≤r) (h4:r≤4):
 Calls Tryz.prog 110 #[.slice (some ⟨g,0,none⟩) n c,.agg (K.map W8).toArray,.int .i64 r] w fun e w'=>e= .returned (.tuple #[])∧Blk w' g 5 ((Qfh K r bs).map W8++rest)∧Only g w w':=by
 have hcl:∀W,(Instr.sliceAt 32 (.slice (some ⟨g,0,none⟩) n c) none (some (.int .i64 32)) none).run Tryz.prog W= .ok (.slice (some ⟨g,0,none⟩) 32 c) W:=fun W=>Qnu (some ⟨g,0,none⟩) n c .i64 32 (by omega) W
 obtain⟨off,hoff,hcr⟩:∃off,(off=32∨(off=0∧n=32))∧∀W,(Instr.sliceAt 32 (.slice (some ⟨g,0,none⟩) n c) (some (.int .i64 32)) none none).run Tryz.prog W= .ok (.slice (some ⟨g,off,none⟩) (n-32) (c-32)) W:=by
  have h:=fun W=>Qiq (some ⟨g,0,none⟩) n c .i64 32 h32 W
  unfold cutA at h
  by_cases hc32:c=32
  ·rw[if_pos hc32]at h
   exact⟨0,.inr ⟨rfl,by omega⟩,h⟩
  ·rw[if_neg hc32]at h
   exact⟨32,.inl rfl,h⟩
 have hrdR:∀w',Blk w' g 5 (bs.map W8++rest)→RdB w' (some ⟨g,off,none⟩) (n-32) (bs.drop 32):=fun w' hb'=>by
  rcases hoff with rfl|⟨rfl,rfl⟩
  ·have:=(QdA hb' hbl).cut (k:=32) (c:=n+33) h32 (by omega)
   rw[cutA,if_neg (by omega)]at this
   exact this
  ·rw[QC0 (show (bs.drop 32).length=0 by rw[QCS];omega)]
   exact⟨rfl,fun h=>absurd h (by omega)⟩
 have hrdR:=hid hrdR
 have hm1:=hid (fun g off n c c2 t A pre post xs ys w hb hp hxl hy ho hn=>Qnx g off n c c2 t A pre post xs ys w hb hp hxl hy ho hn)
 have hm2:=hid (fun c c2 A ys w hb hy hA=>Qud g off n c c2 5 A bs ys rest w hb hbl h32 hoff hy hA (by omega))
 replace hoff:=hid hoff
 have htl:(bs.take 32).length=32:=by rw[QCP];omega
 have hdl:(bs.drop 32).length=n-32:=by rw[QCS];omega
 by_cases hr:r=2∨r=4
 ·have hT:=hid (show Qfh K r bs=xorB (bs.take 32) (Qbm K (bs.drop 32))++bs.drop 32 by rw[Qfh,if_pos hr])
  have hG:=QaI K (bs.drop 32)
  have hTag:=hid (fun A B c d w h1 hc h2=>QkL A B 32 c 1 d K [bs.drop 32] w h1 hc (by omega) h2 (by omega) (by rw[Qcy,hdl];omega))
  rw[Qcy]at hTag
  generalize Qfh K r bs=TB at *
  generalize Qbm K (bs.drop 32)=G at *
  rcases hr with rfl|rfl
  all_goals
   go_enter Tryz.func110,Tryz.ntmps110
   go_wp2_with fail
   have B1:=Qa8 w 79 (K.map W8)
   generalize w.alloc (.cells (K.map W8).toArray 79)=w1 at *
   refine Qad [] [0,1,2,3,4,5] [] (by as_aux_lemma=>kernel_rfl) (by as_aux_lemma=>kernel_rfl) (by intro _ _ d _ _ h;cases d<;>exact h) ?_
   simp only[Qai,pick,QCo,QCp,QCq,QCr,QCs]
   repeat (go_big_quiet_step (fail))
   refine wpQuiet_nil ?_
   go_wp2_with fail
   have B2:=B1.later ((Qaa w1 (.cells #[.slice (some ⟨g,off,none⟩) (n-32) (c-32)] 32)).trans (Qab _))
   have hb2:=hb.later B2.lat
   have hpp:=QjU (Blk.new w1 32 [.slice (some ⟨g,off,none⟩) (n-32) (c-32)]).drew (QbS (c:=c-32) (hrdR.out _ hb2) (by omega))
   (with_reducible refine (hTag.out _ _ _ _ _ (QdH (B2.nth 0 rfl) hK) (QCx _) hpp).mono ?_);rintro e w3 ⟨rfl,j3⟩
   go_wp2_with (first
    | (refine Qdp 32 rfl rfl _ _ rfl (Blk.new w3 _ (QCn 32 (.int .u8 0))) rfl rfl Qfq hG rfl ?_;intro w4 hb4 ho4)
    | fail)
   have L4:=B2.lat.trans ((j3.trans (Qaa w3 _)).only ho4 j3.size)
   have hb5:=hb.later L4
   rw[show bs.map W8++rest=[]++(bs.take 32).map W8++((bs.drop 32).map W8++rest) by rw[QCs,←QCL,←QC6,QC3]]at hb5
   have hgl:=hb.lt
   have hgs:=(B2.lat.trans j3).size
   (refine (hm1.out g 0 32 _ _ _ _ _ _ _ _ _ hb5 rfl htl (QdH hb4 hG) (fun _ ad e=>by cases e;show w3.heap.size≠g;omega) (by omega)).mono ?_);rintro e w5 ⟨rfl,hb6,ho6⟩
   rw[QCs,←QCL,←QC6,←hT.out]at hb6
   go_wp2_with fail
   (try simp only[Exit.inBlock,Exit.then])
   exact bodyPost_ret (results_none rfl _ _ _) rfl ⟨rfl,hb6,L4.thenOnly ho6⟩
 ·have hT:=hid (show Qfh K r bs=bs.take 32++xorB (bs.drop 32) (chaS (xorB K (bs.take 32)) (n-32)) by rw[Qfh,if_neg hr,hbl])
  have hr':r=1∨r=3:=by omega
  clear hr
  have hxl:(xorB K (bs.take 32)).length=32:=by rw[QbB (by omega),htl]
  have hSt:=hid (fun A c w h=>QpX A c (n-32) (xorB K (bs.take 32)) w h (by omega))
  generalize Qfh K r bs=TB at *
  generalize hXe:xorB K (bs.take 32)=X at *
  replace hXe:=hid hXe
  generalize chaS X (n-32)=ST at *
  rcases hr' with rfl|rfl
  all_goals
   go_enter Tryz.func110,Tryz.ntmps110
   go_wp2_with fail
   have B1:=(Qa8 w 79 (K.map W8)).drew
   generalize w.alloc (.cells (K.map W8).toArray 79)=w1 at *
   refine Qad [] [0,1,2,3,4,5] [] (by as_aux_lemma=>kernel_rfl) (by as_aux_lemma=>kernel_rfl) (by intro _ _ d _ _ h;cases d<;>exact h) ?_
   simp only[Qai,pick,QCo,QCp,QCq,QCr,QCs]
   repeat (go_big_quiet_step (fail))
   refine wpQuiet_nil ?_
   go_wp2_with fail
   have hb1:=hb.later B1.lat
   have hgl:=hb.lt
   have hk1:=B1.nth 0 rfl
   (refine (hm1.out w.heap.size 0 32 _ _ _ _ [] [] K (bs.take 32) _ (by rw[QCs,QC1];exact hk1) rfl hK ((QdA hb1 hbl).take h32) (fun _ ad e=>by cases e;show g≠w.heap.size;omega) (by omega)).mono ?_);rintro e w5 ⟨rfl,hk2,ho2⟩
   rw[QCs,QC1,hXe.out]at hk2
   have B2:=B1.write 0 rfl ho2 hk2
   have hb2:=hb.later B2.lat
   go_wp2_with fail
   (refine (hSt.out _ _ _ (QdH hk2 hxl)).mono ?_);rintro e w6 ⟨A6,c6,rfl,hown6,j6⟩
   go_wp2_with fail
   have hgs:=B2.lat.size
   (refine (hm2.out _ _ _ ST _ (hb2.later j6) hown6.rd (fun _ ad e=>by subst e;have:=(hown6.lt ad.block rfl).1;omega)).mono ?_);rintro e w7 ⟨rfl,hb7,ho7⟩
   rw[←hT.out]at hb7
   go_wp2_with fail
   exact bodyPost_end (results_none rfl _ _ _) rfl ⟨rfl,hb7,(B2.lat.trans j6).thenOnly ho7⟩
abbrev lab1:ByteArray:=⟨#[119,105,100,101,49]⟩
abbrev lab2:ByteArray:=⟨#[119,105,100,101,50]⟩
abbrev lab3:ByteArray:=⟨#[119,105,100,101,51]⟩
abbrev lab4:ByteArray:=⟨#[119,105,100,101,52]⟩
def labW (r:Int):ByteArray:=if r=1 then lab1 else if r=2 then lab2 else if r=3 then lab3 else lab4
def okR (rs:List Int):Prop:=∀r∈rs,1≤r∧r≤4
instance (rs:List Int):Decidable (okR rs):=by unfold okR;infer_instance
def fitW (key bs:List UInt8):Prop:=key.length=32∧32≤bs.length∧bs.length≤4096
instance (key bs:List UInt8):Decidable (fitW key bs):=by unfold fitW;infer_instance
def Qfk (key:List UInt8) (rs:List Int) (bs:List UInt8):List UInt8:=rs.foldl (fun b r=>Qfh (derB key (labW r)) r.toNat b) bs
theorem Qde (key:List UInt8):∀(rs:List Int) (bs:List UInt8),32≤bs.length→(Qfk key rs bs).length=bs.length
 | [],_,_=>rfl
 | r :: rs,bs,h=>by
   show (Qfk key rs (Qfh _ _ bs)).length=_
   have:=Qmk (derB key (labW r)) r.toNat bs h
   rw[Qde key rs _ (by omega),this]
theorem QkW (key:List UInt8) (rs rs':List Int) (bs:List UInt8):Qfk key (rs++rs') bs=Qfk key rs' (Qfk key rs bs):=by rw[Qfk,List.foldl_append];rfl
def Qgq (key bs:List UInt8) (rs:List Int):Nat:=if okR rs then (if fitW key bs then 0 else 2) else 1
def Qdq (key bs:List UInt8) (rs:List Int):List UInt8:=if okR rs then (if fitW key bs then Qfk key rs bs else []) else []
theorem Qkn (B:Option Addr) (m d:Nat) (w:World):
 Calls Tryz.prog 135 #[.slice B m d] w fun e w'=>e= .returned (.bool (decide (32≤m∧m≤4096)))∧w'=w:=by
 by_cases h1:32≤m
 ·by_cases h2:m≤4096
  ·have e1:(32:Int)≤(m:Int):=by omega
   have e2:(m:Int)≤4096:=by omega
   rw[decide_eq_true (show 32≤m∧m≤4096 from ⟨h1,h2⟩)]
   go_enter Tryz.func135,Tryz.ntmps135
   go_wp2
   go_ret
   exact⟨rfl,rfl⟩
  ·have e1:(32:Int)≤(m:Int):=by omega
   have e2: ¬(m:Int)≤4096:=by omega
   rw[decide_eq_false (show ¬(32≤m∧m≤4096) from fun h=>h2 h.2)]
   go_enter Tryz.func135,Tryz.ntmps135
   go_wp2
   go_ret
   exact⟨rfl,rfl⟩
 ·have e1: ¬(32:Int)≤(m:Int):=by omega
  rw[decide_eq_false (show ¬(32≤m∧m≤4096) from fun h=>h1 h.1)]
  go_enter Tryz.func135,Tryz.ntmps135
  go_wp2
  go_ret
  exact⟨rfl,rfl⟩
theorem Qr4 (A B:Option Addr) (n c m d:Nat) (w:World):
 Calls Tryz.prog 109 #[.slice A n c,.slice B m d] w fun e w'=>e= .returned (.bool (decide (n=32∧32≤m∧m≤4096)))∧w'=w:=by
 have hf:=hid (Qkn B m d)
 by_cases h0:n=32
 ·subst h0
  rw[show decide (32=32∧32≤m∧m≤4096)=decide (32≤m∧m≤4096) by simp]
  go_enter Tryz.func109,Tryz.ntmps109
  go_wp2_with fail
  (with_reducible refine (hf.out _).mono ?_);rintro e w1 ⟨rfl,rfl⟩
  go_wp2_with fail
  go_ret
  exact⟨by simp,rfl⟩
 ·have e1:((n:Int)==32)=false:=by simp;omega
  rw[decide_eq_false (show ¬(n=32∧32≤m∧m≤4096) from fun h=>h0 h.1)]
  go_enter Tryz.func109,Tryz.ntmps109
  go_wp2_with fail
  go_ret
  exact⟨by simp,rfl⟩
theorem Qlg {key bs:List UInt8} {rs:List Int} (h: ¬okR rs):Qdq key bs rs=[]:=by rw[Qdq,if_neg h]
theorem QlQ {key bs:List UInt8} {rs:List Int} (h: ¬okR rs):Qgq key bs rs=1:=by rw[Qgq,if_neg h]
theorem Qii {key bs:List UInt8} {rs:List Int} (h:okR rs) (h2: ¬fitW key bs):Qdq key bs rs=[]:=by rw[Qdq,if_pos h,if_neg h2]
theorem Qiz {key bs:List UInt8} {rs:List Int} (h:okR rs) (h2: ¬fitW key bs):Qgq key bs rs=2:=by rw[Qgq,if_pos h,if_neg h2]
theorem QgI {key bs:List UInt8} {rs:List Int} (h:okR rs) (h2:fitW key bs):Qdq key bs rs=Qfk key rs bs:=by rw[Qdq,if_pos h,if_pos h2]
theorem QgB {key bs:List UInt8} {rs:List Int} (h:okR rs) (h2:fitW key bs):Qgq key bs rs=0:=by rw[Qgq,if_pos h,if_pos h2]
def intV (r:Int):Value:=.int .i64 r
theorem Qwv {w:World} {C:Option Addr} {k:Nat} {rs:List Int} (h:Rd w C k (rs.map intV)) {j:Nat} (hj:j<k):∃b o,C=some ⟨b,o,none⟩∧b<w.heap.size∧∀w',Later w w'→w'.cell? ⟨b,o+j,none⟩=some (.int .i64 (rs.getD j 0)):=by
 have hl:rs.length=k:=by have:=h.1;rwa [QCt]at this
 obtain⟨b,o,e,hb,hc⟩:=h.2 (by omega)
 refine⟨b,o,e,hb,fun w' hl'=>(hl'.below.cell (p:=⟨b,o+j,none⟩) hb).trans (hc j _ ?_)⟩
 rw[QCH,QCv (show j<rs.length by omega),QCu,QCv (show j<rs.length by omega)]
 rfl
theorem Qjs (key:List UInt8) (rs:List Int) (bs:List UInt8) (j:Nat) (h:j<rs.length):Qfk key (rs.take (j+1)) bs=Qfh (derB key (labW (rs.getD j 0))) (rs.getD j 0).toNat (Qfk key (rs.take j) bs):=by
 rw[QCY h,QkW,QCu,QCv h]
 rfl
def QpG (s:List UInt8):List UInt8:=Qdv s [lab1,lab2,lab3,lab4] 4
theorem QsL (s:List UInt8) (r:Int) (h1:1≤r) (h4:r≤4):(QpG s).drop ((r.toNat-1)*32)=derB s (labW r)++((QpG s).drop ((r.toNat-1)*32)).drop 32:=by
 have l1:=QaU s lab1
 have l2:=QaU s lab2
 have l3:=QaU s lab3
 have l4:=QaU s lab4
 have e:QpG s=derB s lab1++(derB s lab2++(derB s lab3++derB s lab4)):=by simp[QpG,Qdv]
 have hr:r=1∨r=2∨r=3∨r=4:=by omega
 rw[e]
 generalize hd1:derB s lab1=d1 at *
 generalize hd2:derB s lab2=d2 at *
 generalize hd3:derB s lab3=d3 at *
 generalize hd4:derB s lab4=d4 at *
 rcases hr with rfl|rfl|rfl|rfl
 ·show (d1++_).drop 0=derB s lab1++((d1++_).drop 0).drop 32
  rw[hd1,List.drop_zero,QDg l1]
 ·show (d1++_).drop 32=derB s lab2++((d1++_).drop 32).drop 32
  rw[hd2,QDg l1,QDg l2]
 ·show (d1++_).drop 64=derB s lab3++((d1++_).drop 64).drop 32
  rw[hd3,show (64:Nat)=32+32 from rfl,←QD8,QDg l1,QDg l2,QDg l3]
 ·show (d1++_).drop 96=derB s lab4++((d1++_).drop 96).drop 32
  rw[hd4,show (96:Nat)=32+(32+32) from rfl,←QD8,←QD8,QDg l1,QDg l2,QDg l3]
  have:d4.drop 32=[]:=List.drop_eq_nil_of_le (by omega)
  rw[this,QC1]
theorem QoQ {w:World} {base n c:Nat} {A:Option Addr} {bs:List UInt8} (h:OwnB w base A n c bs):c≤maxLen:=by
 rcases h.2 with ⟨hv,_⟩|⟨g2,cap,cur,hv,_,_,_,hm,_⟩
 ·cases hv
  exact QEk _
 ·cases hv
  exact hm
theorem QxS (g n c:Nat) (K bs:List UInt8) (r:Nat) (i:Int) (hi:i=(r:Int)) (rest:List Value) (w:World) (hb:Blk w g 5 (bs.map W8++rest)) (hbl:bs.length=n) (h32:32≤n) (hn:n≤4096) (hc:n≤c) (hK:K.length=32) (h1:1≤r) (h4:r≤4):
 Calls Tryz.prog 110 #[.slice (some ⟨g,0,none⟩) n c,.agg (K.map W8).toArray,.int .i64 i] w fun e w'=>e= .returned (.tuple #[])∧Blk w' g 5 ((Qfh K r bs).map W8++rest)∧Only g w w':=by
 subst hi
 exact Qu3 g n c K bs r rest w hb hbl h32 hn hc hK h1 h4
theorem Qul {w:World} {g:Nat} {t:TypeId} {ks:List UInt8} (h:Blk w g t (ks.map W8)) {q:Nat} {K r:List UInt8} (hd:ks.drop (q*32)=K++r) {j:Nat} {v:Value} (hv:(K.map W8)[j]?=some v):w.cell? ⟨g,q*32+j,none⟩=some v:=by
 refine h.cellD _ ?_
 rw[QCH,Option.map_eq_some_iff]at hv ⊢
 obtain⟨x,hx,rfl⟩:=hv
 refine⟨x,?_,rfl⟩
 rw[←QDU,hd,QCD (QCK.1 hx).1]
 exact hx
set_option maxRecDepth 100000 in
set_option maxHeartbeats 8000000 in
theorem QmP (A B C:Option Addr) (n c m d k e0:Nat) (key bs:List UInt8) (rs:List Int) (w:World) (hk:RdB w A n key) (hc:n≤c) (hb:RdB w B m bs) (hd:m≤d) (hr:Rd w C k (rs.map intV)) (hn:n≤2097152) (hm:m≤2097152) (hk2:k≤2097152):
 Calls Tryz.prog 81 #[.slice A n c,.slice B m d,.slice C k e0] w fun e w'=>Later w w'∧∃A' c',e= .returned (.tuple #[.slice A' (Qdq key bs rs).length c',.int .i64 (Qgq key bs rs:Nat)])∧OwnB w' w.heap.size A' (Qdq key bs rs).length c' (Qdq key bs rs):=by
 have hkl:=hk.len
 have hbl:=hb.len
 have hrl:rs.length=k:=by have:=hr.1;rwa [QCt]at this
 have hbad:=hid (fun h=>And.intro (@Qlg key bs rs h) (@QlQ key bs rs h))
 have hunf:=hid (fun h h2=>And.intro (@Qii key bs rs h h2) (@Qiz key bs rs h h2))
 have hfit:=hid (fun h h2=>And.intro (@QgI key bs rs h h2) (@QgB key bs rs h h2))
 have hat:=hid (fun j (hj:j<k)=>Qwv hr hj)
 have hff:=hid (Qr4 A B n c m d)
 generalize Qdq key bs rs=WB at *
 generalize Qgq key bs rs=WE at *
 go_enter Tryz.func81,Tryz.ntmps81
 go_wp2_with fail
 go_loopw [16] (fun i wr=>∃j:Nat,j≤k∧i= .int .i64 j∧wr=w∧Hid (∀ t,t<j→1≤rs.getD t 0∧rs.getD t 0≤4)) (fun i _=>k-(intOf i).toNat)
 case atStart=>exact⟨0,by omega,rfl,rfl,hid (fun t h=>by omega)⟩
 case round=>
  obtain⟨j,hj,rfl,rfl,hall⟩:=hrel
  by_cases hlt:j<k
  ·obtain⟨b,o,rfl,hbb,hcell⟩:=hat.out j hlt
   have c1:=hcell wr (Later.refl _)
   clear hcell
   have hmem:rs.getD j 0∈rs:=by rw[QCu,QCv (show j<rs.length by omega)];exact QDn _
   have hbd: ¬(1≤rs.getD j 0∧rs.getD j 0≤4)→Hid (WB=[]∧WE=1):=fun h=>hid (hbad.out (fun hok=>h (hok _ hmem)))
   have hst:1≤rs.getD j 0→rs.getD j 0≤4→Hid (∀ t,t<j+1→1≤rs.getD t 0∧rs.getD t 0≤4):=fun h1 h2=>hid (fun t ht=>by
    by_cases e:t=j
    ·subst e;exact⟨h1,h2⟩
    ·exact hall.out t (by omega))
   clear hmem
   generalize rs.getD j 0=r at *
   by_cases h1:r<1
   ·have hB:=hbd (by omega)
    clear hbd hst
    go_wp2_with fail
    go_ret2
    refine⟨Later.refl _,none,0,?_,?_⟩
    ·rw[hB.out.1,hB.out.2];rfl
    ·rw[hB.out.1];exact Qay _ _ _
   ·by_cases h2:4<r
    ·have hB:=hbd (by omega)
     clear hbd hst
     go_wp2_with fail
     go_ret2
     refine⟨Later.refl _,none,0,?_,?_⟩
     ·rw[hB.out.1,hB.out.2];rfl
     ·rw[hB.out.1];exact Qay _ _ _
    ·have hS:=hst (by omega) (by omega)
     clear hbd hst
     go_wp2_with fail
     go_roundw
     case rel=>exact⟨j+1,by omega,by go_num,trivial,hS⟩
     case measure=>simp[intOf];omega
  ·obtain rfl:k=j:=by omega
   have hok:okR rs:=fun r hr'=>by
    obtain⟨t,ht⟩:=List.getElem?_of_mem hr'
    have htl:=(QCK.1 ht).1
    have:=hall.out t (by omega)
    rwa [QCu,ht]at this
   clear hbad
   go_wp2_with fail
   (with_reducible refine (hff.out _).mono ?_);rintro e w1 ⟨rfl,rfl⟩
   by_cases hf:n=32∧32≤m∧m≤4096
   ·rw[decide_eq_true hf]
    have hF:=hid (hfit.out hok ⟨by rw[hkl];exact hf.1,by rw[hbl];exact hf.2⟩)
    obtain⟨rfl,hm32,hm4⟩:=hf
    clear hunf hfit
    have hDe:=hid (fun B d w h1 h2=>Qjk A B 32 c 4 d key [lab1,lab2,lab3,lab4] w h1 hc (by omega) h2 (by omega) (by omega) (by intro x hx;simp only[QCQ,QCT,or_false]at hx;rcases hx with rfl|rfl|rfl|rfl<;>decide))
    have hKW:=hid (fun r h1 h4=>QsL key r h1 h4)
    have hFt:=hid (fun j h=>Qjs key rs bs j h)
    have hFl:=hid (fun rs=>Qde key rs bs (by omega))
    have hDl:=hid (fun r=>QaU key (labW r))
    have hTu:=hid QxS
    have hCj:=hid (fun A c w h=>QgF A 1 c [bs] w h (by omega) (by rw[Qcy];omega))
    rw[Qcy,hbl]at hCj
    rw[show Qdv key [lab1,lab2,lab3,lab4] 4=QpG key from rfl]at hDe
    have hF0:=hid (show Qfk key (rs.take 0) bs=bs from rfl)
    go_wp2_with fail
    have J1:=Qaa w1 (.cells #[.string lab1,.string lab2,.string lab3,.string lab4] 9)
    have hst:Strs (w1.alloc (.cells #[.string lab1,.string lab2,.string lab3,.string lab4] 9)) (some ⟨w1.heap.size,0,none⟩) 4 [lab1,lab2,lab3,lab4]:=(Blk.new w1 9 [.string lab1,.string lab2,.string lab3,.string lab4]).rd rfl
    (refine (hDe.out _ _ _ (hk.later J1) hst).mono ?_);rintro e w2 ⟨gK,rfl,hgK,hbK,j2⟩
    go_wp2_with fail
    have J2:=(J1.trans j2).trans (Qaa w2 (.cells #[.slice B m d] 32))
    have hpp:=QjU (Blk.new w2 32 [.slice B m d]) (QbS (hb.later J2) hd)
    (with_reducible refine (hCj.out _ _ _ hpp).mono ?_);rintro e w3 ⟨A3,c3,rfl,hown3,j3⟩
    have L3:=J2.trans j3
    have hbK3:=hbK.later ((Qaa w2 (.cells #[.slice B m d] 32)).trans j3)
    have hgKw:w1.heap.size≤gK:=QC4 J1.size hgK
    replace hown3:=hown3.mono J2.size
    have hmx:=QoQ hown3
    obtain⟨gO,rest,rfl,hgO,hbO,hcO,hcc⟩:=QfB hown3 (by omega)
    replace hcO:=hid hcO
    clear J1 hst j2 J2 hpp j3 hown3 hbK hgK
    go_wp2_with fail
    have hgl:=hbO.lt
    go_loopw [39] (fun i wr=>∃j:Nat,j≤k∧i= .int .i64 j∧Blk wr gO 5 ((Qfk key (rs.take j) bs).map W8++rest)∧Blk wr gK 79 ((QpG key).map W8)∧Later w1 wr) (fun i _=>k-(intOf i).toNat)
    case atStart=>exact⟨0,by omega,rfl,by rw[hF0.out];exact hbO,hbK3,L3⟩
    case round=>
     clear hbO hbK3 L3 hgl
     obtain⟨j,hj,rfl,hbO,hbK,L⟩:=hrel
     by_cases hlt:j<k
     ·obtain⟨b,o,rfl,hbb,hcell⟩:=hat.out j hlt
      have c1:=hcell wr L
      have hrr:=hall.out j hlt
      have HF:=hid (hFt.out j (by omega))
      have hFlj:=hFl.out (rs.take j)
      have hKr:=hKW.out _ hrr.1 hrr.2
      have hDlr:=hDl.out (rs.getD j 0)
      clear hcell
      generalize rs.getD j 0=r at *
      obtain⟨q,rfl⟩:∃q:Nat,r=(q:Int)+1:=⟨(r-1).toNat,by omega⟩
      have hq4:q<4:=by omega
      have hqn:((q:Int)+1).toNat=q+1:=by omega
      rw[hqn]at HF hKr
      rw[Nat.add_sub_cancel]at hKr
      generalize derB key (labW ((q:Int)+1))=Kr at *
      generalize Qfk key (rs.take j) bs=F at *
      replace hKr:=hid hKr
      clear hqn hrr
      go_wp2_with (first
       | (refine Qaz rfl 79 _ rfl gK (q*32) (Kr.map W8) ?hc ?hx _ Tryz.underlying79 rfl ?hi ?_;(case hx=>rfl);(case hi=>rw[QCt,hDlr];exact Qfq);(case hc=>intro j v hv;exact Qul hbK hKr.out hv))
       | fail)
      (refine (hTu.out gO m c3 Kr F (q+1) _ (by omega) rest _ hbO (by omega) hm32 hm4 hcc hDlr (by omega) (by omega)).mono ?_);rintro e w5 ⟨rfl,hb5,ho5⟩
      go_wp2_with fail
      go_roundw
      case rel=>exact⟨j+1,by omega,by go_num,by rw[HF.out];exact hb5,hbK.only ho5 (hbK.ne_type hbO (by decide)),L.only ho5 hgO⟩
      case measure=>simp[intOf];omega
     ·obtain rfl:k=j:=by omega
      rw[QCE (by omega)]at hbO
      have hFl':=hFl.out rs
      rw[←hF.out.1]at hbO hFl'
      have hcw:c3=(WB.map W8++rest).length:=by
       rw[hcO.out,QCB,QCB,QCt,QCt]
       omega
      have hWl:WB.length=m:=by omega
      have hWE:=hF.out.2
      have hown:=QsX hbO hgO (by rw[←hcw];exact hmx)
      rw[←hcw,QCt,hWl]at hown
      go_wp2_with fail
      go_ret2
      exact⟨L,_,_,by rw[hWl,hWE];rfl,by rw[hWl];exact hown⟩
   ·rw[decide_eq_false hf]
    have hB:=hid (hunf.out hok (fun h=>hf ⟨by rw[←hkl];exact h.1,by rw[←hbl];exact h.2⟩))
    clear hunf hfit
    go_wp2_with fail
    go_ret2
    refine⟨Later.refl _,none,0,?_,?_⟩
    ·rw[hB.out.1,hB.out.2];rfl
    ·rw[hB.out.1];exact Qay _ _ _
theorem Qpv {w:World} {A:Option Addr} {xs ys:List UInt8} (h:Parts w (fun _=>False) A 2 [xs,ys]):
 ∃b o A1 c1 A2 c2,A=some ⟨b,o,none⟩∧b<w.heap.size∧(∀ w',Later w w'→w'.cell? ⟨b,o,none⟩=some (.slice A1 xs.length c1)∧w'.cell? ⟨b,o+1,none⟩=some (.slice A2 ys.length c2))∧xs.length≤c1∧RdB w A1 xs.length xs∧RdB w A2 ys.length ys:=by
 obtain⟨b,o,A1,n1,c1,e,hb,hck,hcap,hrd,_⟩:=h.at_ (k:=0) (by omega)
 obtain⟨b',o',A2,n2,c2,e',hb',hck',hcap',hrd',_⟩:=h.at_ (k:=1) (by omega)
 subst e
 cases e'
 have l1:xs.length=n1:=hrd.len
 have l2:ys.length=n2:=hrd'.len
 subst l1 l2
 exact⟨b,o,A1,c1,A2,c2,rfl,hb,fun w' hl=>⟨(hl.below.cell (p:=⟨b,o,none⟩) hb).trans hck,(hl.below.cell (p:=⟨b,o+1,none⟩) hb).trans hck'⟩,hcap,hrd,hrd'⟩
set_option maxRecDepth 100000 in
set_option maxHeartbeats 4000000 in
theorem QuN (A:Option Addr) (n c:Nat) (xs ys:List UInt8) (w:World) (hx:Parts w (fun _=>False) A 2 [xs,ys]) (h1:xs.length=n) (h2:ys.length=n) (hn:n≤1048576):
 Calls Tryz.prog 95 #[.slice A 2 c] w fun e w'=>∃A' c',e= .returned (.tuple #[.slice A' n c',.int .i64 0])∧OwnB w' w.heap.size A' n c' (xorB xs ys)∧Later w w':=by
 obtain⟨b,o,A1,c1,A2,c2,rfl,hb,hcell,hcap,hr1,hr2⟩:=Qpv hx
 rw[h1]at hcell hr1
 rw[h2]at hcell hr2
 have hcell:=hid hcell
 have hlen:xs.length=ys.length:=by omega
 have hX:=hid (fun k=>Qd4 hlen k)
 have hG:=hid (fun k (h:k<xs.length)=>QgN hlen h)
 have hS:=hid (fun k (h:k<xs.length)=>QfD hlen h)
 have hA:=hid (Qgx hlen)
 have hN:=hid (QfF xs ys)
 have hXl:=QbB hlen
 generalize xorB xs ys=XB at *
 clear hx
 go_enter Tryz.func95,Tryz.ntmps95
 go_wp2_with fail
 go_loopw [4,5] (fun v i wr=>∃k:Nat,k≤2∧i= .int .i64 k∧Later w wr∧((k=0∧v= .slice none 0 0)∨(k=1∧∃A' c',v= .slice A' n c'∧OwnB wr w.heap.size A' n c' xs)∨(k=2∧∃A' c',v= .slice A' n c'∧OwnB wr w.heap.size A' n c' XB))) (fun _ i _=>2-(intOf i).toNat)
 case atStart=>exact⟨0,by omega,rfl,Later.refl w,.inl ⟨rfl,rfl⟩⟩
 case round=>
  obtain⟨k,hk,rfl,L,⟨rfl,rfl⟩|⟨rfl,A3,c3,rfl,hown⟩|⟨rfl,A3,c3,rfl,hown⟩⟩:=hrel
  ·have d0:=(hcell.out wr L).1
   go_wp2_with fail
   (refine (Qcf A1 n c1 xs _ (hr1.later L) (by omega)).mono ?_);rintro e w3 ⟨A3,c3,rfl,hown3,j3⟩
   go_wp2_with fail
   go_roundw
   case rel=>exact⟨1,by omega,by go_num,L.trans j3,.inr (.inl ⟨rfl,A3,c3,rfl,hown3.mono L.size⟩)⟩
   case measure=>simp[intOf]
  ·have d1:=(hcell.out wr L).2
   by_cases h0:n=0
   ·subst h0
    have e1:XB=[]:=QC0 (by omega)
    have e2:xs=[]:=QC0 (by omega)
    go_wp2_with fail
    go_loopw [6] (fun i w2=>i= .int .i64 0∧w2=wr) (fun _ _=>0)
    case atStart=>exact⟨rfl,rfl⟩
    case round=>
     obtain⟨rfl,rfl⟩:=hrel
     go_wp2_with fail
     go_roundw
     case rel=>exact⟨2,by omega,by go_num,L,.inr (.inr ⟨rfl,A3,c3,rfl,by rw[e1,←e2];exact hown⟩)⟩
     case measure=>simp[intOf]
   ·obtain⟨g,rest,rfl,hg,hbk,hc3,hcc⟩:=QfB hown (by omega)
    have hmx:=QoQ hown
    replace hc3:=hid hc3
    clear hown
    go_wp2_with fail
    go_loopw [6] (fun i w2=>∃j:Nat,j≤n∧i= .int .i64 j∧Blk w2 g 5 ((Qfd xs ys j).map W8++rest)∧Later w w2) (fun i _=>n-(intOf i).toNat)
    case atStart=>exact⟨0,by omega,rfl,by rw[hN.out];exact hbk,L⟩
    case round=>
     clear hbk L d1
     obtain⟨j,hj,rfl,hbk,L⟩:=hrel
     by_cases hlt:j<n
     ·have d1:=(hcell.out wr L).2
      have hxj:=hX.out j (by omega)
      have hGj:=hG.out j (by omega)
      have HSj:=hid (hS.out j (by omega))
      obtain⟨b2,o2,rfl,hb2,hc2⟩:=RdB.at_ (hr2.later L) (by omega)
      have y0:=hc2 j hlt
      have x0:=hbk.cellD j (u:=W8 (xs.getD j 0)) (by rw[QCD (by rw[QCt];omega),QCH,hGj];rfl)
      clear hc2 hGj
      generalize xs.getD j 0=x at *
      generalize ys.getD j 0=y at *
      go_wp2_with fail
      refine Qad [] [0,1,2,3,4,5,6,7,8,9,10,11,12,13,14] [15] (by as_aux_lemma=>kernel_rfl) (by as_aux_lemma=>kernel_rfl) (by intro _ _ d _ _ h;cases d<;>exact h) ?_
      simp only[Qai,pick,QCo,QCp,QCq,QCr,QCs]
      repeat (go_big_quiet_step (fail))
      refine wpQuiet_nil ?_
      have hbk':=hbk.drew
      go_wp2_with (first
       | (refine Qac rfl rfl _ _ _ rfl g j _ _ hbk' rfl (by simp only[QCB,QCt];omega) rfl QbR ?_;intro v' w5 hv' hb5 ho5;simp[go_sem]at hv';subst hv')
       | fail)
      rw[QDD _ _ (by rw[QCt];omega),Qby,HSj.out]at hb5
      go_roundw
      case rel=>exact⟨j+1,by omega,by go_num,hb5,(L.trans (Qab _)).only ho5 hg⟩
      case measure=>simp[intOf];omega
     ·obtain rfl:n=j:=by omega
      rw[←h1,hA.out]at hbk
      have hcw:c3=(XB.map W8++rest).length:=by
       rw[hc3.out,QCB,QCB,QCt,QCt]
       omega
      have hown:=QsX hbk hg (by rw[←hcw];exact hmx)
      rw[←hcw,QCt,hXl,h2]at hown
      go_wp2_with fail
      go_roundw
      case rel=>exact⟨2,by omega,by go_num,L,.inr (.inr ⟨rfl,_,c3,rfl,hown⟩)⟩
      case measure=>simp[intOf]
  ·go_wp2_with fail
   go_ret2
   exact⟨_,_,rfl,hown,L⟩
theorem Qu0 (K:List UInt8) (r:Nat) (bs:List UInt8) (hr: ¬(r=2∨r=4)) (h:32≤bs.length) (hK:K.length=32):Qfh K r bs=bs.take 32++xorB (bs.drop 32) (chaS (xorB (bs.take 32) K) (bs.length-32)):=by
 rw[Qfh,if_neg hr]
 congr 3
 have hl:K.length=(bs.take 32).length:=by rw[QCP];omega
 apply List.ext_getElem?
 intro j
 rw[xorB,xorB,List.getElem?_zipWith,List.getElem?_zipWith]
 by_cases hj:j<K.length
 ·rw[QCv hj,QCv (show j<(bs.take 32).length by omega)]
  exact congrArg some (UInt8.xor_comm _ _)
 ·rw[QDr (show K.length≤j by omega),QDr (show (bs.take 32).length≤j by omega)]
theorem Quj (K:List UInt8) (r:Nat) (bs:List UInt8) (hr:r=2∨r=4):Qfh K r bs=xorB (bs.take 32) (Qbm K (bs.drop 32))++bs.drop 32:=by rw[Qfh,if_pos hr]
theorem Qtg (A B:Option Addr) (n c m d:Nat) (w:World):
 Calls Tryz.prog 94 #[.slice A n c,.slice B m d] w fun e w'=>e= .returned (.bool (decide (n=32∧32≤m∧m≤4096)))∧w'=w:=by
 by_cases h0:n=32
 ·subst h0
  by_cases h1:32≤m
  ·have e1:(32:Int)≤(m:Int):=by omega
   by_cases h2:m≤4096
   ·have e2:(m:Int)≤4096:=by omega
    rw[decide_eq_true (show 32=32∧32≤m∧m≤4096 from ⟨rfl,h1,h2⟩)]
    go_enter Tryz.func94,Tryz.ntmps94
    go_wp2
    go_ret
    exact⟨rfl,rfl⟩
   ·have e2: ¬(m:Int)≤4096:=by omega
    rw[decide_eq_false (show ¬(32=32∧32≤m∧m≤4096) from fun h=>h2 h.2.2)]
    go_enter Tryz.func94,Tryz.ntmps94
    go_wp2
    go_ret
    exact⟨rfl,rfl⟩
  ·have e1: ¬(32:Int)≤(m:Int):=by omega
   rw[decide_eq_false (show ¬(32=32∧32≤m∧m≤4096) from fun h=>h1 h.2.1)]
   go_enter Tryz.func94,Tryz.ntmps94
   go_wp2
   go_ret
   exact⟨rfl,rfl⟩
 ·have e1:((n:Int)==32)=false:=by simp;omega
  rw[decide_eq_false (show ¬(n=32∧32≤m∧m≤4096) from fun h=>h0 h.1)]
  go_enter Tryz.func94,Tryz.ntmps94
  go_wp2
  go_ret
  exact⟨by simp,rfl⟩
set_option maxRecDepth 100000 in
set_option maxHeartbeats 8000000 in
theorem Qp4 (A B C:Option Addr) (n c m d k e0:Nat) (key bs:List UInt8) (rs:List Int) (w:World) (hk:RdB w A n key) (hb:RdB w B m bs) (hd:m≤d) (hr:Rd w C k (rs.map intV)) (hn:n≤2097152) (hm:m≤2097152) (hk2:k≤2097152):
 Calls Tryz.prog 67 #[.slice A n c,.slice B m d,.slice C k e0] w fun e w'=>Later w w'∧∃A' c',e= .returned (.tuple #[.slice A' (Qdq key bs rs).length c',.int .i64 (Qgq key bs rs:Nat)])∧OwnB w' w.heap.size A' (Qdq key bs rs).length c' (Qdq key bs rs):=by
 have hkl:=hk.len
 have hbl:=hb.len
 have hrl:rs.length=k:=by have:=hr.1;rwa [QCt]at this
 have hbad:=hid (fun h=>And.intro (@Qlg key bs rs h) (@QlQ key bs rs h))
 have hunf:=hid (fun h h2=>And.intro (@Qii key bs rs h h2) (@Qiz key bs rs h h2))
 have hfit:=hid (fun h h2=>And.intro (@QgI key bs rs h h2) (@QgB key bs rs h h2))
 have hat:=hid (fun j (hj:j<k)=>Qwv hr hj)
 have hff:=hid (Qtg A B n c m d)
 generalize Qdq key bs rs=WB at *
 generalize Qgq key bs rs=WE at *
 go_enter Tryz.func67,Tryz.ntmps67
 go_wp2_with fail
 go_loopw [8] (fun i wr=>∃j:Nat,j≤k∧i= .int .i64 j∧wr=w∧Hid (∀ t,t<j→1≤rs.getD t 0∧rs.getD t 0≤4)) (fun i _=>k-(intOf i).toNat)
 case atStart=>exact⟨0,by omega,rfl,rfl,hid (fun t h=>by omega)⟩
 case round=>
  obtain⟨j,hj,rfl,rfl,hall⟩:=hrel
  by_cases hlt:j<k
  ·obtain⟨b,o,rfl,hbb,hcell⟩:=hat.out j hlt
   have c1:=hcell wr (Later.refl _)
   clear hcell
   have hmem:rs.getD j 0∈rs:=by rw[QCu,QCv (show j<rs.length by omega)];exact QDn _
   have hbd: ¬(1≤rs.getD j 0∧rs.getD j 0≤4)→Hid (WB=[]∧WE=1):=fun h=>hid (hbad.out (fun hok=>h (hok _ hmem)))
   have hst:1≤rs.getD j 0→rs.getD j 0≤4→Hid (∀ t,t<j+1→1≤rs.getD t 0∧rs.getD t 0≤4):=fun h1 h2=>hid (fun t ht=>by
    by_cases e:t=j
    ·subst e;exact⟨h1,h2⟩
    ·exact hall.out t (by omega))
   clear hmem
   generalize rs.getD j 0=r at *
   by_cases h1:r<1
   ·have hB:=hbd (by omega)
    clear hbd hst
    go_wp2_with fail
    go_ret2
    refine⟨Later.refl _,none,0,?_,?_⟩
    ·rw[hB.out.1,hB.out.2];rfl
    ·rw[hB.out.1];exact Qay _ _ _
   ·by_cases h2:4<r
    ·have hB:=hbd (by omega)
     clear hbd hst
     go_wp2_with fail
     go_ret2
     refine⟨Later.refl _,none,0,?_,?_⟩
     ·rw[hB.out.1,hB.out.2];rfl
     ·rw[hB.out.1];exact Qay _ _ _
    ·have hS:=hst (by omega) (by omega)
     clear hbd hst
     go_wp2_with fail
     go_roundw
     case rel=>exact⟨j+1,by omega,by go_num,trivial,hS⟩
     case measure=>simp[intOf];omega
  ·obtain rfl:k=j:=by omega
   have hok:okR rs:=fun r hr'=>by
    obtain⟨t,ht⟩:=List.getElem?_of_mem hr'
    have htl:=(QCK.1 ht).1
    have:=hall.out t (by omega)
    rwa [QCu,ht]at this
   clear hbad
   go_wp2_with fail
   (with_reducible refine (hff.out _).mono ?_);rintro e w1 ⟨rfl,rfl⟩
   by_cases hf:n=32∧32≤m∧m≤4096
   ·rw[decide_eq_true hf]
    have hF:=hid (hfit.out hok ⟨by rw[hkl];exact hf.1,by rw[hbl];exact hf.2⟩)
    obtain⟨rfl,hm32,hm4⟩:=hf
    clear hunf hfit
    have hDe:=hid (fun s w h hs=>QcX A 32 c key s w h (by omega) hs)
    have hFt:=hid (fun j h=>Qjs key rs bs j h)
    have hFl:=hid (fun rs=>Qde key rs bs (by omega))
    have hDl:=hid (fun r=>QaU key (labW r))
    have hXo:=hid (fun A n c xs ys w h h1 h2 hn=>QuN A n c xs ys w h h1 h2 hn)
    have hF0:=hid (show Qfk key (rs.take 0) bs=bs from rfl)
    have hcl:∀W,(Instr.sliceAt 32 (.slice B m d) none (some (.int .i64 32)) none).run Tryz.prog W= .ok (.slice B 32 d) W:=fun W=>Qnu B m d .i64 32 (by omega) W
    have hcr:∀W,(Instr.sliceAt 32 (.slice B m d) (some (.int .i64 32)) none none).run Tryz.prog W= .ok (.slice (cutA B 32 d) (m-32) (d-32)) W:=fun W=>Qiq B m d .i64 32 hm32 W
    go_wp2_with fail
    have J1:=Qaa w1 (.cells #[.string lab1,.string lab2,.string lab3,.string lab4] 205)
    have hlb:=Blk.new w1 205 [.string lab1,.string lab2,.string lab3,.string lab4]
    (refine (Qcf B 32 d (bs.take 32) _ ((hb.later J1).take hm32) (by omega)).mono ?_);rintro e w2 ⟨A2,c2,rfl,ho2,j2⟩
    go_wp2_with fail
    have J2:=J1.trans j2
    (refine (Qcf _ (m-32) _ (bs.drop 32) _ ((hb.later J2).cut (c:=d) hm32 hd) (by omega)).mono ?_);rintro e w3 ⟨A3,c3,rfl,ho3,j3⟩
    have L3:=J2.trans j3
    have ho2':=(ho2.later j3).mono J1.size
    have ho3':=ho3.mono J2.size
    have hlb3:=hlb.later (j2.trans j3)
    clear J1 hlb j2 J2 j3 ho2 ho3
    go_wp2_with fail
    go_loopw [10,11,12] (fun v u i wr=>∃(j:Nat) (A1 A2:Option Addr) (c1 c2:Nat),j≤k∧i= .int .i64 j∧v= .slice A1 32 c1∧u= .slice A2 (m-32) c2∧OwnB wr w1.heap.size A1 32 c1 ((Qfk key (rs.take j) bs).take 32)∧OwnB wr w1.heap.size A2 (m-32) c2 ((Qfk key (rs.take j) bs).drop 32)∧Later w1 wr∧Blk wr w1.heap.size 205 [.string lab1,.string lab2,.string lab3,.string lab4]) (fun _ _ i _=>k-(intOf i).toNat)
    case atStart=>exact⟨0,A2,A3,c2,c3,by omega,rfl,rfl,rfl,by rw[hF0.out];exact ho2',by rw[hF0.out];exact ho3',L3,hlb3⟩
    case round=>
     clear ho2' ho3' L3 hlb3
     obtain⟨j,A1,A2,c1,c2,hj,rfl,rfl,rfl,ho1,ho2,L,hlb⟩:=hrel
     by_cases hlt:j<k
     ·obtain⟨b,o,rfl,hbb,hcell⟩:=hat.out j hlt
      have d1:=hcell wr L
      have HC:=hid hcell
      have hrr:=hall.out j hlt
      have HF:=hid (hFt.out j (by omega))
      have hFm:=hFl.out (rs.take j)
      have hDlr:=hDl.out (rs.getD j 0)
      clear hcell
      generalize rs.getD j 0=r at *
      generalize Qfk key (rs.take j) bs=F at *
      rw[hbl]at hFm
      have hFt32:(F.take 32).length=32:=by rw[QCP];omega
      have hFd32:(F.drop 32).length=m-32:=by rw[QCS];omega
      have s0:=hlb.cellD 0 rfl
      have s1:=hlb.cellD 1 rfl
      have s2:=hlb.cellD 2 rfl
      have s3:=hlb.cellD 3 rfl
      have hr4:r=1∨r=2∨r=3∨r=4:=by omega
      clear hrr
      rcases hr4 with rfl|rfl|rfl|rfl
      ·have hDr:=hDe.out lab1 wr (hk.later L) (by decide)
       rw[show derB key lab1=derB key (labW 1) from rfl]at hDr
       generalize derB key (labW 1)=Kr at *
       go_wp2_with fail
       (refine hDr.mono ?_);rintro e w4 ⟨rfl,j4⟩
       go_wp2_with (first
        | (refine Qdp 32 rfl rfl _ _ rfl (Blk.new w4 _ (QCn 32 (.int .u8 0))) rfl rfl Qfq hDlr rfl ?_;intro w5 hk5 ho5)
        | (refine QaH rfl _ _ _ rfl 5 _ 1 Tryz.underlying32 QbW rfl _ _ _ _ 0 rfl rfl rfl rfl (by omega) (by omega) ?_;intro w6 hb6 hl6
           have J6:=((j4.trans (Qaa w4 _)).only ho5 j4.size).trans hl6
           have d2:=HC.out _ (L.trans J6))
        | fail)
       have hk6:=hk5.later hl6
       generalize w4.heap.size=g13 at *
       (refine (hXo.out _ 32 _ (F.take 32) Kr _ (Qc4 (Blk.new w6 32 [.slice A1 32 c1,.slice (some ⟨g13,0,none⟩) 32 32]) (QbS (ho1.later (J6.trans (Qaa w6 _))).rd ho1.cap) (QbS (QdH (hk6.later (Qaa w6 _)) hDlr) (QCx _))) hFt32 hDlr (by omega)).mono ?_);rintro e w7 ⟨A7,c7,rfl,ho7,j7⟩
       go_wp2_with fail
       have J7:=(J6.trans (Qaa w6 (.cells #[.slice A1 32 c1,.slice (some ⟨g13,0,none⟩) 32 32] 32))).trans j7
       (refine (Qg1 A7 c7 (m-32) _ _ ho7.rd (by omega)).mono ?_);rintro e w8 ⟨A8,c8,rfl,ho8,j8⟩
       go_wp2_with fail
       have J8:=(J7.trans j8).trans (Qaa w8 (.cells #[.slice A2 (m-32) c2,.slice A8 (m-32) c8] 32))
       have hST:=QbZ (xorB (F.take 32) Kr) (m-32)
       (refine (hXo.out _ (m-32) _ (F.drop 32) _ _ (Qc4 (Blk.new w8 32 [.slice A2 (m-32) c2,.slice A8 (m-32) c8]) (QbS (ho2.later J8).rd ho2.cap) (QbS (ho8.later (Qaa w8 _)).rd ho8.cap)) hFd32 hST (by omega)).mono ?_);rintro e w9 ⟨A9,c9,rfl,ho9,j9⟩
       go_wp2_with fail
       go_roundw
       case rel=>exact⟨j+1,A1,A9,c1,c9,by omega,by go_num,rfl,rfl,by rw[HF.out,Qu0 _ _ _ (by decide) (by omega) hDlr,QD9 hFt32];exact ho1.later (J8.trans j9),by rw[HF.out,Qu0 _ _ _ (by decide) (by omega) hDlr,QDg hFt32,hFm];exact ho9.mono (L.trans J8).size,(L.trans J8).trans j9,hlb.later (J8.trans j9)⟩
       case measure=>simp[intOf];omega
      ·have hDr:=hDe.out lab2 wr (hk.later L) (by decide)
       rw[show derB key lab2=derB key (labW 2) from rfl]at hDr
       generalize derB key (labW 2)=Kr at *
       go_wp2_with fail
       (refine hDr.mono ?_);rintro e w4 ⟨rfl,j4⟩
       go_wp2_with (first
        | (refine Qdp 32 rfl rfl _ _ rfl (Blk.new w4 _ (QCn 32 (.int .u8 0))) rfl rfl Qfq hDlr rfl ?_;intro w5 hk5 ho5)
        | (refine QaH rfl _ _ _ rfl 5 _ 1 Tryz.underlying32 QbW rfl _ _ _ _ 0 rfl rfl rfl rfl (by omega) (by omega) ?_;intro w6 hb6 hl6
           have J6:=((j4.trans (Qaa w4 _)).only ho5 j4.size).trans hl6
           have d2:=HC.out _ (L.trans J6))
        | fail)
       have hk6:=hk5.later hl6
       generalize w4.heap.size=g13 at *
       (refine (Qev (some ⟨g13,0,none⟩) A2 32 32 (m-32) c2 Kr (F.drop 32) _ (QdH hk6 hDlr) (by omega) (ho2.later J6).rd (by omega)).mono ?_);rintro e w7 ⟨rfl,j7⟩
       have hG:=QaI Kr (F.drop 32)
       go_wp2_with (first
        | (refine Qdp 32 rfl rfl _ _ rfl (Blk.new w7 _ (QCn 32 (.int .u8 0))) rfl rfl Qfq hG rfl ?_;intro w8 hb8 ho8)
        | fail)
       have J7:=J6.trans ((j7.trans (Qaa w7 _)).only ho8 j7.size)
       generalize w7.heap.size=g17 at *
       have J8:=J7.trans (Qaa w8 (.cells #[.slice A1 32 c1,.slice (some ⟨g17,0,none⟩) 32 32] 32))
       (refine (hXo.out _ 32 _ (F.take 32) _ _ (Qc4 (Blk.new w8 32 [.slice A1 32 c1,.slice (some ⟨g17,0,none⟩) 32 32]) (QbS (ho1.later J8).rd ho1.cap) (QbS (QdH (hb8.later (Qaa w8 _)) hG) (QCx _))) hFt32 hG (by omega)).mono ?_);rintro e w9 ⟨A9,c9,rfl,ho9,j9⟩
       have hl9:=ho9.len
       go_wp2_with fail
       go_roundw
       case rel=>exact⟨j+1,A9,A2,c9,c2,by omega,by go_num,rfl,rfl,by rw[HF.out,Quj _ _ _ (by decide),QD9 hl9];exact ho9.mono (L.trans J8).size,by rw[HF.out,Quj _ _ _ (by decide),QDg hl9];exact ho2.later (J8.trans j9),(L.trans J8).trans j9,hlb.later (J8.trans j9)⟩
       case measure=>simp[intOf];omega
      ·have hDr:=hDe.out lab3 wr (hk.later L) (by decide)
       rw[show derB key lab3=derB key (labW 3) from rfl]at hDr
       generalize derB key (labW 3)=Kr at *
       go_wp2_with fail
       (refine hDr.mono ?_);rintro e w4 ⟨rfl,j4⟩
       go_wp2_with (first
        | (refine Qdp 32 rfl rfl _ _ rfl (Blk.new w4 _ (QCn 32 (.int .u8 0))) rfl rfl Qfq hDlr rfl ?_;intro w5 hk5 ho5)
        | (refine QaH rfl _ _ _ rfl 5 _ 1 Tryz.underlying32 QbW rfl _ _ _ _ 0 rfl rfl rfl rfl (by omega) (by omega) ?_;intro w6 hb6 hl6
           have J6:=((j4.trans (Qaa w4 _)).only ho5 j4.size).trans hl6
           have d2:=HC.out _ (L.trans J6))
        | fail)
       have hk6:=hk5.later hl6
       generalize w4.heap.size=g13 at *
       (refine (hXo.out _ 32 _ (F.take 32) Kr _ (Qc4 (Blk.new w6 32 [.slice A1 32 c1,.slice (some ⟨g13,0,none⟩) 32 32]) (QbS (ho1.later (J6.trans (Qaa w6 _))).rd ho1.cap) (QbS (QdH (hk6.later (Qaa w6 _)) hDlr) (QCx _))) hFt32 hDlr (by omega)).mono ?_);rintro e w7 ⟨A7,c7,rfl,ho7,j7⟩
       go_wp2_with fail
       have J7:=(J6.trans (Qaa w6 (.cells #[.slice A1 32 c1,.slice (some ⟨g13,0,none⟩) 32 32] 32))).trans j7
       (refine (Qg1 A7 c7 (m-32) _ _ ho7.rd (by omega)).mono ?_);rintro e w8 ⟨A8,c8,rfl,ho8,j8⟩
       go_wp2_with fail
       have J8:=(J7.trans j8).trans (Qaa w8 (.cells #[.slice A2 (m-32) c2,.slice A8 (m-32) c8] 32))
       have hST:=QbZ (xorB (F.take 32) Kr) (m-32)
       (refine (hXo.out _ (m-32) _ (F.drop 32) _ _ (Qc4 (Blk.new w8 32 [.slice A2 (m-32) c2,.slice A8 (m-32) c8]) (QbS (ho2.later J8).rd ho2.cap) (QbS (ho8.later (Qaa w8 _)).rd ho8.cap)) hFd32 hST (by omega)).mono ?_);rintro e w9 ⟨A9,c9,rfl,ho9,j9⟩
       go_wp2_with fail
       go_roundw
       case rel=>exact⟨j+1,A1,A9,c1,c9,by omega,by go_num,rfl,rfl,by rw[HF.out,Qu0 _ _ _ (by decide) (by omega) hDlr,QD9 hFt32];exact ho1.later (J8.trans j9),by rw[HF.out,Qu0 _ _ _ (by decide) (by omega) hDlr,QDg hFt32,hFm];exact ho9.mono (L.trans J8).size,(L.trans J8).trans j9,hlb.later (J8.trans j9)⟩
       case measure=>simp[intOf];omega
      ·have hDr:=hDe.out lab4 wr (hk.later L) (by decide)
       rw[show derB key lab4=derB key (labW 4) from rfl]at hDr
       generalize derB key (labW 4)=Kr at *
       go_wp2_with fail
       (refine hDr.mono ?_);rintro e w4 ⟨rfl,j4⟩
       go_wp2_with (first
        | (refine Qdp 32 rfl rfl _ _ rfl (Blk.new w4 _ (QCn 32 (.int .u8 0))) rfl rfl Qfq hDlr rfl ?_;intro w5 hk5 ho5)
        | (refine QaH rfl _ _ _ rfl 5 _ 1 Tryz.underlying32 QbW rfl _ _ _ _ 0 rfl rfl rfl rfl (by omega) (by omega) ?_;intro w6 hb6 hl6
           have J6:=((j4.trans (Qaa w4 _)).only ho5 j4.size).trans hl6
           have d2:=HC.out _ (L.trans J6))
        | fail)
       have hk6:=hk5.later hl6
       generalize w4.heap.size=g13 at *
       (refine (Qev (some ⟨g13,0,none⟩) A2 32 32 (m-32) c2 Kr (F.drop 32) _ (QdH hk6 hDlr) (by omega) (ho2.later J6).rd (by omega)).mono ?_);rintro e w7 ⟨rfl,j7⟩
       have hG:=QaI Kr (F.drop 32)
       go_wp2_with (first
        | (refine Qdp 32 rfl rfl _ _ rfl (Blk.new w7 _ (QCn 32 (.int .u8 0))) rfl rfl Qfq hG rfl ?_;intro w8 hb8 ho8)
        | fail)
       have J7:=J6.trans ((j7.trans (Qaa w7 _)).only ho8 j7.size)
       generalize w7.heap.size=g17 at *
       have J8:=J7.trans (Qaa w8 (.cells #[.slice A1 32 c1,.slice (some ⟨g17,0,none⟩) 32 32] 32))
       (refine (hXo.out _ 32 _ (F.take 32) _ _ (Qc4 (Blk.new w8 32 [.slice A1 32 c1,.slice (some ⟨g17,0,none⟩) 32 32]) (QbS (ho1.later J8).rd ho1.cap) (QbS (QdH (hb8.later (Qaa w8 _)) hG) (QCx _))) hFt32 hG (by omega)).mono ?_);rintro e w9 ⟨A9,c9,rfl,ho9,j9⟩
       have hl9:=ho9.len
       go_wp2_with fail
       go_roundw
       case rel=>exact⟨j+1,A9,A2,c9,c2,by omega,by go_num,rfl,rfl,by rw[HF.out,Quj _ _ _ (by decide),QD9 hl9];exact ho9.mono (L.trans J8).size,by rw[HF.out,Quj _ _ _ (by decide),QDg hl9];exact ho2.later (J8.trans j9),(L.trans J8).trans j9,hlb.later (J8.trans j9)⟩
       case measure=>simp[intOf];omega
     ·obtain rfl:k=j:=by omega
      have eT:rs.take k=rs:=QCE (by omega)
      rw[eT]at ho1 ho2
      clear eT
      have hFl':=hFl.out rs
      rw[←hF.out.1]at ho1 ho2 hFl'
      rw[hbl]at hFl'
      have hWE:=hF.out.2
      have e32:32+(m-32)=m:=by omega
      go_wp2_with (first
       | (refine Qas rfl _ _ _ rfl 5 _ 1 Tryz.underlying32 QbW rfl w1 _ 32 _ ho1 L A2 (m-32) c2 _ ho2.rd (QaE _) rfl rfl (by omega) (by omega) ?_;intro A7 c7 w7 hown7 hl7 hg7 _)
       | fail)
      have hown8:=Qdc hown7
      rw[QC3,e32]at hown8
      go_ret2
      exact⟨hl7,A7,c7,by rw[hFl',hWE];(first|rw[e32];rfl|rfl),by rw[hFl'];exact hown8⟩
   ·rw[decide_eq_false hf]
    have hB:=hid (hunf.out hok (fun h=>hf ⟨by rw[←hkl];exact h.1,by rw[←hbl];exact h.2⟩))
    clear hunf hfit
    go_wp2_with fail
    go_ret2
    refine⟨Later.refl _,none,0,?_,?_⟩
    ·rw[hB.out.1,hB.out.2];rfl
    ·rw[hB.out.1];exact Qay _ _ _
def rsO:List Int:=[4,3,2,1]
theorem okO:okR rsO:=by decide
set_option maxHeartbeats 1000000 in
theorem Qsp (A B:Option Addr) (n c m d:Nat) (key bs:List UInt8) (w:World) (hk:RdB w A n key) (hc:n≤c) (hb:RdB w B m bs) (hd:m≤d) (hn:n≤2097152) (hm:m≤2097152):
 Calls Tryz.prog 58 #[.slice A n c,.slice B m d] w fun e w'=>Later w w'∧∃A' c',e= .returned (.tuple #[.slice A' (Qdq key bs rsO).length c',.int .i64 (Qgq key bs rsO:Nat)])∧OwnB w' w.heap.size A' (Qdq key bs rsO).length c' (Qdq key bs rsO):=by
 have h:=hid (fun C e0 w hk hb hr=>QmP A B C n c m d 4 e0 key bs rsO w hk hc hb hd hr hn hm (by omega))
 generalize Qdq key bs rsO=X at *
 generalize Qgq key bs rsO=E at *
 go_enter Tryz.func58,Tryz.ntmps58
 go_wp2_with fail
 have J:=Qaa w (.cells #[.int .i64 4,.int .i64 3,.int .i64 2,.int .i64 1] 3)
 (refine (h.out _ _ _ (hk.later J) (hb.later J) ((Blk.new w 3 [.int .i64 4,.int .i64 3,.int .i64 2,.int .i64 1]).rd rfl)).mono ?_);rintro e w1 ⟨j1,A1,c1,rfl,ho1⟩
 go_wp2_with fail
 go_ret2
 exact⟨J.trans j1,A1,c1,rfl,ho1.mono J.size⟩
set_option maxHeartbeats 1000000 in
theorem QtL (A B:Option Addr) (n c m d:Nat) (key bs:List UInt8) (w:World) (hk:RdB w A n key) (hb:RdB w B m bs) (hd:m≤d) (hn:n≤2097152) (hm:m≤2097152):
 Calls Tryz.prog 53 #[.slice A n c,.slice B m d] w fun e w'=>Later w w'∧∃A' c',e= .returned (.tuple #[.slice A' (Qdq key bs rsO).length c',.int .i64 (Qgq key bs rsO:Nat)])∧OwnB w' w.heap.size A' (Qdq key bs rsO).length c' (Qdq key bs rsO):=by
 have h:=hid (fun C e0 w hk hb hr=>Qp4 A B C n c m d 4 e0 key bs rsO w hk hb hd hr hn hm (by omega))
 generalize Qdq key bs rsO=X at *
 generalize Qgq key bs rsO=E at *
 go_enter Tryz.func53,Tryz.ntmps53
 go_wp2_with fail
 have J:=Qaa w (.cells #[.int .i64 4,.int .i64 3,.int .i64 2,.int .i64 1] 3)
 (refine (h.out _ _ _ (hk.later J) (hb.later J) ((Blk.new w 3 [.int .i64 4,.int .i64 3,.int .i64 2,.int .i64 1]).rd rfl)).mono ?_);rintro e w1 ⟨j1,A1,c1,rfl,ho1⟩
 go_wp2_with fail
 go_ret2
 exact⟨J.trans j1,A1,c1,rfl,ho1.mono J.size⟩
end Go.Proofs.YtdkpcdgckgaklaaGreat
