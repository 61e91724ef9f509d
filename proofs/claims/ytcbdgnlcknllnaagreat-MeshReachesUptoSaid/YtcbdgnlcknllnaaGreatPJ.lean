/-
  Lemmas for the last text of this claim (part 10 of 20).
-/
import Derived.BigQuiet
import Derived.BigRegion
import Derived.ChangeOld
import Derived.Deep.RegionWith
import Derived.DeepKeys4
import Derived.JoinedCond
import Derived.LaidMore
import Derived.Laws.CopyOwn
import Derived.Laws.Externs
import Derived.Laws.IdiomStrings
import Derived.Laws.Tables
import Derived.Lib.AppendStr
import Derived.Lib.AppendZerosOnto
import Derived.Lib.Mul64
import Derived.Lib.SlBytesConst
import Derived.LoopN
import Derived.Maps.OwnSet
import Derived.OpenShut
import Derived.OrdersHeld
import Derived.ProofKit
import Derived.Shelf.Spec.BitsCarry
import Derived.ShutString
import Derived.Test.YtcbdgnlcknllnaaGreatProg
import Derived.Test.YtcbdgnlcknllnaaGreatRows
import Derived.WalkKit
import Derived.WalkLawsBesides
import Derived.WalkSpells
import Derived.Test.YtcbdgnlcknllnaaGreatPA
import Derived.Test.YtcbdgnlcknllnaaGreatPB
import Derived.Test.YtcbdgnlcknllnaaGreatPD
import Derived.Test.YtcbdgnlcknllnaaGreatPE
import Derived.Test.YtcbdgnlcknllnaaGreatPI
open Bool renaming and_eq_true → QFQ, eq_iff_iff → QGk, or_eq_true → QHf, false_or → QHN
open List renaming replicate → QFu, getElem?_cons_succ → QFv, getElem?_cons_zero → QFw, cons_append → QFy, nil_append → QFz, length_map → QFA, getElem?_eq_getElem → QFB, getD_eq_getElem?_getD → QFC, length_append → QFF, set_cons_zero → QFG, set_cons_succ → QFH, take_of_length_le → QFJ, length_replicate → QFM, getElem?_map → QFN, not_mem_nil → QFO, mem_cons → QFP, map_nil → QFR, getElem?_append_left → QFS, map_cons → QFW, map_append → QF2, range → QF6, set_append_right → QF9, length_set → QGd, mem_map → QGf, all_eq_true → QGi, getElem?_eq_none → QGm, length_cons → QGo, getElem_mem → QGy, mem_append → QGC, getElem?_range → QGM, all_cons → QGN, getElem?_drop → QGR, getElem?_take → QGX, range_succ → QG4, set_append_left → QG5, drop_succ_cons → QHc, any_eq_true → QHh, getElem_of_mem → QHk, nodup_cons → QHn, replicate_succ → QHv, take_zero → QHy, flatMap_append → QHG, drop_zero → QHM
open Nat renaming le_refl → QFE, zero_add → QFX, lt_or_ge → QGE, mul_one → QHj
open Option renaming toList_some → QFx, map_some → QHg, getD_some → QHq
open UInt8 renaming ofNat → QGa, toNat_inj → QGl, toNat_ofNat' → QGK, lt_iff_toNat_lt → QHl
namespace Go.Proofs.YtcbdgnlcknllnaaGreat
open Go.RowKit
structure Prt where
 kd:UInt8
 id:UInt64
 ix:Int
 ct:Int
 da:List UInt8
def prt0:Prt:=⟨0,0,0,0,[]⟩
def PaC (p:Prt) (v:Value):List Value:=[W8 p.kd,W64 p.id,.int .i64 p.ix,.int .i64 p.ct,v]
def prtE (p:Prt):Nat:=
 if p.kd<1∨3<p.kd then 1 else if 450<p.da.length then 2 else if p.ct<1∨16<p.ct∨p.ix<0∨p.ct≤p.ix then 3
 else if p.kd≠1∧p.ct≠1 then 3 else if p.kd=2∧(p.id≠0∨p.da.length≠0) then 3 else 0
abbrev Y16:={l:List UInt8 // l.length=16}
structure Cmd where
 kd:UInt8
 fl:UInt8
 dl:UInt32
 nx:UInt64
 ma:Y16
def QaH:Y16:=⟨QFu 16 0,by simp⟩
def cmd0:Cmd:=⟨0,0,0,0,QaH⟩
def CC (c:Cmd):List Value:=W8 c.kd :: W8 c.fl :: W32 c.dl :: W64 c.nx :: c.ma.val.map W8
theorem Qan (c:Cmd):(CC c).length=20:=by simp[CC,c.ma.2]
theorem QAr (c:Cmd):(CC c).drop 4=c.ma.val.map W8:=rfl
end Go.Proofs.YtcbdgnlcknllnaaGreat
namespace Go.Proofs.YtcbdgnlcknllnaaGreat
open Go.RowKit
open Go.BigFrame
abbrev pz0:List Value:=[.int .u8 0,.int .u64 0,.int .i64 0,.int .i64 0,.slice none 0 0]
theorem Qx5:(Tryz.prog.info? 36).bind (·.zero)=some (.agg (PaC prt0 (.slice none 0 0)).toArray):=by kernel_rfl
theorem Qd4:(Tryz.prog.info? 36).map (·.size)=some 5:=by kernel_rfl
theorem Qbe (p:Prt) (v:Value):(PaC p v).length=5:=rfl
theorem QiY (p:Prt) {v:Value} (h:v.oneCell'=true):∀u∈PaC p v,u.oneCell'=true:=by
 intro u hu
 simp only[PaC,QFP,QFO,or_false]at hu
 rcases hu with rfl|rfl|rfl|rfl|rfl<;>first|rfl|exact h
theorem Qt8:Tryz.prog.built 36 []=some (PaC prt0 (.slice none 0 0)).toArray:=by
 rw[Qa0 (pl:=[(0,1),(1,1),(2,1),(3,1),(4,1)]) Tryz.underlying36 Qx5 (by kernel_rfl),Qb5]
theorem Qun (kd:UInt8) (id:UInt64) (ix ct:Int):Tryz.prog.built 36 [(0,W8 kd),(1,W64 id),(2,.int .i64 ix),(3,.int .i64 ct)]=some (PaC ⟨kd,id,ix,ct,[]⟩ (.slice none 0 0)).toArray:=by
 rw[Qa0 (pl:=[(0,1),(1,1),(2,1),(3,1),(4,1)]) Tryz.underlying36 Qx5 (by kernel_rfl),QaR (vs:=[W8 kd]) (off:=0) rfl rfl (by simp[PaC]),QaR (vs:=[W64 id]) (off:=1) rfl rfl (by simp[PaC,Qat]),QaR (vs:=[.int .i64 ix]) (off:=2) rfl rfl (by simp[PaC,Qat]),QaR (vs:=[.int .i64 ct]) (off:=3) rfl rfl (by simp[PaC,Qat]),Qb5]
 rfl
section
variable {ops:Array Oper} {rest:List Oper} {o:Oper} {a:Act} {w:World} {Q:Exit→Act→World→Prop}
theorem Qb6 (hgd:o.guard=none) (hd:o.dst=none) (x y:Operand) (ho:o.op= .store 36 x y) {g:Nat} {t:TypeId} {l:List Value} {p:Prt} {v:Value} (hg:Blk w g t l) (hx:a.eval x= .pointer (some ⟨g,0,none⟩)) (hy:a.eval y= .agg (PaC p v).toArray) (hv:v.oneCell'=true) (hl:l.length=5)
 (h:∀w',Blk w' g t (PaC p v)→Only g w w'→wpList Tryz.prog ops Q rest a w'):wpList Tryz.prog ops Q (o :: rest) a w:=
 Qaj hgd hd _ x y ho g t l _ hg hx hy 5 Qd4 rfl hl (QiY p hv) h
theorem Qea (hw:Region.wanted o (yielded ops a.tmps)=true) (x:Operand) (ho:o.op= .load 36 x) {g:Nat} {t:TypeId} {p:Prt} {v:Value} (hb:Blk w g t (PaC p v)) (hx:a.eval x= .pointer (some ⟨g,0,none⟩))
 (h:wpList Tryz.prog ops Q rest (a.put o.dst (.agg (PaC p v).toArray)) w):wpList Tryz.prog ops Q (o :: rest) a w:=
 Qar hw _ x ho g 0 _ (fun j v hv=>by rw[QFX];exact hb.cellD _ hv) hx _ Tryz.underlying36 rfl (by rw[Qbe];exact Qd4) h
end
theorem QaS {w:World} {g:Nat} {t:TypeId} {p:Prt} {v:Value} (h:Blk w g t (PaC p v)):w.cell? ⟨g,0,none⟩=some (W8 p.kd)∧w.cell? ⟨g,1,none⟩=some (W64 p.id)∧w.cell? ⟨g,2,none⟩=some (.int .i64 p.ix)∧w.cell? ⟨g,3,none⟩=some (.int .i64 p.ct)∧w.cell? ⟨g,4,none⟩=some v:=
 ⟨h.cellD 0 rfl,h.cellD 1 rfl,h.cellD 2 rfl,h.cellD 3 rfl,h.cellD 4 rfl⟩
theorem Qp2 (k:UInt8):k=1∨k=2∨k=3∨(k<1∨3<k):=by
 have e1:(1:UInt8).toNat=1:=rfl
 have e2:(2:UInt8).toNat=2:=rfl
 have e3:(3:UInt8).toNat=3:=rfl
 rw[QHl,QHl,←QGl,←QGl,←QGl]
 omega
theorem Qyx (id:UInt64) (ix ct:Int) (da:List UInt8):prtE ⟨1,id,ix,ct,da⟩=if 450<da.length then 2 else if ct<1∨16<ct∨ix<0∨ct≤ix then 3 else 0:=by
 rw[prtE,if_neg (show ¬((1:UInt8)<1∨3<(1:UInt8)) by decide)]
 simp
theorem Qyg (id:UInt64) (ix ct:Int) (da:List UInt8):prtE ⟨2,id,ix,ct,da⟩=if 450<da.length then 2 else if ct<1∨16<ct∨ix<0∨ct≤ix then 3 else if ct≠1 then 3 else if id≠0∨da.length≠0 then 3 else 0:=by
 rw[prtE,if_neg (show ¬((2:UInt8)<1∨3<(2:UInt8)) by decide)]
 simp
theorem QyL (id:UInt64) (ix ct:Int) (da:List UInt8):prtE ⟨3,id,ix,ct,da⟩=if 450<da.length then 2 else if ct<1∨16<ct∨ix<0∨ct≤ix then 3 else if ct≠1 then 3 else 0:=by
 rw[prtE,if_neg (show ¬((3:UInt8)<1∨3<(3:UInt8)) by decide)]
 simp
theorem QqF {p:Prt} (h:p.kd<1∨3<p.kd):prtE p=1:=by rw[prtE,if_pos h]
theorem QuG {k:UInt8} (h:k<1∨3<k):(k != 1)=true∧(k != 2)=true∧(k != 3)=true:=by
 refine⟨?_,?_,?_⟩<;>(rw [bne_iff_ne];rintro rfl;exact absurd h (by decide))
set_option maxRecDepth 100000 in
set_option maxHeartbeats 4000000 in
theorem Qj7 (p:Prt) (A:Option Addr) (n c:Nat) (hn:p.da.length=n) (w:World):Calls Tryz.prog 64 #[.agg (PaC p (.slice A n c)).toArray] w fun e w'=>e= .returned (.int .i64 (prtE p:Nat))∧Later w w':=by
 obtain⟨kd,id,ix,ct,da⟩:=p
 simp only at hn
 have hb:Blk (w.alloc (.cells (PaC ⟨kd,id,ix,ct,da⟩ (.slice A n c)).toArray 36)) w.heap.size 36 (PaC ⟨kd,id,ix,ct,da⟩ (.slice A n c)):=Blk.new _ _ _
 obtain⟨c0,c1,c2,c3,c4⟩:=QaS hb
 have L:=Qaa w (.cells (PaC ⟨kd,id,ix,ct,da⟩ (.slice A n c)).toArray 36)
 clear hb
 obtain⟨E,hE⟩:∃E,prtE ⟨kd,id,ix,ct,da⟩=E:=⟨_,rfl⟩
 rw[hE]
 rcases Qp2 kd with rfl|rfl|rfl|hbad
 case inr.inr.inr=>
  have HE:=hid (hE.symm.trans (QqF (p:=⟨kd,id,ix,ct,da⟩) hbad))
  clear hE
  rcases hbad with h|h
  ·go_enter Tryz.func64,Tryz.ntmps64
   go_wp2_with fail
   go_ret
   exact⟨by rw[HE.out];rfl,L⟩
  ·by_cases h1:kd<1
   all_goals
    go_enter Tryz.func64,Tryz.ntmps64
    go_wp2_with fail
    go_ret
    exact⟨by rw[HE.out];rfl,L⟩
 all_goals
  have HE:=hE.symm.trans (by first|exact Qyx id ix ct da|exact Qyg id ix ct da|exact QyL id ix ct da)
  rw[hn]at HE
  replace HE:=hid HE
  clear hE
  by_cases h2:450<n
  ·have hd:decide ((450:Int)<(n:Int))=true:=decide_eq_true (by omega)
   replace HE:=hid (HE.out.trans (if_pos h2))
   go_enter Tryz.func64,Tryz.ntmps64
   go_wp2_with fail
   go_ret
   exact⟨by rw[HE.out];rfl,L⟩
  have hd:decide ((450:Int)<(n:Int))=false:=decide_eq_false (by omega)
  replace HE:=hid (HE.out.trans (if_neg h2))
  by_cases h3:ct<1∨16<ct∨ix<0∨ct≤ix
  ·replace HE:=hid (HE.out.trans (if_pos h3))
   by_cases k1:ct<1
   ·go_enter Tryz.func64,Tryz.ntmps64
    go_wp2_with fail
    go_ret
    exact⟨by rw[HE.out];rfl,L⟩
   by_cases k2:16<ct
   ·go_enter Tryz.func64,Tryz.ntmps64
    go_wp2_with fail
    go_ret
    exact⟨by rw[HE.out];rfl,L⟩
   by_cases k3:ix<0
   ·go_enter Tryz.func64,Tryz.ntmps64
    go_wp2_with fail
    go_ret
    exact⟨by rw[HE.out];rfl,L⟩
   have k4:ct≤ix:=by omega
   go_enter Tryz.func64,Tryz.ntmps64
   go_wp2_with fail
   go_ret
   exact⟨by rw[HE.out];rfl,L⟩
  replace HE:=hid (HE.out.trans (if_neg h3))
  have k1: ¬ct<1:=by omega
  have k2: ¬ 16<ct:=by omega
  have k3: ¬ix<0:=by omega
  have k4: ¬ct≤ix:=by omega
  clear h3
 ·go_enter Tryz.func64,Tryz.ntmps64
  go_wp2_with fail
  go_ret
  exact⟨by rw[HE.out];rfl,L⟩
 all_goals
  by_cases h4:ct=1
  case neg=>
   have hd4:(ct != 1)=true:=by simpa using h4
   replace HE:=hid (HE.out.trans (if_pos h4))
   go_enter Tryz.func64,Tryz.ntmps64
   go_wp2_with fail
   go_ret
   exact⟨by rw[HE.out];rfl,L⟩
  subst h4
  replace HE:=hid (HE.out.trans (if_neg (by simp)))
 ·cases e1:(id==0)
  ·have n1:(id != 0)=true:=by rw[bne,e1];rfl
   have hne:id≠0:=by simpa using e1
   replace HE:=hid (HE.out.trans (if_pos (.inl hne)))
   go_enter Tryz.func64,Tryz.ntmps64
   go_wp2_with fail
   go_ret
   exact⟨by rw[HE.out];rfl,L⟩
  ·have n1:(id != 0)=false:=by rw[bne,e1];rfl
   have heq:id=0:=by simpa using e1
   by_cases h5:n=0
   ·replace HE:=hid (HE.out.trans (if_neg (by simp[heq,h5])))
    have n2:((n:Int) != 0)=false:=by simp[h5]
    clear h5 heq
    go_enter Tryz.func64,Tryz.ntmps64
    go_wp2_with fail
    go_ret
    exact⟨by rw[HE.out];rfl,L⟩
   ·replace HE:=hid (HE.out.trans (if_pos (.inr h5)))
    have n2:((n:Int) != 0)=true:=by simp;omega
    clear h5 heq
    go_enter Tryz.func64,Tryz.ntmps64
    go_wp2_with fail
    go_ret
    exact⟨by rw[HE.out];rfl,L⟩
 ·go_enter Tryz.func64,Tryz.ntmps64
  go_wp2_with fail
  go_ret
  exact⟨by rw[HE.out];rfl,L⟩
set_option maxRecDepth 100000 in
set_option maxHeartbeats 4000000 in
theorem Qrp (p:Prt) (A:Option Addr) (n c:Nat) (hn:p.da.length=n) (w:World):Calls Tryz.prog 50 #[.agg (PaC p (.slice A n c)).toArray] w fun e w'=>e= .returned (.int .i64 (prtE p:Nat))∧Later w w':=by
 obtain⟨kd,id,ix,ct,da⟩:=p
 simp only at hn
 have hb:Blk (w.alloc (.cells (PaC ⟨kd,id,ix,ct,da⟩ (.slice A n c)).toArray 36)) w.heap.size 36 (PaC ⟨kd,id,ix,ct,da⟩ (.slice A n c)):=Blk.new _ _ _
 obtain⟨c0,c1,c2,c3,c4⟩:=QaS hb
 have L:=Qaa w (.cells (PaC ⟨kd,id,ix,ct,da⟩ (.slice A n c)).toArray 36)
 clear hb
 obtain⟨E,hE⟩:∃E,prtE ⟨kd,id,ix,ct,da⟩=E:=⟨_,rfl⟩
 rw[hE]
 rcases Qp2 kd with rfl|rfl|rfl|hbad
 case inr.inr.inr=>
  have HE:=hid (hE.symm.trans (QqF (p:=⟨kd,id,ix,ct,da⟩) hbad))
  clear hE
  obtain⟨m1,m2,m3⟩:=QuG hbad
  clear hbad
  go_enter Tryz.func50,Tryz.ntmps50
  go_wp2_with fail
  go_ret
  exact⟨by rw[HE.out];rfl,L⟩
 all_goals
  have HE:=hE.symm.trans (by first|exact Qyx id ix ct da|exact Qyg id ix ct da|exact QyL id ix ct da)
  rw[hn]at HE
  replace HE:=hid HE
  clear hE
  by_cases h2:450<n
  ·have hd:decide ((450:Int)<(n:Int))=true:=decide_eq_true (by omega)
   replace HE:=hid (HE.out.trans (if_pos h2))
   go_enter Tryz.func50,Tryz.ntmps50
   go_wp2_with fail
   go_ret
   exact⟨by rw[HE.out];rfl,L⟩
  have hd:decide ((450:Int)<(n:Int))=false:=decide_eq_false (by omega)
  replace HE:=hid (HE.out.trans (if_neg h2))
  by_cases h3:ct<1∨16<ct∨ix<0∨ct≤ix
  ·replace HE:=hid (HE.out.trans (if_pos h3))
   by_cases k1:ct<1
   ·go_enter Tryz.func50,Tryz.ntmps50
    go_wp2_with fail
    go_ret
    exact⟨by rw[HE.out];rfl,L⟩
   by_cases k2:16<ct
   ·go_enter Tryz.func50,Tryz.ntmps50
    go_wp2_with fail
    go_ret
    exact⟨by rw[HE.out];rfl,L⟩
   by_cases k3:ix<0
   ·go_enter Tryz.func50,Tryz.ntmps50
    go_wp2_with fail
    go_ret
    exact⟨by rw[HE.out];rfl,L⟩
   have k4:ct≤ix:=by omega
   go_enter Tryz.func50,Tryz.ntmps50
   go_wp2_with fail
   go_ret
   exact⟨by rw[HE.out];rfl,L⟩
  replace HE:=hid (HE.out.trans (if_neg h3))
  have k1: ¬ct<1:=by omega
  have k2: ¬ 16<ct:=by omega
  have k3: ¬ix<0:=by omega
  have k4: ¬ct≤ix:=by omega
  clear h3
 ·go_enter Tryz.func50,Tryz.ntmps50
  go_wp2_with fail
  go_ret
  exact⟨by rw[HE.out];rfl,L⟩
 all_goals
  by_cases h4:ct=1
  case neg=>
   have hd4:1<ct:=by omega
   replace HE:=hid (HE.out.trans (if_pos h4))
   go_enter Tryz.func50,Tryz.ntmps50
   go_wp2_with fail
   go_ret
   exact⟨by rw[HE.out];rfl,L⟩
  subst h4
  replace HE:=hid (HE.out.trans (if_neg (by simp)))
 ·cases e1:(id==0)
  ·have n1:(id != 0)=true:=by rw[bne,e1];rfl
   have hne:id≠0:=by simpa using e1
   replace HE:=hid (HE.out.trans (if_pos (.inl hne)))
   go_enter Tryz.func50,Tryz.ntmps50
   go_wp2_with fail
   go_ret
   exact⟨by rw[HE.out];rfl,L⟩
  ·have n1:(id != 0)=false:=by rw[bne,e1];rfl
   have heq:id=0:=by simpa using e1
   by_cases h5:n=0
   ·replace HE:=hid (HE.out.trans (if_neg (by simp[heq,h5])))
    have n2:decide (0<(n:Int))=false:=decide_eq_false (by omega)
    have n3: ¬ 0<n:=by omega
    clear h5 heq
    go_enter Tryz.func50,Tryz.ntmps50
    go_wp2_with fail
    go_ret
    exact⟨by rw[HE.out];rfl,L⟩
   ·replace HE:=hid (HE.out.trans (if_pos (.inr h5)))
    have n2:decide (0<(n:Int))=true:=decide_eq_true (by omega)
    have n3:0<n:=by omega
    clear h5 heq
    go_enter Tryz.func50,Tryz.ntmps50
    go_wp2_with fail
    go_ret
    exact⟨by rw[HE.out];rfl,L⟩
 ·go_enter Tryz.func50,Tryz.ntmps50
  go_wp2_with fail
  go_ret
  exact⟨by rw[HE.out];rfl,L⟩
def allZ (bs:List UInt8):Bool:=bs.all (· ==0)
theorem Qll:∀(bs:List UInt8),allZ bs=true↔bs=QFu bs.length 0
 | []=>by simp[allZ]
 | b :: bs=>by
   have ih:=Qll bs
   rw[allZ]at ih
   rw[allZ,QGN,QFQ,ih,QGo,QHv,List.cons.injEq,beq_iff_eq]
theorem QBh {bs:List UInt8} {k:Nat} (hk:k<bs.length) (h:bs.getD k 0≠0):allZ bs=false:=by
 rw[allZ,List.all_eq_false]
 refine⟨bs[k],QGy hk,?_⟩
 rw[QFC,QFB hk]at h
 simpa using h
theorem Qwp {bs:List UInt8} (h:∀k,k<bs.length→bs.getD k 0=0):allZ bs=true:=by
 rw[allZ,QGi]
 intro x hx
 obtain⟨k,hk,rfl⟩:=QHk hx
 have:=h k hk
 rw[QFC,QFB hk]at this
 simpa using this
set_option maxRecDepth 100000 in
theorem Qqn (A:Option Addr) (n c:Nat) (bs:List UInt8) (w:World) (hb:RdB w A n bs) (hn:n≤140737488355328):
 Calls Tryz.prog 61 #[.slice A n c] w fun e w'=>e= .returned (.bool (allZ bs))∧Later w w':=by
 have hl:=hb.len
 go_enter Tryz.func61,Tryz.ntmps61
 go_wp2
 go_loopw [7] (fun i wr=>∃k:Nat,i= .int .i64 k∧k≤n∧Hid (∀ j,j<k→bs.getD j 0=0)∧Later w wr) (fun i _=>n-(intOf i).toNat)
 case atStart=>exact⟨0,rfl,by omega,hid (fun j hj=>absurd hj (by omega)),Later.refl w⟩
 case round=>
  obtain⟨k,rfl,hk,hp,L⟩:=hrel
  by_cases hlt:k<n
  ·obtain⟨b,o,rfl,hb2,hc2⟩:=RdB.at_ (hb.later L) (by omega)
   have c1:=hc2 k hlt
   have hno:=hid (fun h=>QBh (bs:=bs) (k:=k) (by omega) h)
   have hgo:=hid (fun h:bs.getD k 0=0=>QbR (p:=fun j=>bs.getD j 0=0) hp.out h)
   clear hc2
   generalize bs.getD k 0=x at *
   cases hx:(x==0)
   ·have n1:(x != 0)=true:=by rw[bne,hx];rfl
    have hE:=hid (hno.out (by simpa using hx))
    go_wp2
    go_ret
    exact⟨by rw[hE.out];rfl,L⟩
   ·have n1:(x != 0)=false:=by rw[bne,hx];rfl
    have hG:=hid (hgo.out (by simpa using hx))
    go_wp2
    exact⟨⟨k+1,by go_num,by omega,hG,L⟩,by simp[intOf];omega⟩
  ·obtain rfl:k=n:=by omega
   have hE:=hid (Qwp (bs:=bs) (by rw[hl];exact hp.out))
   go_wp2
   go_ret
   exact⟨by rw[hE.out];rfl,L⟩
set_option maxRecDepth 100000 in
theorem Qj6 (A:Option Addr) (n c:Nat) (bs:List UInt8) (w:World) (hb:RdB w A n bs) (hn:n≤1048576):
 Calls Tryz.prog 63 #[.slice A n c] w fun e w'=>e= .returned (.slice (some ⟨w.heap.size,0,none⟩) n n)∧Blk w' w.heap.size 5 (bs.map W8)∧Later w w':=by
 have hl:=hb.len
 go_enter Tryz.func63,Tryz.ntmps63
 go_wp2_with (first
  | (refine QaE rfl _ _ _ rfl 5 _ 1 Tryz.underlying25 Qbq rfl _ _ _ _ n rfl rfl rfl rfl (by omega) (by omega) ?_;intro w1 hb1 hl1)
  | (refine Qax rfl _ _ _ _ rfl 5 Tryz.underlying25 Qb0 w.heap.size 0 n n _ _ hb1 A n c (bs.map W8) (RdB.later hb hl1) (Qay _) rfl rfl (by simp) ?_;intro w4 hb4 ho4
     rw[QFJ (by rw[QFA,hl];omega),Qap _ _ (by rw[QFA,QFM,hl])]at hb4)
  | fail)
 go_ret
 exact⟨rfl,hb4,hl1.only ho4 (QFE _)⟩
end Go.Proofs.YtcbdgnlcknllnaaGreat
namespace Go.Proofs.YtcbdgnlcknllnaaGreat
open Go.RowKit
abbrev pid (q:Prt):Prt:=q
section
variable {α:Type} (pr:α→Prt)
def tkE (id:UInt64) (ks:List α) (p:Prt):Nat:=
 if p.kd≠1∨prtE p≠0 then 3 else if p.id≠id then 4 else if ks.any (fun q=>(pr q).ct != p.ct||(pr q).ix==p.ix) then 3 else 0
def tkK (id:UInt64) (ks:List α) (x:α):List α:=if tkE pr id ks (pr x)=0 then ks++[x] else ks
def tksK (id:UInt64) (ks xs:List α):List α:=xs.foldl (tkK pr id) ks
theorem Qt9 (id:UInt64) (ks xs:List α) (x:α):tksK pr id ks (xs++[x])=tkK pr id (tksK pr id ks xs) x:=by simp[tksK]
end
structure KeptOk (ks:List Prt):Prop where
 good:∀q∈ks,q.kd=1∧prtE q=0
 same:∀q∈ks,∀r∈ks,q.ct=r.ct
 nd:(ks.map (·.ix)).Nodup
theorem Qrl:KeptOk []:=⟨by simp,by simp,by simp⟩
theorem Qju {p:Prt} (h:prtE p=0):1≤p.ct∧p.ct≤16∧0≤p.ix∧p.ix<p.ct∧p.da.length≤450:=by
 unfold prtE at h
 split at h
 ·cases h
 split at h
 ·cases h
 split at h
 ·cases h
 rename_i h1 h2 h3
 omega
theorem QlY {id:UInt64} {ks:List Prt} {p:Prt} (h:tkE pid id ks p=0):p.kd=1∧prtE p=0∧p.id=id∧(∀ q∈ks,q.ct=p.ct∧q.ix≠p.ix):=by
 unfold tkE at h
 split at h
 ·cases h
 split at h
 ·cases h
 split at h
 ·cases h
 rename_i h1 h2 h3
 refine⟨Classical.not_not.1 fun hc=>h1 (.inl hc),Classical.not_not.1 fun hc=>h1 (.inr hc),Classical.not_not.1 h2,fun q hq=>?_⟩
 have h4:(q.ct != p.ct||q.ix==p.ix)=false:=by
  cases hb:(q.ct != p.ct||q.ix==p.ix) with
  | false=>rfl
  | true=>exact absurd (QHh.2 ⟨q,hq,hb⟩) h3
 simp only[Bool.or_eq_false_iff,bne_eq_false_iff_eq,beq_eq_false_iff_ne]at h4
 exact h4
theorem KeptOk.snoc {id:UInt64} {ks:List Prt} {p:Prt} (h:KeptOk ks):KeptOk (tkK pid id ks p):=by
 unfold tkK
 split
 ·rename_i h0
  obtain⟨h1,h2,_,h4⟩:=QlY h0
  refine⟨fun q hq=>?_,fun q hq r hr=>?_,?_⟩
  ·rcases QGC.1 hq with hq|hq
   ·exact h.good q hq
   ·obtain rfl:q=p:=by simpa using hq
    exact⟨h1,h2⟩
  ·rcases QGC.1 hq with hq|hq<;>rcases QGC.1 hr with hr|hr
   ·exact h.same q hq r hr
   ·have e:r=p:=by simpa using hr
    rw[e]
    exact (h4 q hq).1
   ·have e:q=p:=by simpa using hq
    rw[e]
    exact (h4 r hr).1.symm
   ·have e:q=p:=by simpa using hq
    have e':r=p:=by simpa using hr
    rw[e,e']
  ·rw[QF2,List.nodup_append]
   refine⟨h.nd,by simp,fun a ha b hb=>?_⟩
   obtain rfl:b=p.ix:=by simpa using hb
   obtain⟨q,hq,rfl⟩:=QGf.1 ha
   exact (h4 q hq).2
 ·exact h
theorem QqP {id:UInt64} (xs:List Prt):∀ {ks:List Prt},KeptOk ks→KeptOk (tksK pid id ks xs):=by
 induction xs with
 | nil=>exact fun h=>h
 | cons x xs ih=>exact fun h=>ih h.snoc
theorem Qjq:∀(n:Nat) (l:List Int),l.Nodup→(∀ i∈l,0≤i∧i<n)→l.length≤n
 | 0,l,_,h=>by
   cases l with
   | nil=>exact QFE _
   | cons i l=>have:=h i (by simp);omega
 | n+1,l,hn,h=>by
   have hb:(l.erase (n:Int)).length≤n:=by
    refine Qjq n _ (hn.erase _) fun i hi=>?_
    have h1:=h i (List.mem_of_mem_erase hi)
    have h2:i≠(n:Int):=fun e=>by subst e;exact (List.Nodup.not_mem_erase hn) hi
    omega
   have:=List.length_erase_of_mem (a:=(n:Int)) (l:=l)
   by_cases hm:(n:Int)∈l
   ·rw[this hm]at hb
    omega
   ·rw[List.erase_of_not_mem hm]at hb
    omega
theorem KeptOk.le {ks:List Prt} (h:KeptOk ks) {c:Int} (hc:∀q∈ks,q.ct=c) (h0:0≤c):(ks.length:Int)≤c:=by
 have:=Qjq c.toNat (ks.map (·.ix)) h.nd (fun i hi=>by
  obtain⟨q,hq,rfl⟩:=QGf.1 hi
  have:=Qju (h.good q hq).2
  have:=hc q hq
  omega)
 rw[QFA]at this
 omega
def daAt (ks:List Prt) (i:Nat):List UInt8:=((ks.find? (fun q=>q.ix==(i:Int))).map (·.da)).getD []
def QoX (ks:List Prt):List UInt8:=(QF6 ks.length).flatMap fun (i:Nat)=>(ks.filter (fun q=>q.ix==(i:Int))).flatMap (·.da)
theorem Qkh {i:Int}:∀ {ks:List Prt},(ks.map (·.ix)).Nodup→(ks.filter (fun q=>q.ix==i)).flatMap (·.da)=((ks.find? (fun q=>q.ix==i)).map (·.da)).getD []
 | [],_=>rfl
 | q :: ks,h=>by
   rw[QFW,QHn]at h
   by_cases hq:q.ix=i
   ·have hno:ks.filter (fun q=>q.ix==i)=[]:=by
     rw[List.filter_eq_nil_iff]
     intro r hr hc
     exact h.1 (QGf.2 ⟨r,hr,(by simpa using hc:r.ix=i).trans hq.symm⟩)
    simp[hq,hno]
   ·have hb:(q.ix==i)=false:=by simpa using hq
    rw[List.filter_cons,List.find?_cons,hb]
    exact Qkh h.2
theorem QwM {ks:List Prt} (h:KeptOk ks):QoX ks=(QF6 ks.length).flatMap (daAt ks):=by
 unfold QoX daAt
 congr 1
 funext i
 exact Qkh h.nd
structure Arr where
 pt:Prt
 kd:UInt8
 to:UInt64
 tk:Int
 ma:Y16
structure Ltr where
 to:UInt64
 id:UInt64
 tk:Int
 tx:List UInt8
def mine (x:UInt64×UInt64) (a:Arr):Bool:=a.kd==2&&a.pt.kd==1&&a.to==x.1&&a.pt.id==x.2
def Qek (qas:List Arr) (x:UInt64×UInt64):List Prt:=tksK pid x.2 [] ((qas.filter (mine x)).map (·.pt))
def Qn9 (qas:List Arr) (a:Arr):List Ltr:=
 if a.kd=2∧a.pt.kd=1∧tkE pid a.pt.id (Qek qas (a.to,a.pt.id)) a.pt=0∧((Qek qas (a.to,a.pt.id)).length:Int)+1=a.pt.ct then [⟨a.to,a.pt.id,a.tk,QoX (Qek qas (a.to,a.pt.id)++[a.pt])⟩] else []
def ltrs (qas:List Arr) (k:Nat):List Ltr:=(QF6 k).flatMap fun i=>match qas[i]? with|some a=>Qn9 (qas.take i) a|none=>[]
theorem Qu1 (qas:List Arr) (k:Nat) (a:Arr) (h:qas[k]?=some a):ltrs qas (k+1)=ltrs qas k++Qn9 (qas.take k) a:=by
 unfold ltrs
 rw[QG4,QHG]
 simp[h]
theorem QsN (qas:List Arr) (x:UInt64×UInt64):KeptOk (Qek qas x):=QqP _ Qrl
theorem Qpc (qas:List Arr) (x:UInt64×UInt64) (a:Arr):Qek (qas++[a]) x=if mine x a then tkK pid x.2 (Qek qas x) a.pt else Qek qas x:=by
 unfold Qek
 rw[List.filter_append,QF2]
 by_cases h:mine x a=true
 ·rw[if_pos h]
  simp only[List.filter_cons,h,if_true,List.filter_nil,QFW,QFR]
  exact Qt9 pid _ _ _ _
 ·rw[if_neg h]
  simp[h]
structure Arv where
 ar:Arr
 va:Value
def av0:Arv:=⟨⟨prt0,0,0,0,QaH⟩,.slice none 0 0⟩
def AvC (x:Arv):List Value:=PaC x.ar.pt x.va++(W8 x.ar.kd :: W64 x.ar.to :: .int .i64 x.ar.tk :: x.ar.ma.val.map W8)
theorem Qas (x:Arv):(AvC x).length=24:=by simp[AvC,PaC,x.ar.ma.2]
def AvOk (w:World) (x:Arv):Prop:=∃A n c,x.va= .slice A n c∧n≤c∧RdB w A n x.ar.pt.da
theorem AvOk.later {w w':World} {x:Arv} (h:AvOk w x) (hl:Later w w'):AvOk w' x:=by
 obtain⟨A,n,c,h1,h2,h3⟩:=h
 exact⟨A,n,c,h1,h2,h3.later hl⟩
structure Vst where
 cm:Cmd
 id:UInt64
 tk:Int
def vst0:Vst:=⟨cmd0,0,0⟩
def VC (x:Vst):List Value:=CC x.cm++[W64 x.id,.int .i64 x.tk]
theorem QaN (x:Vst):(VC x).length=22:=by simp[VC,Qan]
end Go.Proofs.YtcbdgnlcknllnaaGreat
namespace Go.Proofs.YtcbdgnlcknllnaaGreat
open Go.RowKit
open Go.BigFrame
def ctOf (ks:List Prt):Int:=(ks.getLast?.map (·.ct)).getD 0
def hvOf (ks:List Prt):List Bool:=(QF6 16).map fun (i:Nat)=>ks.any (fun q=>q.ix==(i:Int))
def MsC (id:UInt64) (ks:List Prt) (pv:List Value):List Value:=W64 id :: .int .i64 (ctOf ks) :: .int .i64 (ks.length:Nat) :: ((hvOf ks).map Value.bool++pv)
theorem Qkp (id:UInt64) (ks:List Prt) (pv:List Value) (h:pv.length=16):(MsC id ks pv).length=35:=by simp[MsC,hvOf,h]
theorem QqE {ks:List Prt} (h:KeptOk ks) (hne:ks≠[]) (p:Prt):ks.any (fun q=>(pid q).ct != p.ct||(pid q).ix==p.ix)=((p.ct != ctOf ks)||ks.any (fun q=>q.ix==p.ix)):=by
 have hl:ks.getLast?=some (ks.getLast hne):=List.getLast?_eq_some_getLast hne
 have hm:=List.getLast_mem hne
 generalize ks.getLast hne=l at hl hm
 have hc:ctOf ks=l.ct:=by rw[ctOf,hl];rfl
 rw[hc]
 have hs:=fun q hq=>h.same q hq l hm
 by_cases hp:p.ct=l.ct
 ·have e:(p.ct != l.ct)=false:=by simp[hp]
  rw[e,QHN]
  apply QGk.2
  rw[QHh,QHh]
  constructor
  ·rintro⟨q,hq,hb⟩
   refine⟨q,hq,?_⟩
   have:(q.ct != p.ct)=false:=by simp[hs q hq,hp]
   simpa [this] using hb
  ·rintro⟨q,hq,hb⟩
   exact⟨q,hq,by simp[hb]⟩
 ·have e:(p.ct != l.ct)=true:=by simp[hp]
  rw[e,Bool.true_or,QHh]
  exact⟨l,hm,by simp only[QHf,bne_iff_ne];exact .inl (fun e=>hp (Eq.symm e))⟩
theorem Qiv (ks:List Prt) {i:Nat} (h:i<16):((hvOf ks).map Value.bool)[i]?=some (.bool (ks.any (fun q=>q.ix==(i:Int)))):=by
 simp[hvOf,h]
theorem Qs6 (ks:List Prt) (p:Prt) {i:Nat} (h:i<16) (hp:p.ix=(i:Int)):((hvOf ks).map Value.bool).set i (.bool true)=(hvOf (ks++[p])).map Value.bool:=by
 apply List.ext_getElem?
 intro j
 rw[List.getElem?_set]
 by_cases hij:i=j
 ·subst hij
  rw[if_pos rfl,if_pos (by simp[hvOf,h]),Qiv _ h]
  simp[hp]
 ·rw[if_neg hij]
  by_cases hj:j<16
  ·have hne:(p.ix==(j:Int))=false:=by
    rw[hp,beq_eq_false_iff_ne]
    omega
   rw[Qiv _ hj,Qiv _ hj,List.any_append]
   simp[hne]
  ·rw[QGm (by simp[hvOf];omega),QGm (by simp[hvOf];omega)]
theorem Qmx (ks:List Prt) (p:Prt):ctOf (ks++[p])=p.ct:=by simp[ctOf]
theorem QxP (id:UInt64) (ks:List Prt) (pv:List Value) (p:Prt) {i:Nat} (h:i<16) (hp:p.ix=(i:Int)) (v:Value):
 (((((MsC id ks pv).set 1 (.int .i64 p.ct)).set 2 (.int .i64 ((ks.length:Int)+1))).set (3+i) (.bool true)).set (19+i) v)=MsC id (ks++[p]) (pv.set i v):=by
 have hl:((hvOf ks).map Value.bool).length=16:=by simp[hvOf]
 have e1:3+i=i+1+1+1:=by omega
 have e2:19+i=(i+16)+1+1+1:=by omega
 rw[MsC,MsC,e1,e2]
 simp only[QFH,QFG]
 rw[QG5 _ _ (by omega),QF9 _ _ (by rw[QGd];omega),QGd,hl,Qs6 ks p h hp,Qmx,QFF,List.length_singleton]
 simp
theorem Qt0 {ks:List Prt} {p:Prt} {i:Nat} (hp:p.ix=(i:Int)) (hn:∀q∈ks,q.ix≠p.ix) (j:Nat):daAt (ks++[p]) j=if j=i then p.da else daAt ks j:=by
 unfold daAt
 rw[List.find?_append]
 by_cases hij:j=i
 ·subst hij
  rw[if_pos rfl]
  have h1:ks.find? (fun q=>q.ix==(j:Int))=none:=by
   rw[List.find?_eq_none]
   intro q hq
   have:=hn q hq
   rw[hp]at this
   simpa using this
  rw[h1]
  simp[hp]
 ·rw[if_neg hij]
  have h1:[p].find? (fun q=>q.ix==(j:Int))=none:=by
   rw[List.find?_eq_none]
   intro q hq
   obtain rfl:q=p:=by simpa using hq
   simp[hp]
   omega
  rw[h1]
  cases ks.find? (fun q=>q.ix==(j:Int))<;>rfl
def PieceAt (w:World) (base:Nat) (v:Value) (da:List UInt8):Prop:=(v= .slice none 0 0∧da=[])∨∃gp,v= .slice (some ⟨gp,0,none⟩) da.length da.length∧base≤gp∧Blk w gp 5 (da.map W8)
structure MsgAt (w:World) (base g:Nat) (id:UInt64) (ks:List Prt) (pv:List Value):Prop where
 blk:Blk w g 133 (MsC id ks pv)
 low:base≤g
 len:pv.length=16
 pcs:∀i v,pv[i]?=some v→PieceAt w base v (daAt ks i)
section
variable {w w':World} {base g:Nat} {id:UInt64} {ks:List Prt} {pv:List Value}
theorem PieceAt.later {v:Value} {da:List UInt8} (h:PieceAt w base v da) (hl:Later w w'):PieceAt w' base v da:=
 h.imp (fun h=>h) fun ⟨gp,h1,h2,h3⟩=>⟨gp,h1,h2,h3.later hl⟩
theorem PieceAt.only {v:Value} {da:List UInt8} {t:TypeId} {l:List Value} (h:PieceAt w base v da) (hg:Blk w g t l) (hne:t≠5) (ho:Only g w w'):PieceAt w' base v da:=
 h.imp (fun h=>h) fun ⟨gp,h1,h2,h3⟩=>⟨gp,h1,h2,h3.only ho (fun e=>by
  subst e
  have:=hg.symm.trans h3
  simp only[Option.some.injEq,Obj.cells.injEq]at this
  exact hne this.2.1)⟩
theorem MsgAt.later (h:MsgAt w base g id ks pv) (hl:Later w w'):MsgAt w' base g id ks pv:=⟨h.blk.later hl,h.low,h.len,fun i v hv=>(h.pcs i v hv).later hl⟩
theorem MsgAt.cells (h:MsgAt w base g id ks pv):w.cell? ⟨g,0,none⟩=some (W64 id)∧w.cell? ⟨g,1,none⟩=some (.int .i64 (ctOf ks))∧w.cell? ⟨g,2,none⟩=some (.int .i64 (ks.length:Nat)):=
 ⟨h.blk.cellD 0 rfl,h.blk.cellD 1 rfl,h.blk.cellD 2 rfl⟩
theorem MsgAt.have_ (h:MsgAt w base g id ks pv) {i:Nat} (hi:i<16):w.cell? ⟨g,3+i,none⟩=some (.bool (ks.any (fun q=>q.ix==(i:Int)))):=by
 refine h.blk.cellD (3+i) ?_
 rw[MsC,show 3+i=i+1+1+1 by omega,QFv,QFv,QFv,QFS (by simp[hvOf,hi])]
 exact Qiv ks hi
end
set_option maxRecDepth 100000 in
set_option maxHeartbeats 4000000 in
theorem QoB (base g:Nat) (id:UInt64) (ks:List Prt) (pv:List Value) (p:Prt) (A:Option Addr) (n c:Nat) (w:World) (hm:MsgAt w base g id ks pv) (hk:KeptOk ks) (hr:RdB w A n p.da) (hav:Avoid (· =g) A n) (hb:base≤w.heap.size) (hkl:ks.length≤1048576):
 Calls Tryz.prog 69 #[.pointer (some ⟨g,0,none⟩),.agg (PaC p (.slice A n c)).toArray] w fun e w'=>e= .returned (.int .i64 (tkE pid id ks p:Nat))∧(∃ pv',MsgAt w' base g id (tkK pid id ks p) pv')∧Only g w w':=by
 have hlen:=hr.len
 have hck:=hid (fun w=>Qj7 p A n c hlen w)
 have hE:Hid (tkE pid id ks p=if p.kd≠1∨prtE p≠0 then 3 else if p.id≠id then 4 else if ks.any (fun q=>(pid q).ct != p.ct||(pid q).ix==p.ix) then 3 else 0):=hid rfl
 have hok:=hid (fun h=>Qju (p:=p) h)
 obtain⟨c0,c1,c2⟩:=hm.cells
 have hgl:=hm.blk.lt
 obtain⟨kd,id',ix,ct,da⟩:=p
 have HM:=hid hm
 have B1:=Qbb w 36 (PaC ⟨kd,id',ix,ct,da⟩ (.slice A n c))
 obtain⟨d0,d1,d2,d3,d4⟩:=QaS (B1.nth 0 rfl)
 have c0':=HM.out.later B1.lat |>.cells
 clear hm
 go_enter Tryz.func69,Tryz.ntmps69
 have fin:∀(w':World) (E:Nat),Bag w w' [(w.heap.size,36,PaC ⟨kd,id',ix,ct,da⟩ (.slice A n c))]→tkE pid id ks ⟨kd,id',ix,ct,da⟩=E→E≠0→tkE pid id ks ⟨kd,id',ix,ct,da⟩=E∧(∃ pv',MsgAt w' base g id (tkK pid id ks ⟨kd,id',ix,ct,da⟩) pv')∧Only g w w':=by
  intro w' E B hE h0
  refine⟨hE,⟨pv,?_⟩,B.lat.onlyAny g⟩
  rw[tkK,if_neg (by rw[show pid _=(_:Prt) from rfl,hE];exact h0)]
  exact HM.out.later B.lat
 have FIN:=hid fin
 clear fin
 by_cases hkd:kd=1
 ·subst hkd
  go_wp2_with (first
   | (refine Qea rfl _ rfl (B1.nth 0 rfl) rfl ?_)
   | fail)
  (refine (hck.out _).mono ?_);rintro e w2 ⟨rfl,j2⟩
  have B2:=B1.later j2
  clear d0 d1 d2 d3 d4 c0' c0 c1 c2 hck j2 B1
  by_cases hpe:prtE ⟨1,id',ix,ct,da⟩=0
  ·rw[hpe]
   obtain⟨k1,k2,k3,k4,k5⟩:=hok.out hpe
   obtain⟨i,rfl⟩:∃i:Nat,ix=i:=⟨ix.toNat,by omega⟩
   have M2:=HM.out.later B2.lat
   obtain⟨m0,m1,m2⟩:=M2.cells
   obtain⟨d0,d1,d2,d3,d4⟩:=QaS (B2.nth 0 rfl)
   have mh:=M2.have_ (i:=i) (by omega)
   go_wp2_with fail
   refine Qad [] [0,1,2,3,4,5,6] [] (by as_aux_lemma=>kernel_rfl) (by as_aux_lemma=>kernel_rfl) (by intro _ _ d _ _ h;cases d<;>exact h) ?_
   simp only[Qah,pick,QFv,QFw,QFx,QFy,QFz]
   repeat (go_big_quiet_step (fail))
   refine wpQuiet_nil ?_
   by_cases hid1:id'=id
   ·have hb0:(id' != id)=false:=by simpa using hid1
    rw[hb0]
    go_wp2_with fail
    have hi16:(i:Int)<16:=by omega
    by_cases hacc:ks.any (fun q=>(pid q).ct != ct||(pid q).ix==(i:Int))=true
    ·have h3:tkE pid id ks ⟨1,id',i,ct,da⟩=3:=by rw[hE.out,if_neg (by rintro (h|h)<;>first|exact h rfl|exact h hpe),if_neg (fun h=>h hid1),if_pos hacc]
     have hne:ks≠[]:=by
      rintro rfl
      simp at hacc
     have hpos:decide (0<ks.length)=true:=decide_eq_true (List.length_pos_iff.2 hne)
     have hor:=QqE hk hne ⟨1,id',i,ct,da⟩
     rw[hacc]at hor
     have H3:=hid (FIN.out _ 3 (B2.later ((Qab _).trans (Qab _))) h3 (by omega))
     clear FIN HM hE hok h3 hacc
     generalize ks.any (fun q=>q.ix==(i:Int))=HV at *
     generalize ctOf ks=CT at *
     by_cases hct:ct=CT
     ·have hb1:(ct != CT)=false:=by simp[hct]
      have hHV:HV=true:=by
       rw[hb1,QHN]at hor
       exact hor.symm
      subst hHV
      clear hor
      refine Qad [] [0,1,2,3,4,5,6,7,8,9,10,11,12,13,14,15,16,17,18,19,20,21,22] [] (by as_aux_lemma=>kernel_rfl) (by as_aux_lemma=>kernel_rfl) (by intro _ _ d _ _ h;cases d<;>exact h) ?_
      simp only[Qah,pick,QFv,QFw,QFx,QFy,QFz]
      repeat (go_big_quiet_step (fail))
      refine wpQuiet_nil ?_
      go_wp2_with fail
      go_ret
      exact⟨by rw[H3.out.1];rfl,H3.out.2⟩
     ·have hb1:(ct != CT)=true:=by simp[hct]
      clear hor
      refine Qad [] [0,1,2,3,4,5,6,7,8,9,10,11,12,13,14,15,16,17,18,19,20,21,22] [] (by as_aux_lemma=>kernel_rfl) (by as_aux_lemma=>kernel_rfl) (by intro _ _ d _ _ h;cases d<;>exact h) ?_
      simp only[Qah,pick,QFv,QFw,QFx,QFy,QFz]
      repeat (go_big_quiet_step (fail))
      refine wpQuiet_nil ?_
      go_wp2_with fail
      go_ret
      exact⟨by rw[H3.out.1];rfl,H3.out.2⟩
    ·have h0:tkE pid id ks ⟨1,id',i,ct,da⟩=0:=by rw[hE.out,if_neg (by rintro (h|h)<;>first|exact h rfl|exact h hpe),if_neg (fun h=>h hid1),if_neg hacc]
     obtain⟨_,_,_,hz⟩:=QlY h0
     have HZ:=hid hz
     have H0:=hid h0
     clear hz h0 FIN hE hok
     have hP:=B2.nth 0 rfl
     have hglt:w.heap.size≠g:=by omega
     have hML:=hid (Qkp id ks pv M2.len)
     have hM:=M2.blk
     have CP:=hid (fun (w:World)=>Qj6 A n c da w)
     have FIN:Hid (∀ (w6:World) (gp:Nat),Blk w6 g 133 (((((MsC id ks pv).set 1 (.int .i64 ct)).set 2 (.int .i64 ((ks.length:Int)+1))).set (3+i) (.bool true)).set (19+i) (.slice (some ⟨gp,0,none⟩) n n))→base≤gp→Blk w6 gp 5 (da.map W8)→Only g w w6→
      (∃ pv',MsgAt w6 base g id (tkK pid id ks ⟨1,id',i,ct,da⟩) pv')∧Only g w w6):=by
      refine hid fun w6 gp hB hgp hD ho=>⟨⟨pv.set i (.slice (some ⟨gp,0,none⟩) n n),?_⟩,ho⟩
      have hp:(⟨1,id',i,ct,da⟩:Prt).ix=(i:Int):=rfl
      have hq:∀q∈ks,q.ix≠(⟨1,id',i,ct,da⟩:Prt).ix:=fun q hq=>(HZ.out q hq).2
      rw[tkK,if_pos H0.out]
      refine⟨?_,HM.out.low,by rw[QGd];exact HM.out.len,fun j v hv=>?_⟩
      ·rw[←QxP id ks pv ⟨1,id',i,ct,da⟩ (by omega) hp]
       exact hB
      ·rw[Qt0 hp hq]
       rw[List.getElem?_set]at hv
       by_cases hij:i=j
       ·subst hij
        rw[if_pos rfl,if_pos (by rw[HM.out.len];omega)]at hv
        rw[if_pos rfl,←Option.some.inj hv,←hlen]
        exact .inr ⟨gp,rfl,hgp,hD⟩
       ·rw[if_neg hij]at hv
        rw[if_neg (fun e=>hij e.symm)]
        exact (HM.out.pcs j v hv).only HM.out.blk (by decide) ho
     have hac2:(decide (0<ks.length)=true∧(ct != ctOf ks)=false∧ks.any (fun q=>q.ix==(i:Int))=false)∨decide (0<ks.length)=false:=by
      by_cases hne:ks=[]
      ·exact .inr (by simp[hne])
      ·have hor:=QqE hk hne ⟨1,id',i,ct,da⟩
       have hf:ks.any (fun q=>(pid q).ct != ct||(pid q).ix==(i:Int))=false:=by simpa using hacc
       rw[hf]at hor
       have hor':=hor.symm
       rw[Bool.or_eq_false_iff]at hor'
       exact .inl ⟨decide_eq_true (List.length_pos_iff.2 hne),hor'.1,hor'.2⟩
     generalize ks.any (fun q=>q.ix==(i:Int))=HV at *
     have kl:=hkl
     clear hacc
     have HC2:=hid (show ∀v:Value,((MsC id ks pv).set 1 v)[2]?=some (.int .i64 (ks.length:Nat)) from fun v=>rfl)
     generalize hMC:MsC id ks pv=MC at *
     generalize ks.length=KL at *
     generalize ctOf ks=CT at *
     rcases hac2 with ⟨hpos,h2,h3⟩|hpos
     case' inl=>subst h3
     all_goals
      refine Qad [] [0,1,2,3,4,5,6,7,8,9,10,11,12,13,14,15,16,17,18,19,20,21,22] [] (by as_aux_lemma=>kernel_rfl) (by as_aux_lemma=>kernel_rfl) (by intro _ _ d _ _ h;cases d<;>exact h) ?_
      simp only[Qah,pick,QFv,QFw,QFx,QFy,QFz]
      repeat (go_big_quiet_step (fail))
      refine wpQuiet_nil ?_
      go_wp2_with (first
       | (refine Qac rfl rfl _ _ _ rfl g 1 _ _ hM.drew.drew rfl ?hl rfl (by kernel_rfl) ?_;(case hl=>rw[hML.out];omega);intro v3 w3 hv3 hb3 ho3;simp[go_sem]at hv3;subst hv3
          have q3:=hP.drew.drew.only ho3 hglt
          obtain⟨e0,e1,e2,e3,e4⟩:=QaS q3
          have f2:w3.cell? ⟨g,2,none⟩=some (.int .i64 (KL:Nat)):=hb3.cellD 2 (HC2.out _))
       | (refine Qac rfl rfl _ _ _ rfl g 2 _ _ hb3 rfl ?hl rfl (by kernel_rfl) ?_;(case hl=>rw[QGd,hML.out];omega);intro v4 w4 hv4 hb4 ho4;simp[go_sem]at hv4;subst hv4
          have q4:=q3.only ho4 hglt
          obtain⟨g0,g1,g2,g3,g4⟩:=QaS q4)
       | fail)
      clear e0 e1 e2 e3 e4 f2
      refine Qad [] [0,1,2,3,4,5] [6] (by as_aux_lemma=>kernel_rfl) (by as_aux_lemma=>kernel_rfl) (by intro _ _ d _ _ h;cases d<;>exact h) ?_
      simp only[Qah,pick,QFv,QFw,QFx,QFy,QFz]
      repeat (go_big_quiet_step (fail))
      refine wpQuiet_nil ?_
      clear g0 g1 g2 g3 g4
      go_wp2_with (first
       | (refine Qac rfl rfl _ _ _ rfl g (3+i) _ _ hb4.drew rfl ?hl rfl (by kernel_rfl) ?_;(case hl=>rw[QGd,QGd,hML.out];omega);intro v6 w6 hv6 hb6 ho6;simp[go_sem]at hv6;subst hv6
          have q6:=q4.drew.only ho6 hglt
          obtain⟨d0,d1,d2,d3,d4⟩:=QaS q6)
       | fail)
      have O6:Only g w w6:=(((((B2.lat.trans ((Qab _).trans (Qab _))).thenOnly ho3).trans ho4).later (Qab _)).trans ho6)
      have hr6:RdB w6 A n da:=Rd.onlyAvoid (Rd.later (Rd.onlyAvoid (Rd.onlyAvoid (hr.later (B2.lat.trans ((Qab _).trans (Qab _)))) hav ho3 rfl) hav ho4 rfl) (Qab _)) hav ho6 rfl
      clear ho3 ho4 ho6 hb3 hb4 q3 q4 q6 hM hP
      refine Qad [([0,1,2,3,4,6,7],5)] [8] [9] (by as_aux_lemma=>kernel_rfl) (by as_aux_lemma=>kernel_rfl) (by intro _ _ d _ _ h;cases d<;>exact h) ?_
      simp only[Qah,pick,QFv,QFw,QFx,QFy,QFz]
      repeat (go_big_quiet_step (fail))
      refine wpQuiet_nil ?_
      go_wp2_with fail
      (refine (CP.out _ (hr6.later (Qab _)) (by omega)).mono ?_);rintro e w8 ⟨rfl,hD8,j8⟩
      go_wp2_with fail
      try refine⟨by first|assumption|exact Qab _|exact Qaa _ _|exact Later.refl _,?_⟩
      try simp only[Qah,pick,QFv,QFw,QFx,QFy,QFz]
      repeat (go_big_quiet_step (fail))
      refine wpQuiet_nil ?_
      have j68:=(Qab _).trans j8
      have hb8:=hb6.later j68
      have O8w:w.heap.size≤w6.drew.heap.size:=O6.size
      have O8:Only g w w8:=O6.later j68
      have hg8:base≤w6.drew.heap.size:=by
       have:=O6.size
       have e:w6.drew.heap.size=w6.heap.size:=rfl
       omega
      clear d0 d1 d2 d3 d4 O6 hb6
      go_wp2_with (first
       | (refine Qac rfl rfl _ _ _ rfl g (19+i) _ _ hb8 rfl ?hl rfl (by kernel_rfl) ?_;(case hl=>rw[QGd,QGd,QGd,hML.out];omega);intro v9 w9 hv9 hb9 ho9;simp[go_sem]at hv9;subst hv9)
       | fail)
      have hD9:=hD8.only ho9 (fun e=>by
       have:w.heap.size≤w6.drew.heap.size:=O8w
       omega)
      have FF:=FIN.out w9 w6.drew.heap.size hb9 hg8 hD9 (O8.trans ho9)
      clear FIN
      go_ret
      exact⟨by rw[H0.out];rfl,FF⟩
   ·have hb0:(id' != id)=true:=by simpa using hid1
    have h4:tkE pid id ks ⟨1,id',i,ct,da⟩=4:=by rw[hE.out,if_neg (by rintro (h|h)<;>first|exact h rfl|exact h hpe),if_pos hid1]
    have H4:=hid (FIN.out _ 4 (B2.later (Qab _)) h4 (by omega))
    clear FIN HM hE hok h4
    rw[hb0]
    go_wp2_with fail
    go_ret
    exact⟨by rw[H4.out.1];rfl,H4.out.2⟩
  ·have hb1:((prtE ⟨1,id',ix,ct,da⟩:Nat):Int)≠0:=by omega
   have h3:tkE pid id ks ⟨1,id',ix,ct,da⟩=3:=by rw[hE.out,if_pos (.inr hpe)]
   generalize prtE ⟨1,id',ix,ct,da⟩=E0 at *
   have hb2:((E0:Int) != 0)=true:=by simpa using hb1
   have H3:=hid (FIN.out w2 3 B2 h3 (by omega))
   clear FIN HM hE hok h3
   go_wp2_with fail
   go_ret
   exact⟨by rw[H3.out.1];rfl,H3.out.2⟩
 ·have hb1:(kd != 1)=true:=by simpa using hkd
  have h3:tkE pid id ks ⟨kd,id',ix,ct,da⟩=3:=by rw[hE.out,if_pos (.inl hkd)]
  have H3:=hid (FIN.out _ 3 B1 h3 (by omega))
  clear FIN HM hE hok hck h3
  go_wp2_with fail
  go_ret
  exact⟨by rw[H3.out.1];rfl,H3.out.2⟩
end Go.Proofs.YtcbdgnlcknllnaaGreat
namespace Go.Proofs.YtcbdgnlcknllnaaGreat
open Go.ChangeShapes Go.WideShapes Go.ChangeAt Go.RowKit
end Go.Proofs.YtcbdgnlcknllnaaGreat
namespace Go.Proofs.YtcbdgnlcknllnaaGreat
open Go.ChangeShapes Go.WideShapes Go.ChangeAt Go.RowKit
open _root_.Go.Proofs.YtcbdgnlcknllnaaGreat.Rows (uptoBulk uptoBulkAll uptoSmall)
theorem QxH {H:Type} (d:DataW H):1≤uptoBulk d:=by
 cases d with
 | lit l=>cases l<;>simp[uptoBulk]
 | _=>simp[uptoBulk]
theorem QlV {H:Type} {d:DataW H} {l:List (DataW H)} (h:d∈l):uptoBulk d≤uptoBulkAll l:=by
 induction l with
 | nil=>cases h
 | cons x r ih=>
   simp only[uptoBulkAll]
   cases QFP.1 h with
   | inl e=>subst e;omega
   | inr e=>have:=ih e;omega
theorem Qlz {H:Type} (l:List (DataW H)):l.length≤uptoBulkAll l:=by
 induction l with
 | nil=>simp[uptoBulkAll]
 | cons x r ih=>have:=QxH x;simp only[uptoBulkAll,QGo];omega
theorem Qq5 {H:Type} {l:List (DataW H)} (hk:uptoSmall H l=true):uptoBulkAll l≤1048576:=of_decide_eq_true hk
section
variable {H:Type} {enc:TypeId×Value→H} {P:Program} {w:World} {base:Nat} {sp:Nat→Bool} {held:Bool}
theorem Qwx {a:Addr} {c:List Value} (h:w.cells? base a 1=some c):∃u,c=[u]∧w.cell? a=some u:=by
 have e0:a.add 0=a:=by simp[Addr.add]
 unfold World.cells? at h
 split at h
 ·simp only[QG4,List.range_zero,QFz,List.mapM_cons,List.mapM_nil,e0]at h
  cases hcc:w.cell? a with
  | none=>simp[hcc]at h
  | some u=>simp[hcc]at h;exact⟨u,h.symm,rfl⟩
 ·cases h
theorem Qjz {a:Addr} {u:Value} (h:w.cell? a=some u):a.spot=none∧a.block<w.heap.size:=by
 unfold World.cell? at h
 split at h
 ·rename_i c t fz hc
  refine⟨?_,(Array.getElem?_eq_some_iff.1 hc).1⟩
  cases hs:a.spot with
  | none=>rfl
  | some x=>simp[hs]at h
 ·cases h
theorem Qwq {t e:TypeId} {fuel:Nat} {v:Value} {x:DataW H×List MemPlace} (ht:P.underlying t=some (.slice e)) (hc:P.cellsOf e=1) (h:DataW.trod enc P w base sp held fuel t [v]=some x):
 ∃A n c,∃(vs:List Value) (xs:List (DataW H×List MemPlace)),v= .slice A n c∧n≤c∧c≤maxLen∧Rd w A n vs∧xs.length=n∧
  (∀ (j:Nat) u,vs[j]?=some u→∃y f,xs[j]?=some y∧DataW.trod enc P w base sp held f e [u]=some y)∧uptoBulkAll (xs.map (·.1))+1≤uptoBulk x.1:=by
 rcases DataW.trod_slice ht h with ⟨hcs,rfl⟩|⟨a,len,cap,elems,rest,n,rfl,hcs,rfl,hb,hl,hm,hlen,hel,hsp,hns⟩
 ·obtain rfl:v= .slice none 0 0:=by simpa using hcs
  exact⟨none,0,0,[],[],rfl,QFE _,Nat.zero_le _,⟨rfl,fun h=>absurd h (by omega)⟩,rfl,fun j u hu=>by simp at hu,by simp[uptoBulk,uptoBulkAll]⟩
 ·obtain rfl:v= .slice (some a) len cap:=by simpa using hcs
  have each:∀i,i<len→∃u y,w.cell? (a.add i)=some u∧elems[i]?=some y∧DataW.trod enc P w base sp held n e [u]=some y:=by
   intro i hi
   have hE:=hel i hi
   rw[hc,QHj]at hE
   have hy:elems[i]?=some (elems[i]'(by omega)):=QFB _
   rw[hy,Option.bind_eq_some_iff]at hE
   obtain⟨c1,hc1,hy1⟩:=hE
   obtain⟨u,rfl,hu⟩:=Qwx hc1
   exact⟨u,_,hu,hy,hy1⟩
  refine⟨some a,len,cap,(QF6 len).map fun i=>(w.cell? (a.add i)).getD undef,elems,rfl,hl,hm,⟨by simp,fun h0=>?_⟩,hlen,fun j u hu=>?_,?_⟩
  ·obtain⟨u,y,hu,_,_⟩:=each 0 h0
   have e0:a.add 0=a:=by simp[Addr.add]
   rw[e0]at hu
   obtain⟨h1,h2⟩:=Qjz hu
   obtain⟨b,o,s⟩:=a
   simp only at h1
   subst h1
   refine⟨b,o,rfl,h2,fun j v hv=>?_⟩
   rw[QFN]at hv
   have hj:j<len:=by
    rcases QGE j len with h|h
    ·exact h
    ·rw[QGm (by simpa using h)]at hv
     cases hv
   obtain⟨u',y',hu',_,_⟩:=each j hj
   rw[QGM hj]at hv
   simp only[QHg,Option.some.injEq,hu',QHq]at hv
   rw[←Qda,hu',hv]
  ·rw[QFN]at hu
   have hj:j<len:=by
    rcases QGE j len with h|h
    ·exact h
    ·rw[QGm (by simpa using h)]at hu
     cases hu
   obtain⟨u',y',hu',hy',ht'⟩:=each j hj
   rw[QGM hj]at hu
   simp only[QHg,Option.some.injEq,hu',QHq]at hu
   exact⟨y',n,hy',hu ▸ ht'⟩
  ·simp only[uptoBulk]
   omega
theorem Qse {t e:TypeId} {fuel:Nat} {v:Value} {x:DataW H×List MemPlace} (ht:P.underlying t=some (.slice e)) (he:P.underlying e=some (.int .u8)) (hc:P.cellsOf e=1) (h:DataW.trod enc P w base sp held fuel t [v]=some x):
 ∃A n c bs,v= .slice A n c∧n≤c∧c≤maxLen∧RdB w A n bs∧bs.length+1≤uptoBulk x.1:=by
 obtain⟨A,n,c,vs,xs,rfl,h1,h2,h3,h4,h5,h6⟩:=Qwq ht hc h
 have hb:∀(j:Nat) u,vs[j]?=some u→∃b:UInt8,u=W8 b:=by
  intro j u hu
  obtain⟨y,f,_,hy⟩:=h5 j u hu
  obtain⟨m,hm,rfl,hw⟩:=DataW.trod_int he hy
  obtain rfl:u= .int .u8 m:=by simpa using hm
  have hr:0≤m∧m≤255:=by simpa [Lit.wf,IntKind.min,IntKind.max,IntKind.signed,IntKind.bits] using hw
  exact⟨QGa m.toNat,by rw[W8,QGK];congr 1;omega⟩
 have hl:∀l:List Value,(∀ (j:Nat) u,l[j]?=some u→∃b:UInt8,u=W8 b)→∃bs:List UInt8,l=bs.map W8:=by
  intro l
  induction l with
  | nil=>exact fun _=>⟨[],rfl⟩
  | cons u l ih=>
    intro hl
    obtain⟨b,rfl⟩:=hl 0 u rfl
    obtain⟨bs,rfl⟩:=ih fun j v hv=>hl (j+1) v (by simpa using hv)
    exact⟨b :: bs,rfl⟩
 obtain⟨bs,rfl⟩:=hl vs hb
 refine⟨A,n,c,bs,rfl,h1,h2,h3,?_⟩
 have e1:bs.length=n:=by have:=h3.1;simpa using this
 have e2:=Qlz (xs.map (·.1))
 rw[QFA,h4]at e2
 omega
end
theorem QCB:Tryz.prog.cellsOf 5=1:=by kernel_rfl
section
variable {H:Type} {enc:TypeId×Value→H} {w:World} {base b0:Nat} {sp:Nat→Bool} {held:Bool} {r:Reach}
end
theorem QkR {l:List Value} {i:Nat} {v:Value} (h:(l.drop i).take 1=[v]):l[i]?=some v:=by
 have:=congrArg (·[0]?) h
 simpa [QGX,QGR] using this
section
variable {H:Type} {enc:TypeId×Value→H} {P:Program} {w:World} {base b0:Nat} {sp:Nat→Bool} {held:Bool} {r:Reach}
end
section
variable {H:Type} {enc:TypeId×Value→H} {w:World} {base b0:Nat} {sp:Nat→Bool} {held:Bool} {r:Reach}
theorem QwH {fuel i:Nat} {cs:List Value} {x:DataW H×List MemPlace} (h:DataW.trod enc Tryz.prog w base sp held fuel 3 ((cs.drop i).take (Tryz.prog.cellsOf 3))=some x):∃z:Int,cs[i]?=some (.int .i64 z):=by
 rw[show Tryz.prog.cellsOf 3=1 by kernel_rfl]at h
 obtain⟨z,hz,_,_⟩:=DataW.trod_int Tryz.underlying3 h
 exact⟨z,QkR hz⟩
theorem Qwa {fuel i:Nat} {cs:List Value} {x:DataW H×List MemPlace} (h:DataW.trod enc Tryz.prog w base sp held fuel 24 ((cs.drop i).take (Tryz.prog.cellsOf 24))=some x):∃z:UInt64,cs[i]?=some (W64 z):=by
 rw[show Tryz.prog.cellsOf 24=1 by kernel_rfl]at h
 obtain⟨z,hz,_,hw⟩:=DataW.trod_int Tryz.underlying24 h
 have hr:0≤z∧z≤18446744073709551615:=by simpa [Lit.wf,IntKind.min,IntKind.max,IntKind.signed,IntKind.bits] using hw
 exact⟨_,by rw[QkR hz,Qbi z hr.1 (by omega)]⟩
end
end Go.Proofs.YtcbdgnlcknllnaaGreat
namespace Go.Proofs.YtcbdgnlcknllnaaGreat
open Go.RowKit
open Go.ChangeShapes Go.WideShapes Go.ChangeAt
open _root_.Go.Proofs.YtcbdgnlcknllnaaGreat.Rows (uptoBulk uptoBulkAll uptoSmall)
open Go.ChangeMaps (open_string shut_string)
structure Emt where
 tk:Int
 id:UInt64
 bs:List UInt8
 A:Option Addr
 n:Nat
 c:Nat
def EmC (e:Emt):List Value:=[.int .i64 e.tk,W64 e.id,.slice e.A e.n e.c]
def EmOk (w:World) (e:Emt):Prop:=e.n≤e.c∧RdB w e.A e.n e.bs
theorem EmOk.later {w w':World} {e:Emt} (h:EmOk w e) (l:Later w w'):EmOk w' e:=⟨h.1,h.2.later l⟩
section
variable {H:Type} {enc:TypeId×Value→H} {w:World} {base b0:Nat} {sp:Nat→Bool} {held:Bool} {r:Reach}
set_option maxRecDepth 100000 in
theorem QtD {fuel:Nat} {cs:List Value} {x:DataW H×List MemPlace} (h:DataW.trod enc Tryz.prog w base sp held fuel 27 cs=some x):∃y:Emt,cs=EmC y∧EmOk w y∧y.n+1≤uptoBulk x.1:=by
 obtain⟨xs,m,rfl,rfl,hl,hxl,he⟩:=DataW.trod_struct Tryz.underlying27 h
 have hn:Tryz.prog.cellsOf 27=3:=by kernel_rfl
 have hB:Tryz.prog.cellsOf 25=1:=by kernel_rfl
 rw[hn]at hl
 have hxl3:xs.length=3:=hxl
 have g:∀i,i<3→xs[i]?=some (xs.getD i (.nil,[])):=fun i hi=>by rw[QFC,QFB (by omega)];rfl
 have e2:DataW.trod enc Tryz.prog w base sp held m 25 ((cs.drop 2).take (Tryz.prog.cellsOf 25))=some (xs.getD 2 (.nil,[])):=(he 2 _ rfl).trans (g 2 (by omega))
 obtain⟨tk,htk⟩:=QwH (i:=0) ((he 0 _ rfl).trans (g 0 (by omega)))
 obtain⟨id,hid⟩:=Qwa (i:=1) ((he 1 _ rfl).trans (g 1 (by omega)))
 rw[hB]at e2
 match cs,hl with
 | [a,b,c],_=>
   have htk':a= .int .i64 tk:=by simpa using htk
   have hid':b=W64 id:=by simpa using hid
   simp only[QHM,QHc,List.take_succ_cons,QHy]at e2
   obtain⟨B,k,cp2,bs,hb',h5,h6,h7,h8⟩:=Qse Tryz.underlying25 Tryz.underlying5 QCB e2
   have hbl:=h7.len
   have b1:=QlV (d:=(xs.getD 2 (.nil,[])).1) (l:=xs.map (·.1)) (QGf.2 ⟨_,List.mem_of_getElem? (g 2 (by omega)),rfl⟩)
   refine⟨⟨tk,id,bs,B,k,cp2⟩,by rw[htk',hid',hb'];rfl,⟨h5,h7⟩,?_⟩
   simp only[uptoBulk]
   show k+1≤_
   omega
set_option maxRecDepth 100000 in
theorem Qux {v:Value} {d:DataW H} {pl:List MemPlace} (hval:Value.okWide Tryz.prog w r b0 27 v) (h:DataW.Trod enc Tryz.prog w base sp held 27 v d pl):
 ∃y:Emt,v= .agg (EmC y).toArray∧EmOk w y∧y.n+1≤uptoBulk d:=by
 simp only[Value.okWide,Tryz.underlying27]at hval
 obtain⟨cs,rfl,h2,_⟩:=hval
 obtain⟨fuel,hf⟩:=h
 have hf':DataW.trod enc Tryz.prog w base sp held fuel 27 cs.toList=some (d,pl):=hf
 obtain⟨y,h1,h3,h4⟩:=QtD hf'
 exact⟨y,by rw[←h1],h3,h4⟩
end
end Go.Proofs.YtcbdgnlcknllnaaGreat
namespace Go.Proofs.YtcbdgnlcknllnaaGreat
open Go.ChangeShapes Go.WideShapes Go.ChangeAt Go.RowKit
open _root_.Go.Proofs.YtcbdgnlcknllnaaGreat.Rows (uptoBulk uptoBulkAll uptoSmall)
section
variable {H:Type} {enc:TypeId×Value→H} {P:Program} {w:World} {base b0:Nat} {sp:Nat→Bool} {held:Bool} {r:Reach}
end
end Go.Proofs.YtcbdgnlcknllnaaGreat
