/-
  Lemmas for the last text of this claim (part 13 of 20).
-/
import Derived.ArgAppend
import Derived.BigQuiet
import Derived.BigRegion
import Derived.ChangeOld
import Derived.Deep.RegionWith
import Derived.DeepKeys4
import Derived.JoinedCond
import Derived.LaidMore
import Derived.Laws.Append
import Derived.Laws.BytesArg
import Derived.Laws.CopyOwn
import Derived.Laws.Externs
import Derived.Laws.IdiomStrings
import Derived.Laws.Tables
import Derived.Lib.AppendStr
import Derived.Lib.AppendZerosOnto
import Derived.Lib.Mul64
import Derived.Lib.SlBytesConst
import Derived.LoopN
import Derived.Maps.OwnSet
import Derived.OpenShut
import Derived.OrdersHeld
import Derived.ProofKit
import Derived.Shelf.Spec.BitsCarry
import Derived.ShutString
import Derived.Test.YticcbmhcgmhohaaGreatProg
import Derived.Test.YticcbmhcgmhohaaGreatRows
import Derived.WalkKit
import Derived.WalkLawsBesides
import Derived.WalkSpells
import Derived.Test.YticcbmhcgmhohaaGreatPA
import Derived.Test.YticcbmhcgmhohaaGreatPB
import Derived.Test.YticcbmhcgmhohaaGreatPC
import Derived.Test.YticcbmhcgmhohaaGreatPE
import Derived.Test.YticcbmhcgmhohaaGreatPH
import Derived.Test.YticcbmhcgmhohaaGreatPL
open BitVec renaming toNat_shiftLeft → QEC
open Bool renaming and_eq_true → QC2
open List renaming replicate → QCC, getElem?_cons_succ → QCD, getElem?_cons_zero → QCE, length_map → QCF, nil_append → QCH, cons_append → QCI, getElem?_eq_getElem → QCJ, getD_eq_getElem?_getD → QCK, setIfInBounds_toArray → QCL, length_append → QCM, set_cons_zero → QCN, set_cons_succ → QCO, take_of_length_le → QCQ, getElem?_append_right → QCR, length_replicate → QCS, map_toArray → QCT, append_assoc → QCU, getElem?_eq_some_iff → QCV, getElem?_append_left → QCW, getElem?_map → QCY, mem_cons → QCZ, not_mem_nil → QC0, map_nil → QC3, length_take → QC5, length_drop → QC6, map_cons → QC9, take_append_drop → QDa, set_append_right → QDc, take_succ_eq_append_getElem → QDd, append_nil → QDf, map_replicate → QDi, drop_left' → QDj, all_eq_true → QDn, take_append_of_le_length → QDo, length_cons → QDp, map_append → QDq, mem_map → QDs, range → QDu, take_left' → QDx, getElem?_drop → QDE, drop_append_of_le_length → QDN, drop_eq_getElem_cons → QDP, replicate_append_replicate → QDQ, getElem?_eq_none → QDV, replicate_succ → QDW, all_cons → QDZ, getElem_mem → QD0, mem_append → QD3, drop_drop → QD5, drop_zero → QD7, map_take → QD9, drop_succ_cons → QEr, getElem_of_mem → QEQ
open Nat renaming le_refl → QCP, lt_of_lt_of_le → QCX, zero_add → QC4, mul_comm → QDD, pow_succ → QDF, min_eq_left → QDK, sub_self → QDL, mul_assoc → QDR, add_zero → QD8, shiftLeft_eq → QEM
open Option renaming toList_some → QCG, getD_some → QEL
open UInt32 renaming ofNat → QDg, toNat_ofNat' → QEE, toNat_inj → QE2
open UInt64 renaming ofNat → QC7, toNat_ofNat' → QDb, toNat_inj → QEz
open UInt8 renaming toNat_inj → QDr, lt_iff_toNat_lt → QEu
set_option linter.all false
namespace Go.Proofs.YticcbmhcgmhohaaGreat
open Go.RowKit
structure Prt where
 kd:UInt8
 id:UInt64
 ix:Int
 ct:Int
 da:List UInt8
def prt0:Prt:=⟨0,0,0,0,[]⟩
def PaC (p:Prt) (v:Value):List Value:=[W8 p.kd,W64 p.id,.int .i64 p.ix,.int .i64 p.ct,v]
def prtE (p:Prt):Nat:=
 if p.kd<1∨3<p.kd then 1 else if 450<p.da.length then 2 else if p.ct<1∨16<p.ct∨p.ix<0∨p.ct≤p.ix then 3
 else if p.kd≠1∧p.ct≠1 then 3 else if p.kd=2∧(p.id≠0∨p.da.length≠0) then 3 else 0
abbrev Y16:={l:List UInt8 // l.length=16}
structure Cmd where
 kd:UInt8
 fl:UInt8
 dl:UInt32
 nx:UInt64
 ma:Y16
def Qa3:Y16:=⟨QCC 16 0,by simp⟩
def cmd0:Cmd:=⟨0,0,0,0,Qa3⟩
def CC (c:Cmd):List Value:=W8 c.kd :: W8 c.fl :: W32 c.dl :: W64 c.nx :: c.ma.val.map W8
theorem Qar (c:Cmd):(CC c).length=20:=by simp[CC,c.ma.2]
theorem Qrk (c:Cmd):(CC c).drop 4=c.ma.val.map W8:=rfl
end Go.Proofs.YticcbmhcgmhohaaGreat
namespace Go.Proofs.YticcbmhcgmhohaaGreat
open Go.RowKit
open Go.BigFrame
abbrev pz0:List Value:=[.int .u8 0,.int .u64 0,.int .i64 0,.int .i64 0,.slice none 0 0]
theorem Qv7:(Tryz.prog.info? 110).bind (·.zero)=some (.agg (PaC prt0 (.slice none 0 0)).toArray):=by kernel_rfl
theorem Qgg:(Tryz.prog.info? 110).map (·.size)=some 5:=by kernel_rfl
theorem Qb4 (p:Prt) (v:Value):(PaC p v).length=5:=rfl
theorem Qxf (p:Prt) {v:Value} (h:v.oneCell'=true):∀u∈PaC p v,u.oneCell'=true:=by
 intro u hu
 simp only[PaC,QCZ,QC0,or_false]at hu
 rcases hu with rfl|rfl|rfl|rfl|rfl<;>first|rfl|exact h
theorem Qru:Tryz.prog.built 110 []=some (PaC prt0 (.slice none 0 0)).toArray:=by
 rw[QaY (pl:=[(0,1),(1,1),(2,1),(3,1),(4,1)]) Tryz.underlying110 Qv7 (by kernel_rfl),Qb7]
theorem Qso (kd:UInt8) (id:UInt64) (ix ct:Int):Tryz.prog.built 110 [(0,W8 kd),(1,W64 id),(2,.int .i64 ix),(3,.int .i64 ct)]=some (PaC ⟨kd,id,ix,ct,[]⟩ (.slice none 0 0)).toArray:=by
 rw[QaY (pl:=[(0,1),(1,1),(2,1),(3,1),(4,1)]) Tryz.underlying110 Qv7 (by kernel_rfl),QaV (vs:=[W8 kd]) (off:=0) rfl rfl (by simp[PaC]),QaV (vs:=[W64 id]) (off:=1) rfl rfl (by simp[PaC,Qao]),QaV (vs:=[.int .i64 ix]) (off:=2) rfl rfl (by simp[PaC,Qao]),QaV (vs:=[.int .i64 ct]) (off:=3) rfl rfl (by simp[PaC,Qao]),Qb7]
 rfl
section
variable {ops:Array Oper} {rest:List Oper} {o:Oper} {a:Act} {w:World} {Q:Exit→Act→World→Prop}
theorem Qdq (hgd:o.guard=none) (hd:o.dst=none) (x y:Operand) (ho:o.op= .store 110 x y) {g:Nat} {t:TypeId} {l:List Value} {p:Prt} {v:Value} (hg:Blk w g t l) (hx:a.eval x= .pointer (some ⟨g,0,none⟩)) (hy:a.eval y= .agg (PaC p v).toArray) (hv:v.oneCell'=true) (hl:l.length=5)
 (h:∀w',Blk w' g t (PaC p v)→Only g w w'→wpList Tryz.prog ops Q rest a w'):wpList Tryz.prog ops Q (o :: rest) a w:=
 QaC hgd hd _ x y ho g t l _ hg hx hy 5 Qgg rfl hl (Qxf p hv) h
theorem Qj6 (hw:Region.wanted o (yielded ops a.tmps)=true) (x:Operand) (ho:o.op= .load 110 x) {g:Nat} {t:TypeId} {p:Prt} {v:Value} (hb:Blk w g t (PaC p v)) (hx:a.eval x= .pointer (some ⟨g,0,none⟩))
 (h:wpList Tryz.prog ops Q rest (a.put o.dst (.agg (PaC p v).toArray)) w):wpList Tryz.prog ops Q (o :: rest) a w:=
 Qan hw _ x ho g 0 _ (fun j v hv=>by rw[QC4];exact hb.cellD _ hv) hx _ Tryz.underlying110 rfl (by rw[Qb4];exact Qgg) h
end
theorem QcP {w:World} {g:Nat} {t:TypeId} {p:Prt} {v:Value} (h:Blk w g t (PaC p v)):w.cell? ⟨g,0,none⟩=some (W8 p.kd)∧w.cell? ⟨g,1,none⟩=some (W64 p.id)∧w.cell? ⟨g,2,none⟩=some (.int .i64 p.ix)∧w.cell? ⟨g,3,none⟩=some (.int .i64 p.ct)∧w.cell? ⟨g,4,none⟩=some v:=
 ⟨h.cellD 0 rfl,h.cellD 1 rfl,h.cellD 2 rfl,h.cellD 3 rfl,h.cellD 4 rfl⟩
theorem Qvb (k:UInt8):k=1∨k=2∨k=3∨(k<1∨3<k):=by
 have e1:(1:UInt8).toNat=1:=rfl
 have e2:(2:UInt8).toNat=2:=rfl
 have e3:(3:UInt8).toNat=3:=rfl
 rw[QEu,QEu,←QDr,←QDr,←QDr]
 omega
theorem Qzc (id:UInt64) (ix ct:Int) (da:List UInt8):prtE ⟨1,id,ix,ct,da⟩=if 450<da.length then 2 else if ct<1∨16<ct∨ix<0∨ct≤ix then 3 else 0:=by
 rw[prtE,if_neg (show ¬((1:UInt8)<1∨3<(1:UInt8)) by decide)]
 simp
theorem QzN (id:UInt64) (ix ct:Int) (da:List UInt8):prtE ⟨2,id,ix,ct,da⟩=if 450<da.length then 2 else if ct<1∨16<ct∨ix<0∨ct≤ix then 3 else if ct≠1 then 3 else if id≠0∨da.length≠0 then 3 else 0:=by
 rw[prtE,if_neg (show ¬((2:UInt8)<1∨3<(2:UInt8)) by decide)]
 simp
theorem Qz0 (id:UInt64) (ix ct:Int) (da:List UInt8):prtE ⟨3,id,ix,ct,da⟩=if 450<da.length then 2 else if ct<1∨16<ct∨ix<0∨ct≤ix then 3 else if ct≠1 then 3 else 0:=by
 rw[prtE,if_neg (show ¬((3:UInt8)<1∨3<(3:UInt8)) by decide)]
 simp
theorem Qu0 {p:Prt} (h:p.kd<1∨3<p.kd):prtE p=1:=by rw[prtE,if_pos h]
set_option maxRecDepth 100000 in
set_option maxHeartbeats 4000000 in
theorem Qjk (p:Prt) (A:Option Addr) (n c:Nat) (hn:p.da.length=n) (w:World):Calls Tryz.prog 104 #[.agg (PaC p (.slice A n c)).toArray] w fun e w'=>e= .returned (.int .i64 (prtE p:Nat))∧Later w w':=by
 obtain⟨kd,id,ix,ct,da⟩:=p
 simp only at hn
 have hb:Blk (w.alloc (.cells (PaC ⟨kd,id,ix,ct,da⟩ (.slice A n c)).toArray 110)) w.heap.size 110 (PaC ⟨kd,id,ix,ct,da⟩ (.slice A n c)):=Blk.new _ _ _
 obtain⟨c0,c1,c2,c3,c4⟩:=QcP hb
 have L:=Qaa w (.cells (PaC ⟨kd,id,ix,ct,da⟩ (.slice A n c)).toArray 110)
 clear hb
 obtain⟨E,hE⟩:∃E,prtE ⟨kd,id,ix,ct,da⟩=E:=⟨_,rfl⟩
 rw[hE]
 rcases Qvb kd with rfl|rfl|rfl|hbad
 case inr.inr.inr=>
  have HE:=hid (hE.symm.trans (Qu0 (p:=⟨kd,id,ix,ct,da⟩) hbad))
  clear hE
  rcases hbad with h|h
  ·go_enter Tryz.func104,Tryz.ntmps104
   go_wp2_with fail
   go_ret
   exact⟨by rw[HE.out];rfl,L⟩
  ·by_cases h1:kd<1
   all_goals
    go_enter Tryz.func104,Tryz.ntmps104
    go_wp2_with fail
    go_ret
    exact⟨by rw[HE.out];rfl,L⟩
 all_goals
  have HE:=hE.symm.trans (by first|exact Qzc id ix ct da|exact QzN id ix ct da|exact Qz0 id ix ct da)
  rw[hn]at HE
  replace HE:=hid HE
  clear hE
  by_cases h2:450<n
  ·have hd:decide ((450:Int)<(n:Int))=true:=decide_eq_true (by omega)
   replace HE:=hid (HE.out.trans (if_pos h2))
   go_enter Tryz.func104,Tryz.ntmps104
   go_wp2_with fail
   go_ret
   exact⟨by rw[HE.out];rfl,L⟩
  have hd:decide ((450:Int)<(n:Int))=false:=decide_eq_false (by omega)
  replace HE:=hid (HE.out.trans (if_neg h2))
  by_cases h3:ct<1∨16<ct∨ix<0∨ct≤ix
  ·replace HE:=hid (HE.out.trans (if_pos h3))
   by_cases k1:ct<1
   ·go_enter Tryz.func104,Tryz.ntmps104
    go_wp2_with fail
    go_ret
    exact⟨by rw[HE.out];rfl,L⟩
   by_cases k2:16<ct
   ·go_enter Tryz.func104,Tryz.ntmps104
    go_wp2_with fail
    go_ret
    exact⟨by rw[HE.out];rfl,L⟩
   by_cases k3:ix<0
   ·go_enter Tryz.func104,Tryz.ntmps104
    go_wp2_with fail
    go_ret
    exact⟨by rw[HE.out];rfl,L⟩
   have k4:ct≤ix:=by omega
   go_enter Tryz.func104,Tryz.ntmps104
   go_wp2_with fail
   go_ret
   exact⟨by rw[HE.out];rfl,L⟩
  replace HE:=hid (HE.out.trans (if_neg h3))
  have k1: ¬ct<1:=by omega
  have k2: ¬ 16<ct:=by omega
  have k3: ¬ix<0:=by omega
  have k4: ¬ct≤ix:=by omega
  clear h3
 ·go_enter Tryz.func104,Tryz.ntmps104
  go_wp2_with fail
  go_ret
  exact⟨by rw[HE.out];rfl,L⟩
 all_goals
  by_cases h4:ct=1
  case neg=>
   have hd4:(ct != 1)=true:=by simpa using h4
   replace HE:=hid (HE.out.trans (if_pos h4))
   go_enter Tryz.func104,Tryz.ntmps104
   go_wp2_with fail
   go_ret
   exact⟨by rw[HE.out];rfl,L⟩
  subst h4
  replace HE:=hid (HE.out.trans (if_neg (by simp)))
 ·cases e1:(id==0)
  ·have n1:(id != 0)=true:=by rw[bne,e1];rfl
   have hne:id≠0:=by simpa using e1
   replace HE:=hid (HE.out.trans (if_pos (.inl hne)))
   go_enter Tryz.func104,Tryz.ntmps104
   go_wp2_with fail
   go_ret
   exact⟨by rw[HE.out];rfl,L⟩
  ·have n1:(id != 0)=false:=by rw[bne,e1];rfl
   have heq:id=0:=by simpa using e1
   by_cases h5:n=0
   ·replace HE:=hid (HE.out.trans (if_neg (by simp[heq,h5])))
    have n2:((n:Int) != 0)=false:=by simp[h5]
    clear h5 heq
    go_enter Tryz.func104,Tryz.ntmps104
    go_wp2_with fail
    go_ret
    exact⟨by rw[HE.out];rfl,L⟩
   ·replace HE:=hid (HE.out.trans (if_pos (.inr h5)))
    have n2:((n:Int) != 0)=true:=by simp;omega
    clear h5 heq
    go_enter Tryz.func104,Tryz.ntmps104
    go_wp2_with fail
    go_ret
    exact⟨by rw[HE.out];rfl,L⟩
 ·go_enter Tryz.func104,Tryz.ntmps104
  go_wp2_with fail
  go_ret
  exact⟨by rw[HE.out];rfl,L⟩
def allZ (bs:List UInt8):Bool:=bs.all (· ==0)
theorem QkJ:∀(bs:List UInt8),allZ bs=true↔bs=QCC bs.length 0
 | []=>by simp[allZ]
 | b :: bs=>by
   have ih:=QkJ bs
   rw[allZ]at ih
   rw[allZ,QDZ,QC2,ih,QDp,QDW,List.cons.injEq,beq_iff_eq]
theorem Qxp {bs:List UInt8} {k:Nat} (hk:k<bs.length) (h:bs.getD k 0≠0):allZ bs=false:=by
 rw[allZ,List.all_eq_false]
 refine⟨bs[k],QD0 hk,?_⟩
 rw[QCK,QCJ hk]at h
 simpa using h
theorem Qu4 {bs:List UInt8} (h:∀k,k<bs.length→bs.getD k 0=0):allZ bs=true:=by
 rw[allZ,QDn]
 intro x hx
 obtain⟨k,hk,rfl⟩:=QEQ hx
 have:=h k hk
 rw[QCK,QCJ hk]at this
 simpa using this
set_option maxRecDepth 100000 in
theorem QoB (A:Option Addr) (n c:Nat) (bs:List UInt8) (w:World) (hb:RdB w A n bs) (hn:n≤140737488355328):
 Calls Tryz.prog 127 #[.slice A n c] w fun e w'=>e= .returned (.bool (allZ bs))∧Later w w':=by
 have hl:=hb.len
 go_enter Tryz.func127,Tryz.ntmps127
 go_wp2
 go_loopw [7] (fun i wr=>∃k:Nat,i= .int .i64 k∧k≤n∧Hid (∀ j,j<k→bs.getD j 0=0)∧Later w wr) (fun i _=>n-(intOf i).toNat)
 case atStart=>exact⟨0,rfl,by omega,hid (fun j hj=>absurd hj (by omega)),Later.refl w⟩
 case round=>
  obtain⟨k,rfl,hk,hp,L⟩:=hrel
  by_cases hlt:k<n
  ·obtain⟨b,o,rfl,hb2,hc2⟩:=RdB.at_ (hb.later L) (by omega)
   have c1:=hc2 k hlt
   have hno:=hid (fun h=>Qxp (bs:=bs) (k:=k) (by omega) h)
   have hgo:=hid (fun h:bs.getD k 0=0=>Qjb (p:=fun j=>bs.getD j 0=0) hp.out h)
   clear hc2
   generalize bs.getD k 0=x at *
   cases hx:(x==0)
   ·have n1:(x != 0)=true:=by rw[bne,hx];rfl
    have hE:=hid (hno.out (by simpa using hx))
    go_wp2
    go_ret
    exact⟨by rw[hE.out];rfl,L⟩
   ·have n1:(x != 0)=false:=by rw[bne,hx];rfl
    have hG:=hid (hgo.out (by simpa using hx))
    go_wp2
    exact⟨⟨k+1,by go_num,by omega,hG,L⟩,by simp[intOf];omega⟩
  ·obtain rfl:k=n:=by omega
   have hE:=hid (Qu4 (bs:=bs) (by rw[hl];exact hp.out))
   go_wp2
   go_ret
   exact⟨by rw[hE.out];rfl,L⟩
set_option maxRecDepth 100000 in
theorem Qp3 (A:Option Addr) (n c:Nat) (bs:List UInt8) (w:World) (hb:RdB w A n bs) (hn:n≤1048576):
 Calls Tryz.prog 128 #[.slice A n c] w fun e w'=>e= .returned (.slice (some ⟨w.heap.size,0,none⟩) n n)∧Blk w' w.heap.size 5 (bs.map W8)∧Later w w':=by
 have hl:=hb.len
 go_enter Tryz.func128,Tryz.ntmps128
 go_wp2_with (first
  | (refine QaF rfl _ _ _ rfl 5 _ 1 Tryz.underlying22 Qdo rfl _ _ _ _ n rfl rfl rfl rfl (by omega) (by omega) ?_;intro w1 hb1 hl1)
  | (refine Qas rfl _ _ _ _ rfl 5 Tryz.underlying22 Qbt w.heap.size 0 n n _ _ hb1 A n c (bs.map W8) (RdB.later hb hl1) (QaH _) rfl rfl (by simp) ?_;intro w4 hb4 ho4
     rw[QCQ (by rw[QCF,hl];omega),Qak _ _ (by rw[QCF,QCS,hl])]at hb4)
  | fail)
 go_ret
 exact⟨rfl,hb4,hl1.only ho4 (QCP _)⟩
def xorB (xs ys:List UInt8):List UInt8:=List.zipWith (· ^^^ ·) xs ys
theorem QaX {xs ys:List UInt8} (h:xs.length=ys.length):(xorB xs ys).length=ys.length:=by simp[xorB,h]
def Qgh (xs ys:List UInt8) (k:Nat):List UInt8:=(xorB xs ys).take k++xs.drop k
theorem Qhb {xs ys:List UInt8} (h:xs.length=ys.length) (k:Nat) (hk:k≤xs.length):(Qgh xs ys k).length=xs.length:=by
 have:=QaX h
 simp[Qgh]
 omega
theorem QjA (xs ys:List UInt8):Qgh xs ys 0=xs:=by simp[Qgh]
theorem QlF {xs ys:List UInt8} (h:xs.length=ys.length):Qgh xs ys xs.length=xorB xs ys:=by
 have:=QaX h
 rw[Qgh,List.drop_length,QDf,QCQ (by omega)]
theorem Qlp {xs ys:List UInt8} (h:xs.length=ys.length) {k:Nat} (hk:k<xs.length):(Qgh xs ys k)[k]?=some (xs.getD k 0):=by
 have:=QaX h
 rw[Qgh,QCR (by simp;omega),QC5,this,QDK (by omega),QDL,QDE,QD8,QCJ hk,QCK,QCJ hk]
 rfl
theorem Qjg {xs ys:List UInt8} (h:xs.length=ys.length) {k:Nat} (hk:k<xs.length):(Qgh xs ys k).set k (xs.getD k 0 ^^^ ys.getD k 0)=Qgh xs ys (k+1):=by
 have hl:=QaX h
 have hg:(xorB xs ys)[k]?=some (xs.getD k 0 ^^^ ys.getD k 0):=by
  rw[xorB,List.getElem?_zipWith,QCK,QCK,QCJ hk,QCJ (show k<ys.length by omega)]
  rfl
 have hkx:k<(xorB xs ys).length:=by omega
 rw[Qgh,Qgh,QDc _ _ (by simp;omega),QC5,hl,QDK (by omega),QDL,QDP hk,QCN,QDd hkx,QCU]
 have:(xorB xs ys)[k]=xs.getD k 0 ^^^ ys.getD k 0:=by
  have:=QCJ hkx
  rw[hg]at this
  exact (Option.some.inj this).symm
 rw[this]
 rfl
theorem Qee {xs ys:List UInt8} (h:xs.length=ys.length):xorB (xorB xs ys) ys=xs:=by
 apply List.ext_getElem?
 intro j
 rw[xorB,xorB,List.getElem?_zipWith,List.getElem?_zipWith]
 by_cases hj:j<xs.length
 ·rw[QCJ hj,QCJ (show j<ys.length by omega)]
  simp[UInt8.xor_assoc]
 ·rw[QDV (show xs.length≤j by omega),QDV (show ys.length≤j by omega)]
def beN:List UInt8→Nat→Nat
 | [],n=>n
 | b :: r,n=>beN r (n*256+b.toNat)
theorem Qfw:∀(p q:List UInt8) (n:Nat),beN (p++q) n=beN q (beN p n)
 | [],_,_=>rfl
 | b :: r,q,n=>by rw[QCI,beN,Qfw r q];rfl
theorem Qtx:∀(p:List UInt8) (n k:Nat),n<k→beN p n<k*256^p.length
 | [],n,k,h=>by simpa [beN] using h
 | b :: r,n,k,h=>by
   have hb:=b.toNat_lt
   have:=Qtx r (n*256+b.toNat) (k*256) (by omega)
   rw[beN,QDp,QDF,QDD (256^_),←QDR]
   exact this
theorem Qma (bs:List UInt8) (k:Nat) (h:k<bs.length):bs.take (k+1)=bs.take k++[bs.getD k 0]:=by
 rw[QDd h,QCK,QCJ h,QEL]
theorem Quf (bs:List UInt8) (k:Nat) (h:k<bs.length):beN (bs.take (k+1)) 0=beN (bs.take k) 0*256+(bs.getD k 0).toNat:=by
 rw[Qma bs k h,Qfw]
 rfl
theorem QzD (x:Nat) (b:UInt8):QiU (QC7 x) 8 ||| b.toUInt64=QC7 (x*256+b.toNat):=by
 apply QEz.1
 have e1:(QiU (QC7 x) 8).toNat=(x%2^64*256)%2^64:=by
  show ((QC7 x).toBitVec <<< 8).toNat=_
  rw[QEC,QEM]
  rfl
 have hb:=b.toNat_lt
 rw[UInt64.toNat_or,e1,UInt8.toNat_toUInt64,QDb]
 have e2:(x%2^64*256)%2^64=(x%2^56) <<< 8:=by
  rw[QEM]
  omega
 rw[e2,←Nat.shiftLeft_add_eq_or_of_lt (by omega),QEM]
 omega
theorem Qyy (x:Nat):(QC7 x).toUInt32=QDg x:=by
 apply QE2.1
 rw[UInt64.toNat_toUInt32,QDb,QEE]
 show x%2^64%2^32=x%2^32
 omega
theorem QgG (q:List UInt8) (n:Nat) (h:q.length=n):xorB (QCC n 0) q=q:=by
 subst h
 induction q with
 | nil=>rfl
 | cons a q ih=>
   rw[QDp,QDW]
   show (0 ^^^ a) :: xorB (QCC q.length 0) q=_
   rw[ih,UInt8.zero_xor]
def Qcs (c:Cmd):Bool:=(c.kd==1)==(c.nx != 0)&&(c.kd==4||c.ma.val==QCC 16 0)
def cmdE (c:Cmd):Nat:=if c.kd<1∨4<c.kd then 1 else if Qcs c=false then 3 else if 1000000<c.dl then 11 else 0
def QfL (b:List UInt8):Cmd:=⟨b.getD 0 0,b.getD 1 0,QDg (beN (subB b 2 4) 0),QC7 (beN (subB b 6 8) 0),⟨((b++QCC 32 0).drop 14).take 16,by simp⟩⟩
theorem QjQ (b:List UInt8) (h:b.length=32):(QfL b).ma.val=subB b 14 16:=by
 show ((b++QCC 32 0).drop 14).take 16=_
 rw[QDN (by omega),QDo (by rw[QC6];omega)]
 rfl
def decE (b:List UInt8):Nat:=if cmdE (QfL b)≠1∧(b.getD 30 0≠0∨b.getD 31 0≠0) then 3 else cmdE (QfL b)
def decC (b:List UInt8):Cmd:=if decE b=0 then QfL b else cmd0
set_option maxRecDepth 100000 in
theorem Qi2 (k:Nat) (hk:1≤k) (h8:k≤8) (w:World):Calls Tryz.prog 103 #[.int .i64 2,.int .i64 (k:Int)] w fun e w'=>e= .returned (.bool true)∧Later w w':=by
 have h1:decide ((1:Int)≤(k:Int))=true:=decide_eq_true (by omega)
 have h2:decide ((k:Int)≤8)=true:=decide_eq_true (by omega)
 go_enter Tryz.func103,Tryz.ntmps103
 go_wp2
 go_ret
 exact⟨rfl,Later.refl w⟩
theorem QkV (bs:List UInt8) (o k:Nat) (h:o+k<bs.length):beN (subB bs o (k+1)) 0=beN (subB bs o k) 0*256+(bs.getD (o+k) 0).toNat:=by
 rw[subB,Quf _ _ (by rw[QC6];omega)]
 show _=beN ((bs.drop o).take k) 0*256+_
 congr 2
 rw[QCK,QCK,QDE]
set_option maxRecDepth 100000 in
set_option maxHeartbeats 4000000 in
theorem Qgt (A:Option Addr) (n c o k:Nat) (bs:List UInt8) (w:World) (hb:RdB w A n bs) (hn:n≤140737488355328) (hk:1≤k) (h8:k≤8) (ho:o+k≤n):
 Calls Tryz.prog 46 #[.int .i64 2,.slice A n c,.int .i64 (o:Int),.int .i64 (k:Int)] w fun e w'=>e= .returned (.tuple #[W64 (QC7 (beN (subB bs o k) 0)),.int .i64 0])∧Later w w':=by
 have hbl:=hb.len
 have h1:decide ((n:Int)<(o:Int))=false:=decide_eq_false (by omega)
 have h2:decide ((n:Int)-(o:Int)<(k:Int))=false:=decide_eq_false (by omega)
 have h3:decide ((o:Int)<0)=false:=decide_eq_false (by omega)
 have hs:=hid (fun j=>QkV bs o j)
 have hr:=hid (fun j=>QzD (beN (subB bs o j) 0))
 have h0:beN (subB bs o 0) 0=0:=rfl
 go_enter Tryz.func46,Tryz.ntmps46
 go_wp2_with fail
 refine (Qi2 k hk h8 _).mono ?_
 rintro e w1 ⟨rfl,L1⟩
 go_wp2_with fail
 go_loopw [10,11] (fun v i wr=>∃j:Nat,j≤k∧i= .int .i64 j∧v=W64 (QC7 (beN (subB bs o j) 0))∧Later w wr) (fun _ i _=>k-(intOf i).toNat)
 case atStart=>exact⟨0,by omega,rfl,by rw[h0];rfl,L1⟩
 case round=>
  clear L1
  obtain⟨j,hj,rfl,rfl,L⟩:=hrel
  by_cases hlt:j<k
  ·have hrd:=hb.later L
   have hs':=hs.out j (by omega)
   have hr':=hr.out j (bs.getD (o+j) 0)
   rw[←hs']at hr'
   replace hr':=hid hr'
   clear hs' hs hr
   obtain⟨b,p,rfl,hlb,hc⟩:=hrd.2 (by omega)
   have hcell:=hc (o+j) (W8 (bs.getD (o+j) 0)) (by rw[QCY,QCK,QCJ (by omega)];rfl)
   generalize bs.getD (o+j) 0=z at *
   go_wp2
   exact⟨⟨j+1,by omega,by go_num,by rw[←hr'.out],L⟩,by simp[intOf];omega⟩
  ·obtain rfl:j=k:=by omega
   go_wp2
   go_ret2
   exact⟨rfl,L⟩
def x2 (xs ys:List UInt8):Nat→List UInt8
 | 0=>QCC xs.length 0
 | 1=>xs
 | _=>xorB xs ys
theorem Qsa {xs ys:List UInt8} (h:xs.length=ys.length):∀k,(x2 xs ys k).length=xs.length
 | 0=>by simp[x2]
 | 1=>rfl
 | k+2=>by
   show (xorB xs ys).length=_
   rw[QaX h,h]
theorem Qx5 {xs ys:List UInt8}:∀k,k<2→xorB (x2 xs ys k) ([xs,ys].getD k [])=x2 xs ys (k+1)
 | 0,_=>QgG _ _ rfl
 | 1,_=>rfl
theorem Qnx {xs ys:List UInt8} (h:xs.length=ys.length) (k:Nat) (hk:k<2):([xs,ys].getD k []).length=xs.length:=by
 match k,hk with
 | 0,_=>rfl
 | 1,_=>exact h.symm
set_option maxRecDepth 100000 in
set_option maxHeartbeats 4000000 in
theorem QkT (B:Option Addr) (d n:Nat) (xs ys:List UInt8) (w:World) (hp:Parts w (fun _=>False) B 2 [xs,ys]) (hx:xs.length=n) (hy:ys.length=n) (hn:n≤1048576):
 Calls Tryz.prog 164 #[.slice B 2 d] w fun e w'=>∃A' c',e= .returned (.tuple #[.slice A' n c',.int .i64 0])∧OwnB w' w.heap.size A' n c' (xorB xs ys)∧Later w w':=by
 have hxy:xs.length=ys.length:=by omega
 have hm:=hid (fun k hk=>(Qnx hxy k hk).trans hx)
 have hst:=hid (fun k (hk:k<2) (Xk:List UInt8) (hX:[xs,ys].getD k []=Xk)=>show xorB (x2 xs ys k) Xk=x2 xs ys (k+1) by rw[←hX];exact Qx5 k hk)
 have hsl:=hid (fun k=>(Qsa hxy k).trans hx)
 have h0:x2 xs ys 0=QCC n 0:=by rw[x2,hx]
 have h2:x2 xs ys 2=xorB xs ys:=rfl
 have hRl:=hid ((QaX hxy).trans hy)
 generalize xorB xs ys=R at *
 go_enter Tryz.func164,Tryz.ntmps164
 go_wp2_with fail
 go_loopw [5,16] (fun _ i wr=>∃k:Nat,k≤2∧i= .int .i64 k∧Later w wr) (fun _ i _=>2-(intOf i).toNat)
 case atStart=>exact⟨0,by omega,rfl,Later.refl w⟩
 case round=>
  obtain⟨k,hk,rfl,L⟩:=hrel
  by_cases hlt:k<2
  ·obtain⟨b,o,Ak,nk,ck,rfl,hb,hck,hcap,hrd,_⟩:=(hp.later L).at_ hlt
   obtain⟨b',o',A0,n0,c0,he,hb',hck',hcap',hrd',_⟩:=(hp.later L).at_ (show 0<2 by omega)
   simp only[Option.some.injEq,Addr.mk.injEq,and_true]at he
   obtain⟨rfl,rfl⟩:=he
   rw[QD8]at hck'
   obtain rfl:nk=n:=by rw[←hrd.len];exact hm.out k hlt
   obtain rfl:n0=nk:=by rw[←hrd'.len];exact hm.out 0 (by omega)
   go_wp2
   exact⟨⟨k+1,by omega,by go_num,L⟩,by simp[intOf];omega⟩
  ·obtain⟨b',o',A0,n0,c0,rfl,hb',hck',hcap',hrd',_⟩:=(hp.later L).at_ (show 0<2 by omega)
   rw[QD8]at hck'
   obtain rfl:n0=n:=by rw[←hrd'.len];exact hm.out 0 (by omega)
   clear hrd'
   go_wp2_with (first
    | (refine QaF rfl _ _ _ rfl 5 _ 1 Tryz.underlying22 Qdo rfl _ _ _ _ n0 rfl rfl rfl rfl (by omega) (by omega) ?_;intro w1 hb1 hl1')
    | fail)
   have hz:QCC n0 (Value.int .u8 0)=(x2 xs ys 0).map W8:=by rw[h0,QDi];rfl
   replace hb1:Blk w1 wr.heap.size 5 ((x2 xs ys 0).map W8):=by rw[←hz];exact hb1
   have hgw:w.heap.size≤wr.heap.size:=L.size
   replace L:=L.trans hl1'
   clear hz h0 hl1' hck' hb'
   generalize wr.heap.size=g at *
   go_loopw [8,9,10,35] (fun _ _ _ i wr=>∃k:Nat,k≤2∧i= .int .i64 k∧Blk wr g 5 ((x2 xs ys k).map W8)∧Later w wr) (fun _ _ _ i _=>2-(intOf i).toNat)
   case atStart=>exact⟨0,by omega,rfl,hb1,L⟩
   case round=>
    clear hb1 L
    obtain⟨k,hk,rfl,hb1,L⟩:=hrel
    by_cases hlt:k<2
    ·obtain⟨b,o,Ak,nk,ck,he,hb,hck,hcap,hrd,_⟩:=hp.at_ hlt
     simp only[Option.some.injEq,Addr.mk.injEq,and_true]at he
     obtain⟨rfl,rfl⟩:=he
     obtain rfl:nk=n0:=by rw[←hrd.len];exact hm.out k hlt
     replace hck:=(L.below.cell (p:=⟨b',o'+k,none⟩) hb).trans hck
     replace hb:b'<wr.heap.size:=QCX hb L.size
     have hnext:=hst.out k hlt _ rfl
     have hyl:=hrd.len
     have hxl:=hsl.out k
     have hlen:(x2 xs ys k).length=([xs,ys].getD k []).length:=by omega
     generalize [xs,ys].getD k []=Y at *
     generalize hX':x2 xs ys (k+1)=X' at *
     generalize x2 xs ys k=X at *
     have HX':=hid hX'
     clear hX'
     have hX:=hid (fun k=>Qhb hlen k)
     have hG:=hid (fun k (h:k<X.length)=>Qlp hlen h)
     have hS:=hid (fun k (h:k<X.length)=>Qjg hlen h)
     have hA:=hid (QlF hlen)
     have hN:=hid (QjA X Y)
     go_wp2_with fail
     go_loopw [9,10,41] (fun _ _ i wr=>∃j:Nat,j≤nk∧i= .int .i64 j∧Blk wr g 5 ((Qgh X Y j).map W8)∧Later w wr) (fun _ _ i _=>nk-(intOf i).toNat)
     case atStart=>exact⟨0,by omega,rfl,by rw[hN.out];exact hb1,L⟩
     case round=>
      clear hb1 L
      obtain⟨j,hj,rfl,hb1,L⟩:=hrel
      by_cases hjt:j<nk
      ·obtain⟨b2,o2,rfl,hb2,hc2⟩:=RdB.at_ (hrd.later L) (by omega)
       have c1:=hc2 j hjt
       have hxk:=hX.out j (by omega)
       have d1:=hb1.cellD j (by rw[QCY,hG.out j (by omega)];rfl)
       have HS:=hid (hS.out j (by omega))
       clear hc2
       generalize X.getD j 0=x at *
       generalize Y.getD j 0=y at *
       go_wp2_with (first
        | (refine Qad rfl rfl _ _ _ rfl g j _ _ hb1 rfl (by rw[QCF];omega) rfl Qbt ?_;intro v' w5 hv' hb5 ho5;simp[go_sem]at hv';subst hv')
        | fail)
       rw[Qci,HS.out]at hb5
       go_roundw
       case rel=>exact⟨j+1,by omega,by go_num,hb5,L.only ho5 hgw⟩
       case measure=>simp[intOf];omega
      ·obtain rfl:j=nk:=by omega
       have hAll:=hA.out
       rw[hxl,hnext]at hAll
       rw[hAll]at hb1
       go_wp2
       exact⟨⟨k+1,by omega,by go_num,by rw[HX'.out];exact hb1,L⟩,by simp[intOf];omega⟩
    ·obtain rfl:k=2:=by omega
     rw[h2]at hb1
     go_wp2
     go_ret2
     exact⟨_,_,rfl,by
      have:=Qdt hb1 hgw (by rw[QCF,hRl.out];omega)
      rw[QCF,hRl.out]at this
      exact this,L⟩
theorem QnA:(Tryz.prog.info? 24).map (·.size)=some 16:=by kernel_rfl
theorem QzZ:Tryz.prog.eqGuardType Tryz.prog.depth 24=false:=by kernel_rfl
@[go_sem high] theorem QxR (op:BinOp) (x y:Operand) (xs ys:Array Value) (w:World):(eqGuard op 24 x y (.agg xs) (.agg ys)).run Tryz.prog w= .ok () w:=run_eqGuard_agg w op _ x y xs ys QzZ
@[go_sem high] theorem QyD (x y:Y16) (w:World):(binOp .eql 24 (.agg (x.val.map W8).toArray) (.agg (y.val.map W8).toArray)).run Tryz.prog w= .ok (.bool (x.val==y.val)) w:=by
  rw[run_eql_struct,Qa8 w 0 W8 9998 24 5 16 Tryz.underlying24 Qbt Tryz.underlying5 rfl (Qi8 _ _ Tryz.underlying5) _ _ x.2 y.2]
  rfl
@[go_sem high] theorem QyA (x y:Y16) (w:World):(binOp .neq 24 (.agg (x.val.map W8).toArray) (.agg (y.val.map W8).toArray)).run Tryz.prog w= .ok (.bool (x.val != y.val)) w:=by
  rw[run_neq_struct,Qa8 w 0 W8 9998 24 5 16 Tryz.underlying24 Qbt Tryz.underlying5 rfl (Qi8 _ _ Tryz.underlying5) _ _ x.2 y.2]
  rfl
theorem QrU:Tryz.prog.built 24 []=some (Qa3.val.map W8).toArray:=by
 show _=some ((QCC 16 (0:UInt8)).map W8).toArray
 rw[QDi]
 kernel_rfl
theorem Qdr {P:Program} {t:TypeId} {d:TypeDesc} {k:Nat} {v:Value} (hu:P.underlying t=some d) (hd:QbO d=false) {zs:List Value} (hz:zs[k]?=some v) (w:World):(part t zs.toArray k).run P w= .ok v w:=by
 have ha:(isAgg t).run P w= .ok false w:=by
  unfold isAgg
  simp only[Sem.run_bind,run_underlying hu]
  cases d<;>simp_all [QbO]
 unfold part
 simp[Sem.run_bind,ha,Result.andThen_ok,hz]
theorem QiN {P:Program} {d k:Nat} {t:TypeId} {f:Field} {fs:List Field} (hf:f.type=t) (hu:P.underlying t=some (.int .u64)) (hn:f.name≠ "_") {xs ys:List Value} {p q:UInt64} (ho:f.offset=k) (hp:xs[k]?=some (W64 p)) (hq:ys[k]?=some (W64 q)) (w:World):
 (Op.eqFields (d+1) xs.toArray ys.toArray (f :: fs)).run P w=if p==q then (Op.eqFields (d+1) xs.toArray ys.toArray fs).run P w else .ok false w:=by
 rw[Op.eqFields,if_pos hn]
 simp only[Sem.run_bind,hf,ho,Qdr hu rfl hp,Qdr hu rfl hq,Result.andThen_ok,Qim t _ hu d p q w]
 cases p==q<;>simp
theorem Qhf {P:Program} {d k:Nat} {t:TypeId} {f:Field} {fs:List Field} (hf:f.type=t) (hu:P.underlying t=some (.int .u8)) (hn:f.name≠ "_") {xs ys:List Value} {p q:UInt8} (ho:f.offset=k) (hp:xs[k]?=some (W8 p)) (hq:ys[k]?=some (W8 q)) (w:World):
 (Op.eqFields (d+1) xs.toArray ys.toArray (f :: fs)).run P w=if p==q then (Op.eqFields (d+1) xs.toArray ys.toArray fs).run P w else .ok false w:=by
 rw[Op.eqFields,if_pos hn]
 simp only[Sem.run_bind,hf,ho,Qdr hu rfl hp,Qdr hu rfl hq,Result.andThen_ok,Qi8 t _ hu d p q w]
 cases p==q<;>simp
theorem QiK {P:Program} {d k:Nat} {t:TypeId} {f:Field} {fs:List Field} (hf:f.type=t) (hu:P.underlying t=some (.int .u32)) (hn:f.name≠ "_") {xs ys:List Value} {p q:UInt32} (ho:f.offset=k) (hp:xs[k]?=some (W32 p)) (hq:ys[k]?=some (W32 q)) (w:World):
 (Op.eqFields (d+1) xs.toArray ys.toArray (f :: fs)).run P w=if p==q then (Op.eqFields (d+1) xs.toArray ys.toArray fs).run P w else .ok false w:=by
 rw[Op.eqFields,if_pos hn]
 simp only[Sem.run_bind,hf,ho,Qdr hu rfl hp,Qdr hu rfl hq,Result.andThen_ok,Qtq t _ hu d p q w]
 cases p==q<;>simp
def Qql (x y:Cmd):Bool:=x.kd==y.kd&&(x.fl==y.fl&&(x.dl==y.dl&&(x.nx==y.nx&&x.ma.val==y.ma.val)))
@[go_sem] theorem QyG (x:Cmd):Qql x x=true:=by simp[Qql]
theorem QkR (x:Cmd):((CC x).drop 4).take 16=x.ma.val.map W8:=by rw[Qrk,QCQ (by rw[QCF,x.ma.2];omega)]
set_option maxRecDepth 100000 in
theorem QhY (x y:Cmd) (w:World) {fs:Array Field} (hu:Tryz.prog.underlying 62=some (.struct fs)):(Op.eqFields 9999 (CC x).toArray (CC y).toArray fs.toList).run Tryz.prog w= .ok (Qql x y) w:=by
 rw[Tryz.underlying62]at hu
 cases hu
 rw[Qhf (d:=9998) (k:=0) rfl Tryz.underlying5 (by decide) rfl rfl rfl,Qhf (d:=9998) (k:=1) rfl Tryz.underlying5 (by decide) rfl rfl rfl,QiK (d:=9998) (k:=2) rfl Tryz.underlying60 (by decide) rfl rfl rfl,
  QiN (d:=9998) (k:=3) rfl Tryz.underlying40 (by decide) rfl rfl rfl,Qdb (d:=9997) (k:=4) rfl Tryz.underlying24 QnA Qbt Tryz.underlying5 (by decide) rfl (QkR x) (QkR y) x.ma.2 y.ma.2,QcH]
 rw[Qql]
 cases x.kd==y.kd<;>cases x.fl==y.fl<;>cases x.dl==y.dl<;>cases x.nx==y.nx<;>cases x.ma.val==y.ma.val<;>rfl
theorem QxF:Tryz.prog.eqGuardType Tryz.prog.depth 62=false:=by kernel_rfl
@[go_sem high] theorem QxW (op:BinOp) (x y:Operand) (xs ys:Array Value) (w:World):(eqGuard op 62 x y (.agg xs) (.agg ys)).run Tryz.prog w= .ok () w:=run_eqGuard_agg w op _ x y xs ys QxF
set_option maxRecDepth 100000 in
@[go_sem high] theorem Qxx (x y:Cmd) (w:World):(binOp .eql 62 (.agg (CC x).toArray) (.agg (CC y).toArray)).run Tryz.prog w= .ok (.bool (Qql x y)) w:=by
  rw[Qgo Tryz.underlying62 (by kernel_rfl),QhY x y w Tryz.underlying62]
  rfl
set_option maxRecDepth 100000 in
@[go_sem high] theorem Qx6 (x y:Cmd) (w:World):(binOp .neq 62 (.agg (CC x).toArray) (.agg (CC y).toArray)).run Tryz.prog w= .ok (.bool (!Qql x y)) w:=by
  rw[QgB Tryz.underlying62 (by kernel_rfl),QhY x y w Tryz.underlying62]
  rfl
theorem Qed:(Tryz.prog.info? 62).map (·.size)=some 20:=by kernel_rfl
theorem Qzx:(Tryz.prog.info? 62).bind (·.zero)=some (.agg (CC cmd0).toArray):=by kernel_rfl
theorem QoS (x:Cmd):∀u∈CC x,u.oneCell'=true:=by
 intro u hu
 simp only[CC,QCZ,QDs]at hu
 rcases hu with rfl|rfl|rfl|rfl|⟨b,_,rfl⟩<;>rfl
theorem Qjq:Tryz.prog.built 62 []=some (CC cmd0).toArray:=by
 rw[QaY (pl:=[(0,1),(1,1),(2,1),(3,1),(4,16)]) Tryz.underlying62 Qzx (by kernel_rfl),Qb7]
theorem QpQ (k f:UInt8):Tryz.prog.built 62 [(0,W8 k),(1,W8 f)]=some (CC ⟨k,f,0,0,Qa3⟩).toArray:=by
 rw[QaY (pl:=[(0,1),(1,1),(2,1),(3,1),(4,16)]) Tryz.underlying62 Qzx (by kernel_rfl),QaV (vs:=[W8 k]) (off:=0) rfl rfl (by rw[Qar];simp),QaV (vs:=[W8 f]) (off:=1) rfl rfl (by rw[QbJ _ _ _ (by rw[Qar];simp),Qar];simp),Qb7]
 rfl
section
variable {ops:Array Oper} {rest:List Oper} {o:Oper} {a:Act} {w:World} {Q:Exit→Act→World→Prop}
theorem Qb1 (hgd:o.guard=none) (hd:o.dst=none) (x y:Operand) (ho:o.op= .store 62 x y) {g:Nat} {t:TypeId} {l:List Value} {z:Cmd} (hg:Blk w g t l) (hx:a.eval x= .pointer (some ⟨g,0,none⟩)) (hy:a.eval y= .agg (CC z).toArray) (hl:l.length=20)
 (h:∀w',Blk w' g t (CC z)→Only g w w'→wpList Tryz.prog ops Q rest a w'):wpList Tryz.prog ops Q (o :: rest) a w:=
 QaC hgd hd _ x y ho g t l _ hg hx hy 20 Qed (Qar _) hl (QoS _) h
theorem QcU (hw:Region.wanted o (yielded ops a.tmps)=true) (x:Operand) (ho:o.op= .load 62 x) {g:Nat} {t:TypeId} {z:Cmd} (hb:Blk w g t (CC z)) (hx:a.eval x= .pointer (some ⟨g,0,none⟩))
 (h:wpList Tryz.prog ops Q rest (a.put o.dst (.agg (CC z).toArray)) w):wpList Tryz.prog ops Q (o :: rest) a w:=
 Qan hw _ x ho g 0 _ (fun j v hv=>by rw[QC4];exact hb.cellD j hv) hx _ Tryz.underlying62 rfl (by rw[Qar];exact Qed) h
theorem Qw4 (hw:Region.wanted o (yielded ops a.tmps)=true) (x:Operand) (ho:o.op= .load 24 x) {g off:Nat} {y:Y16} (hc:∀j v,(y.val.map W8)[j]?=some v→w.cell? ⟨g,off+j,none⟩=some v) (hx:a.eval x= .pointer (some ⟨g,off,none⟩))
 (h:wpList Tryz.prog ops Q rest (a.put o.dst (.agg (y.val.map W8).toArray)) w):wpList Tryz.prog ops Q (o :: rest) a w:=
 Qan hw _ x ho g off _ hc hx _ Tryz.underlying24 rfl (by rw[QCF,y.2];exact QnA) h
end
theorem QeI {w:World} {g:Nat} {t:TypeId} {c:Cmd} (h:Blk w g t (CC c)):w.cell? ⟨g,0,none⟩=some (W8 c.kd)∧w.cell? ⟨g,1,none⟩=some (W8 c.fl)∧w.cell? ⟨g,2,none⟩=some (W32 c.dl)∧w.cell? ⟨g,3,none⟩=some (W64 c.nx)∧(∀ j v,(c.ma.val.map W8)[j]?=some v→w.cell? ⟨g,4+j,none⟩=some v):=
 ⟨h.cellD 0 rfl,h.cellD 1 rfl,h.cellD 2 rfl,h.cellD 3 rfl,fun j v hv=>h.cellD _ (by rw[show 4+j=j+1+1+1+1 by omega,CC];exact hv)⟩
set_option maxRecDepth 100000 in
set_option maxHeartbeats 1000000 in
theorem Qjj (c:Cmd) (w:World):Calls Tryz.prog 156 #[.agg (CC c).toArray] w fun e w'=>e= .returned (.bool (Qcs c))∧Later w w':=by
 have hb:Blk (w.alloc (.cells (CC c).toArray 62)) w.heap.size 62 (CC c):=Blk.new _ _ _
 obtain⟨c0,_,_,c3,c4⟩:=QeI hb
 have L:=Qaa w (.cells (CC c).toArray 62)
 have hz:=QrU
 rw[Qcs,show QCC 16 (0:UInt8)=Qa3.val from rfl]
 clear hb
 go_enter Tryz.func156,Tryz.ntmps156
 generalize c.kd=kd at *
 generalize c.nx=nx at *
 generalize c.ma=mk at *
 generalize Qa3=z at *
 have hn:(nx != 0)= !(nx==0):=rfl
 rw[hn]
 cases h1:(kd==1)<;>cases h2:(nx==0)<;>cases h4:(kd==4)
 all_goals
  go_wp2_with (first
   | (refine Qw4 rfl _ rfl c4 rfl ?_)
   | (refine Qaj rfl _ _ rfl (z.val.map W8) (by simp only[QCT,QC3];exact hz) ?_)
   | fail)
  go_ret
  exact⟨rfl,L⟩
set_option maxRecDepth 100000 in
set_option maxHeartbeats 1000000 in
theorem Qg1 (c:Cmd) (w:World):Calls Tryz.prog 162 #[.agg (CC c).toArray] w fun e w'=>e= .returned (.int .i64 (cmdE c:Nat))∧Later w w':=by
 have hb:Blk (w.alloc (.cells (CC c).toArray 62)) w.heap.size 62 (CC c):=Blk.new _ _ _
 obtain⟨c0,_,c2,_,_⟩:=QeI hb
 have L:=Qaa w (.cells (CC c).toArray 62)
 have hS:=hid (Qjj c)
 have hE:cmdE c=if c.kd<1∨4<c.kd then 1 else if Qcs c=false then 3 else if 1000000<c.dl then 11 else 0:=rfl
 generalize Qcs c=sh at *
 by_cases h1:c.kd<1
 ·rw[if_pos (.inl h1)]at hE
  rw[hE]
  clear hE
  go_enter Tryz.func162,Tryz.ntmps162
  go_wp2_with fail
  go_ret
  exact⟨rfl,L⟩
 by_cases h4:4<c.kd
 ·rw[if_pos (.inr h4)]at hE
  rw[hE]
  clear hE
  go_enter Tryz.func162,Tryz.ntmps162
  go_wp2_with fail
  go_ret
  exact⟨rfl,L⟩
 rw[if_neg (by rintro (h|h)<;>contradiction)]at hE
 cases sh
 ·rw[if_pos rfl]at hE
  rw[hE]
  clear hE
  go_enter Tryz.func162,Tryz.ntmps162
  go_wp2_with (first
   | (refine QcU rfl _ rfl hb rfl ?_)
   | fail)
  refine (hS.out _).mono ?_
  rintro e w1 ⟨rfl,l1⟩
  go_wp2_with fail
  go_ret
  exact⟨rfl,L.trans l1⟩
 rw[if_neg (by decide)]at hE
 by_cases hd:1000000<c.dl
 ·rw[if_pos hd]at hE
  rw[hE]
  clear hE
  go_enter Tryz.func162,Tryz.ntmps162
  go_wp2_with (first
   | (refine QcU rfl _ rfl hb rfl ?_)
   | fail)
  refine (hS.out _).mono ?_
  rintro e w1 ⟨rfl,l1⟩
  replace c2:=(l1.below.cell (p:=⟨w.heap.size,2,none⟩) hb.lt).trans c2
  go_wp2_with fail
  go_ret
  exact⟨rfl,L.trans l1⟩
 ·rw[if_neg hd]at hE
  rw[hE]
  clear hE
  go_enter Tryz.func162,Tryz.ntmps162
  go_wp2_with (first
   | (refine QcU rfl _ rfl hb rfl ?_)
   | fail)
  refine (hS.out _).mono ?_
  rintro e w1 ⟨rfl,l1⟩
  replace c2:=(l1.below.cell (p:=⟨w.heap.size,2,none⟩) hb.lt).trans c2
  go_wp2_with fail
  go_ret
  exact⟨rfl,L.trans l1⟩
def FC (key:List UInt8) (n:Nat):List Value:=key.map W8++[.int .i64 (n:Int)]
theorem QsB {key:List UInt8} (h:key.length=32) (n:Nat):(FC key n).length=33:=by simp[FC,h]
theorem Qm3 {key:List UInt8} (h:key.length=32) (n:Nat):(FC key n)[32]?=some (.int .i64 (n:Int)):=by
 rw[FC,QCR (by rw[QCF,h];omega),QCF,h]
 rfl
theorem QzY {key:List UInt8} (h:key.length=32) (n m:Nat):(FC key n).set 32 (.int .i64 (m:Int))=FC key m:=by
 rw[FC,QDc _ _ (by rw[QCF,h];omega),QCF,h]
 rfl
set_option maxRecDepth 100000 in
set_option maxHeartbeats 4000000 in
theorem QtW (A:Option Addr) (c:Nat) (key:List UInt8) (w:World) (hk:RdB w A 32 key):
 Calls Tryz.prog 165 #[.slice A 32 c] w fun e w'=>∃g,e= .returned (.tuple #[.pointer (some ⟨g,0,none⟩),.int .i64 0])∧w.heap.size≤g∧Blk w' g 460 (FC key 0)∧Later w w':=by
 have hkl:=hk.len
 have hz:Tryz.prog.built 460 []=some (QCC 32 (Value.int .u8 0)++[Value.int .i64 0]).toArray:=by kernel_rfl
 have hsp:Qao (QCC 32 (Value.int .u8 0)++[Value.int .i64 0]) 0 ((key.map W8).take 32)=FC key 0:=by
  rw[QCQ (by rw[QCF];omega),Qao,QCF,hkl,FC]
  rfl
 have hb:=Blk.new w 460 (QCC 32 (Value.int .u8 0)++[Value.int .i64 0])
 have L:=Qaa w (.cells (QCC 32 (Value.int .u8 0)++[Value.int .i64 0]).toArray 460)
 have hll:(QCC 32 (Value.int .u8 0)++[Value.int .i64 0]).length=33:=by simp
 generalize QCC 32 (Value.int .u8 0)++[Value.int .i64 0]=Z at *
 go_enter Tryz.func165,Tryz.ntmps165
 go_wp2_with (first
  | (refine Qam rfl _ _ rfl Z ?hb ?_;(case hb=>simp only[QCT,QC3];exact hz))
  | (refine Qas rfl _ _ _ _ rfl 5 Tryz.underlying22 Qbt w.heap.size 0 32 32 _ _ hb A 32 c (key.map W8) (hk.later L) (QaH _) rfl rfl (by omega) ?_;intro w2 hb2 ho2;rw[hsp]at hb2)
  | fail)
 go_ret2
 exact⟨_,rfl,QCP _,hb2,L.only ho2 (QCP _)⟩
set_option maxRecDepth 100000 in
set_option maxHeartbeats 4000000 in
theorem Qtr (g n:Nat) (key:List UInt8) (w0 w:World) (hb:Blk w g 460 (FC key 0)) (hk:key.length=32) (hl:Later w0 w) (hg:w0.heap.size≤g) (hn:n≤65536):
 Calls Tryz.prog 257 #[.pointer (some ⟨g,0,none⟩),.int .i64 (n:Int)] w fun e w'=>∃A' c',e= .returned (.tuple #[.slice A' n c',.int .i64 0])∧OwnB w' w0.heap.size A' n c' (chaS key n)∧Later w0 w':=by
 have h1:decide ((n:Int)<0)=false:=decide_eq_false (by omega)
 have h2:decide ((65536:Int)<(n:Int))=false:=decide_eq_false (by omega)
 have hu:=hb.cellD 32 (Qm3 hk 0)
 have hfl:=QsB hk 0
 have hset:=hid (QzY hk 0 n)
 have hP:=hid (fun (w:World) h=>Ql7 (some ⟨g,0,none⟩) 32 n key w h hn)
 have hcl:=hid (fun (w:World) (h:Blk w g 460 (FC key 0))=>(show RdB w (some ⟨g,0,none⟩) 32 key from Qft h hk))
 have hlt:=hb.lt
 have hSl:=Qaz key n
 have hF:Hid ((FC key 0)[32]?=some (.int .i64 0)):=hid (Qm3 hk 0)
 generalize FC key 0=F0 at *
 generalize FC key n=Fn at *
 generalize chaS key n=S at *
 go_enter Tryz.func257,Tryz.ntmps257
 go_wp2_with fail
 refine Qag [([0,1,2,3,4,5,6,7,8],9)] [10] [] (by as_aux_lemma=>kernel_rfl) (by as_aux_lemma=>kernel_rfl) (by intro _ _ d _ _ h;cases d<;>exact h) ?_
 simp only[Qah,pick,QCD,QCE,QCG,QCI,QCH]
 repeat (go_big_quiet_step (fail))
 refine wpQuiet_nil ?_
 go_wp2_with fail
 (with_reducible refine (hP.out _ (hcl.out _ hb.drew)).mono ?_);rintro e w2 ⟨A2,c2,rfl,o2,l2⟩
 go_wp2_with fail
 try refine⟨by first|assumption|exact Qab _|exact Qaa _ _|exact Later.refl _,?_⟩
 try simp only[Qah,pick,QCD,QCE,QCG,QCI,QCH]
 repeat (go_big_quiet_step (fail))
 refine wpQuiet_nil ?_
 have hb2:=(hb.later (Qab _)).later l2
 have hu2:=hb2.cellD 32 hF.out
 go_wp2_with (first
  | (refine Qad rfl rfl _ _ _ rfl g 32 _ _ hb2 rfl (by omega) rfl (by kernel_rfl) ?_;intro v3 w3 hv3 hb3 ho3)
  | fail)
 go_ret2
 have hbase:∀b,(Value.slice A2 n c2).ownBlock=some b→b≠g:=fun b hb' e=>by
  have:=(World.ownsRow.lt o2 b hb').1
  simp at this
  omega
 exact⟨_,_,rfl,Qc3 (Qhw o2 ho3 hbase) (by have:=hl.size;simpa using this),((hl.trans (Qab _)).trans l2).only ho3 hg⟩
set_option maxRecDepth 100000 in
set_option maxHeartbeats 4000000 in
theorem Qqk (g m d:Nat) (B:Option Addr) (key:List UInt8) (ps:List (List UInt8)) (w0 w:World) (hp:Parts w0 (fun _=>False) B m ps) (hm:m≤1048576) (hb:Blk w g 460 (FC key 0)) (hk:key.length=32) (hl:Later w0 w) (hg:w0.heap.size≤g) (hn:ps.flatten.length≤65536):
 Calls Tryz.prog 166 #[.pointer (some ⟨g,0,none⟩),.slice B m d] w fun e w'=>∃A' c',e= .returned (.tuple #[.slice A' ps.flatten.length c',.int .i64 0])∧OwnB w' w0.heap.size A' ps.flatten.length c' (xorB ps.flatten (chaS key ps.flatten.length))∧Later w0 w':=by
 have hpl:=hp.len
 have hN:=hid (fun n h (w:World) (hb:Blk w g 460 (FC key 0)) hl=>Qtr g n key w0 w hb hk hl hg h)
 have hJ:=hid (fun (w:World) h=>Qcy B m d ps w h (by omega) (by omega))
 have hSl:=Qaz key ps.flatten.length
 have hF:Hid ((FC key 0)[32]?=some (.int .i64 0)):=hid (Qm3 hk 0)
 have hft:=hid (fun k=>Qeh ps k)
 have hle:=hid (fun k=>QcL ps k)
 have hX:=hid (fun (w:World) C e h=>QkT C e ps.flatten.length ps.flatten (chaS key ps.flatten.length) w h rfl hSl (by omega))
 have hall:ps.take m=ps:=by rw[←hpl,List.take_length]
 generalize hS:chaS key ps.flatten.length=S at *
 generalize xorB ps.flatten S=X at *
 generalize FC key 0=F0 at *
 generalize hTe:ps.flatten.length=T at *
 replace hS:=hid hS
 go_enter Tryz.func166,Tryz.ntmps166
 go_wp2_with fail
 go_loopw [6,8,13] (fun t _ i wr=>∃k:Nat,k≤m∧i= .int .i64 k∧t= .int .i64 ((ps.take k).flatten.length:Nat)∧Later w wr) (fun _ _ i _=>m-(intOf i).toNat)
 case atStart=>exact⟨0,by omega,rfl,rfl,Later.refl w⟩
 case round=>
  obtain⟨k,hk',rfl,rfl,L⟩:=hrel
  by_cases hlt:k<m
  ·obtain⟨b,o,Ak,nk,ck,rfl,hb',hck,hcap,hrd,_⟩:=hp.at_ hlt
   replace hck:=((hl.trans L).below.cell (p:=⟨b,o+k,none⟩) hb').trans hck
   replace hb':b<wr.heap.size:=QCX hb' (hl.trans L).size
   have hu:=(hb.later L).cellD 32 hF.out
   have e1:(ps.take (k+1)).flatten.length=(ps.take k).flatten.length+nk:=by
    have h1:=hrd.len
    have h2:k<ps.length:=by omega
    rw[hft.out k h2,QCM]
    rw[QCK,QCJ h2,QEL]at h1
    rw[h1]
   have e2:=hle.out (k+1)
   generalize (ps.take k).flatten.length=s at *
   generalize hs':(ps.take (k+1)).flatten.length=s' at *
   replace hs':=hid hs'
   have hcmp:decide ((65536:Int)-(s:Int)<(nk:Int))=false:=decide_eq_false (by omega)
   go_wp2
   exact⟨⟨k+1,by omega,by go_num,by rw[hs'.out,e1];go_num,L⟩,by simp[intOf];omega⟩
  ·obtain rfl:k=m:=by omega
   rw[hall,hTe]
   go_wp2_with fail
   (with_reducible refine (hN.out T hn _ (hb.later L) (hl.trans L)).mono ?_);rintro e w2 ⟨A2,c2,rfl,o2,l2⟩
   rw[hS.out]at o2
   go_wp2_with fail
   (with_reducible refine (hJ.out _ (hp.later l2)).mono ?_);rintro e w3 ⟨A3,c3,rfl,o3,l3⟩
   go_wp2_with fail
   have P4:Parts (w3.alloc (.cells #[.slice A3 T c3,.slice A2 T c2] 22)) (fun _=>False) (some ⟨w3.heap.size,0,none⟩) 2 [ps.flatten,S]:=
    Qd7 (Blk.new w3 22 [.slice A3 T c3,.slice A2 T c2]) (QaM (o3.rd.later (Qaa _ _)) o3.cap) (QaM ((o2.later l3).rd.later (Qaa _ _)) o2.cap)
   (with_reducible refine (hX.out _ _ _ P4).mono ?_);rintro e w5 ⟨A5,c5,rfl,o5,l5⟩
   have L5:=((l2.trans l3).trans (Qaa w3 _)).trans l5
   go_wp2_with fail
   go_ret2
   exact⟨_,_,rfl,o5.mono ((l2.trans l3).trans (Qaa w3 _)).size,L5⟩
set_option maxRecDepth 100000 in
set_option maxHeartbeats 4000000 in
theorem QhL (A:Option Addr) (c m d:Nat) (B:Option Addr) (key:List UInt8) (ps:List (List UInt8)) (w:World) (hk:RdB w A 32 key) (hp:Parts w (fun _=>False) B m ps) (hm:m≤1048576) (hn:ps.flatten.length≤65536):
 Calls Tryz.prog 101 #[.slice A 32 c,.slice B m d] w fun e w'=>∃A' c',e= .returned (.tuple #[.slice A' ps.flatten.length c',.int .i64 0])∧OwnB w' w.heap.size A' ps.flatten.length c' (xorB ps.flatten (chaS key ps.flatten.length))∧Later w w':=by
 have hT:=hid (fun g (w':World) hb hl hg=>Qqk g m d B key ps w w' hp hm hb hk.len hl hg hn)
 generalize xorB ps.flatten (chaS key ps.flatten.length)=X at *
 generalize ps.flatten.length=T at *
 go_enter Tryz.func101,Tryz.ntmps101
 go_wp2_with fail
 (with_reducible refine (QtW A c key _ hk).mono ?_);rintro e w1 ⟨g,rfl,hg,hb,l1⟩
 go_wp2_with fail
 (with_reducible refine (hT.out g _ hb l1 hg).mono ?_);rintro e w2 ⟨A2,c2,rfl,o2,l2⟩
 go_wp2_with fail
 go_ret2
 exact⟨_,_,rfl,o2,l2⟩
theorem Qb6:(Tryz.prog.info? 39).map (·.size)=some 288:=by kernel_rfl
theorem QgN:(Tryz.prog.info? 53).map (·.size)=some 768:=by kernel_rfl
theorem Qxs:(Tryz.prog.info? 37).map (·.size)=some 240:=by kernel_rfl
theorem QwZ:(Tryz.prog.info? 53).bind (·.zero)=some (.agg (QCC 768 (W8 0)).toArray):=by kernel_rfl
theorem zcH:Tryz.zeroCells39.toList=(QCC 288 (0:UInt8)).map W8:=by rw[QDi];kernel_rfl
theorem zcP:Tryz.zeroCells53.toList=(QCC 768 (0:UInt8)).map W8:=by rw[QDi];kernel_rfl
theorem Qo6:Tryz.prog.built 39 []=some ((QCC 288 (0:UInt8)).map W8).toArray:=by rw[QDi];kernel_rfl
theorem QpB (h:List UInt8) (hl:h.length=288):Tryz.prog.built 53 [(0,.agg (h.map W8).toArray)]=some ((h++QCC 480 0).map W8).toArray:=by
 have hb:=QfN (n:=768) (pl:=[(0,288),(288,480)]) Tryz.underlying53 QwZ (by kernel_rfl) [(0,0,h)] (by
  intro x hx
  simp only[QCZ,QC0,or_false]at hx
  subst hx
  simp only[hl];decide)
 rw[show QfH (QCC 768 0) ([(0,0,h)].map fun x=>(x.2.1,x.2.2))=h++QCC 480 0 by
  simp only[QC9,QC3,QfH]
  rw[show QCC 768 (0:UInt8)=QCC 288 0++QCC 480 0 by rw[QDQ],Qeb _ _ _ (by rw[QCS,hl])]]at hb
 exact hb
theorem QgA (bs:List UInt8) (n:Nat) (h:bs.length=n):subB bs 0 n=bs:=by rw[subB,QD7,QCQ (by omega)]
section
variable {ops:Array Oper} {rest:List Oper} {o:Oper} {a:Act} {w:World} {Q:Exit→Act→World→Prop}
theorem Qdw (hgd:o.guard=none) (hd:o.dst=none) (x y:Operand) (ho:o.op= .store 39 x y) {g:Nat} {t:TypeId} {l:List Value} {bs:List UInt8} (hg:Blk w g t l) (hx:a.eval x= .pointer (some ⟨g,0,none⟩)) (hy:a.eval y= .agg (bs.map W8).toArray) (hbl:bs.length=288) (hl:l.length=288)
 (h:∀w',Blk w' g t (bs.map W8)→Only g w w'→wpList Tryz.prog ops Q rest a w'):wpList Tryz.prog ops Q (o :: rest) a w:=
 QgT 288 hgd hd x y ho hg hx hy Qb6 hbl hl h
theorem Ql6 (hw:Region.wanted o (yielded ops a.tmps)=true) (x:Operand) (ho:o.op= .load 39 x) {g:Nat} {t:TypeId} {bs:List UInt8} (hb:Blk w g t (bs.map W8)) (hl:bs.length=288) (hx:a.eval x= .pointer (some ⟨g,0,none⟩))
 (h:wpList Tryz.prog ops Q rest (a.put o.dst (.agg (bs.map W8).toArray)) w):wpList Tryz.prog ops Q (o :: rest) a w:=
 QoL 0 288 hw x ho hb hx Tryz.underlying39 rfl Qb6 (QgA _ _ hl) hl h
theorem QhB (hgd:o.guard=none) (hd:o.dst=none) (x y:Operand) (ho:o.op= .store 53 x y) {g:Nat} {t:TypeId} {l:List Value} {bs:List UInt8} (hg:Blk w g t l) (hx:a.eval x= .pointer (some ⟨g,0,none⟩)) (hy:a.eval y= .agg (bs.map W8).toArray) (hbl:bs.length=768) (hl:l.length=768)
 (h:∀w',Blk w' g t (bs.map W8)→Only g w w'→wpList Tryz.prog ops Q rest a w'):wpList Tryz.prog ops Q (o :: rest) a w:=
 QgT 768 hgd hd x y ho hg hx hy QgN hbl hl h
theorem QsS (hw:Region.wanted o (yielded ops a.tmps)=true) (x:Operand) (ho:o.op= .load 53 x) {g:Nat} {t:TypeId} {bs:List UInt8} (hb:Blk w g t (bs.map W8)) (hl:bs.length=768) (hx:a.eval x= .pointer (some ⟨g,0,none⟩))
 (h:wpList Tryz.prog ops Q rest (a.put o.dst (.agg (bs.map W8).toArray)) w):wpList Tryz.prog ops Q (o :: rest) a w:=
 QoL 0 768 hw x ho hb hx Tryz.underlying53 rfl QgN (QgA _ _ hl) hl h
end
theorem QrK (b:List UInt8) (h:b.length=288):putB (putB (putB (QCC 288 0) 0 (b.take 32)) 32 ((b.drop 32).take 16)) 48 (b.drop 48)=b:=by
 have e1:b=b.take 32++((b.drop 32).take 16++b.drop 48):=by
  rw[show b.drop 48=(b.drop 32).drop 16 by rw[QD5],QDa,QDa]
 have l1:(b.take 32).length=32:=by simp;omega
 have l2:((b.drop 32).take 16).length=16:=by simp;omega
 have l3:(b.drop 48).length=240:=by simp;omega
 generalize b.take 32=p at *
 generalize (b.drop 32).take 16=q at *
 generalize b.drop 48=r at *
 rw[show QCC 288 (0:UInt8)=QCC 32 0++(QCC 16 0++QCC 240 0) by simp,Qeb _ _ _ (by rw[QCS,l1]),Qca _ _ _ _ 32 l1 (by rw[QCS,l2]),←QCU,Qe4 _ _ _ 48 (by rw[QCM,l1,l2]) (by rw[QCS,l3]),QCU,e1]
set_option maxRecDepth 100000 in
set_option maxHeartbeats 4000000 in
theorem Qqm (A:Option Addr) (c:Nat) (b:List UInt8) (w:World) (hb:RdB w A 288 b) (hc:288≤c):
 Calls Tryz.prog 47 #[.slice A 288 c] w fun e w'=>e= .returned (.tuple #[.agg (b.map W8).toArray,.int .i64 0])∧Later w w':=by
 have hbl:=hb.len
 obtain⟨b0,p,rfl,hb00,_⟩:=hb.2 (by omega)
 have B0:Bag w (w.alloc (.cells Tryz.zeroCells39 39)) [(w.heap.size,39,(QCC 288 (0:UInt8)).map W8)]:=(Bag.none w).add (Qaa _ _) (by simp) (QCP _) ((Blk.new w _ Tryz.zeroCells39.toList).cast zcH)
 have hp:=QrK b hbl
 have l0:(QCC 288 (0:UInt8)).length=288:=by simp
 have HZ:=hid zcH
 generalize hZ:QCC 288 (0:UInt8)=Z at *
 have l1:(putB Z 0 (b.take 32)).length=288:=by rw[Qbp (by rw[QC5];omega)];exact l0
 have l2:(putB (putB Z 0 (b.take 32)) 32 ((b.drop 32).take 16)).length=288:=by rw[Qbp (by rw[QC5,QC6];omega)];exact l1
 have e3:((b.drop 48).take 240)=b.drop 48:=QCQ (by rw[QC6];omega)
 have HE:=hid e3
 have HP:=hid hp
 clear e3 hp hZ
 have hc32:cutA (some ⟨b0,p,none⟩) 32 c=some ⟨b0,p+32,none⟩:=by rw[cutA,if_neg (by omega)];rfl
 have hc48:cutA (some ⟨b0,p,none⟩) 48 c=some ⟨b0,p+48,none⟩:=by rw[cutA,if_neg (by omega)];rfl
 have h32:Hid (∀ w,RdB w (some ⟨b0,p,none⟩) 288 b→RdB w (some ⟨b0,p+32,none⟩) 256 (b.drop 32)):=hid (fun w h=>by rw[←hc32];exact RdB.cut h (by omega) hc)
 have h48:Hid (∀ w,RdB w (some ⟨b0,p,none⟩) 288 b→RdB w (some ⟨b0,p+48,none⟩) 240 (b.drop 48)):=hid (fun w h=>by rw[←hc48];exact RdB.cut h (by omega) hc)
 generalize hZ2:putB (putB Z 0 (b.take 32)) 32 ((b.drop 32).take 16)=Z2 at *
 generalize hZ1:putB Z 0 (b.take 32)=Z1 at *
 have H1:=hid hZ1
 have H2:=hid hZ2
 have hzl:(Z.map W8).length=288:=by rw[QCF];exact l0
 clear hZ1 hZ2
 go_enter Tryz.func47,Tryz.ntmps47
 have hrr:=hb.later (B0.lat.trans (Qaa _ (.cells Tryz.zeroCells39 39)))
 have hbb:=(Blk.new' (n:=w.heap.size+1) (w.alloc (.cells Tryz.zeroCells39 39)) 39 Tryz.zeroCells39.toList (by simp)).cast HZ.out
 go_wp2_with (first
  | (refine Qas rfl _ _ _ _ rfl 5 Tryz.underlying22 Qbt (w.heap.size+1) 0 32 32 _ _ hbb (some ⟨b0,p,none⟩) 288 c (b.map W8) hrr (QaH _) rfl rfl (by rw[QCF];omega) ?_;intro w1 hb1 ho1;rw[←QD9,QcB,H1.out]at hb1
     have B1:=B0.push (Qaa _ _) (by simp) ho1 hb1)
  | fail)
 clear hb1 ho1 B0 hrr hbb
 generalize w.heap.size+1=g at *
 have B2:=B1.drew
 simp only[Act.put,QCL,QCO,QCN]
 refine Qag [] [0,1,2,3] [4] (by as_aux_lemma=>kernel_rfl) (by as_aux_lemma=>kernel_rfl) (by intro _ _ d _ _ h;cases d<;>exact h) ?_
 simp only[Qah,pick,QCD,QCE,QCG,QCI,QCH]
 repeat (go_big_quiet_step (fail))
 refine wpQuiet_nil ?_
 go_wp2_with (first
  | (refine Qas rfl _ _ _ _ rfl 5 Tryz.underlying22 Qbt g 32 16 16 _ _ (B2.nth 0 rfl) (some ⟨b0,p+32,none⟩) 256 (c-32) ((b.drop 32).map W8) (h32.out _ (hb.later B2.lat)) (QaH _) rfl rfl (by rw[QCF];omega) ?_;intro w3 hb3 ho3;rw[←QD9,QcB,H2.out]at hb3
     have B3:=(B2.write 0 rfl ho3 hb3).drew)
  | fail)
 clear hb3 ho3 B1 B2
 simp only[Act.put,QCL,QCO,QCN]
 refine Qag [] [0,1,2,3] [4] (by as_aux_lemma=>kernel_rfl) (by as_aux_lemma=>kernel_rfl) (by intro _ _ d _ _ h;cases d<;>exact h) ?_
 simp only[Qah,pick,QCD,QCE,QCG,QCI,QCH]
 repeat (go_big_quiet_step (fail))
 refine wpQuiet_nil ?_
 go_wp2_with (first
  | (refine Qas rfl _ _ _ _ rfl 5 Tryz.underlying22 Qbt g 48 240 240 _ _ (B3.nth 0 rfl) (some ⟨b0,p+48,none⟩) 240 (c-48) ((b.drop 48).map W8) (h48.out _ (hb.later B3.lat)) (QaH _) rfl rfl (by rw[QCF];omega) ?_;intro w4 hb4 ho4;rw[←QD9,QcB,HE.out,HP.out]at hb4
     have B4:=B3.write 0 rfl ho4 hb4)
  | (refine Ql6 rfl _ rfl (B4.nth 0 rfl) hbl rfl ?_)
  | (refine Qdw rfl rfl _ _ rfl (B4.nth 1 rfl) rfl rfl hbl hzl ?_;intro w9 hb9 ho9)
  | fail)
 exact bodyPost_ret (Qai rfl _ _ _ _ _ _ hb9 rfl Tryz.underlying39 rfl (by rw[QCF,hbl];exact Qb6)) rfl ⟨rfl,(B4.write 1 rfl ho9 hb9).lat⟩
end Go.Proofs.YticcbmhcgmhohaaGreat
namespace Go.Proofs.YticcbmhcgmhohaaGreat
open Go.RowKit
section
variable {P:Program} {ops:Array Oper} {rest:List Oper} {o:Oper} {a:Act} {w:World} {Q:Exit→Act→World→Prop}
theorem Qjt (hw:Region.wanted o (yielded ops a.tmps)=true) (t:TypeId) (x:Operand) (ho:o.op= .buildSlice t 1 #[(0,x)]) (e:TypeId) (sz:Nat) (z:Value) (vs:List Value) (ht:P.underlying t=some (.slice e)) (hz:(P.info? e).map (fun i=>(i.zero,i.size))=some (some z,sz)) (hs0:0<sz) (hsm:sz≤65536)
 (hbl:vs.length=sz) (hx:a.eval x= .agg vs.toArray)
 (h:wpList P ops Q rest (a.put o.dst (.slice (some ⟨w.heap.size,0,none⟩) 1 1)) (w.alloc (.cells vs.toArray e))):wpList P ops Q (o :: rest) a w:=
 BigFrame.wpList_want hw fun K hK=>by
  have hr:=Qi5 (v:=.agg vs.toArray) ht hz hs0 hsm rfl hbl w
  unfold Oper.wp
  simp only[execOp,ho,QCT,QC9,QC3,hx,Sem.run_bind,hr,Result.andThen_ok,Sem.run_pure]
  exact hK _ _ h
end
end Go.Proofs.YticcbmhcgmhohaaGreat
namespace Go.Proofs.YticcbmhcgmhohaaGreat
open Go.RowKit
open Go.BigFrame
structure Nod where
 nm:ByteArray
 id:UInt64
 priv:Y32
 pub:Y32
def QbY:Y32:=⟨QCC 32 0,by simp⟩
def nod0:Nod:=⟨.empty,0,QbY,QbY⟩
def NC (x:Nod):List Value:=.string x.nm :: W64 x.id :: (x.priv.val.map W8++x.pub.val.map W8)
theorem Qa1 (x:Nod):(NC x).length=66:=by simp[NC,x.priv.2,x.pub.2]
theorem QyL (x:Nod):∀u∈NC x,u.oneCell'=true:=by
 intro u hu
 simp only[NC,QCZ,QD3,QDs]at hu
 rcases hu with rfl|rfl|⟨b,_,rfl⟩|⟨b,_,rfl⟩<;>rfl
theorem Qsy (x:Nod) {j:Nat} {v:Value} (h:(x.priv.val.map W8)[j]?=some v):(NC x)[2+j]?=some v:=by
 have hj:j<(x.priv.val.map W8).length:=(QCV.1 h).1
 rw[NC,show 2+j=j+1+1 by omega,QCD,QCD,QCW hj]
 exact h
theorem Qwd (x:Nod) {j:Nat} {v:Value} (h:(x.pub.val.map W8)[j]?=some v):(NC x)[34+j]?=some v:=by
 have hp:(x.priv.val.map W8).length=32:=by rw[QCF,x.priv.2]
 rw[NC,show 34+j=j+32+1+1 by omega,QCD,QCD,QCR (by omega),hp,Nat.add_sub_cancel]
 exact h
set_option maxRecDepth 100000 in
theorem Qnd (K:List UInt8) (hK:K.length=32) (w:World):
 Calls Tryz.prog 126 #[.agg (K.map W8).toArray] w fun e w'=>∃g,e= .returned (.slice (some ⟨g,0,none⟩) 32 32)∧w.heap.size≤g∧Blk w' g 5 (K.map W8)∧Later w w':=by
 have hb0:Blk (w.alloc (.cells (K.map W8).toArray 25)) w.heap.size 25 (K.map W8):=Blk.new _ _ _
 go_enter Tryz.func126,Tryz.ntmps126
 go_wp2_with (first
  | (refine QaF rfl _ _ 22 rfl 5 (.int .u8 0) 1 Tryz.underlying22 Qdo rfl _ _ _ _ 32 rfl rfl rfl rfl (by omega) (by omega) ?_;intro w2 hb2 hl2;rw[show (w.alloc (.cells (K.map W8).toArray 25)).heap.size=w.heap.size+1 by simp]at hb2)
  | (refine Qlc 0 32 rfl _ _ _ _ rfl 5 Tryz.underlying22 Qbt (show Blk w2 (w.heap.size+1) 5 ((QCC 32 0).map W8) by (rw [QDi];exact hb2)) (Qcr (hb0.later hl2) hK) rfl rfl (by simp) ?_;intro w3 hb3 ho3;rw[Qn4 _ _ (by simpa using hK)]at hb3)
  | fail)
 go_ret
 exact⟨w.heap.size+1,rfl,by omega,hb3,((Qaa _ _).trans hl2).only ho3 (by omega)⟩
section
variable {ops:Array Oper} {rest:List Oper} {o:Oper} {a:Act} {w:World} {Q:Exit→Act→World→Prop}
theorem QgW (hgd:Region.wanted o (yielded ops a.tmps)=true) (x:Operand) (ho:o.op= .load 25 x) {g off:Nat} {K:List UInt8} (hc:∀j v,(K.map W8)[j]?=some v→w.cell? ⟨g,off+j,none⟩=some v) (hl:K.length=32) (hx:a.eval x= .pointer (some ⟨g,off,none⟩))
 (h:wpList Tryz.prog ops Q rest (a.put o.dst (.agg (K.map W8).toArray)) w):wpList Tryz.prog ops Q (o :: rest) a w:=
 Qan hgd _ x ho g off _ hc hx _ Tryz.underlying25 rfl (by rw[QCF,hl];exact Qba) h
end
theorem Qdf {w:World} {b off n:Nat} {K:List UInt8} (hb:b<w.heap.size) (hc:∀j v,(K.map W8)[j]?=some v→w.cell? ⟨b,off+j,none⟩=some v) (hn:K.length=n):RdB w (some ⟨b,off,none⟩) n K:=
 ⟨by rw[QCF,hn],fun _=>⟨b,off,rfl,hb,hc⟩⟩
def pubK (K:List UInt8):List UInt8:=Qbe K (nb 9)
theorem Qnr (K:List UInt8):(pubK K).length=32:=QaT _ _
def QB4:List UInt8:=[110,111,100,101]
def keyK (seed:List UInt8) (s:ByteArray):List UInt8:=expB (QbF QB4 seed) (strB s) 32
theorem QnN (seed:List UInt8) (s:ByteArray):(keyK seed s).length=32:=Qh2 _ _ _
def keyY (seed:List UInt8) (s:ByteArray):Y32:=⟨keyK seed s,QnN seed s⟩
def pubY (K:List UInt8):Y32:=⟨pubK K,Qnr K⟩
def keyed (seed:List UInt8) (i:Nat) (s:ByteArray):Nod:=⟨s,QC7 (i+1),keyY seed s,pubY (keyK seed s)⟩
theorem QdW {P:Program} {t:TypeId} {d:TypeDesc} {k:Nat} {v:Value} (hu:P.underlying t=some d) (hd:QbO d=false) {zs:List Value} (hz:zs[k]?=some v) (w:World):(part t zs.toArray k).run P w= .ok v w:=by
 have ha:(isAgg t).run P w= .ok false w:=by
  unfold isAgg
  simp only[Sem.run_bind,run_underlying hu]
  cases d<;>simp_all [QbO]
 unfold part
 simp[Sem.run_bind,ha,Result.andThen_ok,hz]
theorem Qmm {P:Program} {d k:Nat} {t:TypeId} {f:Field} {fs:List Field} (hf:f.type=t) (hu:P.underlying t=some .string) (hn:f.name≠ "_") {xs ys:List Value} {p q:ByteArray} (ho:f.offset=k) (hp:xs[k]?=some (.string p)) (hq:ys[k]?=some (.string q)) (w:World):
 (Op.eqFields (d+1) xs.toArray ys.toArray (f :: fs)).run P w=if p.toList==q.toList then (Op.eqFields (d+1) xs.toArray ys.toArray fs).run P w else .ok false w:=by
 rw[Op.eqFields,if_pos hn]
 simp only[Sem.run_bind,hf,ho,QdW hu rfl hp,QdW hu rfl hq,Result.andThen_ok,run_equalIn_string w d t p q hu]
 cases p.toList==q.toList<;>simp
theorem Qgn {P:Program} {d k:Nat} {t:TypeId} {f:Field} {fs:List Field} (hf:f.type=t) (hu:P.underlying t=some (.int .u64)) (hn:f.name≠ "_") {xs ys:List Value} {p q:UInt64} (ho:f.offset=k) (hp:xs[k]?=some (W64 p)) (hq:ys[k]?=some (W64 q)) (w:World):
 (Op.eqFields (d+1) xs.toArray ys.toArray (f :: fs)).run P w=if p==q then (Op.eqFields (d+1) xs.toArray ys.toArray fs).run P w else .ok false w:=by
 rw[Op.eqFields,if_pos hn]
 simp only[Sem.run_bind,hf,ho,QdW hu rfl hp,QdW hu rfl hq,Result.andThen_ok,Qim t _ hu d p q w]
 cases p==q<;>simp
def Qqs (x y:Nod):Bool:=x.nm.toList==y.nm.toList&&(x.id==y.id&&(x.priv.val==y.priv.val&&x.pub.val==y.pub.val))
@[go_sem] theorem QyC (x:Nod):Qqs x x=true:=by simp[Qqs]
theorem QkO (x:Nod):((NC x).drop 2).take 32=x.priv.val.map W8:=by
 have h1:(x.priv.val.map W8).length=32:=by rw[QCF,x.priv.2]
 rw[NC,QEr,QEr,QD7,QDx h1]
theorem Qod (x:Nod):((NC x).drop 34).take 32=x.pub.val.map W8:=by
 have h1:(x.priv.val.map W8).length=32:=by rw[QCF,x.priv.2]
 rw[NC,show (34:Nat)=32+1+1 from rfl,QEr,QEr,QDj h1,QCQ (by rw[QCF,x.pub.2];omega)]
set_option maxRecDepth 100000 in
theorem QiC (x y:Nod) (w:World) {fs:Array Field} (hu:Tryz.prog.underlying 57=some (.struct fs)):(Op.eqFields 9999 (NC x).toArray (NC y).toArray fs.toList).run Tryz.prog w= .ok (Qqs x y) w:=by
 rw[Tryz.underlying57]at hu
 cases hu
 rw[Qmm (d:=9998) (k:=0) rfl Tryz.underlying9 (by decide) rfl rfl rfl,Qgn (d:=9998) (k:=1) rfl Tryz.underlying40 (by decide) rfl rfl rfl,
  QbH (d:=9997) (k:=2) rfl (by decide) rfl (QkO x) (QkO y) x.priv.2 y.priv.2,QbH (d:=9997) (k:=34) rfl (by decide) rfl (Qod x) (Qod y) x.pub.2 y.pub.2,QcH]
 rw[Qqs]
 cases x.nm.toList==y.nm.toList<;>cases x.id==y.id<;>cases x.priv.val==y.priv.val<;>cases x.pub.val==y.pub.val<;>rfl
theorem Qx3:Tryz.prog.eqGuardType Tryz.prog.depth 57=false:=by kernel_rfl
@[go_sem high] theorem Qxm (op:BinOp) (x y:Operand) (xs ys:Array Value) (w:World):(eqGuard op 57 x y (.agg xs) (.agg ys)).run Tryz.prog w= .ok () w:=run_eqGuard_agg w op _ x y xs ys Qx3
set_option maxRecDepth 100000 in
@[go_sem high] theorem Qw5 (x y:Nod) (w:World):(binOp .eql 57 (.agg (NC x).toArray) (.agg (NC y).toArray)).run Tryz.prog w= .ok (.bool (Qqs x y)) w:=by
  rw[Qgo Tryz.underlying57 (by kernel_rfl),QiC x y w Tryz.underlying57]
  rfl
set_option maxRecDepth 100000 in
@[go_sem high] theorem QwP (x y:Nod) (w:World):(binOp .neq 57 (.agg (NC x).toArray) (.agg (NC y).toArray)).run Tryz.prog w= .ok (.bool (!Qqs x y)) w:=by
  rw[QgB Tryz.underlying57 (by kernel_rfl),QiC x y w Tryz.underlying57]
  rfl
theorem Qy7:(Tryz.prog.info? 57).map (·.size)=some 66:=by kernel_rfl
section
variable {ops:Array Oper} {rest:List Oper} {o:Oper} {a:Act} {w:World} {Q:Exit→Act→World→Prop}
theorem Quo (hgd:Region.wanted o (yielded ops a.tmps)=true) (x:Operand) (ho:o.op= .load 57 x) {g off:Nat} {y:Nod} (hc:∀i v,(NC y)[i]?=some v→w.cell? ⟨g,off+i,none⟩=some v) (hx:a.eval x= .pointer (some ⟨g,off,none⟩))
 (h:wpList Tryz.prog ops Q rest (a.put o.dst (.agg (NC y).toArray)) w):wpList Tryz.prog ops Q (o :: rest) a w:=
 Qan hgd _ x ho g off _ hc hx _ Tryz.underlying57 rfl (by rw[Qa1];exact Qy7) h
end
theorem QBT:(Tryz.prog.info? 154).bind (·.zero)=some (.agg (NC nod0).toArray):=by kernel_rfl
theorem Qyp:(Tryz.prog.info? 154).map (·.size)=some 66:=by kernel_rfl
theorem Qqp (l:List Value) (x:Nod) (h:l.length=66):Qao l 0 (NC x)=NC x:=Qak _ _ (by rw[Qa1,h])
theorem QmR (x:Nod):Tryz.prog.built 154 [(0,.agg (NC x).toArray)]=some (NC x).toArray:=by
 rw[QaY (pl:=[(0,66)]) Tryz.underlying154 QBT (by kernel_rfl),QaV (vs:=NC x) (off:=0) rfl (by rw[Qa1];rfl) (by rw[Qa1,Qa1];omega),Qb7,Qqp _ _ (Qa1 _)]
section
variable {ops:Array Oper} {rest:List Oper} {o:Oper} {a:Act} {w:World} {Q:Exit→Act→World→Prop}
theorem Qpg (hgd:Region.wanted o (yielded ops a.tmps)=true) (x:Operand) (ho:o.op= .load 154 x) {g off:Nat} {y:Nod} (hc:∀i v,(NC y)[i]?=some v→w.cell? ⟨g,off+i,none⟩=some v) (hx:a.eval x= .pointer (some ⟨g,off,none⟩))
 (h:wpList Tryz.prog ops Q rest (a.put o.dst (.agg (NC y).toArray)) w):wpList Tryz.prog ops Q (o :: rest) a w:=
 Qan hgd _ x ho g off _ hc hx _ Tryz.underlying154 rfl (by rw[Qa1];exact Qyp) h
end
set_option maxRecDepth 100000 in
theorem Qi1 (x:Nod) (w:World):
 Calls Tryz.prog 97 #[.agg (NC x).toArray] w fun e w'=>∃g,e= .returned (.slice (some ⟨g,0,none⟩) 32 32)∧w.heap.size≤g∧Blk w' g 5 (x.pub.val.map W8)∧Later w w':=by
 have hb0:Blk (w.alloc (.cells (NC x).toArray 154)) w.heap.size 154 (NC x):=Blk.new _ _ _
 have hc:∀j v,(x.pub.val.map W8)[j]?=some v→(w.alloc (.cells (NC x).toArray 154)).cell? ⟨w.heap.size,34+j,none⟩=some v:=fun j v hv=>hb0.cellD _ (Qwd x hv)
 go_enter Tryz.func97,Tryz.ntmps97
 go_wp2_with (first
  | (refine QgW rfl _ rfl hc x.pub.2 rfl ?_)
  | fail)
 (with_reducible refine (Qnd x.pub.val x.pub.2 _).mono ?_);rintro e w2 ⟨g2,rfl,hg2,hb2,l2⟩
 go_wp2
 go_ret
 exact⟨g2,rfl,by simp at hg2;omega,hb2,(Qaa _ _).trans l2⟩
end Go.Proofs.YticcbmhcgmhohaaGreat
namespace Go.Proofs.YticcbmhcgmhohaaGreat
open Go.RowKit
abbrev pid (q:Prt):Prt:=q
section
variable {α:Type} (pr:α→Prt)
def tkE (id:UInt64) (ks:List α) (p:Prt):Nat:=
 if p.kd≠1∨prtE p≠0 then 3 else if p.id≠id then 4 else if ks.any (fun q=>(pr q).ct != p.ct||(pr q).ix==p.ix) then 3 else 0
def tkK (id:UInt64) (ks:List α) (x:α):List α:=if tkE pr id ks (pr x)=0 then ks++[x] else ks
end
structure KeptOk (ks:List Prt):Prop where
 good:∀q∈ks,q.kd=1∧prtE q=0
 same:∀q∈ks,∀r∈ks,q.ct=r.ct
 nd:(ks.map (·.ix)).Nodup
theorem QqU {p:Prt} (h:prtE p=0):1≤p.ct∧p.ct≤16∧0≤p.ix∧p.ix<p.ct∧p.da.length≤450:=by
 unfold prtE at h
 split at h
 ·cases h
 split at h
 ·cases h
 split at h
 ·cases h
 rename_i h1 h2 h3
 omega
theorem Qvn {id:UInt64} {ks:List Prt} {p:Prt} (h:tkE pid id ks p=0):p.kd=1∧prtE p=0∧p.id=id∧(∀ q∈ks,q.ct=p.ct∧q.ix≠p.ix):=by
 unfold tkE at h
 split at h
 ·cases h
 split at h
 ·cases h
 split at h
 ·cases h
 rename_i h1 h2 h3
 refine⟨Classical.not_not.1 fun hc=>h1 (.inl hc),Classical.not_not.1 fun hc=>h1 (.inr hc),Classical.not_not.1 h2,fun q hq=>?_⟩
 have h4:(q.ct != p.ct||q.ix==p.ix)=false:=by
  cases hb:(q.ct != p.ct||q.ix==p.ix) with
  | false=>rfl
  | true=>exact absurd (List.any_eq_true.2 ⟨q,hq,hb⟩) h3
 simp only[Bool.or_eq_false_iff,bne_eq_false_iff_eq,beq_eq_false_iff_ne]at h4
 exact h4
theorem KeptOk.snoc {id:UInt64} {ks:List Prt} {p:Prt} (h:KeptOk ks):KeptOk (tkK pid id ks p):=by
 unfold tkK
 split
 ·rename_i h0
  obtain⟨h1,h2,_,h4⟩:=Qvn h0
  refine⟨fun q hq=>?_,fun q hq r hr=>?_,?_⟩
  ·rcases QD3.1 hq with hq|hq
   ·exact h.good q hq
   ·obtain rfl:q=p:=by simpa using hq
    exact⟨h1,h2⟩
  ·rcases QD3.1 hq with hq|hq<;>rcases QD3.1 hr with hr|hr
   ·exact h.same q hq r hr
   ·have e:r=p:=by simpa using hr
    rw[e]
    exact (h4 q hq).1
   ·have e:q=p:=by simpa using hq
    rw[e]
    exact (h4 r hr).1.symm
   ·have e:q=p:=by simpa using hq
    have e':r=p:=by simpa using hr
    rw[e,e']
  ·rw[QDq,List.nodup_append]
   refine⟨h.nd,by simp,fun a ha b hb=>?_⟩
   obtain rfl:b=p.ix:=by simpa using hb
   obtain⟨q,hq,rfl⟩:=QDs.1 ha
   exact (h4 q hq).2
 ·exact h
theorem QhM:∀(n:Nat) (l:List Int),l.Nodup→(∀ i∈l,0≤i∧i<n)→l.length≤n
 | 0,l,_,h=>by
   cases l with
   | nil=>exact QCP _
   | cons i l=>have:=h i (by simp);omega
 | n+1,l,hn,h=>by
   have hb:(l.erase (n:Int)).length≤n:=by
    refine QhM n _ (hn.erase _) fun i hi=>?_
    have h1:=h i (List.mem_of_mem_erase hi)
    have h2:i≠(n:Int):=fun e=>by subst e;exact (List.Nodup.not_mem_erase hn) hi
    omega
   have:=List.length_erase_of_mem (a:=(n:Int)) (l:=l)
   by_cases hm:(n:Int)∈l
   ·rw[this hm]at hb
    omega
   ·rw[List.erase_of_not_mem hm]at hb
    omega
theorem KeptOk.le {ks:List Prt} (h:KeptOk ks) {c:Int} (hc:∀q∈ks,q.ct=c) (h0:0≤c):(ks.length:Int)≤c:=by
 have:=QhM c.toNat (ks.map (·.ix)) h.nd (fun i hi=>by
  obtain⟨q,hq,rfl⟩:=QDs.1 hi
  have:=QqU (h.good q hq).2
  have:=hc q hq
  omega)
 rw[QCF]at this
 omega
def whole (ks:List Prt):List UInt8:=(QDu ks.length).flatMap fun (i:Nat)=>(ks.filter (fun q=>q.ix==(i:Int))).flatMap (·.da)
structure Arr where
 pt:Prt
 kd:UInt8
 to:UInt64
 tk:Int
 ma:Y16
structure Ltr where
 to:UInt64
 id:UInt64
 tk:Int
 tx:List UInt8
structure Arv where
 ar:Arr
 va:Value
def AvOk (w:World) (x:Arv):Prop:=∃A n c,x.va= .slice A n c∧n≤c∧RdB w A n x.ar.pt.da
theorem AvOk.later {w w':World} {x:Arv} (h:AvOk w x) (hl:Later w w'):AvOk w' x:=by
 obtain⟨A,n,c,h1,h2,h3⟩:=h
 exact⟨A,n,c,h1,h2,h3.later hl⟩
structure Vst where
 cm:Cmd
 id:UInt64
 tk:Int
end Go.Proofs.YticcbmhcgmhohaaGreat
namespace Go.Proofs.YticcbmhcgmhohaaGreat
open Go.RowKit
open Go.BigFrame
def ctOf (ks:List Prt):Int:=(ks.getLast?.map (·.ct)).getD 0
theorem KeptOk.ct {ks:List Prt} (h:KeptOk ks) (hne:ks≠[]):1≤ctOf ks∧ctOf ks≤16∧(ks.length:Int)≤ctOf ks∧∀q∈ks,q.ct=ctOf ks:=by
 have hl:ks.getLast?=some (ks.getLast hne):=List.getLast?_eq_some_getLast hne
 have hm:=List.getLast_mem hne
 generalize ks.getLast hne=l at hl hm
 have hc:ctOf ks=l.ct:=by rw[ctOf,hl];rfl
 obtain⟨h1,h2,_⟩:=QqU (h.good l hm).2
 have hs:∀q∈ks,q.ct=l.ct:=fun q hq=>h.same q hq l hm
 rw[hc]
 exact⟨h1,h2,h.le hs (by omega),hs⟩
end Go.Proofs.YticcbmhcgmhohaaGreat
namespace Go.Proofs.YticcbmhcgmhohaaGreat
open Go.RowKit Go.Maps
def ptrV:Option Nat→Value
 | none=>.pointer none
 | some b=>.pointer (some ⟨b,0,none⟩)
def ptrD:Option Nat→DataW Unit
 | none=>.lit (.bool false)
 | some b=>.lit (.int .i64 b)
def ptrR (v:Value):Option (DataW Unit×List MemPlace):=
 match v with
 | .pointer none=>some (ptrD none,[])
 | .pointer (some ⟨b,0,none⟩)=>some (ptrD (some b),[])
 | _=>none
theorem QxM (x:Option Nat):ptrR (ptrV x)=some (ptrD x,[]):=by cases x<;>rfl
structure PKey (P:Program) (k:TypeId) (α:Type) where
 kv:α→Value
 kl:α→Lit
 ok:∀x,keyOf P k (kv x)=some (kl x)
 inj:∀x y,kv x=kv y→x=y
 law:Keyed P k
def PMap {P:Program} {k:TypeId} {α:Type} (w:World) (K:PKey P k α) (b n:Nat) (f:α→Option Nat):Prop:=
 ∃D:DataW Unit,w.ownsMap P k ptrR b n D∧∀x,D.atKey (K.kl x) (ptrD none)=ptrD (f x)
section
variable {P:Program} {k t e:TypeId} {α:Type} {w w':World} {K:PKey P k α} {b n:Nat} {f:α→Option Nat}
theorem PKey.kl_inj (K:PKey P k α) {x y:α} (h:K.kl x=K.kl y):x=y:=K.inj x y (K.law.inj (K.ok x) (h ▸ K.ok y))
theorem PMap.made (w:World) (K:PKey P k α):PMap (w.alloc (.map #[] 0)) K w.heap.size 0 (fun _=>none):=⟨_,World.ownsMap_made w P k ptrR,fun _=>rfl⟩
theorem PMap.only (h:PMap w K b n f) {g:Nat} (ho:Only g w w') (hne:b≠g):PMap w' K b n f:=by
 obtain⟨D,h1,h2⟩:=h
 exact⟨D,h1.kept ho (by simpa using hne),h2⟩
theorem PMap.grown (h:PMap w K b n f) {row:Option Nat} (ho:w.grownBy w' row) (hne:some b≠row):PMap w' K b n f:=by
 obtain⟨D,h1,h2⟩:=h
 exact⟨D,h1.kept ho hne,h2⟩
theorem PMap.lt (h:PMap w K b n f):b<w.heap.size:=let ⟨_,h1,_⟩:=h;h1.lt
theorem PMap.later (h:PMap w K b n f) (hl:Later w w'):PMap w' K b n f:=by
 refine h.only (hl.onlyAny (b+1)) (by omega)
theorem PMap.put [DecidableEq α] (h:PMap w K b n f) (ht:P.underlying t=some (.map k e)) (hn:n<maxLen) (x:α) (g:Nat):
 ∃w',(Instr.mapUpdate t (.map (some b)) (K.kv x) (.pointer (some ⟨g,0,none⟩))).run P w= .ok () w'∧PMap w' K b (n+1) (fun y=>if y=x then some g else f y)∧Only b w w':=by
 obtain⟨D,h1,h2⟩:=h
 obtain⟨w',hrun,h3,h4⟩:=h1.update K.law ht hn (K.ok x) (QxM (some g))
 refine⟨w',hrun,⟨_,h3,fun y=>?_⟩,h4⟩
 by_cases hyx:y=x
 ·subst hyx
  simp only[if_true]
  exact atKey_put_same h1.isMap (K.law.key (K.ok y)) _ _
 ·simp only[hyx,if_false]
  rw[atKey_put_other (fun hc=>hyx (K.kl_inj hc))]
  exact h2 y
variable {ops:Array Oper} {rest:List Oper} {o:Oper} {a:Act} {Q:Exit→Act→World→Prop}
end
end Go.Proofs.YticcbmhcgmhohaaGreat
namespace Go.Proofs.YticcbmhcgmhohaaGreat
open Go.RowKit
open Go.BigFrame
theorem KeptOk.small {ks:List Prt} (h:KeptOk ks):ks.length≤16:=by
 by_cases hne:ks=[]
 ·simp[hne]
 ·have:=h.ct hne
  omega
structure Ltv where
 lt:Ltr
 va:Option Addr
 vn:Nat
 vc:Nat
section
variable {w w':World} {base sz n:Nat} {e:TypeId} {v:Value} {vs:List Value}
end
structure Arw where
 ar:Arr
 va:Option Addr
 vn:Nat
 vc:Nat
end Go.Proofs.YticcbmhcgmhohaaGreat
