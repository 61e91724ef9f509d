/-
  Lemmas for the last text of this claim (part 9 of 20).
-/
import Derived.ArgAppend
import Derived.BigQuiet
import Derived.BigRegion
import Derived.ChangeOld
import Derived.Deep.RegionWith
import Derived.DeepKeys4
import Derived.JoinedCond
import Derived.LaidMore
import Derived.Laws.Append
import Derived.Laws.BytesArg
import Derived.Laws.CopyOwn
import Derived.Laws.Externs
import Derived.Laws.IdiomStrings
import Derived.Laws.Tables
import Derived.Lib.AppendStr
import Derived.Lib.AppendZerosOnto
import Derived.Lib.Mul64
import Derived.Lib.SlBytesConst
import Derived.LoopN
import Derived.Maps.OwnSet
import Derived.OpenShut
import Derived.OrdersHeld
import Derived.ProofKit
import Derived.Shelf.Spec.BitsCarry
import Derived.ShutString
import Derived.Test.YticcbmhcgmhohaaGreatProg
import Derived.Test.YticcbmhcgmhohaaGreatRows
import Derived.WalkKit
import Derived.WalkLawsBesides
import Derived.WalkSpells
import Derived.Test.YticcbmhcgmhohaaGreatPE
import Derived.Test.YticcbmhcgmhohaaGreatPH
open Bool renaming eq_iff_iff → QDw
open List renaming replicate → QCC, getElem?_cons_succ → QCD, getElem?_cons_zero → QCE, length_map → QCF, nil_append → QCH, cons_append → QCI, getElem?_eq_getElem → QCJ, getD_eq_getElem?_getD → QCK, setIfInBounds_toArray → QCL, set_cons_zero → QCN, set_cons_succ → QCO, take_of_length_le → QCQ, getElem?_append_right → QCR, length_replicate → QCS, map_toArray → QCT, getElem?_eq_some_iff → QCV, getElem?_append_left → QCW, getElem?_map → QCY, mem_cons → QCZ, map_nil → QC3, map_cons → QC9, getElem?_set_ne → QDS, mem_append → QD3, getElem?_set_self → QEn, map_set → QE3
open Nat renaming mod_eq_of_lt → QC1, zero_add → QC4, mod_lt → QC8, lt_trans → QDG
open Option renaming toList_some → QCG, bind_some → QD1
open UInt64 renaming ofInt → QDC
open UInt8 renaming toNat_inj → QDr
set_option linter.all false
namespace Go.Proofs.YticcbmhcgmhohaaGreat
open Go.RowKit
open Go.BigFrame
def fadd (a b:Nat):Nat:=(a+b)%P25
def fsub (a b:Nat):Nat:=(a+(P25-b%P25))%P25
def fmul (a b:Nat):Nat:=a*b%P25
def L5 (a b c d e:Nat):List Value:=EL a++(EL b++(EL c++(EL d++EL e)))
theorem QeR (a b c d e:Nat):(L5 a b c d e).length=20:=by simp[L5,Qal]
theorem L5_0 (a b c d e j:Nat) (v:Value) (h:(EL a)[j]?=some v):(L5 a b c d e)[0+j]?=some v:=by
 have hj:j<4:=by have:=(QCV.1 h).1;rwa [Qal]at this
 rw[QC4,L5,QCW (by rw[Qal];exact hj)]
 exact h
theorem L5_1 (a b c d e j:Nat) (v:Value) (h:(EL b)[j]?=some v):(L5 a b c d e)[4+j]?=some v:=by
 have hj:j<4:=by have:=(QCV.1 h).1;rwa [Qal]at this
 rw[L5,QCR (by rw[Qal];omega),Qal,QCW (by rw[Qal];omega),show 4+j-4=j by omega]
 exact h
theorem L5_2 (a b c d e j:Nat) (v:Value) (h:(EL c)[j]?=some v):(L5 a b c d e)[8+j]?=some v:=by
 have hj:j<4:=by have:=(QCV.1 h).1;rwa [Qal]at this
 rw[L5,QCR (by rw[Qal];omega),Qal,QCR (by rw[Qal];omega),Qal,QCW (by rw[Qal];omega),show 8+j-4-4=j by omega]
 exact h
theorem L5_3 (a b c d e j:Nat) (v:Value) (h:(EL d)[j]?=some v):(L5 a b c d e)[12+j]?=some v:=by
 have hj:j<4:=by have:=(QCV.1 h).1;rwa [Qal]at this
 rw[L5,QCR (by rw[Qal];omega),Qal,QCR (by rw[Qal];omega),Qal,QCR (by rw[Qal];omega),Qal,QCW (by rw[Qal];omega),show 12+j-4-4-4=j by omega]
 exact h
theorem L5_4 (a b c d e j:Nat) (v:Value) (h:(EL e)[j]?=some v):(L5 a b c d e)[16+j]?=some v:=by
 rw[L5,QCR (by rw[Qal];omega),Qal,QCR (by rw[Qal];omega),Qal,QCR (by rw[Qal];omega),Qal,QCR (by rw[Qal];omega),Qal,show 16+j-4-4-4-4=j by omega]
 exact h
theorem Qyc (a b c d e n:Nat):Qao (L5 a b c d e) 4 (EL n)=L5 a n c d e:=by
 simp only[L5,QcZ,Qao]
 rfl
theorem Qyo (a b c d e n:Nat):Qao (L5 a b c d e) 8 (EL n)=L5 a b n d e:=by
 simp only[L5,QcZ,Qao]
 rfl
theorem Qx9 (a b c d e n:Nat):Qao (L5 a b c d e) 12 (EL n)=L5 a b c n e:=by
 simp only[L5,QcZ,Qao]
 rfl
theorem Qw0 (a b c d e n:Nat):Qao (L5 a b c d e) 16 (EL n)=L5 a b c d n:=by
 simp only[L5,QcZ,Qao]
 rfl
section
variable {ops:Array Oper} {rest:List Oper} {o:Oper} {a:Act} {w:World} {Q:Exit→Act→World→Prop}
theorem Qkg (hw:Region.wanted o (yielded ops a.tmps)=true) (x:Operand) (ho:o.op= .load 360 x) {g off:Nat} {t:TypeId} {l:List Value} {n:Nat} (hb:Blk w g t l) (hl:∀j v,(EL n)[j]?=some v→l[off+j]?=some v) (hx:a.eval x= .pointer (some ⟨g,off,none⟩))
 (h:wpList Tryz.prog ops Q rest (a.put o.dst (E n)) w):wpList Tryz.prog ops Q (o :: rest) a w:=
 wpList_want hw fun K hK=>by
  unfold Oper.wp
  simp only[execOp,ho,hx,Instr.loadAt,Instr.sureAddr,Sem.run_bind,Sem.run_pure,Result.andThen_ok,Qbl w g off 360 (EL n) _ (fun j v hv=>hb.cellD _ (hl j v hv)) Tryz.underlying360 rfl (by rw[Qal];exact QgL)]
  exact hK _ _ h
theorem QhC (hgd:o.guard=none) (hd:o.dst=none) (x y:Operand) (ho:o.op= .store 360 x y) {g off:Nat} {t:TypeId} {l:List Value} {n:Nat} (hg:Blk w g t l) (hx:a.eval x= .pointer (some ⟨g,off,none⟩)) (hy:a.eval y=E n) (hl:off+4≤l.length)
 (h:∀w',Blk w' g t (Qao l off (EL n))→Only g w w'→wpList Tryz.prog ops Q rest a w'):wpList Tryz.prog ops Q (o :: rest) a w:=
 Qaf hgd hd _ x y ho g off t l _ hg hx hy (by rw[Qal];exact QgL) (by rw[Qal];exact hl) (Qon n) h
theorem QeB {K:Act→Prop} (x:Operand) (ho:o.op= .load 360 x) {w0:World} {g off:Nat} {t:TypeId} {l:List Value} {n:Nat} (hb:Blk w0 g t l) (hl:∀j v,(EL n)[j]?=some v→l[off+j]?=some v) (hx:a.eval x= .pointer (some ⟨g,off,none⟩)) (h:K (a.put o.dst (E n))):
 o.quiet Tryz.prog a (fun w'=>∃x,w'=grow w0 x) K:=
 Qav _ x ho g off (EL n) (fun w' hw j v hv=>by obtain⟨y,rfl⟩:=hw;exact (hb.later ⟨y,rfl⟩).cellD _ (hl j v hv)) hx _ Tryz.underlying360 rfl (by rw[Qal];exact QgL) h
end
end Go.Proofs.YticcbmhcgmhohaaGreat
namespace Go.Proofs.YticcbmhcgmhohaaGreat
open Go.RowKit
set_option maxRecDepth 100000 in
set_option maxHeartbeats 8000000 in
theorem QlJ (g:Nat) (t:TypeId) (x1 x2 z2 x3 z3:Nat) (w:World) (hb:Blk w g t (L5 x1 x2 z2 x3 z3)):
 Calls Tryz.prog 173 #[.pointer (some ⟨g,0,none⟩)] w fun e w'=>e= .returned (.tuple #[])∧Blk w' g t (L5 x1 x3 z3 x2 z2)∧Only g w w':=by
 have e0:L5 x1 x2 z2 x3 z3=[n64 (lim x1 0),n64 (lim x1 1),n64 (lim x1 2),n64 (lim x1 3),n64 (lim x2 0),n64 (lim x2 1),n64 (lim x2 2),n64 (lim x2 3),n64 (lim z2 0),n64 (lim z2 1),n64 (lim z2 2),n64 (lim z2 3),n64 (lim x3 0),n64 (lim x3 1),n64 (lim x3 2),n64 (lim x3 3),n64 (lim z3 0),n64 (lim z3 1),n64 (lim z3 2),n64 (lim z3 3)]:=by simp only[L5,QcZ];rfl
 have hb':=hb
 rw[e0]at hb'
 have HB:=hid hb'
 clear e0 hb
 have c4:=hb'.cellD 4 rfl;have c5:=hb'.cellD 5 rfl;have c6:=hb'.cellD 6 rfl;have c7:=hb'.cellD 7 rfl
 have c8:=hb'.cellD 8 rfl;have c9:=hb'.cellD 9 rfl;have c10:=hb'.cellD 10 rfl;have c11:=hb'.cellD 11 rfl
 have c12:=hb'.cellD 12 rfl;have c13:=hb'.cellD 13 rfl;have c14:=hb'.cellD 14 rfl;have c15:=hb'.cellD 15 rfl
 have c16:=hb'.cellD 16 rfl;have c17:=hb'.cellD 17 rfl;have c18:=hb'.cellD 18 rfl;have c19:=hb'.cellD 19 rfl
 have f4:=hb'.frozen 4;have f5:=hb'.frozen 5;have f6:=hb'.frozen 6;have f7:=hb'.frozen 7
 have f8:=hb'.frozen 8;have f9:=hb'.frozen 9;have f10:=hb'.frozen 10;have f11:=hb'.frozen 11
 have f12:=hb'.frozen 12;have f13:=hb'.frozen 13;have f14:=hb'.frozen 14;have f15:=hb'.frozen 15
 have f16:=hb'.frozen 16;have f17:=hb'.frozen 17;have f18:=hb'.frozen 18;have f19:=hb'.frozen 19
 clear hb'
 go_enter Tryz.func173,Tryz.ntmps173
 go_wp2_with fail
 go_region
 have hfin:=((((((((((((((((HB.out.set_ 4 (n64 (lim x3 0))).set_ 5 (n64 (lim x3 1))).set_ 6 (n64 (lim x3 2))).set_ 7 (n64 (lim x3 3))).set_ 8 (n64 (lim z3 0))).set_ 9 (n64 (lim z3 1))).set_ 10 (n64 (lim z3 2))).set_ 11 (n64 (lim z3 3))).set_ 12 (n64 (lim x2 0))).set_ 13 (n64 (lim x2 1))).set_ 14 (n64 (lim x2 2))).set_ 15 (n64 (lim x2 3))).set_ 16 (n64 (lim z2 0))).set_ 17 (n64 (lim z2 1))).set_ 18 (n64 (lim z2 2))).set_ 19 (n64 (lim z2 3))).drew
 have hon:=Only.later (c:=World.drew _) (((((((((((((((((World.grownBy.refl w _).trans (QaE _ g 4 (n64 (lim x3 0)))).trans (QaE _ g 5 (n64 (lim x3 1)))).trans (QaE _ g 6 (n64 (lim x3 2)))).trans (QaE _ g 7 (n64 (lim x3 3)))).trans (QaE _ g 8 (n64 (lim z3 0)))).trans (QaE _ g 9 (n64 (lim z3 1)))).trans (QaE _ g 10 (n64 (lim z3 2)))).trans (QaE _ g 11 (n64 (lim z3 3)))).trans (QaE _ g 12 (n64 (lim x2 0)))).trans (QaE _ g 13 (n64 (lim x2 1)))).trans (QaE _ g 14 (n64 (lim x2 2)))).trans (QaE _ g 15 (n64 (lim x2 3)))).trans (QaE _ g 16 (n64 (lim z2 0)))).trans (QaE _ g 17 (n64 (lim z2 1)))).trans (QaE _ g 18 (n64 (lim z2 2)))).trans (QaE _ g 19 (n64 (lim z2 3)))) (Qab _)
 have e1:L5 x1 x3 z3 x2 z2=[n64 (lim x1 0),n64 (lim x1 1),n64 (lim x1 2),n64 (lim x1 3),n64 (lim x3 0),n64 (lim x3 1),n64 (lim x3 2),n64 (lim x3 3),n64 (lim z3 0),n64 (lim z3 1),n64 (lim z3 2),n64 (lim z3 3),n64 (lim x2 0),n64 (lim x2 1),n64 (lim x2 2),n64 (lim x2 3),n64 (lim z2 0),n64 (lim z2 1),n64 (lim z2 2),n64 (lim z2 3)]:=by simp only[L5,QcZ];rfl
 clear HB c4 c5 c6 c7 c8 c9 c10 c11 c12 c13 c14 c15 c16 c17 c18 c19 f4 f5 f6 f7 f8 f9 f10 f11 f12 f13 f14 f15 f16 f17 f18 f19
 refine bodyPost_end (results_none rfl _ _ _) rfl ⟨rfl,?_,hon⟩
 rw[e1]
 exact hfin
end Go.Proofs.YticcbmhcgmhohaaGreat
namespace Go.Proofs.YticcbmhcgmhohaaGreat
open Go.RowKit
open Go.BigFrame
theorem Only.past {g j:Nat} {a b c:World} (h:Only g a b) (k:Only j b c) (hj:a.heap.size≤j):Only g a c:=
 World.grownBy.andThen h k (fun i e=>.inl (by injection e with e;omega))
theorem QeN (a b:Nat):fadd a b<T256:=QDG (QC8 _ Qbd) (by decide)
theorem QeK (a b:Nat):fsub a b<T256:=QDG (QC8 _ Qbd) (by decide)
theorem QbC (a b:Nat):fmul a b<T256:=QDG (QC8 _ Qbd) (by decide)
theorem sum2 (x y:Nat) (hx:x<T256) (hy:y<T256) (w:World) (g:Nat) (hb:Blk w g 360 (EL x++EL y)):
 Calls Tryz.prog 264 #[.slice (some ⟨g,0,none⟩) 2 2] w fun e w'=>e= .returned (E (fadd x y))∧Later w w':=by
 have:=Qxr (some ⟨g,0,none⟩) 2 2 [x,y] w (Qtd [x,y] 2 hb (by simp) rfl) (by intro z hz;simp at hz;rcases hz with rfl|rfl;exact hx;exact hy) (by omega)
 rwa [show [x,y].sum=x+y by simp]at this
theorem Qfp (x y:Nat) (hx:x<T256) (hy:y<T256) (w:World) (g:Nat) (hb:Blk w g 360 (EL x++EL y)):
 Calls Tryz.prog 267 #[.slice (some ⟨g,0,none⟩) 2 2] w fun e w'=>e= .returned (E (fmul x y))∧Later w w':=by
 have:=QnW (some ⟨g,0,none⟩) 2 2 [x,y] w (Qtd [x,y] 2 hb (by simp) rfl) (by intro z hz;simp at hz;rcases hz with rfl|rfl;exact hx;exact hy) (by omega) (by omega)
 rwa [show QeO [x,y]=x*y by simp[QeO]]at this
theorem Qj1 (x:Nat) (hx:x<T256) (w:World):
 Calls Tryz.prog 266 #[E x] w fun e w'=>e= .returned (E (fmul x x))∧Later w w':=QgD x hx w
theorem sub2 (x y:Nat) (hx:x<T256) (hy:y<T256) (w:World):
 Calls Tryz.prog 265 #[E x,E y] w fun e w'=>e= .returned (E (fsub x y))∧Later w w':=Qul x y hx hy w
section
variable {ops:Array Oper} {o:Oper} {a:Act}
theorem Qfo (hw:Region.wanted o (yielded ops a.tmps)=true) (x y:Operand) (ho:o.op= .buildSlice 517 2 #[(0,x),(1,y)]) (n m:Nat) (hx:a.eval x=E n) (hy:a.eval y=E m):
 Makes Tryz.prog ops o (fun g=>.slice (some ⟨g,0,none⟩) 2 2) (.cells (EL n++EL m).toArray 360) a:=
 ⟨hw,fun w=>by
   have hr:=QjL n m w
   simp only[execOp,ho,QCT,QC9,QC3,hx,hy,Sem.run_bind,hr,Result.andThen_ok,Sem.run_pure]⟩
theorem Qc2 (hw:Region.wanted o (yielded ops a.tmps)=true) (ho:o.op= .alloc 360):
 Makes Tryz.prog ops o (fun g=>.pointer (some ⟨g,0,none⟩)) (.cells (QCC 4 (.int .u64 0)).toArray 360) a:=
 ⟨hw,fun w=>by
   unfold execOp
   rw[ho]
   simp[go_sem]⟩
end
structure St (w0 wk:World) (g:Nat) (t:TypeId) (l:List Value) (ls:List (Nat×Nat)):Prop where
 only:Only g w0 wk
 blk:Blk wk g t l
 loc:∀p∈ls,Blk wk p.1 360 (EL p.2)∧w0.heap.size≤p.1
 gl:g<w0.heap.size
section
variable {w0 wk v:World} {g:Nat} {t:TypeId} {l:List Value} {ls:List (Nat×Nat)}
theorem St.nth (h:St w0 wk g t l ls) (i:Nat) {k n:Nat} (hi:ls[i]?=some (k,n)):Blk wk k 360 (EL n):=(h.loc (k,n) (List.mem_of_getElem? hi)).1
theorem St.later (h:St w0 wk g t l ls) (k:Later wk v):St w0 v g t l ls:=
 ⟨h.only.later k,h.blk.later k,fun p hp=>⟨(h.loc p hp).1.later k,(h.loc p hp).2⟩,h.gl⟩
theorem St.drew (h:St w0 wk g t l ls):St w0 wk.drew g t l ls:=h.later (Qab _)
theorem St.write {l':List Value} (h:St w0 wk g t l ls) (k:Only g wk v) (hb:Blk v g t l'):St w0 v g t l' ls:=
 ⟨h.only.trans k,hb,fun p hp=>⟨(h.loc p hp).1.only k (by have:=(h.loc p hp).2;have:=h.gl;omega),(h.loc p hp).2⟩,h.gl⟩
theorem St.one {v1:World} {k n:Nat} (h:St w0 wk g t l ls) (j:Later wk v) (hk:wk.heap.size≤k) (o:Only k v v1) (hb:Blk v1 k 360 (EL n)):St w0 v1 g t l ((k,n) :: ls):=by
 have h1:=h.later j
 have hs:=h.only.size
 refine⟨h1.only.past o (by omega),h1.blk.only o (by have:=h.blk.lt;omega),?_,h.gl⟩
 intro p hp
 rcases QCZ.1 hp with rfl|hp
 ·exact⟨hb,by show w0.heap.size≤k;omega⟩
 ·exact⟨(h1.loc p hp).1.only o (by have:=(h.loc p hp).1.lt;omega),(h.loc p hp).2⟩
theorem St.two {v1 v2:World} {k1 k2 n1 n2:Nat} (h:St w0 wk g t l ls) (j:Later wk v) (hk1:wk.heap.size≤k1) (hk2:wk.heap.size≤k2) (hne:k1≠k2) (o1:Only k1 v v1) (hb1:Blk v1 k1 360 (EL n1)) (o2:Only k2 v1 v2) (hb2:Blk v2 k2 360 (EL n2)):St w0 v2 g t l ((k1,n1) :: (k2,n2) :: ls):=by
 have h1:=h.later j
 have hs:=h.only.size
 refine⟨(h1.only.past o1 (by omega)).past o2 (by omega),(h1.blk.only o1 (by have:=h.blk.lt;omega)).only o2 (by have:=h.blk.lt;omega),?_,h.gl⟩
 intro p hp
 rcases QCZ.1 hp with rfl|hp
 ·exact⟨hb1.only o2 hne,by show w0.heap.size≤k1;omega⟩
 rcases QCZ.1 hp with rfl|hp
 ·exact⟨hb2,by show w0.heap.size≤k2;omega⟩
 ·exact⟨((h1.loc p hp).1.only o1 (by have:=(h.loc p hp).1.lt;omega)).only o2 (by have:=(h.loc p hp).1.lt;omega),(h.loc p hp).2⟩
end
set_option maxRecDepth 100000 in
set_option maxHeartbeats 8000000 in
theorem QnY (g:Nat) (t:TypeId) (x1 x2 z2 x3 z3:Nat) (k1:x1<T256) (k2:x2<T256) (k3:z2<T256) (k4:x3<T256) (k5:z3<T256) (w:World) (hb:Blk w g t (L5 x1 x2 z2 x3 z3)):
 Calls Tryz.prog 174 #[.pointer (some ⟨g,0,none⟩)] w fun e w'=>e= .returned (.tuple #[])∧Blk w' g t (L5 x1
  (fmul (fmul (fadd x2 z2) (fadd x2 z2)) (fmul (fsub x2 z2) (fsub x2 z2)))
  (fmul (fsub (fmul (fadd x2 z2) (fadd x2 z2)) (fmul (fsub x2 z2) (fsub x2 z2))) (fadd (fmul (fadd x2 z2) (fadd x2 z2)) (fmul 121665 (fsub (fmul (fadd x2 z2) (fadd x2 z2)) (fmul (fsub x2 z2) (fsub x2 z2))))))
  (fmul (fadd (fmul (fsub x3 z3) (fadd x2 z2)) (fmul (fadd x3 z3) (fsub x2 z2))) (fadd (fmul (fsub x3 z3) (fadd x2 z2)) (fmul (fadd x3 z3) (fsub x2 z2))))
  (fmul x1 (fmul (fsub (fmul (fsub x3 z3) (fadd x2 z2)) (fmul (fadd x3 z3) (fsub x2 z2))) (fsub (fmul (fsub x3 z3) (fadd x2 z2)) (fmul (fadd x3 z3) (fsub x2 z2))))))∧Only g w w':=by
 have cA:=hid (sum2 x2 z2 k2 k3)
 have cB:=hid (sub2 x2 z2 k2 k3)
 have cC:=hid (sum2 x3 z3 k4 k5)
 have cD:=hid (sub2 x3 z3 k4 k5)
 have tA:=QeN x2 z2
 have tB:=QeK x2 z2
 have tC:=QeN x3 z3
 have tD:=QeK x3 z3
 generalize fadd x2 z2=A at *
 generalize fsub x2 z2=B at *
 generalize fadd x3 z3=C at *
 generalize fsub x3 z3=D at *
 have cAA:=hid (Qj1 A tA)
 have cBB:=hid (Qj1 B tB)
 have cDA:=hid (Qfp D A tD tA)
 have cCB:=hid (Qfp C B tC tB)
 have tAA:=QbC A A
 have tBB:=QbC B B
 have tDA:=QbC D A
 have tCB:=QbC C B
 generalize fmul A A=AA at *
 generalize fmul B B=BB at *
 generalize fmul D A=DA at *
 generalize fmul C B=CB at *
 have cF:=hid (sub2 AA BB tAA tBB)
 have tF:=QeK AA BB
 have cS:=hid (sum2 DA CB tDA tCB)
 have tS:=QeN DA CB
 have cG:=hid (sub2 DA CB tDA tCB)
 have tG:=QeK DA CB
 have cX2:=hid (Qfp AA BB tAA tBB)
 generalize fsub AA BB=F at *
 generalize fadd DA CB=S at *
 generalize fsub DA CB=G at *
 generalize fmul AA BB=X2 at *
 have cSS:=hid (Qj1 S tS)
 have cGG:=hid (Qj1 G tG)
 have tGG:=QbC G G
 have cM:=hid (Qfp 121665 F (by decide) tF)
 have tM:=QbC 121665 F
 generalize fmul S S=X3 at *
 generalize fmul G G=GG at *
 generalize fmul 121665 F=M at *
 have cZ3:=hid (Qfp x1 GG k1 tGG)
 have cN:=hid (sum2 AA M tAA tM)
 have tN:=QeN AA M
 generalize fmul x1 GG=Z3 at *
 generalize fadd AA M=N at *
 have cZ2:=hid (Qfp F N tF tN)
 generalize fmul F N=Z2 at *
 have cOf:Hid (∀ w,Calls Tryz.prog 158 #[.int .u64 121665] w fun e w'=>e= .returned (E 121665)∧Later w w'):=hid (Qtm 121665 (by decide))
 clear tA tB tC tD tAA tBB tDA tCB tF tS tG tGG tM tN k1 k2 k3 k4 k5
 have S0:St w w g t (L5 x1 x2 z2 x3 z3) []:=⟨World.grownBy.refl w _,hb,by simp,hb.lt⟩
 go_enter Tryz.func174,Tryz.ntmps174
 go_wp2_with fail
 refine Qay [0,1,2,3,4,5,6,7,10,11,12,13,14,15,16,17] [([],2,8),([],1,9),([],1,18),([],2,19),([],2,20)] [] [21,22] [8,19,20] (fun i=>if i=8 then (fun g=>.slice (some ⟨g,0,none⟩) 2 2,.cells (EL x2++EL z2).toArray 360) else (fun g=>.pointer (some ⟨g,0,none⟩),.cells (QCC 4 (Value.int .u64 0)).toArray 360)) (by as_aux_lemma=>kernel_rfl) (by as_aux_lemma=>kernel_rfl) (by intro _ _ d _ _ h;cases d<;>exact h) (by intro _ _ d _ _ h;cases d<;>exact h) ?_
 simp only[pick,QCD,QCE,QCG,QCI,QCH]
 repeat (first|go_big_quiet_skip|(go_big_quiet_want;(first|refine QeB _ rfl S0.drew.blk (fun j v hv=>L5_1 _ _ _ _ _ j v hv) rfl ?_|refine QeB _ rfl S0.drew.blk (fun j v hv=>L5_2 _ _ _ _ _ j v hv) rfl ?_);simp only[Act.put,QCL,QCO,QCN];go_big_quiet_on)|(go_big_quiet_step (fail)))
 refine wpQuiet_nil ?_
 refine⟨?mk,?_⟩
 case mk=>
  refine⟨fun o ho=>?_,fun o ho=>?_,fun o ho=>?_,trivial⟩
  all_goals
   simp only[QCD,QCE,Option.some.injEq]at ho
   subst ho
  ·exact Qfo rfl _ _ rfl x2 z2 rfl rfl
  ·exact Qc2 rfl rfl
  ·exact Qc2 rfl rfl
 simp only[Qbi,pick,QCD,QCE,QCG,QCI,QCH,reduceIte,QD1]
 refine wpQuiet_nil ?_
 intro aa gx j1 _ _ hx1
 have hx2:Blk aa gx 360 (EL x2++EL z2):=hx1
 refine wpQuiet_nil ?_
 intro ab j2
 go_wp2_with fail
 (with_reducible refine (cA.out _ gx (hx2.later j2)).mono ?_);rintro e ac ⟨rfl,j3⟩
 go_wp2_with fail
 try refine⟨by first|assumption|exact Qab _|exact Qaa _ _|exact Later.refl _,?_⟩
 try simp only[Qah,pick,QCD,QCE,QCG,QCI,QCH]
 repeat (go_big_quiet_step (fail))
 refine wpQuiet_nil ?_
 intro ad j4
 go_wp2_with fail
 (with_reducible refine (cB.out _).mono ?_);rintro e ae ⟨rfl,j5⟩
 go_wp2_with fail
 try refine⟨by first|assumption|exact Qab _|exact Qaa _ _|exact Later.refl _,?_⟩
 try simp only[Qah,pick,QCD,QCE,QCG,QCI,QCH]
 repeat (go_big_quiet_step (fail))
 refine wpQuiet_nil ?_
 have j0:=((((Qab _).trans j1).trans j2).trans j3).trans (j4.trans j5)
 clear j1 j2 j3 j4 j5 hx1 hx2
 intro a1 gA i1 hg1 _ hb1
 refine wpQuiet_nil ?_
 intro a2 gB i2 hg2 hn2 hb2
 refine wpQuiet_nil ?_
 intro a3 i3
 have hne:gA≠gB:=fun e=>hn2 (.inl e.symm)
 have hX:Blk a3 gA 360 (QCC 4 (Value.int .u64 0)):=Blk.later (show Blk a1 gA _ _ from hb1) (i2.trans i3)
 have hY:Blk a3 gB 360 (QCC 4 (Value.int .u64 0)):=Blk.later (show Blk a2 gB _ _ from hb2) i3
 have jj:=j0.trans (i1.trans (i2.trans i3))
 clear hb1 hb2 i1 i2 i3 hn2
 simp only[Act.put,QCL,QCO,QCN]
 go_wp2_with (first
  | (refine QaA rfl rfl _ _ rfl hX rfl rfl rfl ?_;intro a4 hb3 ho3
     have hY3:=hY.only ho3 (fun e=>hne e.symm))
  | (refine QaA rfl rfl _ _ rfl hY3 rfl rfl rfl ?_;intro a5 hb4 ho4
     have S1:=S0.two jj hg1 hg2 hne ho3 hb3 ho4 hb4)
  | fail)
 clear jj hX hY hY3 hg1 hg2 hne ho3 hb3 ho4 hb4 S0
 clear j0 cA cB
 go_wp2_with fail
 refine Qay [0,1,2,3,4,5,6,7,10,11,12,13,14,15,16,17] [([],2,8),([],1,9),([],1,18),([],2,19),([],2,20)] [] [21,22] [8,19,20] (fun i=>if i=8 then (fun g=>.slice (some ⟨g,0,none⟩) 2 2,.cells (EL x3++EL z3).toArray 360) else (fun g=>.pointer (some ⟨g,0,none⟩),.cells (QCC 4 (Value.int .u64 0)).toArray 360)) (by as_aux_lemma=>kernel_rfl) (by as_aux_lemma=>kernel_rfl) (by intro _ _ d _ _ h;cases d<;>exact h) (by intro _ _ d _ _ h;cases d<;>exact h) ?_
 simp only[pick,QCD,QCE,QCG,QCI,QCH]
 repeat (first|go_big_quiet_skip|(go_big_quiet_want;(first|refine QeB _ rfl S1.drew.blk (fun j v hv=>L5_3 _ _ _ _ _ j v hv) rfl ?_|refine QeB _ rfl S1.drew.blk (fun j v hv=>L5_4 _ _ _ _ _ j v hv) rfl ?_);simp only[Act.put,QCL,QCO,QCN];go_big_quiet_on)|(go_big_quiet_step (fail)))
 refine wpQuiet_nil ?_
 refine⟨?mk,?_⟩
 case mk=>
  refine⟨fun o ho=>?_,fun o ho=>?_,fun o ho=>?_,trivial⟩
  all_goals
   simp only[QCD,QCE,Option.some.injEq]at ho
   subst ho
  ·exact Qfo rfl _ _ rfl x3 z3 rfl rfl
  ·exact Qc2 rfl rfl
  ·exact Qc2 rfl rfl
 simp only[Qbi,pick,QCD,QCE,QCG,QCI,QCH,reduceIte,QD1]
 refine wpQuiet_nil ?_
 intro ba gx j1 _ _ hx1
 have hx2:Blk ba gx 360 (EL x3++EL z3):=hx1
 refine wpQuiet_nil ?_
 intro bb j2
 go_wp2_with fail
 (with_reducible refine (cC.out _ gx (hx2.later j2)).mono ?_);rintro e bc ⟨rfl,j3⟩
 go_wp2_with fail
 try refine⟨by first|assumption|exact Qab _|exact Qaa _ _|exact Later.refl _,?_⟩
 try simp only[Qah,pick,QCD,QCE,QCG,QCI,QCH]
 repeat (go_big_quiet_step (fail))
 refine wpQuiet_nil ?_
 intro bd j4
 go_wp2_with fail
 (with_reducible refine (cD.out _).mono ?_);rintro e be ⟨rfl,j5⟩
 go_wp2_with fail
 try refine⟨by first|assumption|exact Qab _|exact Qaa _ _|exact Later.refl _,?_⟩
 try simp only[Qah,pick,QCD,QCE,QCG,QCI,QCH]
 repeat (go_big_quiet_step (fail))
 refine wpQuiet_nil ?_
 have j0:=((((Qab _).trans j1).trans j2).trans j3).trans (j4.trans j5)
 clear j1 j2 j3 j4 j5 hx1 hx2
 intro b1 gC i1 hg1 _ hb1
 refine wpQuiet_nil ?_
 intro b2 gD i2 hg2 hn2 hb2
 refine wpQuiet_nil ?_
 intro b3 i3
 have hne:gC≠gD:=fun e=>hn2 (.inl e.symm)
 have hX:Blk b3 gC 360 (QCC 4 (Value.int .u64 0)):=Blk.later (show Blk b1 gC _ _ from hb1) (i2.trans i3)
 have hY:Blk b3 gD 360 (QCC 4 (Value.int .u64 0)):=Blk.later (show Blk b2 gD _ _ from hb2) i3
 have jj:=j0.trans (i1.trans (i2.trans i3))
 clear hb1 hb2 i1 i2 i3 hn2
 simp only[Act.put,QCL,QCO,QCN]
 go_wp2_with (first
  | (refine QaA rfl rfl _ _ rfl hX rfl rfl rfl ?_;intro b4 hb3 ho3
     have hY3:=hY.only ho3 (fun e=>hne e.symm))
  | (refine QaA rfl rfl _ _ rfl hY3 rfl rfl rfl ?_;intro b5 hb4 ho4
     have S2:=S1.two jj hg1 hg2 hne ho3 hb3 ho4 hb4)
  | fail)
 clear jj hX hY hY3 hg1 hg2 hne ho3 hb3 ho4 hb4 S1
 clear j0 cC cD
 go_wp2_with fail
 refine Qay [0,2] [([],1,1),([],1,3),([],2,4),([],2,5)] [] [6,7] [4,5] (fun _=>(fun g=>.pointer (some ⟨g,0,none⟩),.cells (QCC 4 (Value.int .u64 0)).toArray 360)) (by as_aux_lemma=>kernel_rfl) (by as_aux_lemma=>kernel_rfl) (by intro _ _ d _ _ h;cases d<;>exact h) (by intro _ _ d _ _ h;cases d<;>exact h) ?_
 simp only[pick,QCD,QCE,QCG,QCI,QCH]
 repeat (first|go_big_quiet_skip|(go_big_quiet_want;(first|refine QcC _ rfl (S2.drew.nth 2 rfl) rfl ?_|refine QcC _ rfl (S2.drew.nth 3 rfl) rfl ?_);simp only[Act.put,QCL,QCO,QCN];go_big_quiet_on)|(go_big_quiet_step (fail)))
 refine wpQuiet_nil ?_
 refine⟨?mk,?_⟩
 case mk=>
  refine⟨fun o ho=>?_,fun o ho=>?_,trivial⟩
  all_goals
   simp only[QCD,QCE,Option.some.injEq]at ho
   subst ho
   exact Qc2 rfl rfl
 simp only[Qbi,pick,QCD,QCE,QCG,QCI,QCH,QD1]
 refine wpQuiet_nil ?_
 intro ca j1
 go_wp2_with fail
 (with_reducible refine (cAA.out _).mono ?_);rintro e cb ⟨rfl,j2⟩
 go_wp2_with fail
 try refine⟨by first|assumption|exact Qab _|exact Qaa _ _|exact Later.refl _,?_⟩
 try simp only[Qah,pick,QCD,QCE,QCG,QCI,QCH]
 repeat (go_big_quiet_step (fail))
 refine wpQuiet_nil ?_
 intro cc j3
 go_wp2_with fail
 (with_reducible refine (cBB.out _).mono ?_);rintro e cd ⟨rfl,j4⟩
 go_wp2_with fail
 try refine⟨by first|assumption|exact Qab _|exact Qaa _ _|exact Later.refl _,?_⟩
 try simp only[Qah,pick,QCD,QCE,QCG,QCI,QCH]
 repeat (go_big_quiet_step (fail))
 refine wpQuiet_nil ?_
 have j0:=(((Qab _).trans j1).trans j2).trans (j3.trans j4)
 clear j1 j2 j3 j4
 intro c1 gAA i1 hg1 _ hb1
 refine wpQuiet_nil ?_
 intro c2 gBB i2 hg2 hn2 hb2
 refine wpQuiet_nil ?_
 intro c3 i3
 have hne:gAA≠gBB:=fun e=>hn2 (.inl e.symm)
 have hX:Blk c3 gAA 360 (QCC 4 (Value.int .u64 0)):=Blk.later (show Blk c1 gAA _ _ from hb1) (i2.trans i3)
 have hY:Blk c3 gBB 360 (QCC 4 (Value.int .u64 0)):=Blk.later (show Blk c2 gBB _ _ from hb2) i3
 have jj:=j0.trans (i1.trans (i2.trans i3))
 clear hb1 hb2 i1 i2 i3 hn2
 simp only[Act.put,QCL,QCO,QCN]
 go_wp2_with (first
  | (refine QaA rfl rfl _ _ rfl hX rfl rfl rfl ?_;intro c4 hb3 ho3
     have hY3:=hY.only ho3 (fun e=>hne e.symm))
  | (refine QaA rfl rfl _ _ rfl hY3 rfl rfl rfl ?_;intro c5 hb4 ho4
     have S3:=S2.two jj hg1 hg2 hne ho3 hb3 ho4 hb4
     have q0:=S3.nth 0 rfl
     have q1:=S3.nth 1 rfl)
  | (refine Qbv rfl _ rfl q0 rfl ?_)
  | (refine Qbv rfl _ rfl q1 rfl ?_)
  | fail)
 clear jj hX hY hY3 hg1 hg2 hne ho3 hb3 ho4 hb4 S2
 clear j0 cAA cBB
 (with_reducible refine (cF.out _).mono ?_);rintro e d1 ⟨rfl,j1⟩
 go_wp2_with (first
  | (refine QaA rfl rfl _ _ rfl (Blk.new d1 _ (QCC 4 (.int .u64 0))) rfl rfl rfl ?_;intro d2 hb3 ho3)
  | fail)
 have S4:=S3.one (j1.trans (Qaa d1 _)) j1.size ho3 hb3
 clear j1 hb3 ho3 S3 cF q0 q1
 generalize hgF:d1.heap.size=gF at *
 clear hgF
 refine Qay [0,1,4,5] [([],2,2),([],1,3),([],2,6),([],1,7),([],2,8),([],2,9)] [] [10,11] [2,6,8,9] (fun i=>if i=2 then (fun g=>.slice (some ⟨g,0,none⟩) 2 2,.cells (EL D++EL A).toArray 360) else if i=6 then (fun g=>.slice (some ⟨g,0,none⟩) 2 2,.cells (EL C++EL B).toArray 360) else (fun g=>.pointer (some ⟨g,0,none⟩),.cells (QCC 4 (Value.int .u64 0)).toArray 360)) (by as_aux_lemma=>kernel_rfl) (by as_aux_lemma=>kernel_rfl) (by intro _ _ d _ _ h;cases d<;>exact h) (by intro _ _ d _ _ h;cases d<;>exact h) ?_
 simp only[pick,QCD,QCE,QCG,QCI,QCH]
 repeat (first|go_big_quiet_skip|(go_big_quiet_want;(first|refine QcC _ rfl (S4.drew.nth 3 rfl) rfl ?_|refine QcC _ rfl (S4.drew.nth 4 rfl) rfl ?_|refine QcC _ rfl (S4.drew.nth 5 rfl) rfl ?_|refine QcC _ rfl (S4.drew.nth 6 rfl) rfl ?_);simp only[Act.put,QCL,QCO,QCN];go_big_quiet_on)|(go_big_quiet_step (fail)))
 refine wpQuiet_nil ?_
 refine⟨?mk,?_⟩
 case mk=>
  refine⟨fun o ho=>?_,fun o ho=>?_,fun o ho=>?_,fun o ho=>?_,trivial⟩
  all_goals
   simp only[QCD,QCE,Option.some.injEq]at ho
   subst ho
  ·exact Qfo rfl _ _ rfl D A rfl rfl
  ·exact Qfo rfl _ _ rfl C B rfl rfl
  ·exact Qc2 rfl rfl
  ·exact Qc2 rfl rfl
 simp only[Qbi,pick,QCD,QCE,QCG,QCI,QCH,reduceIte,QD1]
 refine wpQuiet_nil ?_
 intro e1 gx j1 _ _ hx1
 have hx2:Blk e1 gx 360 (EL D++EL A):=hx1
 refine wpQuiet_nil ?_
 intro e2 j2
 go_wp2_with fail
 (with_reducible refine (cDA.out _ gx (hx2.later j2)).mono ?_);rintro e e3 ⟨rfl,j3⟩
 go_wp2_with fail
 try refine⟨by first|assumption|exact Qab _|exact Qaa _ _|exact Later.refl _,?_⟩
 try simp only[Qah,pick,QCD,QCE,QCG,QCI,QCH]
 repeat (go_big_quiet_step (fail))
 refine wpQuiet_nil ?_
 intro e4 gy j4 _ _ hy1
 have hy2:Blk e4 gy 360 (EL C++EL B):=hy1
 refine wpQuiet_nil ?_
 intro e5 j5
 go_wp2_with fail
 (with_reducible refine (cCB.out _ gy (hy2.later j5)).mono ?_);rintro e e6 ⟨rfl,j6⟩
 go_wp2_with fail
 try refine⟨by first|assumption|exact Qab _|exact Qaa _ _|exact Later.refl _,?_⟩
 try simp only[Qah,pick,QCD,QCE,QCG,QCI,QCH]
 repeat (go_big_quiet_step (fail))
 refine wpQuiet_nil ?_
 have j0:=(((Qab _).trans j1).trans (j2.trans j3)).trans ((j4.trans j5).trans j6)
 clear j1 j2 j3 j4 j5 j6 hx1 hx2 hy1 hy2
 intro f1 gDA i1 hg1 _ hb1
 refine wpQuiet_nil ?_
 intro f2 gCB i2 hg2 hn2 hb2
 refine wpQuiet_nil ?_
 intro f3 i3
 have hne:gDA≠gCB:=fun e=>hn2 (.inl e.symm)
 have hX:Blk f3 gDA 360 (QCC 4 (Value.int .u64 0)):=Blk.later (show Blk f1 gDA _ _ from hb1) (i2.trans i3)
 have hY:Blk f3 gCB 360 (QCC 4 (Value.int .u64 0)):=Blk.later (show Blk f2 gCB _ _ from hb2) i3
 have jj:=j0.trans (i1.trans (i2.trans i3))
 clear hb1 hb2 i1 i2 i3 hn2
 simp only[Act.put,QCL,QCO,QCN]
 go_wp2_with (first
  | (refine QaA rfl rfl _ _ rfl hX rfl rfl rfl ?_;intro f4 hb3 ho3
     have hY3:=hY.only ho3 (fun e=>hne e.symm))
  | (refine QaA rfl rfl _ _ rfl hY3 rfl rfl rfl ?_;intro f5 hb4 ho4
     have S5:=S4.two jj hg1 hg2 hne ho3 hb3 ho4 hb4
     have q0:=S5.nth 0 rfl
     have q1:=S5.nth 1 rfl)
  | (refine Qbv rfl _ rfl q0 rfl ?_)
  | (refine Qbv rfl _ rfl q1 rfl ?_)
  | (refine Qds rfl _ _ rfl DA CB rfl rfl ?_)
  | fail)
 clear jj hX hY hY3 hg1 hg2 hne ho3 hb3 ho4 hb4 S4
 clear j0 cDA cCB
 (with_reducible refine (cS.out _ _ (Blk.new f5 _ (EL DA++EL CB))).mono ?_);rintro e h1 ⟨rfl,j1⟩
 go_wp2_with fail
 (with_reducible refine (cSS.out _).mono ?_);rintro e h2 ⟨rfl,j2⟩
 replace S5:=(S5.later (Qaa f5 _)).later (j1.trans j2)
 go_wp2_with (first
  | (refine QhC rfl rfl _ _ rfl S5.blk rfl rfl (by rw[QeR];omega) ?_;intro h3 hb3 ho3)
  | fail)
 rw[Qx9]at hb3
 have S6:=S5.write ho3 hb3
 clear j1 j2 hb3 ho3 S5 cS cSS q0 q1
 go_wp2_with fail
 refine Qag [([0,1,2,3,4,5,6],7),([],8),([],9),([],10)] [11,12] [13] (by as_aux_lemma=>kernel_rfl) (by as_aux_lemma=>kernel_rfl) (by intro _ _ d _ _ h;cases d<;>exact h) ?_
 simp only[Qah,pick,QCD,QCE,QCG,QCI,QCH]
 repeat (first|go_big_quiet_skip|(go_big_quiet_want;(first|refine QcC _ rfl (S6.drew.nth 0 rfl) rfl ?_|refine QcC _ rfl (S6.drew.nth 1 rfl) rfl ?_|refine QeB _ rfl S6.drew.blk (fun j v hv=>L5_0 _ _ _ _ _ j v hv) rfl ?_);simp only[Act.put,QCL,QCO,QCN];go_big_quiet_on)|(go_big_quiet_step (fail)))
 refine wpQuiet_nil ?_
 go_wp2_with fail
 (with_reducible refine (cG.out _).mono ?_);rintro e p1 ⟨rfl,j1⟩
 go_wp2_with fail
 try refine⟨by first|assumption|exact Qab _|exact Qaa _ _|exact Later.refl _,?_⟩
 try simp only[Qah,pick,QCD,QCE,QCG,QCI,QCH]
 repeat (go_big_quiet_step (fail))
 refine wpQuiet_nil ?_
 go_wp2_with fail
 (with_reducible refine (cGG.out _).mono ?_);rintro e p2 ⟨rfl,j2⟩
 go_wp2_with fail
 try refine⟨by first|assumption|exact Qab _|exact Qaa _ _|exact Later.refl _,?_⟩
 try simp only[Qah,pick,QCD,QCE,QCG,QCI,QCH]
 repeat (go_big_quiet_step (fail))
 refine wpQuiet_nil ?_
 go_wp2_with (first
  | (refine Qds rfl _ _ rfl x1 GG rfl rfl ?_)
  | fail)
 refine⟨Qaa _ _,?_⟩
 simp only[Act.put,QCL,QCO,QCN]
 refine wpQuiet_nil ?_
 go_wp2_with fail
 (with_reducible refine (cZ3.out _ _ (Blk.new p2 _ (EL x1++EL GG))).mono ?_);rintro e p3 ⟨rfl,j3⟩
 replace S6:=S6.later ((((Qab _).trans j1).trans j2).trans ((Qaa p2 _).trans j3))
 go_wp2_with fail
 try refine⟨by first|assumption|exact Qab _|exact Qaa _ _|exact Later.refl _,?_⟩
 try simp only[Qah,pick,QCD,QCE,QCG,QCI,QCH]
 repeat (go_big_quiet_step (fail))
 refine wpQuiet_nil ?_
 go_wp2_with (first
  | (refine QhC rfl rfl _ _ rfl S6.blk rfl rfl (by rw[QeR];omega) ?_;intro p4 hb3 ho3
     rw[Qw0]at hb3
     have S7:=S6.write ho3 hb3
     have q3:=S7.nth 3 rfl
     have q4:=S7.nth 4 rfl)
  | (refine Qbv rfl _ rfl q3 rfl ?_)
  | (refine Qbv rfl _ rfl q4 rfl ?_)
  | (refine Qds rfl _ _ rfl AA BB rfl rfl ?_)
  | fail)
 clear j1 j2 j3 hb3 ho3 S6 q3 q4 cG cGG cZ3
 (with_reducible refine (cX2.out _ _ (Blk.new p4 _ (EL AA++EL BB))).mono ?_);rintro e r1 ⟨rfl,j1⟩
 replace S7:=S7.later ((Qaa p4 _).trans j1)
 go_wp2_with (first
  | (refine QhC rfl rfl _ _ rfl S7.blk rfl rfl (by rw[QeR];omega) ?_;intro r2 hb3 ho3
     rw[Qyc]at hb3
     have S8:=S7.write ho3 hb3)
  | fail)
 clear j1 hb3 ho3 S7 cX2
 refine Qag [([0,1,2,4],3),([],5),([],6),([],7),([],8),([],9),([],10)] [11,12] [13] (by as_aux_lemma=>kernel_rfl) (by as_aux_lemma=>kernel_rfl) (by intro _ _ d _ _ h;cases d<;>exact h) ?_
 simp only[Qah,pick,QCD,QCE,QCG,QCI,QCH]
 repeat (first|go_big_quiet_skip|(go_big_quiet_want;(first|refine QcC _ rfl (S8.drew.nth 2 rfl) rfl ?_|refine QcC _ rfl (S8.drew.nth 3 rfl) rfl ?_);simp only[Act.put,QCL,QCO,QCN];go_big_quiet_on)|(go_big_quiet_step (fail)))
 refine wpQuiet_nil ?_
 go_wp2_with fail
 (with_reducible refine (cOf.out _).mono ?_);rintro e u1 ⟨rfl,j1⟩
 go_wp2_with fail
 try refine⟨by first|assumption|exact Qab _|exact Qaa _ _|exact Later.refl _,?_⟩
 try simp only[Qah,pick,QCD,QCE,QCG,QCI,QCH]
 repeat (go_big_quiet_step (fail))
 refine wpQuiet_nil ?_
 go_wp2_with (first
  | (refine Qds rfl _ _ rfl 121665 F rfl rfl ?_)
  | fail)
 refine⟨Qaa _ _,?_⟩
 simp only[Act.put,QCL,QCO,QCN]
 refine wpQuiet_nil ?_
 go_wp2_with fail
 (with_reducible refine (cM.out _ _ (Blk.new u1 _ (EL 121665++EL F))).mono ?_);rintro e u2 ⟨rfl,j2⟩
 go_wp2_with fail
 try refine⟨by first|assumption|exact Qab _|exact Qaa _ _|exact Later.refl _,?_⟩
 try simp only[Qah,pick,QCD,QCE,QCG,QCI,QCH]
 repeat (go_big_quiet_step (fail))
 refine wpQuiet_nil ?_
 go_wp2_with (first
  | (refine Qds rfl _ _ rfl AA M rfl rfl ?_)
  | fail)
 refine⟨Qaa _ _,?_⟩
 simp only[Act.put,QCL,QCO,QCN]
 refine wpQuiet_nil ?_
 go_wp2_with fail
 (with_reducible refine (cN.out _ _ (Blk.new u2 _ (EL AA++EL M))).mono ?_);rintro e u3 ⟨rfl,j3⟩
 go_wp2_with fail
 try refine⟨by first|assumption|exact Qab _|exact Qaa _ _|exact Later.refl _,?_⟩
 try simp only[Qah,pick,QCD,QCE,QCG,QCI,QCH]
 repeat (go_big_quiet_step (fail))
 refine wpQuiet_nil ?_
 go_wp2_with (first
  | (refine Qds rfl _ _ rfl F N rfl rfl ?_)
  | fail)
 refine⟨Qaa _ _,?_⟩
 simp only[Act.put,QCL,QCO,QCN]
 refine wpQuiet_nil ?_
 go_wp2_with fail
 (with_reducible refine (cZ2.out _ _ (Blk.new u3 _ (EL F++EL N))).mono ?_);rintro e u4 ⟨rfl,j4⟩
 replace S8:=S8.later ((((Qab _).trans j1).trans ((Qaa u1 _).trans j2)).trans (((Qaa u2 _).trans j3).trans ((Qaa u3 _).trans j4)))
 go_wp2_with fail
 try refine⟨by first|assumption|exact Qab _|exact Qaa _ _|exact Later.refl _,?_⟩
 try simp only[Qah,pick,QCD,QCE,QCG,QCI,QCH]
 repeat (go_big_quiet_step (fail))
 refine wpQuiet_nil ?_
 go_wp2_with (first
  | (refine QhC rfl rfl _ _ rfl S8.blk rfl rfl (by rw[QeR];omega) ?_;intro u5 hb3 ho3
     rw[Qyo]at hb3
     have S9:=S8.write ho3 hb3)
  | fail)
 exact bodyPost_end (results_none rfl _ _ _) rfl ⟨rfl,S9.blk,S9.only⟩
def QaL (bs:List UInt8):List UInt8:=if bs.length=32 then (bs.set 0 (bs.getD 0 0 &&& 248)).set 31 (((bs.getD 31 0) &&& 127) ||| 64) else QCC 32 0
theorem Qbs (bs:List UInt8):(QaL bs).length=32:=by
 unfold QaL
 split
 ·simp;assumption
 ·simp
set_option maxRecDepth 100000 in
set_option maxHeartbeats 2000000 in
theorem Qsq (A:Option Addr) (n c:Nat) (bs:List UInt8) (w:World) (hr:RdB w A n bs) (hn:n≤140737488355328):
 Calls Tryz.prog 172 #[.slice A n c] w fun e w'=>e= .returned (.tuple #[.agg ((QaL bs).map W8).toArray,.int .i64 (QbW bs:Nat)])∧Later w w':=by
 have hbl:=hr.len
 have hb0:=Blk.new w 25 (QCC 32 (Value.int .u8 0))
 by_cases h32:n=32
 ·subst h32
  have hRN:=hid (show (QaL bs)=(bs.set 0 (bs.getD 0 0 &&& 248)).set 31 (((bs.getD 31 0) &&& 127) ||| 64) by rw[QaL,if_pos hbl])
  have hRE:=hid (show QbW bs=0 by rw[QbW,if_pos hbl])
  have L0:Later w ((w.alloc (.cells (QCC 32 (Value.int .u8 0)).toArray 25)).alloc (.cells (QCC 32 (Value.int .u8 0)).toArray 25)):=(Qaa _ _).trans (Qaa _ _)
  go_enter Tryz.func172,Tryz.ntmps172
  have hcl:=Qbs bs
  have hx0:(bs.map W8)[0]?=some (W8 (bs.getD 0 0)):=by rw[QCY,QCK,QCJ (by omega)];rfl
  have hy0:(bs.map W8)[31]?=some (W8 (bs.getD 31 0)):=by rw[QCY,QCK,QCJ (by omega)];rfl
  generalize bs.getD 0 0=x at *
  generalize bs.getD 31 0=y at *
  go_wp2_with (first
   | (refine Qas rfl _ _ _ _ rfl 5 Tryz.underlying22 Qbt (w.heap.size+1) 0 32 32 25 (QCC 32 (W8 0)) (Blk.new' _ _ _ (by simp)) A 32 c (bs.map W8) (RdB.later hr L0) (QaH _) rfl rfl (by simp) ?_;intro w4 hb4 ho4
      rw[QCQ (by simp;omega),Qak _ _ (by simp;omega)]at hb4
      have L4:=L0.only ho4 (by omega)
      have h04:=(hb0.later (Qaa _ _)).only ho4 (by omega)
      have d0:=hb4.cellD 0 hx0
      clear ho4)
   | (refine Qad rfl rfl _ _ _ rfl _ _ _ _ hb4 rfl ?hl rfl (by kernel_rfl) ?_;(case hl=>simp;omega);intro v w5 hv hb5 ho5;simp[go_sem]at hv;subst hv
      have L5:=L4.only ho5 (by omega)
      have h05:=h04.only ho5 (by omega)
      have d31:=hb5.cellD 31 (u:=W8 y) (by rw[QDS (by omega)];exact hy0)
      clear ho5 d0 hb4)
   | (refine Qad rfl rfl _ _ _ rfl _ _ _ _ hb5 rfl ?hl rfl (by kernel_rfl) ?_;(case hl=>simp;omega);intro v w6 hv hb6 ho6;simp[go_sem]at hv;subst hv
      have L6:=L5.only ho6 (by omega)
      have h06:=h05.only ho6 (by omega)
      have d31':=hb6.cellD 31 (QEn (by simp;omega))
      clear ho6 d31 hb5)
   | (refine Qad rfl rfl _ _ _ rfl _ _ _ _ hb6 rfl ?hl rfl (by kernel_rfl) ?_;(case hl=>simp;omega);intro v w7 hv hb7 ho7;simp[go_sem]at hv;subst hv
      rw[List.set_set,←QE3,←QE3,←hRN.out]at hb7
      have L7:=L6.only ho7 (by omega)
      have h07:=h06.only ho7 (by omega)
      clear ho7 d31' hb6)
   | (refine QeM rfl _ rfl hb7 hcl rfl ?_)
   | (refine QaG rfl rfl _ _ rfl h07 rfl rfl hcl rfl ?_;intro w8 hb8 ho8)
   | fail)
  exact bodyPost_ret (Qai rfl _ _ _ _ _ _ hb8 rfl Tryz.underlying25 rfl (by rw[QCF,hcl];exact Qba)) rfl ⟨by rw[hRE.out];rfl,L7.only ho8 (by omega)⟩
 ·have hne:((n:Int) != 32)=true:=by simp;omega
  have hRN:=hid (show QaL bs=QCC 32 0 by rw[QaL,if_neg (by omega)])
  have hRE:=hid (show QbW bs=2 by rw[QbW,if_neg (by omega)])
  go_enter Tryz.func172,Tryz.ntmps172
  go_wp2_with (first
   | (refine Qam rfl 25 _ rfl (QCC 32 (W8 0)) ?hb ?_;(case hb=>kernel_rfl))
   | (refine QaG (bs:=QCC 32 0) rfl rfl _ _ rfl hb0 rfl (by kernel_rfl) rfl rfl ?_;intro w9 hb9 ho9)
   | fail)
  exact bodyPost_ret (Qai rfl _ _ _ _ _ _ hb9 rfl Tryz.underlying25 rfl (by rw[QCF,QCS];exact Qba)) rfl ⟨by rw[hRN.out,hRE.out];rfl,(Qaa _ _).only ho9 (by omega)⟩
theorem Qhy:∀x:Fin 256,x.1 &&& 248=x.1/8*8∧(x.1 &&& 127) ||| 64=x.1%64+64:=by decide +kernel
theorem Qx0 (x:UInt8):x &&& 248=x/8*8:=by
 apply QDr.1
 have h:=x.toNat_lt
 have:=(Qhy ⟨x.toNat,h⟩).1
 rw[UInt8.toNat_and,UInt8.toNat_mul,UInt8.toNat_div]
 show x.toNat &&& 248=x.toNat/8*8%256
 simp only at this
 omega
theorem QwR (x:UInt8):(x &&& 127) ||| 64=x%64+64:=by
 apply QDr.1
 have h:=x.toNat_lt
 have:=(Qhy ⟨x.toNat,h⟩).2
 rw[UInt8.toNat_or,UInt8.toNat_and,UInt8.toNat_add,UInt8.toNat_mod]
 show (x.toNat &&& 127) ||| 64=(x.toNat%64+64)%256
 simp only at this
 omega
set_option maxRecDepth 100000 in
set_option maxHeartbeats 2000000 in
theorem QqZ (A:Option Addr) (n c:Nat) (bs:List UInt8) (w:World) (hr:RdB w A n bs) (hn:n≤140737488355328):
 Calls Tryz.prog 150 #[.slice A n c] w fun e w'=>e= .returned (.tuple #[.agg ((QaL bs).map W8).toArray,.int .i64 (QbW bs:Nat)])∧Later w w':=by
 have hbl:=hr.len
 have hb0:=Blk.new w 25 (QCC 32 (Value.int .u8 0))
 by_cases h32:n=32
 ·subst h32
  have hRN:=hid (show (QaL bs)=(bs.set 0 (bs.getD 0 0 &&& 248)).set 31 (((bs.getD 31 0) &&& 127) ||| 64) by rw[QaL,if_pos hbl])
  have hRE:=hid (show QbW bs=0 by rw[QbW,if_pos hbl])
  have L0:Later w ((w.alloc (.cells (QCC 32 (Value.int .u8 0)).toArray 25)).alloc (.cells (QCC 32 (Value.int .u8 0)).toArray 25)):=(Qaa _ _).trans (Qaa _ _)
  go_enter Tryz.func150,Tryz.ntmps150
  have hX:=hid (Qx0 (bs.getD 0 0))
  have hY:=hid (QwR (bs.getD 31 0))
  have hcl:=Qbs bs
  have hx0:(bs.map W8)[0]?=some (W8 (bs.getD 0 0)):=by rw[QCY,QCK,QCJ (by omega)];rfl
  have hy0:(bs.map W8)[31]?=some (W8 (bs.getD 31 0)):=by rw[QCY,QCK,QCJ (by omega)];rfl
  generalize bs.getD 0 0=x at *
  generalize bs.getD 31 0=y at *
  go_wp2_with (first
   | (refine Qas rfl _ _ _ _ rfl 5 Tryz.underlying22 Qbt (w.heap.size+1) 0 32 32 25 (QCC 32 (W8 0)) (Blk.new' _ _ _ (by simp)) A 32 c (bs.map W8) (RdB.later hr L0) (QaH _) rfl rfl (by simp) ?_;intro w4 hb4 ho4
      rw[QCQ (by simp;omega),Qak _ _ (by simp;omega)]at hb4
      have L4:=L0.only ho4 (by omega)
      have h04:=(hb0.later (Qaa _ _)).only ho4 (by omega)
      have d0:=hb4.cellD 0 hx0
      clear ho4)
   | (refine Qad rfl rfl _ _ _ rfl _ _ _ _ hb4 rfl ?hl rfl (by kernel_rfl) ?_;(case hl=>simp;omega);intro v w5 hv hb5 ho5;simp[go_sem]at hv;subst hv
      have L5:=L4.only ho5 (by omega)
      have h05:=h04.only ho5 (by omega)
      have d31:=hb5.cellD 31 (u:=W8 y) (by rw[QDS (by omega)];exact hy0)
      clear ho5 d0 hb4)
   | (refine Qad rfl rfl _ _ _ rfl _ _ _ _ hb5 rfl ?hl rfl (by kernel_rfl) ?_;(case hl=>simp;omega);intro v w6 hv hb6 ho6;simp[go_sem]at hv;subst hv
      have L6:=L5.only ho6 (by omega)
      have h06:=h05.only ho6 (by omega)
      rw[←hX.out,←hY.out,←QE3,←QE3,←hRN.out]at hb6
      clear ho6 d31 hb5)
   | (refine QeM rfl _ rfl hb6 hcl rfl ?_)
   | (refine QaG rfl rfl _ _ rfl h06 rfl rfl hcl rfl ?_;intro w8 hb8 ho8)
   | fail)
  exact bodyPost_ret (Qai rfl _ _ _ _ _ _ hb8 rfl Tryz.underlying25 rfl (by rw[QCF,hcl];exact Qba)) rfl ⟨by rw[hRE.out];rfl,L6.only ho8 (by omega)⟩
 ·have hne:((n:Int) != 32)=true:=by simp;omega
  have hRN:=hid (show QaL bs=QCC 32 0 by rw[QaL,if_neg (by omega)])
  have hRE:=hid (show QbW bs=2 by rw[QbW,if_neg (by omega)])
  have h0a:=hb0.later (Qaa _ (.cells (QCC 32 (Value.int .u8 0)).toArray 25))
  go_enter Tryz.func150,Tryz.ntmps150
  go_wp2_with (first
   | (refine QeM (bs:=QCC 32 0) rfl _ rfl (Blk.new' _ _ _ (by simp)) rfl rfl ?_)
   | (refine QaG (bs:=QCC 32 0) rfl rfl _ _ rfl h0a rfl rfl rfl rfl ?_;intro w9 hb9 ho9)
   | fail)
  exact bodyPost_ret (Qai rfl _ _ _ _ _ _ hb9 rfl Tryz.underlying25 rfl (by rw[QCF,QCS];exact Qba)) rfl ⟨by rw[hRN.out,hRE.out];rfl,((Qaa _ _).trans (Qaa _ _)).only ho9 (by omega)⟩
theorem L2_0 (a b j:Nat) (v:Value) (h:(EL a)[j]?=some v):(EL a++EL b)[0+j]?=some v:=by
 have hj:j<4:=by have:=(QCV.1 h).1;rwa [Qal]at this
 rw[QC4,QCW (by rw[Qal];exact hj)]
 exact h
theorem L2_1 (a b j:Nat) (v:Value) (h:(EL b)[j]?=some v):(EL a++EL b)[4+j]?=some v:=by
 rw[QCR (by rw[Qal];omega),Qal,show 4+j-4=j by omega]
 exact h
set_option maxRecDepth 100000 in
set_option maxHeartbeats 2000000 in
theorem QqY (u v:Nat) (hu:u<T256) (hv:v<T256) (w:World):
 Calls Tryz.prog 175 #[.agg (EL u++EL v).toArray] w fun e w'=>e= .returned (E (fmul u (pinv v)))∧Later w w':=by
 have h1:Blk ((w.alloc (.cells (EL u++EL v).toArray 379)).alloc (.cells (QCC 4 (.int .u64 0)).toArray 360)) w.heap.size 379 (EL u++EL v):=(Blk.new _ _ _).later (Qaa _ _)
 have h2:Blk ((w.alloc (.cells (EL u++EL v).toArray 379)).alloc (.cells (QCC 4 (.int .u64 0)).toArray 360)) (w.heap.size+1) 360 (QCC 4 (.int .u64 0)):=Blk.new' _ _ _ (by simp)
 have L0:Later w ((w.alloc (.cells (EL u++EL v).toArray 379)).alloc (.cells (QCC 4 (.int .u64 0)).toArray 360)):=(Qaa _ _).trans (Qaa _ _)
 have hI:=hid (QwL v hv)
 have hM:Hid (∀ w,Calls Tryz.prog 268 #[E u,E (pinv v)] w fun e w'=>e= .returned (E (fmul u (pinv v)))∧Later w w'):=hid (QdL u (pinv v) hu (QsP v))
 generalize fmul u (pinv v)=q at *
 generalize pinv v=i at *
 go_enter Tryz.func175,Tryz.ntmps175
 go_wp2_with fail
 refine Qag [([0,1,2,3],4)] [] [5,6] (by as_aux_lemma=>kernel_rfl) (by as_aux_lemma=>kernel_rfl) (by intro _ _ d _ _ h;cases d<;>exact h) ?_
 simp only[Qah,pick,QCD,QCE,QCG,QCI,QCH]
 repeat (first|go_big_quiet_skip|(go_big_quiet_want;(first|refine QeB _ rfl h1.drew (fun j v hv=>L2_0 _ _ j v hv) rfl ?_|refine QeB _ rfl h1.drew (fun j v hv=>L2_1 _ _ j v hv) rfl ?_);simp only[Act.put,QCL,QCO,QCN];go_big_quiet_on)|(go_big_quiet_step (fail)))
 refine wpQuiet_nil ?_
 go_wp2_with fail
 (with_reducible refine (hI.out _).mono ?_);rintro e w2 ⟨rfl,hl2⟩
 replace hl2:=(Qab _).trans hl2
 go_wp2_with fail
 try refine⟨by first|assumption|exact Qab _|exact Qaa _ _|exact Later.refl _,?_⟩
 try simp only[Qah,pick,QCD,QCE,QCG,QCI,QCH]
 repeat (go_big_quiet_step (fail))
 refine wpQuiet_nil ?_
 go_wp2_with fail
 (with_reducible refine (hM.out _).mono ?_);rintro e w3 ⟨rfl,hl3⟩
 replace hl3:=hl2.trans hl3
 go_wp2_with (first
  | (refine QaA rfl rfl _ _ rfl (h2.later hl3) rfl rfl rfl ?_;intro w9 hb9 ho9)
  | fail)
 exact bodyPost_ret (QgK rfl hb9 rfl) rfl ⟨rfl,(L0.trans hl3).only ho9 (by omega)⟩
structure Lad where
 x2:Nat
 z2:Nat
 x3:Nat
 z3:Nat
def LL (x1:Nat) (s:Lad):List Value:=L5 x1 s.x2 s.z2 s.x3 s.z3
def Lad.Ok (s:Lad):Prop:=s.x2<T256∧s.z2<T256∧s.x3<T256∧s.z3<T256
def Lad.swap (s:Lad):Lad:=⟨s.x3,s.z3,s.x2,s.z2⟩
def Lad.step (x1:Nat) (s:Lad):Lad:=
 ⟨fmul (fmul (fadd s.x2 s.z2) (fadd s.x2 s.z2)) (fmul (fsub s.x2 s.z2) (fsub s.x2 s.z2)),
  fmul (fsub (fmul (fadd s.x2 s.z2) (fadd s.x2 s.z2)) (fmul (fsub s.x2 s.z2) (fsub s.x2 s.z2))) (fadd (fmul (fadd s.x2 s.z2) (fadd s.x2 s.z2)) (fmul 121665 (fsub (fmul (fadd s.x2 s.z2) (fadd s.x2 s.z2)) (fmul (fsub s.x2 s.z2) (fsub s.x2 s.z2))))),
  fmul (fadd (fmul (fsub s.x3 s.z3) (fadd s.x2 s.z2)) (fmul (fadd s.x3 s.z3) (fsub s.x2 s.z2))) (fadd (fmul (fsub s.x3 s.z3) (fadd s.x2 s.z2)) (fmul (fadd s.x3 s.z3) (fsub s.x2 s.z2))),
  fmul x1 (fmul (fsub (fmul (fsub s.x3 s.z3) (fadd s.x2 s.z2)) (fmul (fadd s.x3 s.z3) (fsub s.x2 s.z2))) (fsub (fmul (fsub s.x3 s.z3) (fadd s.x2 s.z2)) (fmul (fadd s.x3 s.z3) (fsub s.x2 s.z2))))⟩
theorem Lad.swap_ok {s:Lad} (h:s.Ok):s.swap.Ok:=⟨h.2.2.1,h.2.2.2,h.1,h.2.1⟩
theorem Lad.step_ok (x1:Nat) (s:Lad):(s.step x1).Ok:=⟨QbC _ _,QbC _ _,QbC _ _,QbC _ _⟩
def Lad.round (x1:Nat) (b:Bool) (s:Lad):Lad:=if b then (s.swap.step x1).swap else s.step x1
theorem Lad.round_ok (x1:Nat) (b:Bool) (s:Lad):(s.round x1 b).Ok:=by
 unfold Lad.round
 split
 ·exact Lad.swap_ok (Lad.step_ok _ _)
 ·exact Lad.step_ok _ _
def kbit (K:List UInt8) (t:Nat):Bool:=decide ((K.getD (t/8) 0).toNat/2^(t%8)%2=1)
def Lad.at (x1:Nat) (K:List UInt8):Nat→Lad
 | 0=>⟨1,0,x1,1⟩
 | k+1=>(Lad.at x1 K k).round x1 (kbit K (254-k))
theorem Lad.at_ok (x1:Nat) (K:List UInt8) (h:x1<T256):∀k,(Lad.at x1 K k).Ok
 | 0=>⟨show (1:Nat)<T256 by decide,show (0:Nat)<T256 by decide,h,show (1:Nat)<T256 by decide⟩
 | _+1=>Lad.round_ok _ _ _
def QiV (ks us:List UInt8):Nat:=fmul (Lad.at (Qco us) (QaL ks) 255).x2 (pinv (Lad.at (Qco us) (QaL ks) 255).z2)
def Qbf (ks us:List UInt8):Nat:=if ks.length=32∧us.length=32 then (if QiV ks us=0 then 5 else 0) else 2
def Qbe (ks us:List UInt8):List UInt8:=if ks.length=32∧us.length=32 then nb (QiV ks us) else QCC 32 0
theorem QaT (ks us:List UInt8):(Qbe ks us).length=32:=by
 unfold Qbe
 split
 ·exact QbS _
 ·simp
theorem Qjo (g:Nat) (t:TypeId) (x1:Nat) (s:Lad) (w:World) (hb:Blk w g t (LL x1 s)):
 Calls Tryz.prog 173 #[.pointer (some ⟨g,0,none⟩)] w fun e w'=>e= .returned (.tuple #[])∧Blk w' g t (LL x1 s.swap)∧Only g w w':=
 QlJ g t x1 s.x2 s.z2 s.x3 s.z3 w hb
theorem Qv9 (g:Nat) (t:TypeId) (x1:Nat) (s:Lad) (h1:x1<T256) (hs:s.Ok) (w:World) (hb:Blk w g t (LL x1 s)):
 Calls Tryz.prog 174 #[.pointer (some ⟨g,0,none⟩)] w fun e w'=>e= .returned (.tuple #[])∧Blk w' g t (LL x1 (s.step x1))∧Only g w w':=
 QnY g t x1 s.x2 s.z2 s.x3 s.z3 h1 hs.1 hs.2.1 hs.2.2.1 hs.2.2.2 w hb
theorem Qcc {P:Program} {C:World→Prop} {a:Act} {o:Oper} {K:Act→Prop} (t:TypeId) (parts:Array (Nat×Operand)) (ho:o.op= .build t parts) (vs:List Value) (hb:P.built t (parts.map fun (i,x)=>(i,a.eval x)).toList=some vs.toArray)
 (h:K (a.put o.dst (.agg vs.toArray))):o.quiet P a C K:=
 ⟨.agg vs.toArray,fun w hw=>by
   unfold Oper.quietAt execOp
   simp only[ho,Sem.run_bind,run_build w t _ _ hb,Result.andThen_ok]
   exact⟨rfl,rfl⟩,h⟩
theorem Qhs (a0 a1 a2 a3 b0 b1 b2 b3 c0 c1 c2 c3 d0 d1 d2 d3:Value):
 Program.built Tryz.prog 377 [(0,.agg #[a0,a1,a2,a3]),(1,.agg #[b0,b1,b2,b3]),(3,.agg #[c0,c1,c2,c3]),(4,.agg #[d0,d1,d2,d3])]=some #[a0,a1,a2,a3,b0,b1,b2,b3,.int .u64 0,.int .u64 0,.int .u64 0,.int .u64 0,c0,c1,c2,c3,d0,d1,d2,d3]:=by kernel_rfl
theorem QlC (x1:Nat):Program.built Tryz.prog 377 [(0,E x1),(1,E 1),(3,E x1),(4,E 1)]=some (LL x1 ⟨1,0,x1,1⟩).toArray:=by
 show _=some (EL x1++(EL 1++(EL 0++(EL x1++EL 1)))).toArray
 rw[E,E,QcZ x1,QcZ 1,QcZ 0]
 exact Qhs ..
theorem Qmv (us:List UInt8):Qco us<T256:=by
 unfold Qco
 split
 ·exact QDG (QC8 _ Qbd) (show P25<T256 by decide)
 ·exact show 0<T256 by decide
theorem Qsr:num (QCC 32 0)=0:=by decide +kernel
theorem QkG:nb 0=QCC 32 0:=by decide +kernel
theorem Qqg (q:Nat) (h:q<T256):(nb q==QCC 32 0)=decide (q=0):=by
 rw[QDw,beq_iff_eq,decide_eq_true_eq]
 constructor
 ·intro e
  rw[←QvS q h,e,Qsr]
 ·rintro rfl
  exact QkG
theorem Qit (a0 a1 a2 a3 b0 b1 b2 b3:Value):
 Program.built Tryz.prog 379 [(0,.agg #[a0,a1,a2,a3]),(1,.agg #[b0,b1,b2,b3])]=some #[a0,a1,a2,a3,b0,b1,b2,b3]:=by kernel_rfl
theorem Qib (a b:Nat):Program.built Tryz.prog 379 [(0,E a),(1,E b)]=some (EL a++EL b).toArray:=by
 rw[E,E,QcZ a,QcZ b]
 exact Qit ..
theorem Qh1 (x1:Nat) (s:Lad):(LL x1 s).length=20:=QeR ..
theorem QzH (x1:Nat) (s:Lad):∀v∈LL x1 s,v.oneCell'=true:=by
 intro v hv
 simp only[LL,L5,QD3]at hv
 rcases hv with h|h|h|h|h<;>exact Qon _ v h
set_option maxRecDepth 100000 in
set_option maxHeartbeats 4000000 in
theorem QhF (A B:Option Addr) (n c m d:Nat) (ks us:List UInt8) (w:World) (hk:RdB w A n ks) (hu:RdB w B m us) (hn:n≤140737488355328) (hm:m≤140737488355328):
 Calls Tryz.prog 107 #[.slice A n c,.slice B m d] w fun e w'=>e= .returned (.tuple #[.agg ((Qbe ks us).map W8).toArray,.int .i64 (Qbf ks us:Nat)])∧Later w w':=by
 have hkl:=hk.len
 have hul:=hu.len
 have hb0:=Blk.new w 25 (QCC 32 (Value.int .u8 0))
 have L0:=Qaa w (.cells (QCC 32 (Value.int .u8 0)).toArray 25)
 have hcl:=Qbs ks
 have cK:=hid (fun w h=>Qsq A n c ks w h hn)
 have cU:=hid (fun w h=>Qn5 B m d us w h hm)
 by_cases hn32:n=32
 ·subst hn32
  have eK:QbW ks=0:=by rw[QbW,if_pos (by omega)]
  rw[eK]at cK
  have hK:=hid (show QaL ks=QaL ks from rfl)
  by_cases hm32:m=32
  ·subst hm32
   have eU:QbW us=0:=by rw[QbW,if_pos (by omega)]
   rw[eU]at cU
   have hx:=Qmv us
   have hQ:=hid (show QiV ks us=fmul (Lad.at (Qco us) (QaL ks) 255).x2 (pinv (Lad.at (Qco us) (QaL ks) 255).z2) from rfl)
   generalize QaL ks=K at *
   generalize Qco us=x1 at *
   go_enter Tryz.func107,Tryz.ntmps107
   go_wp2_with fail
   generalize hW:w.alloc _=w0
   replace L0:Later w w0:=by rw[←hW];exact Qaa _ _
   replace hb0:Blk w0 w.heap.size 25 (QCC 32 (Value.int .u8 0)):=by rw[←hW];exact Blk.new w 25 (QCC 32 (Value.int .u8 0))
   have hs0:w.heap.size<w0.heap.size:=hb0.lt
   clear hW
   (with_reducible refine (cK.out _ (hk.later L0)).mono ?_);rintro e w1 ⟨rfl,hl1⟩
   replace hb0:=hb0.later hl1
   replace L0:=L0.trans hl1
   go_wp2_with (first
    | (refine QaG rfl rfl _ _ rfl (Blk.new w1 _ (QCC 32 (.int .u8 0))) rfl rfl hcl rfl ?_;intro w2 hb2 ho2)
    | fail)
   replace hb0:=(hb0.later (Qaa w1 (.cells (QCC 32 (.int .u8 0)).toArray 25))).only ho2 (by have:=hb0.lt;omega)
   replace L0:=(L0.trans (Qaa w1 (.cells (QCC 32 (.int .u8 0)).toArray 25))).only ho2 (by have:=L0.size;omega)
   have hg6:w.heap.size≠w1.heap.size:=by have:=hl1.size;omega
   clear ho2 hl1
   (with_reducible refine (cU.out _ (hu.later L0)).mono ?_);rintro e w3 ⟨rfl,hl3⟩
   replace hb0:=hb0.later hl3
   replace hb2:=hb2.later hl3
   replace L0:=L0.trans hl3
   go_wp2_with (first
    | (refine QaA rfl rfl _ _ rfl (Blk.new w3 _ (QCC 4 (.int .u64 0))) rfl rfl rfl ?_;intro w4 hb4 ho4)
    | fail)
   replace hb0:=(hb0.later (Qaa w3 (.cells (QCC 4 (.int .u64 0)).toArray 360))).only ho4 (by have:=hb0.lt;omega)
   replace hb2:=(hb2.later (Qaa w3 (.cells (QCC 4 (.int .u64 0)).toArray 360))).only ho4 (by have:=hb2.lt;omega)
   replace L0:=(L0.trans (Qaa w3 (.cells (QCC 4 (.int .u64 0)).toArray 360))).only ho4 (by have:=L0.size;omega)
   clear ho4 hl3
   refine Qay [0,2] [([],1,1),([],1,3),([4],2,5)] [] [6] [5] (fun _=>(fun g=>.pointer (some ⟨g,0,none⟩),.cells (QCC 20 (Value.int .u64 0)).toArray 377)) (by as_aux_lemma=>kernel_rfl) (by as_aux_lemma=>kernel_rfl) (by intro _ _ d _ _ h;cases d<;>exact h) (by intro _ _ d _ _ h;cases d<;>exact h) ?_
   simp only[pick,QCD,QCE,QCG,QCI,QCH]
   repeat (first|go_big_quiet_skip|(go_big_quiet_want;(refine QcC _ rfl hb4.drew rfl ?_);simp only[Act.put,QCL,QCO,QCN];go_big_quiet_on)|(go_big_quiet_step (fail)))
   refine wpQuiet_nil ?_
   refine⟨?mk,?_⟩
   case mk=>
    refine⟨fun o ho=>?_,trivial⟩
    simp only[QCD,QCE,Option.some.injEq]at ho
    subst ho
    refine⟨rfl,fun W=>?_⟩
    unfold execOp
    simp[go_sem]
   simp only[Qbi,pick,QCD,QCE,QCG,QCI,QCH]
   refine wpQuiet_nil ?_
   intro v1 j1
   go_wp2_with fail
   (with_reducible refine (of_1 _).mono ?_);rintro e v2 ⟨rfl,j2⟩
   go_wp2_with fail
   try refine⟨by first|assumption|exact Qab _|exact Qaa _ _|exact Later.refl _,?_⟩
   try simp only[Qah,pick,QCD,QCE,QCG,QCI,QCH]
   repeat (go_big_quiet_step (fail))
   refine wpQuiet_nil ?_
   intro v3 j3
   go_wp2_with fail
   (with_reducible refine (of_1 _).mono ?_);rintro e v4 ⟨rfl,j4⟩
   go_wp2_with fail
   try refine⟨by first|assumption|exact Qab _|exact Qaa _ _|exact Later.refl _,?_⟩
   try simp only[Qbi,pick,QCD,QCE,QCG,QCI,QCH]
   go_big_quiet_want
   refine Qcc _ _ rfl (LL x1 ⟨1,0,x1,1⟩) (by simp only[QCT,QC9,QC3];exact QlC x1) ?_
   simp only[Act.put,QCL,QCO,QCN]
   go_big_quiet_on
   refine wpQuiet_nil ?_
   intro v5 gl j5 hgl _ hb5
   simp only[QD1,Act.put,QCL,QCO,QCN]
   refine wpQuiet_nil ?_
   intro v6 j6
   replace hb5:Blk v5 gl 377 (QCC 20 (Value.int .u64 0)):=hb5
   refine Qaf rfl rfl _ _ _ rfl gl 0 _ _ (LL x1 ⟨1,0,x1,1⟩) (hb5.later j6) rfl rfl (by rw[Qh1];kernel_rfl) (by simp[Qh1]) (QzH _ _) ?_
   intro v7 hb7 ho7
   rw[Qak _ _ (by simp[Qh1])]at hb7
   have j:=(((((Qab w4).trans j1).trans j2).trans j3).trans j4).trans (j5.trans j6)
   have hlt0:=hb0.lt
   have hlt2:=hb2.lt
   have hw:=L0.size
   replace hb0:=(hb0.later j).only ho7 (by omega)
   replace hb2:=(hb2.later j).only ho7 (by omega)
   replace L0:=(L0.trans j).only ho7 (by omega)
   have hgl0:w.heap.size≠gl:=by omega
   have hgl2:w1.heap.size≠gl:=by omega
   have hgl3:w.heap.size≤gl:=by omega
   generalize w1.heap.size=g6 at *
   clear ho7 j j1 j2 j3 j4 j5 j6 hb5 hgl hb4 hlt0 hlt2 hw cK cU hs0
   go_wp2_with fail
   go_loopw [10] (fun i wr=>∃k:Nat,k≤255∧i= .int .i64 (dn k)∧Blk wr w.heap.size 25 (QCC 32 (Value.int .u8 0))∧Blk wr g6 25 (K.map W8)∧Blk wr gl 377 (LL x1 (Lad.at x1 K (255-k)))∧Later w wr) (fun i _=>(intOf i+1).toNat)
   case atStart=>exact⟨255,by omega,rfl,hb0,hb2,hb7,L0⟩
   case round=>
    clear hb0 hb2 hb7 L0
    obtain⟨k,hk,rfl,hb0,hb2,hb7,L0⟩:=hrel
    cases k with
    | zero=>
      simp only[Qkl]
      have hok:=Lad.at_ok x1 K hx 255
      rw[show 255-0=255 from rfl]at hb7
      have hMB:=hid (show Qbe ks us=nb (QiV ks us) by rw[Qbe,if_pos ⟨hkl,hul⟩])
      have hME:=hid (show Qbf ks us=if QiV ks us=0 then 5 else 0 by rw[Qbf,if_pos ⟨hkl,hul⟩])
      rw[hQ.out]at hMB hME
      generalize Lad.at x1 K 255=S at *
      have hQP:fmul S.x2 (pinv S.z2)<P25:=QC8 _ Qbd
      have hv:=hid (QqY S.x2 S.z2 hok.1 hok.2.1)
      generalize fmul S.x2 (pinv S.z2)=Q at *
      have hQT:Q<T256:=QDG hQP (by decide)
      obtain⟨y,hy⟩:=Qzi (QbS Q)
      obtain⟨z,hz⟩:=Qzi (show (QCC 32 (0:UInt8)).length=32 by simp)
      have hBy:Hid (∀ w,Calls Tryz.prog 157 #[E Q] w fun e w'=>e= .returned (.agg (y.val.map W8).toArray)∧Later w w'):=hid (by
       intro w
       have:=Qiz Q hQT w
       rwa [QC1 hQP,BB,←hy]at this)
      have hcmp:(y.val==z.val)=decide (Q=0):=by rw[hy,hz];exact Qqg Q hQT
      have hyl:=y.2
      have hzl:=z.2
      rw[←hy]at hMB
      have hQ0:=hid (show Q=0→y.val=z.val by rintro rfl;rw[hy,hz];exact QkG)
      have hZ:=hid hz
      clear hy hz hQ
      by_cases hq:Q=0
      ·have hd:(y.val==z.val)=true:=by rw[hcmp,hq];rfl
       have hyz:=hid (hQ0.out hq)
       rw[hq]at hME
       clear hcmp hq hQ0
       go_wp2_with (first
        | (refine Qkg rfl _ rfl hb7 (fun j v hv=>L5_1 _ _ _ _ _ j v hv) rfl ?_)
        | (refine Qkg rfl _ rfl hb7 (fun j v hv=>L5_2 _ _ _ _ _ j v hv) rfl ?_)
        | (refine Qam rfl 379 _ rfl (EL S.x2++EL S.z2) ?hb ?_;(case hb=>simp only[QCT,QC9,QC3];exact Qib S.x2 S.z2))
        | (go_at_call 175;(with_reducible refine (hv.out _).mono ?_);rintro e w5 ⟨rfl,hl5⟩)
        | (go_at_call 157;(with_reducible refine (hBy.out _).mono ?_);rintro e w6 ⟨rfl,hl6⟩)
        | (refine QaG rfl rfl _ _ rfl (Blk.new w6 _ (QCC 32 (.int .u8 0))) rfl rfl hyl rfl ?_;intro w7 hb8 ho8)
        | (refine QeM rfl _ rfl hb8 hyl rfl ?_)
        | (refine Qam rfl 25 _ rfl (z.val.map W8) ?hb ?_;(case hb=>rw[hZ.out];kernel_rfl))
        | (refine QaG rfl rfl _ _ rfl (((hb0.later (hl5.trans hl6)).later (Qaa w6 (.cells (QCC 32 (.int .u8 0)).toArray 25))).only ho8 (by have:=(hb0.later (hl5.trans hl6)).lt;omega)) rfl rfl hzl rfl ?_;intro w9 hb9 ho9)
        | fail)
       exact bodyPost_ret (Qai rfl _ _ _ _ _ _ hb9 rfl Tryz.underlying25 rfl (by rw[QCF,hzl];exact Qba)) rfl ⟨by rw[hMB.out,hME.out,hyz.out];rfl,(((L0.trans (hl5.trans hl6)).alloc (.cells (QCC 32 (.int .u8 0)).toArray 25)).only ho8 (by have:=(L0.trans (hl5.trans hl6)).size;omega)).only ho9 (by omega)⟩
      ·have hd:(y.val==z.val)=false:=by rw[hcmp];simp[hq]
       rw[if_neg hq]at hME
       clear hcmp
       go_wp2_with (first
        | (refine Qkg rfl _ rfl hb7 (fun j v hv=>L5_1 _ _ _ _ _ j v hv) rfl ?_)
        | (refine Qkg rfl _ rfl hb7 (fun j v hv=>L5_2 _ _ _ _ _ j v hv) rfl ?_)
        | (refine Qam rfl 379 _ rfl (EL S.x2++EL S.z2) ?hb ?_;(case hb=>simp only[QCT,QC9,QC3];exact Qib S.x2 S.z2))
        | (go_at_call 175;(with_reducible refine (hv.out _).mono ?_);rintro e w5 ⟨rfl,hl5⟩)
        | (go_at_call 157;(with_reducible refine (hBy.out _).mono ?_);rintro e w6 ⟨rfl,hl6⟩)
        | (refine QaG rfl rfl _ _ rfl (Blk.new w6 _ (QCC 32 (.int .u8 0))) rfl rfl hyl rfl ?_;intro w7 hb8 ho8)
        | (refine QeM rfl _ rfl hb8 hyl rfl ?_)
        | (refine Qam rfl 25 _ rfl (z.val.map W8) ?hb ?_;(case hb=>rw[hZ.out];kernel_rfl))
        | (refine QaG rfl rfl _ _ rfl (((hb0.later (hl5.trans hl6)).later (Qaa w6 (.cells (QCC 32 (.int .u8 0)).toArray 25))).only ho8 (by have:=(hb0.later (hl5.trans hl6)).lt;omega)) rfl rfl hyl rfl ?_;intro w9 hb9 ho9)
        | fail)
       exact bodyPost_ret (Qai rfl _ _ _ _ _ _ hb9 rfl Tryz.underlying25 rfl (by rw[QCF,hyl];exact Qba)) rfl ⟨by rw[hMB.out,hME.out];rfl,(((L0.trans (hl5.trans hl6)).alloc (.cells (QCC 32 (.int .u8 0)).toArray 25)).only ho8 (by have:=(L0.trans (hl5.trans hl6)).size;omega)).only ho9 (by omega)⟩
    | succ k=>
      have d0:=hb2.cellD (k/8) (u:=W8 (K.getD (k/8) 0)) (by rw[QCY,QCK,QCJ (by omega)];rfl)
      have hcnt:cnt (QDC ((k:Int)%8))=k%8:=by
       rw[show ((k:Int)%8)=((k%8:Nat):Int) by omega,Qfi,cnt,tn64 (by unfold B64;omega)]
      have hbe:=QrF (K.getD (k/8) 0) (k%8)
      have hst:Lad.at x1 K (255-k)=(Lad.at x1 K (254-k)).round x1 (kbit K k):=by
       rw[show 255-k=(254-k)+1 by omega,Lad.at,show 254-(254-k)=k by omega]
      have hkb:kbit K k=(shr8 (K.getD (k/8) 0) (k%8) &&& 1==1):=by rw[hbe];rfl
      generalize K.getD (k/8) 0=kb at *
      have hok:=Lad.at_ok x1 K hx (254-k)
      rw[show 255-(k+1)=254-k by omega]at hb7
      generalize Lad.at x1 K (254-k)=S at *
      have HST:=hid hst
      clear hst hbe
      simp only[Qkp]
      cases hb:kbit K k with
      | false=>
        rw[hb]at hkb HST
        have hd:=hkb.symm
        clear hkb
        go_wp2_with fail
        (with_reducible refine (Qv9 gl _ x1 S hx hok _ hb7).mono ?_);rintro e w5 ⟨rfl,hb8,ho8⟩
        go_wp2_with fail
        go_roundw
        case rel=>exact⟨k,by omega,by rw[QeU],hb0.only ho8 hgl0,hb2.only ho8 hgl2,by rw[HST.out];exact hb8,L0.only ho8 hgl3⟩
        case measure=>simp[intOf]
      | true=>
        rw[hb]at hkb HST
        have hd:=hkb.symm
        clear hkb
        go_wp2_with fail
        (with_reducible refine (Qjo gl _ x1 S _ hb7).mono ?_);rintro e w5 ⟨rfl,hb8,ho8⟩
        go_wp2_with fail
        (with_reducible refine (Qv9 gl _ x1 S.swap hx (Lad.swap_ok hok) _ hb8).mono ?_);rintro e w6 ⟨rfl,hb9,ho9⟩
        go_wp2_with fail
        (with_reducible refine (Qjo gl _ x1 (S.swap.step x1) _ hb9).mono ?_);rintro e w7 ⟨rfl,hb10,ho10⟩
        go_wp2_with fail
        go_roundw
        case rel=>exact⟨k,by omega,by rw[QeU],((hb0.only ho8 hgl0).only ho9 hgl0).only ho10 hgl0,((hb2.only ho8 hgl2).only ho9 hgl2).only ho10 hgl2,by rw[HST.out];exact hb10,((L0.only ho8 hgl3).only ho9 hgl3).only ho10 hgl3⟩
        case measure=>simp[intOf]
  ·have eU:QbW us=2:=by rw[QbW,if_neg (by omega)]
   rw[eU]at cU
   have hMB:=hid (show Qbe ks us=QCC 32 0 by rw[Qbe,if_neg (by omega)])
   have hME:=hid (show Qbf ks us=2 by rw[Qbf,if_neg (by omega)])
   generalize QaL ks=K at *
   generalize Qco us=x1 at *
   go_enter Tryz.func107,Tryz.ntmps107
   go_wp2_with fail
   generalize hW:w.alloc _=w0
   replace L0:Later w w0:=by rw[←hW];exact Qaa _ _
   replace hb0:Blk w0 w.heap.size 25 (QCC 32 (Value.int .u8 0)):=by rw[←hW];exact Blk.new w 25 (QCC 32 (Value.int .u8 0))
   clear hW
   (with_reducible refine (cK.out _ (hk.later L0)).mono ?_);rintro e w1 ⟨rfl,hl1⟩
   replace hb0:=hb0.later hl1
   replace L0:=L0.trans hl1
   go_wp2_with (first
    | (refine QaG rfl rfl _ _ rfl (Blk.new w1 _ (QCC 32 (.int .u8 0))) rfl rfl hcl rfl ?_;intro w2 hb2 ho2)
    | fail)
   replace hb0:=(hb0.later (Qaa w1 (.cells (QCC 32 (.int .u8 0)).toArray 25))).only ho2 (by have:=hb0.lt;omega)
   replace L0:=(L0.trans (Qaa w1 (.cells (QCC 32 (.int .u8 0)).toArray 25))).only ho2 (by have:=L0.size;omega)
   clear ho2 hl1
   (with_reducible refine (cU.out _ (hu.later L0)).mono ?_);rintro e w3 ⟨rfl,hl3⟩
   replace hb0:=hb0.later hl3
   replace L0:=L0.trans hl3
   go_wp2_with (first
    | (refine QaA rfl rfl _ _ rfl (Blk.new w3 _ (QCC 4 (.int .u64 0))) rfl rfl rfl ?_;intro w4 hb4 ho4
       have hb04:=(hb0.later (Qaa w3 (.cells (QCC 4 (.int .u64 0)).toArray 360))).only ho4 (by have:=hb0.lt;omega)
       have L04:=(L0.trans (Qaa w3 (.cells (QCC 4 (.int .u64 0)).toArray 360))).only ho4 (by have:=L0.size;omega))
    | (refine Qam rfl 25 _ rfl (QCC 32 (W8 0)) ?hb ?_;(case hb=>kernel_rfl))
    | (refine QaG (bs:=QCC 32 0) rfl rfl _ _ rfl hb04 rfl (by kernel_rfl) rfl rfl ?_;intro w9 hb9 ho9)
    | fail)
   exact bodyPost_ret (Qai rfl _ _ _ _ _ _ hb9 rfl Tryz.underlying25 rfl (by rw[QCF,QCS];exact Qba)) rfl ⟨by rw[hMB.out,hME.out];rfl,L04.only ho9 (by omega)⟩
 ·have eK:QbW ks=2:=by rw[QbW,if_neg (by omega)]
  rw[eK]at cK
  have hMB:=hid (show Qbe ks us=QCC 32 0 by rw[Qbe,if_neg (by omega)])
  have hME:=hid (show Qbf ks us=2 by rw[Qbf,if_neg (by omega)])
  generalize QaL ks=K at *
  go_enter Tryz.func107,Tryz.ntmps107
  go_wp2_with fail
  generalize hW:w.alloc _=w0
  replace L0:Later w w0:=by rw[←hW];exact Qaa _ _
  replace hb0:Blk w0 w.heap.size 25 (QCC 32 (Value.int .u8 0)):=by rw[←hW];exact Blk.new w 25 (QCC 32 (Value.int .u8 0))
  clear hW
  (with_reducible refine (cK.out _ (hk.later L0)).mono ?_);rintro e w1 ⟨rfl,hl1⟩
  replace hb0:=hb0.later hl1
  replace L0:=L0.trans hl1
  go_wp2_with (first
   | (refine QaG rfl rfl _ _ rfl (Blk.new w1 _ (QCC 32 (.int .u8 0))) rfl rfl hcl rfl ?_;intro w2 hb2 ho2
      have hb02:=(hb0.later (Qaa w1 (.cells (QCC 32 (.int .u8 0)).toArray 25))).only ho2 (by have:=hb0.lt;omega)
      have L02:=(L0.trans (Qaa w1 (.cells (QCC 32 (.int .u8 0)).toArray 25))).only ho2 (by have:=L0.size;omega))
   | (refine Qam rfl 25 _ rfl (QCC 32 (W8 0)) ?hb ?_;(case hb=>kernel_rfl))
   | (refine QaG (bs:=QCC 32 0) rfl rfl _ _ rfl hb02 rfl (by kernel_rfl) rfl rfl ?_;intro w9 hb9 ho9)
   | fail)
  exact bodyPost_ret (Qai rfl _ _ _ _ _ _ hb9 rfl Tryz.underlying25 rfl (by rw[QCF,QCS];exact Qba)) rfl ⟨by rw[hMB.out,hME.out];rfl,L02.only ho9 (by omega)⟩
theorem Ql3 {ks us:List UInt8} (h:Qbf ks us=0):ks.length=32∧us.length=32:=by
 unfold Qbf at h
 split at h
 ·assumption
 ·cases h
end Go.Proofs.YticcbmhcgmhohaaGreat
