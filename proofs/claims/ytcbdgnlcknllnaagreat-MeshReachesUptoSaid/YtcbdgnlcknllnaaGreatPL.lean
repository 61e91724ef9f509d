/-
  Lemmas for the last text of this claim (part 12 of 20).
-/
import Derived.BigQuiet
import Derived.BigRegion
import Derived.ChangeOld
import Derived.Deep.RegionWith
import Derived.DeepKeys4
import Derived.JoinedCond
import Derived.LaidMore
import Derived.Laws.CopyOwn
import Derived.Laws.Externs
import Derived.Laws.IdiomStrings
import Derived.Laws.Tables
import Derived.Lib.AppendStr
import Derived.Lib.AppendZerosOnto
import Derived.Lib.Mul64
import Derived.Lib.SlBytesConst
import Derived.LoopN
import Derived.Maps.OwnSet
import Derived.OpenShut
import Derived.OrdersHeld
import Derived.ProofKit
import Derived.Shelf.Spec.BitsCarry
import Derived.ShutString
import Derived.Test.YtcbdgnlcknllnaaGreatProg
import Derived.Test.YtcbdgnlcknllnaaGreatRows
import Derived.WalkKit
import Derived.WalkLawsBesides
import Derived.WalkSpells
import Derived.Test.YtcbdgnlcknllnaaGreatPE
import Derived.Test.YtcbdgnlcknllnaaGreatPH
open Bool renaming eq_iff_iff → QGk
open List renaming replicate → QFu, getElem?_cons_succ → QFv, getElem?_cons_zero → QFw, cons_append → QFy, nil_append → QFz, length_map → QFA, getElem?_eq_getElem → QFB, getD_eq_getElem?_getD → QFC, setIfInBounds_toArray → QFD, set_cons_zero → QFG, set_cons_succ → QFH, map_toArray → QFI, take_of_length_le → QFJ, getElem?_append_right → QFK, length_replicate → QFM, getElem?_map → QFN, mem_cons → QFP, map_nil → QFR, getElem?_append_left → QFS, getElem?_eq_some_iff → QFU, map_cons → QFW, mem_append → QGC, map_set → QHO
open Nat renaming mod_eq_of_lt → QFT, zero_add → QFX, mod_lt → QF1, lt_trans → QGx, mul_comm → QGF, mul_mod → QGT, pow_add → QGW, mod_mod → QG3, add_comm → QHr, zero_mod → QHC, add_mod → QHL
open Option renaming toList_some → QFx, bind_some → QGD
open UInt64 renaming ofInt → QGH
open UInt8 renaming toNat_inj → QGl
namespace Go.Proofs.YtcbdgnlcknllnaaGreat
open Go.RowKit
open Go.BigFrame
def fadd (a b:Nat):Nat:=(a+b)%P25
def fsub (a b:Nat):Nat:=(a+(P25-b%P25))%P25
def fmul (a b:Nat):Nat:=a*b%P25
def L5 (a b c d e:Nat):List Value:=EL a++(EL b++(EL c++(EL d++EL e)))
theorem QfO (a b c d e:Nat):(L5 a b c d e).length=20:=by simp[L5,Qam]
theorem L5_0 (a b c d e j:Nat) (v:Value) (h:(EL a)[j]?=some v):(L5 a b c d e)[0+j]?=some v:=by
 have hj:j<4:=by have:=(QFU.1 h).1;rwa [Qam]at this
 rw[QFX,L5,QFS (by rw[Qam];exact hj)]
 exact h
theorem L5_1 (a b c d e j:Nat) (v:Value) (h:(EL b)[j]?=some v):(L5 a b c d e)[4+j]?=some v:=by
 have hj:j<4:=by have:=(QFU.1 h).1;rwa [Qam]at this
 rw[L5,QFK (by rw[Qam];omega),Qam,QFS (by rw[Qam];omega),show 4+j-4=j by omega]
 exact h
theorem L5_2 (a b c d e j:Nat) (v:Value) (h:(EL c)[j]?=some v):(L5 a b c d e)[8+j]?=some v:=by
 have hj:j<4:=by have:=(QFU.1 h).1;rwa [Qam]at this
 rw[L5,QFK (by rw[Qam];omega),Qam,QFK (by rw[Qam];omega),Qam,QFS (by rw[Qam];omega),show 8+j-4-4=j by omega]
 exact h
theorem L5_3 (a b c d e j:Nat) (v:Value) (h:(EL d)[j]?=some v):(L5 a b c d e)[12+j]?=some v:=by
 have hj:j<4:=by have:=(QFU.1 h).1;rwa [Qam]at this
 rw[L5,QFK (by rw[Qam];omega),Qam,QFK (by rw[Qam];omega),Qam,QFK (by rw[Qam];omega),Qam,QFS (by rw[Qam];omega),show 12+j-4-4-4=j by omega]
 exact h
theorem L5_4 (a b c d e j:Nat) (v:Value) (h:(EL e)[j]?=some v):(L5 a b c d e)[16+j]?=some v:=by
 rw[L5,QFK (by rw[Qam];omega),Qam,QFK (by rw[Qam];omega),Qam,QFK (by rw[Qam];omega),Qam,QFK (by rw[Qam];omega),Qam,show 16+j-4-4-4-4=j by omega]
 exact h
theorem QAu (a b c d e n:Nat):Qat (L5 a b c d e) 4 (EL n)=L5 a n c d e:=by
 simp only[L5,Qdi,Qat]
 rfl
theorem QAU (a b c d e n:Nat):Qat (L5 a b c d e) 8 (EL n)=L5 a b n d e:=by
 simp only[L5,Qdi,Qat]
 rfl
theorem QAd (a b c d e n:Nat):Qat (L5 a b c d e) 12 (EL n)=L5 a b c n e:=by
 simp only[L5,Qdi,Qat]
 rfl
theorem QzS (a b c d e n:Nat):Qat (L5 a b c d e) 16 (EL n)=L5 a b c d n:=by
 simp only[L5,Qdi,Qat]
 rfl
section
variable {ops:Array Oper} {rest:List Oper} {o:Oper} {a:Act} {w:World} {Q:Exit→Act→World→Prop}
theorem QlH (hw:Region.wanted o (yielded ops a.tmps)=true) (x:Operand) (ho:o.op= .load 228 x) {g off:Nat} {t:TypeId} {l:List Value} {n:Nat} (hb:Blk w g t l) (hl:∀j v,(EL n)[j]?=some v→l[off+j]?=some v) (hx:a.eval x= .pointer (some ⟨g,off,none⟩))
 (h:wpList Tryz.prog ops Q rest (a.put o.dst (E n)) w):wpList Tryz.prog ops Q (o :: rest) a w:=
 wpList_want hw fun K hK=>by
  unfold Oper.wp
  simp only[execOp,ho,hx,Instr.loadAt,Instr.sureAddr,Sem.run_bind,Sem.run_pure,Result.andThen_ok,Qby w g off 228 (EL n) _ (fun j v hv=>hb.cellD _ (hl j v hv)) Tryz.underlying228 rfl (by rw[Qam];exact QhP)]
  exact hK _ _ h
theorem Qiw (hgd:o.guard=none) (hd:o.dst=none) (x y:Operand) (ho:o.op= .store 228 x y) {g off:Nat} {t:TypeId} {l:List Value} {n:Nat} (hg:Blk w g t l) (hx:a.eval x= .pointer (some ⟨g,off,none⟩)) (hy:a.eval y=E n) (hl:off+4≤l.length)
 (h:∀w',Blk w' g t (Qat l off (EL n))→Only g w w'→wpList Tryz.prog ops Q rest a w'):wpList Tryz.prog ops Q (o :: rest) a w:=
 Qai hgd hd _ x y ho g off t l _ hg hx hy (by rw[Qam];exact QhP) (by rw[Qam];exact hl) (Qp4 n) h
theorem Qfc {K:Act→Prop} (x:Operand) (ho:o.op= .load 228 x) {w0:World} {g off:Nat} {t:TypeId} {l:List Value} {n:Nat} (hb:Blk w0 g t l) (hl:∀j v,(EL n)[j]?=some v→l[off+j]?=some v) (hx:a.eval x= .pointer (some ⟨g,off,none⟩)) (h:K (a.put o.dst (E n))):
 o.quiet Tryz.prog a (fun w'=>∃x,w'=grow w0 x) K:=
 QaP _ x ho g off (EL n) (fun w' hw j v hv=>by obtain⟨y,rfl⟩:=hw;exact (hb.later ⟨y,rfl⟩).cellD _ (hl j v hv)) hx _ Tryz.underlying228 rfl (by rw[Qam];exact QhP) h
end
end Go.Proofs.YtcbdgnlcknllnaaGreat
namespace Go.Proofs.YtcbdgnlcknllnaaGreat
open Go.RowKit
set_option maxRecDepth 100000 in
set_option maxHeartbeats 8000000 in
theorem Qnn (g:Nat) (t:TypeId) (x1 x2 z2 x3 z3:Nat) (w:World) (hb:Blk w g t (L5 x1 x2 z2 x3 z3)):
 Calls Tryz.prog 112 #[.pointer (some ⟨g,0,none⟩)] w fun e w'=>e= .returned (.tuple #[])∧Blk w' g t (L5 x1 x3 z3 x2 z2)∧Only g w w':=by
 have e0:L5 x1 x2 z2 x3 z3=[n64 (lim x1 0),n64 (lim x1 1),n64 (lim x1 2),n64 (lim x1 3),n64 (lim x2 0),n64 (lim x2 1),n64 (lim x2 2),n64 (lim x2 3),n64 (lim z2 0),n64 (lim z2 1),n64 (lim z2 2),n64 (lim z2 3),n64 (lim x3 0),n64 (lim x3 1),n64 (lim x3 2),n64 (lim x3 3),n64 (lim z3 0),n64 (lim z3 1),n64 (lim z3 2),n64 (lim z3 3)]:=by simp only[L5,Qdi];rfl
 have hb':=hb
 rw[e0]at hb'
 have HB:=hid hb'
 clear e0 hb
 have c4:=hb'.cellD 4 rfl;have c5:=hb'.cellD 5 rfl;have c6:=hb'.cellD 6 rfl;have c7:=hb'.cellD 7 rfl
 have c8:=hb'.cellD 8 rfl;have c9:=hb'.cellD 9 rfl;have c10:=hb'.cellD 10 rfl;have c11:=hb'.cellD 11 rfl
 have c12:=hb'.cellD 12 rfl;have c13:=hb'.cellD 13 rfl;have c14:=hb'.cellD 14 rfl;have c15:=hb'.cellD 15 rfl
 have c16:=hb'.cellD 16 rfl;have c17:=hb'.cellD 17 rfl;have c18:=hb'.cellD 18 rfl;have c19:=hb'.cellD 19 rfl
 have f4:=hb'.frozen 4;have f5:=hb'.frozen 5;have f6:=hb'.frozen 6;have f7:=hb'.frozen 7
 have f8:=hb'.frozen 8;have f9:=hb'.frozen 9;have f10:=hb'.frozen 10;have f11:=hb'.frozen 11
 have f12:=hb'.frozen 12;have f13:=hb'.frozen 13;have f14:=hb'.frozen 14;have f15:=hb'.frozen 15
 have f16:=hb'.frozen 16;have f17:=hb'.frozen 17;have f18:=hb'.frozen 18;have f19:=hb'.frozen 19
 clear hb'
 go_enter Tryz.func112,Tryz.ntmps112
 go_wp2_with fail
 go_region
 have hfin:=((((((((((((((((HB.out.set_ 4 (n64 (lim x3 0))).set_ 5 (n64 (lim x3 1))).set_ 6 (n64 (lim x3 2))).set_ 7 (n64 (lim x3 3))).set_ 8 (n64 (lim z3 0))).set_ 9 (n64 (lim z3 1))).set_ 10 (n64 (lim z3 2))).set_ 11 (n64 (lim z3 3))).set_ 12 (n64 (lim x2 0))).set_ 13 (n64 (lim x2 1))).set_ 14 (n64 (lim x2 2))).set_ 15 (n64 (lim x2 3))).set_ 16 (n64 (lim z2 0))).set_ 17 (n64 (lim z2 1))).set_ 18 (n64 (lim z2 2))).set_ 19 (n64 (lim z2 3))).drew
 have hon:=Only.later (c:=World.drew _) (((((((((((((((((World.grownBy.refl w _).trans (QaO _ g 4 (n64 (lim x3 0)))).trans (QaO _ g 5 (n64 (lim x3 1)))).trans (QaO _ g 6 (n64 (lim x3 2)))).trans (QaO _ g 7 (n64 (lim x3 3)))).trans (QaO _ g 8 (n64 (lim z3 0)))).trans (QaO _ g 9 (n64 (lim z3 1)))).trans (QaO _ g 10 (n64 (lim z3 2)))).trans (QaO _ g 11 (n64 (lim z3 3)))).trans (QaO _ g 12 (n64 (lim x2 0)))).trans (QaO _ g 13 (n64 (lim x2 1)))).trans (QaO _ g 14 (n64 (lim x2 2)))).trans (QaO _ g 15 (n64 (lim x2 3)))).trans (QaO _ g 16 (n64 (lim z2 0)))).trans (QaO _ g 17 (n64 (lim z2 1)))).trans (QaO _ g 18 (n64 (lim z2 2)))).trans (QaO _ g 19 (n64 (lim z2 3)))) (Qab _)
 have e1:L5 x1 x3 z3 x2 z2=[n64 (lim x1 0),n64 (lim x1 1),n64 (lim x1 2),n64 (lim x1 3),n64 (lim x3 0),n64 (lim x3 1),n64 (lim x3 2),n64 (lim x3 3),n64 (lim z3 0),n64 (lim z3 1),n64 (lim z3 2),n64 (lim z3 3),n64 (lim x2 0),n64 (lim x2 1),n64 (lim x2 2),n64 (lim x2 3),n64 (lim z2 0),n64 (lim z2 1),n64 (lim z2 2),n64 (lim z2 3)]:=by simp only[L5,Qdi];rfl
 clear HB c4 c5 c6 c7 c8 c9 c10 c11 c12 c13 c14 c15 c16 c17 c18 c19 f4 f5 f6 f7 f8 f9 f10 f11 f12 f13 f14 f15 f16 f17 f18 f19
 refine bodyPost_end (results_none rfl _ _ _) rfl ⟨rfl,?_,hon⟩
 rw[e1]
 exact hfin
end Go.Proofs.YtcbdgnlcknllnaaGreat
namespace Go.Proofs.YtcbdgnlcknllnaaGreat
open Go.RowKit
open Go.BigFrame
theorem Only.past {g j:Nat} {a b c:World} (h:Only g a b) (k:Only j b c) (hj:a.heap.size≤j):Only g a c:=
 World.grownBy.andThen h k (fun i e=>.inl (by injection e with e;omega))
theorem Qft (a b:Nat):fadd a b<T256:=QGx (QF1 _ Qbt) (by decide)
theorem Qfo (a b:Nat):fsub a b<T256:=QGx (QF1 _ Qbt) (by decide)
theorem QbO (a b:Nat):fmul a b<T256:=QGx (QF1 _ Qbt) (by decide)
theorem sum2 (x y:Nat) (hx:x<T256) (hy:y<T256) (w:World) (g:Nat) (hb:Blk w g 228 (EL x++EL y)):
 Calls Tryz.prog 133 #[.slice (some ⟨g,0,none⟩) 2 2] w fun e w'=>e= .returned (E (fadd x y))∧Later w w':=by
 have:=QAg (some ⟨g,0,none⟩) 2 2 [x,y] w (QvC [x,y] 2 hb (by simp) rfl) (by intro z hz;simp at hz;rcases hz with rfl|rfl;exact hx;exact hy) (by omega)
 rwa [show [x,y].sum=x+y by simp]at this
theorem Qf3 (x y:Nat) (hx:x<T256) (hy:y<T256) (w:World) (g:Nat) (hb:Blk w g 228 (EL x++EL y)):
 Calls Tryz.prog 136 #[.slice (some ⟨g,0,none⟩) 2 2] w fun e w'=>e= .returned (E (fmul x y))∧Later w w':=by
 have:=Qo5 (some ⟨g,0,none⟩) 2 2 [x,y] w (QvC [x,y] 2 hb (by simp) rfl) (by intro z hz;simp at hz;rcases hz with rfl|rfl;exact hx;exact hy) (by omega) (by omega)
 rwa [show Qfv [x,y]=x*y by simp[Qfv]]at this
theorem QlO (x:Nat) (hx:x<T256) (w:World):
 Calls Tryz.prog 135 #[E x] w fun e w'=>e= .returned (E (fmul x x))∧Later w w':=QhA x hx w
theorem sub2 (x y:Nat) (hx:x<T256) (hy:y<T256) (w:World):
 Calls Tryz.prog 134 #[E x,E y] w fun e w'=>e= .returned (E (fsub x y))∧Later w w':=QxB x y hx hy w
section
variable {ops:Array Oper} {o:Oper} {a:Act}
theorem Qf9 (hw:Region.wanted o (yielded ops a.tmps)=true) (x y:Operand) (ho:o.op= .buildSlice 279 2 #[(0,x),(1,y)]) (n m:Nat) (hx:a.eval x=E n) (hy:a.eval y=E m):
 Makes Tryz.prog ops o (fun g=>.slice (some ⟨g,0,none⟩) 2 2) (.cells (EL n++EL m).toArray 228) a:=
 ⟨hw,fun w=>by
   have hr:=Qkz n m w
   simp only[execOp,ho,QFI,QFW,QFR,hx,hy,Sem.run_bind,hr,Result.andThen_ok,Sem.run_pure]⟩
theorem Qdl (hw:Region.wanted o (yielded ops a.tmps)=true) (ho:o.op= .alloc 228):
 Makes Tryz.prog ops o (fun g=>.pointer (some ⟨g,0,none⟩)) (.cells (QFu 4 (.int .u64 0)).toArray 228) a:=
 ⟨hw,fun w=>by
   unfold execOp
   rw[ho]
   simp[go_sem]⟩
end
structure St (w0 wk:World) (g:Nat) (t:TypeId) (l:List Value) (ls:List (Nat×Nat)):Prop where
 only:Only g w0 wk
 blk:Blk wk g t l
 loc:∀p∈ls,Blk wk p.1 228 (EL p.2)∧w0.heap.size≤p.1
 gl:g<w0.heap.size
section
variable {w0 wk v:World} {g:Nat} {t:TypeId} {l:List Value} {ls:List (Nat×Nat)}
theorem St.nth (h:St w0 wk g t l ls) (i:Nat) {k n:Nat} (hi:ls[i]?=some (k,n)):Blk wk k 228 (EL n):=(h.loc (k,n) (List.mem_of_getElem? hi)).1
theorem St.later (h:St w0 wk g t l ls) (k:Later wk v):St w0 v g t l ls:=
 ⟨h.only.later k,h.blk.later k,fun p hp=>⟨(h.loc p hp).1.later k,(h.loc p hp).2⟩,h.gl⟩
theorem St.drew (h:St w0 wk g t l ls):St w0 wk.drew g t l ls:=h.later (Qab _)
theorem St.write {l':List Value} (h:St w0 wk g t l ls) (k:Only g wk v) (hb:Blk v g t l'):St w0 v g t l' ls:=
 ⟨h.only.trans k,hb,fun p hp=>⟨(h.loc p hp).1.only k (by have:=(h.loc p hp).2;have:=h.gl;omega),(h.loc p hp).2⟩,h.gl⟩
theorem St.one {v1:World} {k n:Nat} (h:St w0 wk g t l ls) (j:Later wk v) (hk:wk.heap.size≤k) (o:Only k v v1) (hb:Blk v1 k 228 (EL n)):St w0 v1 g t l ((k,n) :: ls):=by
 have h1:=h.later j
 have hs:=h.only.size
 refine⟨h1.only.past o (by omega),h1.blk.only o (by have:=h.blk.lt;omega),?_,h.gl⟩
 intro p hp
 rcases QFP.1 hp with rfl|hp
 ·exact⟨hb,by show w0.heap.size≤k;omega⟩
 ·exact⟨(h1.loc p hp).1.only o (by have:=(h.loc p hp).1.lt;omega),(h.loc p hp).2⟩
theorem St.two {v1 v2:World} {k1 k2 n1 n2:Nat} (h:St w0 wk g t l ls) (j:Later wk v) (hk1:wk.heap.size≤k1) (hk2:wk.heap.size≤k2) (hne:k1≠k2) (o1:Only k1 v v1) (hb1:Blk v1 k1 228 (EL n1)) (o2:Only k2 v1 v2) (hb2:Blk v2 k2 228 (EL n2)):St w0 v2 g t l ((k1,n1) :: (k2,n2) :: ls):=by
 have h1:=h.later j
 have hs:=h.only.size
 refine⟨(h1.only.past o1 (by omega)).past o2 (by omega),(h1.blk.only o1 (by have:=h.blk.lt;omega)).only o2 (by have:=h.blk.lt;omega),?_,h.gl⟩
 intro p hp
 rcases QFP.1 hp with rfl|hp
 ·exact⟨hb1.only o2 hne,by show w0.heap.size≤k1;omega⟩
 rcases QFP.1 hp with rfl|hp
 ·exact⟨hb2,by show w0.heap.size≤k2;omega⟩
 ·exact⟨((h1.loc p hp).1.only o1 (by have:=(h.loc p hp).1.lt;omega)).only o2 (by have:=(h.loc p hp).1.lt;omega),(h.loc p hp).2⟩
end
set_option maxRecDepth 100000 in
set_option maxHeartbeats 8000000 in
theorem Qn6 (g:Nat) (t:TypeId) (x1 x2 z2 x3 z3:Nat) (k1:x1<T256) (k2:x2<T256) (k3:z2<T256) (k4:x3<T256) (k5:z3<T256) (w:World) (hb:Blk w g t (L5 x1 x2 z2 x3 z3)):
 Calls Tryz.prog 113 #[.pointer (some ⟨g,0,none⟩)] w fun e w'=>e= .returned (.tuple #[])∧Blk w' g t (L5 x1
  (fmul (fmul (fadd x2 z2) (fadd x2 z2)) (fmul (fsub x2 z2) (fsub x2 z2)))
  (fmul (fsub (fmul (fadd x2 z2) (fadd x2 z2)) (fmul (fsub x2 z2) (fsub x2 z2))) (fadd (fmul (fadd x2 z2) (fadd x2 z2)) (fmul 121665 (fsub (fmul (fadd x2 z2) (fadd x2 z2)) (fmul (fsub x2 z2) (fsub x2 z2))))))
  (fmul (fadd (fmul (fsub x3 z3) (fadd x2 z2)) (fmul (fadd x3 z3) (fsub x2 z2))) (fadd (fmul (fsub x3 z3) (fadd x2 z2)) (fmul (fadd x3 z3) (fsub x2 z2))))
  (fmul x1 (fmul (fsub (fmul (fsub x3 z3) (fadd x2 z2)) (fmul (fadd x3 z3) (fsub x2 z2))) (fsub (fmul (fsub x3 z3) (fadd x2 z2)) (fmul (fadd x3 z3) (fsub x2 z2))))))∧Only g w w':=by
 have cA:=hid (sum2 x2 z2 k2 k3)
 have cB:=hid (sub2 x2 z2 k2 k3)
 have cC:=hid (sum2 x3 z3 k4 k5)
 have cD:=hid (sub2 x3 z3 k4 k5)
 have tA:=Qft x2 z2
 have tB:=Qfo x2 z2
 have tC:=Qft x3 z3
 have tD:=Qfo x3 z3
 generalize fadd x2 z2=A at *
 generalize fsub x2 z2=B at *
 generalize fadd x3 z3=C at *
 generalize fsub x3 z3=D at *
 have cAA:=hid (QlO A tA)
 have cBB:=hid (QlO B tB)
 have cDA:=hid (Qf3 D A tD tA)
 have cCB:=hid (Qf3 C B tC tB)
 have tAA:=QbO A A
 have tBB:=QbO B B
 have tDA:=QbO D A
 have tCB:=QbO C B
 generalize fmul A A=AA at *
 generalize fmul B B=BB at *
 generalize fmul D A=DA at *
 generalize fmul C B=CB at *
 have cF:=hid (sub2 AA BB tAA tBB)
 have tF:=Qfo AA BB
 have cS:=hid (sum2 DA CB tDA tCB)
 have tS:=Qft DA CB
 have cG:=hid (sub2 DA CB tDA tCB)
 have tG:=Qfo DA CB
 have cX2:=hid (Qf3 AA BB tAA tBB)
 generalize fsub AA BB=F at *
 generalize fadd DA CB=S at *
 generalize fsub DA CB=G at *
 generalize fmul AA BB=X2 at *
 have cSS:=hid (QlO S tS)
 have cGG:=hid (QlO G tG)
 have tGG:=QbO G G
 have cM:=hid (Qf3 121665 F (by decide) tF)
 have tM:=QbO 121665 F
 generalize fmul S S=X3 at *
 generalize fmul G G=GG at *
 generalize fmul 121665 F=M at *
 have cZ3:=hid (Qf3 x1 GG k1 tGG)
 have cN:=hid (sum2 AA M tAA tM)
 have tN:=Qft AA M
 generalize fmul x1 GG=Z3 at *
 generalize fadd AA M=N at *
 have cZ2:=hid (Qf3 F N tF tN)
 generalize fmul F N=Z2 at *
 have cOf:Hid (∀ w,Calls Tryz.prog 111 #[.int .u64 121665] w fun e w'=>e= .returned (E 121665)∧Later w w'):=hid (QyO 121665 (by decide))
 clear tA tB tC tD tAA tBB tDA tCB tF tS tG tGG tM tN k1 k2 k3 k4 k5
 have S0:St w w g t (L5 x1 x2 z2 x3 z3) []:=⟨World.grownBy.refl w _,hb,by simp,hb.lt⟩
 go_enter Tryz.func113,Tryz.ntmps113
 go_wp2_with fail
 refine QaF [0,1,2,3,4,5,6,7,10,11,12,13,14,15,16,17] [([],2,8),([],1,9),([],1,18),([],2,19),([],2,20)] [] [21,22] [8,19,20] (fun i=>if i=8 then (fun g=>.slice (some ⟨g,0,none⟩) 2 2,.cells (EL x2++EL z2).toArray 228) else (fun g=>.pointer (some ⟨g,0,none⟩),.cells (QFu 4 (Value.int .u64 0)).toArray 228)) (by as_aux_lemma=>kernel_rfl) (by as_aux_lemma=>kernel_rfl) (by intro _ _ d _ _ h;cases d<;>exact h) (by intro _ _ d _ _ h;cases d<;>exact h) ?_
 simp only[pick,QFv,QFw,QFx,QFy,QFz]
 repeat (first|go_big_quiet_skip|(go_big_quiet_want;(first|refine Qfc _ rfl S0.drew.blk (fun j v hv=>L5_1 _ _ _ _ _ j v hv) rfl ?_|refine Qfc _ rfl S0.drew.blk (fun j v hv=>L5_2 _ _ _ _ _ j v hv) rfl ?_);simp only[Act.put,QFD,QFH,QFG];go_big_quiet_on)|(go_big_quiet_step (fail)))
 refine wpQuiet_nil ?_
 refine⟨?mk,?_⟩
 case mk=>
  refine⟨fun o ho=>?_,fun o ho=>?_,fun o ho=>?_,trivial⟩
  all_goals
   simp only[QFv,QFw,Option.some.injEq]at ho
   subst ho
  ·exact Qf9 rfl _ _ rfl x2 z2 rfl rfl
  ·exact Qdl rfl rfl
  ·exact Qdl rfl rfl
 simp only[Qbv,pick,QFv,QFw,QFx,QFy,QFz,reduceIte,QGD]
 refine wpQuiet_nil ?_
 intro aa gx j1 _ _ hx1
 have hx2:Blk aa gx 228 (EL x2++EL z2):=hx1
 refine wpQuiet_nil ?_
 intro ab j2
 go_wp2_with fail
 (with_reducible refine (cA.out _ gx (hx2.later j2)).mono ?_);rintro e ac ⟨rfl,j3⟩
 go_wp2_with fail
 try refine⟨by first|assumption|exact Qab _|exact Qaa _ _|exact Later.refl _,?_⟩
 try simp only[Qah,pick,QFv,QFw,QFx,QFy,QFz]
 repeat (go_big_quiet_step (fail))
 refine wpQuiet_nil ?_
 intro ad j4
 go_wp2_with fail
 (with_reducible refine (cB.out _).mono ?_);rintro e ae ⟨rfl,j5⟩
 go_wp2_with fail
 try refine⟨by first|assumption|exact Qab _|exact Qaa _ _|exact Later.refl _,?_⟩
 try simp only[Qah,pick,QFv,QFw,QFx,QFy,QFz]
 repeat (go_big_quiet_step (fail))
 refine wpQuiet_nil ?_
 have j0:=((((Qab _).trans j1).trans j2).trans j3).trans (j4.trans j5)
 clear j1 j2 j3 j4 j5 hx1 hx2
 intro a1 gA i1 hg1 _ hb1
 refine wpQuiet_nil ?_
 intro a2 gB i2 hg2 hn2 hb2
 refine wpQuiet_nil ?_
 intro a3 i3
 have hne:gA≠gB:=fun e=>hn2 (.inl e.symm)
 have hX:Blk a3 gA 228 (QFu 4 (Value.int .u64 0)):=Blk.later (show Blk a1 gA _ _ from hb1) (i2.trans i3)
 have hY:Blk a3 gB 228 (QFu 4 (Value.int .u64 0)):=Blk.later (show Blk a2 gB _ _ from hb2) i3
 have jj:=j0.trans (i1.trans (i2.trans i3))
 clear hb1 hb2 i1 i2 i3 hn2
 simp only[Act.put,QFD,QFH,QFG]
 go_wp2_with (first
  | (refine QaM rfl rfl _ _ rfl hX rfl rfl rfl ?_;intro a4 hb3 ho3
     have hY3:=hY.only ho3 (fun e=>hne e.symm))
  | (refine QaM rfl rfl _ _ rfl hY3 rfl rfl rfl ?_;intro a5 hb4 ho4
     have S1:=S0.two jj hg1 hg2 hne ho3 hb3 ho4 hb4)
  | fail)
 clear jj hX hY hY3 hg1 hg2 hne ho3 hb3 ho4 hb4 S0
 clear j0 cA cB
 go_wp2_with fail
 refine QaF [0,1,2,3,4,5,6,7,10,11,12,13,14,15,16,17] [([],2,8),([],1,9),([],1,18),([],2,19),([],2,20)] [] [21,22] [8,19,20] (fun i=>if i=8 then (fun g=>.slice (some ⟨g,0,none⟩) 2 2,.cells (EL x3++EL z3).toArray 228) else (fun g=>.pointer (some ⟨g,0,none⟩),.cells (QFu 4 (Value.int .u64 0)).toArray 228)) (by as_aux_lemma=>kernel_rfl) (by as_aux_lemma=>kernel_rfl) (by intro _ _ d _ _ h;cases d<;>exact h) (by intro _ _ d _ _ h;cases d<;>exact h) ?_
 simp only[pick,QFv,QFw,QFx,QFy,QFz]
 repeat (first|go_big_quiet_skip|(go_big_quiet_want;(first|refine Qfc _ rfl S1.drew.blk (fun j v hv=>L5_3 _ _ _ _ _ j v hv) rfl ?_|refine Qfc _ rfl S1.drew.blk (fun j v hv=>L5_4 _ _ _ _ _ j v hv) rfl ?_);simp only[Act.put,QFD,QFH,QFG];go_big_quiet_on)|(go_big_quiet_step (fail)))
 refine wpQuiet_nil ?_
 refine⟨?mk,?_⟩
 case mk=>
  refine⟨fun o ho=>?_,fun o ho=>?_,fun o ho=>?_,trivial⟩
  all_goals
   simp only[QFv,QFw,Option.some.injEq]at ho
   subst ho
  ·exact Qf9 rfl _ _ rfl x3 z3 rfl rfl
  ·exact Qdl rfl rfl
  ·exact Qdl rfl rfl
 simp only[Qbv,pick,QFv,QFw,QFx,QFy,QFz,reduceIte,QGD]
 refine wpQuiet_nil ?_
 intro ba gx j1 _ _ hx1
 have hx2:Blk ba gx 228 (EL x3++EL z3):=hx1
 refine wpQuiet_nil ?_
 intro bb j2
 go_wp2_with fail
 (with_reducible refine (cC.out _ gx (hx2.later j2)).mono ?_);rintro e bc ⟨rfl,j3⟩
 go_wp2_with fail
 try refine⟨by first|assumption|exact Qab _|exact Qaa _ _|exact Later.refl _,?_⟩
 try simp only[Qah,pick,QFv,QFw,QFx,QFy,QFz]
 repeat (go_big_quiet_step (fail))
 refine wpQuiet_nil ?_
 intro bd j4
 go_wp2_with fail
 (with_reducible refine (cD.out _).mono ?_);rintro e be ⟨rfl,j5⟩
 go_wp2_with fail
 try refine⟨by first|assumption|exact Qab _|exact Qaa _ _|exact Later.refl _,?_⟩
 try simp only[Qah,pick,QFv,QFw,QFx,QFy,QFz]
 repeat (go_big_quiet_step (fail))
 refine wpQuiet_nil ?_
 have j0:=((((Qab _).trans j1).trans j2).trans j3).trans (j4.trans j5)
 clear j1 j2 j3 j4 j5 hx1 hx2
 intro b1 gC i1 hg1 _ hb1
 refine wpQuiet_nil ?_
 intro b2 gD i2 hg2 hn2 hb2
 refine wpQuiet_nil ?_
 intro b3 i3
 have hne:gC≠gD:=fun e=>hn2 (.inl e.symm)
 have hX:Blk b3 gC 228 (QFu 4 (Value.int .u64 0)):=Blk.later (show Blk b1 gC _ _ from hb1) (i2.trans i3)
 have hY:Blk b3 gD 228 (QFu 4 (Value.int .u64 0)):=Blk.later (show Blk b2 gD _ _ from hb2) i3
 have jj:=j0.trans (i1.trans (i2.trans i3))
 clear hb1 hb2 i1 i2 i3 hn2
 simp only[Act.put,QFD,QFH,QFG]
 go_wp2_with (first
  | (refine QaM rfl rfl _ _ rfl hX rfl rfl rfl ?_;intro b4 hb3 ho3
     have hY3:=hY.only ho3 (fun e=>hne e.symm))
  | (refine QaM rfl rfl _ _ rfl hY3 rfl rfl rfl ?_;intro b5 hb4 ho4
     have S2:=S1.two jj hg1 hg2 hne ho3 hb3 ho4 hb4)
  | fail)
 clear jj hX hY hY3 hg1 hg2 hne ho3 hb3 ho4 hb4 S1
 clear j0 cC cD
 go_wp2_with fail
 refine QaF [0,2] [([],1,1),([],1,3),([],2,4),([],2,5)] [] [6,7] [4,5] (fun _=>(fun g=>.pointer (some ⟨g,0,none⟩),.cells (QFu 4 (Value.int .u64 0)).toArray 228)) (by as_aux_lemma=>kernel_rfl) (by as_aux_lemma=>kernel_rfl) (by intro _ _ d _ _ h;cases d<;>exact h) (by intro _ _ d _ _ h;cases d<;>exact h) ?_
 simp only[pick,QFv,QFw,QFx,QFy,QFz]
 repeat (first|go_big_quiet_skip|(go_big_quiet_want;(first|refine QcM _ rfl (S2.drew.nth 2 rfl) rfl ?_|refine QcM _ rfl (S2.drew.nth 3 rfl) rfl ?_);simp only[Act.put,QFD,QFH,QFG];go_big_quiet_on)|(go_big_quiet_step (fail)))
 refine wpQuiet_nil ?_
 refine⟨?mk,?_⟩
 case mk=>
  refine⟨fun o ho=>?_,fun o ho=>?_,trivial⟩
  all_goals
   simp only[QFv,QFw,Option.some.injEq]at ho
   subst ho
   exact Qdl rfl rfl
 simp only[Qbv,pick,QFv,QFw,QFx,QFy,QFz,QGD]
 refine wpQuiet_nil ?_
 intro ca j1
 go_wp2_with fail
 (with_reducible refine (cAA.out _).mono ?_);rintro e cb ⟨rfl,j2⟩
 go_wp2_with fail
 try refine⟨by first|assumption|exact Qab _|exact Qaa _ _|exact Later.refl _,?_⟩
 try simp only[Qah,pick,QFv,QFw,QFx,QFy,QFz]
 repeat (go_big_quiet_step (fail))
 refine wpQuiet_nil ?_
 intro cc j3
 go_wp2_with fail
 (with_reducible refine (cBB.out _).mono ?_);rintro e cd ⟨rfl,j4⟩
 go_wp2_with fail
 try refine⟨by first|assumption|exact Qab _|exact Qaa _ _|exact Later.refl _,?_⟩
 try simp only[Qah,pick,QFv,QFw,QFx,QFy,QFz]
 repeat (go_big_quiet_step (fail))
 refine wpQuiet_nil ?_
 have j0:=(((Qab _).trans j1).trans j2).trans (j3.trans j4)
 clear j1 j2 j3 j4
 intro c1 gAA i1 hg1 _ hb1
 refine wpQuiet_nil ?_
 intro c2 gBB i2 hg2 hn2 hb2
 refine wpQuiet_nil ?_
 intro c3 i3
 have hne:gAA≠gBB:=fun e=>hn2 (.inl e.symm)
 have hX:Blk c3 gAA 228 (QFu 4 (Value.int .u64 0)):=Blk.later (show Blk c1 gAA _ _ from hb1) (i2.trans i3)
 have hY:Blk c3 gBB 228 (QFu 4 (Value.int .u64 0)):=Blk.later (show Blk c2 gBB _ _ from hb2) i3
 have jj:=j0.trans (i1.trans (i2.trans i3))
 clear hb1 hb2 i1 i2 i3 hn2
 simp only[Act.put,QFD,QFH,QFG]
 go_wp2_with (first
  | (refine QaM rfl rfl _ _ rfl hX rfl rfl rfl ?_;intro c4 hb3 ho3
     have hY3:=hY.only ho3 (fun e=>hne e.symm))
  | (refine QaM rfl rfl _ _ rfl hY3 rfl rfl rfl ?_;intro c5 hb4 ho4
     have S3:=S2.two jj hg1 hg2 hne ho3 hb3 ho4 hb4
     have q0:=S3.nth 0 rfl
     have q1:=S3.nth 1 rfl)
  | (refine QbN rfl _ rfl q0 rfl ?_)
  | (refine QbN rfl _ rfl q1 rfl ?_)
  | fail)
 clear jj hX hY hY3 hg1 hg2 hne ho3 hb3 ho4 hb4 S2
 clear j0 cAA cBB
 (with_reducible refine (cF.out _).mono ?_);rintro e d1 ⟨rfl,j1⟩
 go_wp2_with (first
  | (refine QaM rfl rfl _ _ rfl (Blk.new d1 _ (QFu 4 (.int .u64 0))) rfl rfl rfl ?_;intro d2 hb3 ho3)
  | fail)
 have S4:=S3.one (j1.trans (Qaa d1 _)) j1.size ho3 hb3
 clear j1 hb3 ho3 S3 cF q0 q1
 generalize hgF:d1.heap.size=gF at *
 clear hgF
 refine QaF [0,1,4,5] [([],2,2),([],1,3),([],2,6),([],1,7),([],2,8),([],2,9)] [] [10,11] [2,6,8,9] (fun i=>if i=2 then (fun g=>.slice (some ⟨g,0,none⟩) 2 2,.cells (EL D++EL A).toArray 228) else if i=6 then (fun g=>.slice (some ⟨g,0,none⟩) 2 2,.cells (EL C++EL B).toArray 228) else (fun g=>.pointer (some ⟨g,0,none⟩),.cells (QFu 4 (Value.int .u64 0)).toArray 228)) (by as_aux_lemma=>kernel_rfl) (by as_aux_lemma=>kernel_rfl) (by intro _ _ d _ _ h;cases d<;>exact h) (by intro _ _ d _ _ h;cases d<;>exact h) ?_
 simp only[pick,QFv,QFw,QFx,QFy,QFz]
 repeat (first|go_big_quiet_skip|(go_big_quiet_want;(first|refine QcM _ rfl (S4.drew.nth 3 rfl) rfl ?_|refine QcM _ rfl (S4.drew.nth 4 rfl) rfl ?_|refine QcM _ rfl (S4.drew.nth 5 rfl) rfl ?_|refine QcM _ rfl (S4.drew.nth 6 rfl) rfl ?_);simp only[Act.put,QFD,QFH,QFG];go_big_quiet_on)|(go_big_quiet_step (fail)))
 refine wpQuiet_nil ?_
 refine⟨?mk,?_⟩
 case mk=>
  refine⟨fun o ho=>?_,fun o ho=>?_,fun o ho=>?_,fun o ho=>?_,trivial⟩
  all_goals
   simp only[QFv,QFw,Option.some.injEq]at ho
   subst ho
  ·exact Qf9 rfl _ _ rfl D A rfl rfl
  ·exact Qf9 rfl _ _ rfl C B rfl rfl
  ·exact Qdl rfl rfl
  ·exact Qdl rfl rfl
 simp only[Qbv,pick,QFv,QFw,QFx,QFy,QFz,reduceIte,QGD]
 refine wpQuiet_nil ?_
 intro e1 gx j1 _ _ hx1
 have hx2:Blk e1 gx 228 (EL D++EL A):=hx1
 refine wpQuiet_nil ?_
 intro e2 j2
 go_wp2_with fail
 (with_reducible refine (cDA.out _ gx (hx2.later j2)).mono ?_);rintro e e3 ⟨rfl,j3⟩
 go_wp2_with fail
 try refine⟨by first|assumption|exact Qab _|exact Qaa _ _|exact Later.refl _,?_⟩
 try simp only[Qah,pick,QFv,QFw,QFx,QFy,QFz]
 repeat (go_big_quiet_step (fail))
 refine wpQuiet_nil ?_
 intro e4 gy j4 _ _ hy1
 have hy2:Blk e4 gy 228 (EL C++EL B):=hy1
 refine wpQuiet_nil ?_
 intro e5 j5
 go_wp2_with fail
 (with_reducible refine (cCB.out _ gy (hy2.later j5)).mono ?_);rintro e e6 ⟨rfl,j6⟩
 go_wp2_with fail
 try refine⟨by first|assumption|exact Qab _|exact Qaa _ _|exact Later.refl _,?_⟩
 try simp only[Qah,pick,QFv,QFw,QFx,QFy,QFz]
 repeat (go_big_quiet_step (fail))
 refine wpQuiet_nil ?_
 have j0:=(((Qab _).trans j1).trans (j2.trans j3)).trans ((j4.trans j5).trans j6)
 clear j1 j2 j3 j4 j5 j6 hx1 hx2 hy1 hy2
 intro f1 gDA i1 hg1 _ hb1
 refine wpQuiet_nil ?_
 intro f2 gCB i2 hg2 hn2 hb2
 refine wpQuiet_nil ?_
 intro f3 i3
 have hne:gDA≠gCB:=fun e=>hn2 (.inl e.symm)
 have hX:Blk f3 gDA 228 (QFu 4 (Value.int .u64 0)):=Blk.later (show Blk f1 gDA _ _ from hb1) (i2.trans i3)
 have hY:Blk f3 gCB 228 (QFu 4 (Value.int .u64 0)):=Blk.later (show Blk f2 gCB _ _ from hb2) i3
 have jj:=j0.trans (i1.trans (i2.trans i3))
 clear hb1 hb2 i1 i2 i3 hn2
 simp only[Act.put,QFD,QFH,QFG]
 go_wp2_with (first
  | (refine QaM rfl rfl _ _ rfl hX rfl rfl rfl ?_;intro f4 hb3 ho3
     have hY3:=hY.only ho3 (fun e=>hne e.symm))
  | (refine QaM rfl rfl _ _ rfl hY3 rfl rfl rfl ?_;intro f5 hb4 ho4
     have S5:=S4.two jj hg1 hg2 hne ho3 hb3 ho4 hb4
     have q0:=S5.nth 0 rfl
     have q1:=S5.nth 1 rfl)
  | (refine QbN rfl _ rfl q0 rfl ?_)
  | (refine QbN rfl _ rfl q1 rfl ?_)
  | (refine QdR rfl _ _ rfl DA CB rfl rfl ?_)
  | fail)
 clear jj hX hY hY3 hg1 hg2 hne ho3 hb3 ho4 hb4 S4
 clear j0 cDA cCB
 (with_reducible refine (cS.out _ _ (Blk.new f5 _ (EL DA++EL CB))).mono ?_);rintro e h1 ⟨rfl,j1⟩
 go_wp2_with fail
 (with_reducible refine (cSS.out _).mono ?_);rintro e h2 ⟨rfl,j2⟩
 replace S5:=(S5.later (Qaa f5 _)).later (j1.trans j2)
 go_wp2_with (first
  | (refine Qiw rfl rfl _ _ rfl S5.blk rfl rfl (by rw[QfO];omega) ?_;intro h3 hb3 ho3)
  | fail)
 rw[QAd]at hb3
 have S6:=S5.write ho3 hb3
 clear j1 j2 hb3 ho3 S5 cS cSS q0 q1
 go_wp2_with fail
 refine Qad [([0,1,2,3,4,5,6],7),([],8),([],9),([],10)] [11,12] [13] (by as_aux_lemma=>kernel_rfl) (by as_aux_lemma=>kernel_rfl) (by intro _ _ d _ _ h;cases d<;>exact h) ?_
 simp only[Qah,pick,QFv,QFw,QFx,QFy,QFz]
 repeat (first|go_big_quiet_skip|(go_big_quiet_want;(first|refine QcM _ rfl (S6.drew.nth 0 rfl) rfl ?_|refine QcM _ rfl (S6.drew.nth 1 rfl) rfl ?_|refine Qfc _ rfl S6.drew.blk (fun j v hv=>L5_0 _ _ _ _ _ j v hv) rfl ?_);simp only[Act.put,QFD,QFH,QFG];go_big_quiet_on)|(go_big_quiet_step (fail)))
 refine wpQuiet_nil ?_
 go_wp2_with fail
 (with_reducible refine (cG.out _).mono ?_);rintro e p1 ⟨rfl,j1⟩
 go_wp2_with fail
 try refine⟨by first|assumption|exact Qab _|exact Qaa _ _|exact Later.refl _,?_⟩
 try simp only[Qah,pick,QFv,QFw,QFx,QFy,QFz]
 repeat (go_big_quiet_step (fail))
 refine wpQuiet_nil ?_
 go_wp2_with fail
 (with_reducible refine (cGG.out _).mono ?_);rintro e p2 ⟨rfl,j2⟩
 go_wp2_with fail
 try refine⟨by first|assumption|exact Qab _|exact Qaa _ _|exact Later.refl _,?_⟩
 try simp only[Qah,pick,QFv,QFw,QFx,QFy,QFz]
 repeat (go_big_quiet_step (fail))
 refine wpQuiet_nil ?_
 go_wp2_with (first
  | (refine QdR rfl _ _ rfl x1 GG rfl rfl ?_)
  | fail)
 refine⟨Qaa _ _,?_⟩
 simp only[Act.put,QFD,QFH,QFG]
 refine wpQuiet_nil ?_
 go_wp2_with fail
 (with_reducible refine (cZ3.out _ _ (Blk.new p2 _ (EL x1++EL GG))).mono ?_);rintro e p3 ⟨rfl,j3⟩
 replace S6:=S6.later ((((Qab _).trans j1).trans j2).trans ((Qaa p2 _).trans j3))
 go_wp2_with fail
 try refine⟨by first|assumption|exact Qab _|exact Qaa _ _|exact Later.refl _,?_⟩
 try simp only[Qah,pick,QFv,QFw,QFx,QFy,QFz]
 repeat (go_big_quiet_step (fail))
 refine wpQuiet_nil ?_
 go_wp2_with (first
  | (refine Qiw rfl rfl _ _ rfl S6.blk rfl rfl (by rw[QfO];omega) ?_;intro p4 hb3 ho3
     rw[QzS]at hb3
     have S7:=S6.write ho3 hb3
     have q3:=S7.nth 3 rfl
     have q4:=S7.nth 4 rfl)
  | (refine QbN rfl _ rfl q3 rfl ?_)
  | (refine QbN rfl _ rfl q4 rfl ?_)
  | (refine QdR rfl _ _ rfl AA BB rfl rfl ?_)
  | fail)
 clear j1 j2 j3 hb3 ho3 S6 q3 q4 cG cGG cZ3
 (with_reducible refine (cX2.out _ _ (Blk.new p4 _ (EL AA++EL BB))).mono ?_);rintro e r1 ⟨rfl,j1⟩
 replace S7:=S7.later ((Qaa p4 _).trans j1)
 go_wp2_with (first
  | (refine Qiw rfl rfl _ _ rfl S7.blk rfl rfl (by rw[QfO];omega) ?_;intro r2 hb3 ho3
     rw[QAu]at hb3
     have S8:=S7.write ho3 hb3)
  | fail)
 clear j1 hb3 ho3 S7 cX2
 refine Qad [([0,1,2,4],3),([],5),([],6),([],7),([],8),([],9),([],10)] [11,12] [13] (by as_aux_lemma=>kernel_rfl) (by as_aux_lemma=>kernel_rfl) (by intro _ _ d _ _ h;cases d<;>exact h) ?_
 simp only[Qah,pick,QFv,QFw,QFx,QFy,QFz]
 repeat (first|go_big_quiet_skip|(go_big_quiet_want;(first|refine QcM _ rfl (S8.drew.nth 2 rfl) rfl ?_|refine QcM _ rfl (S8.drew.nth 3 rfl) rfl ?_);simp only[Act.put,QFD,QFH,QFG];go_big_quiet_on)|(go_big_quiet_step (fail)))
 refine wpQuiet_nil ?_
 go_wp2_with fail
 (with_reducible refine (cOf.out _).mono ?_);rintro e u1 ⟨rfl,j1⟩
 go_wp2_with fail
 try refine⟨by first|assumption|exact Qab _|exact Qaa _ _|exact Later.refl _,?_⟩
 try simp only[Qah,pick,QFv,QFw,QFx,QFy,QFz]
 repeat (go_big_quiet_step (fail))
 refine wpQuiet_nil ?_
 go_wp2_with (first
  | (refine QdR rfl _ _ rfl 121665 F rfl rfl ?_)
  | fail)
 refine⟨Qaa _ _,?_⟩
 simp only[Act.put,QFD,QFH,QFG]
 refine wpQuiet_nil ?_
 go_wp2_with fail
 (with_reducible refine (cM.out _ _ (Blk.new u1 _ (EL 121665++EL F))).mono ?_);rintro e u2 ⟨rfl,j2⟩
 go_wp2_with fail
 try refine⟨by first|assumption|exact Qab _|exact Qaa _ _|exact Later.refl _,?_⟩
 try simp only[Qah,pick,QFv,QFw,QFx,QFy,QFz]
 repeat (go_big_quiet_step (fail))
 refine wpQuiet_nil ?_
 go_wp2_with (first
  | (refine QdR rfl _ _ rfl AA M rfl rfl ?_)
  | fail)
 refine⟨Qaa _ _,?_⟩
 simp only[Act.put,QFD,QFH,QFG]
 refine wpQuiet_nil ?_
 go_wp2_with fail
 (with_reducible refine (cN.out _ _ (Blk.new u2 _ (EL AA++EL M))).mono ?_);rintro e u3 ⟨rfl,j3⟩
 go_wp2_with fail
 try refine⟨by first|assumption|exact Qab _|exact Qaa _ _|exact Later.refl _,?_⟩
 try simp only[Qah,pick,QFv,QFw,QFx,QFy,QFz]
 repeat (go_big_quiet_step (fail))
 refine wpQuiet_nil ?_
 go_wp2_with (first
  | (refine QdR rfl _ _ rfl F N rfl rfl ?_)
  | fail)
 refine⟨Qaa _ _,?_⟩
 simp only[Act.put,QFD,QFH,QFG]
 refine wpQuiet_nil ?_
 go_wp2_with fail
 (with_reducible refine (cZ2.out _ _ (Blk.new u3 _ (EL F++EL N))).mono ?_);rintro e u4 ⟨rfl,j4⟩
 replace S8:=S8.later ((((Qab _).trans j1).trans ((Qaa u1 _).trans j2)).trans (((Qaa u2 _).trans j3).trans ((Qaa u3 _).trans j4)))
 go_wp2_with fail
 try refine⟨by first|assumption|exact Qab _|exact Qaa _ _|exact Later.refl _,?_⟩
 try simp only[Qah,pick,QFv,QFw,QFx,QFy,QFz]
 repeat (go_big_quiet_step (fail))
 refine wpQuiet_nil ?_
 go_wp2_with (first
  | (refine Qiw rfl rfl _ _ rfl S8.blk rfl rfl (by rw[QfO];omega) ?_;intro u5 hb3 ho3
     rw[QAU]at hb3
     have S9:=S8.write ho3 hb3)
  | fail)
 exact bodyPost_end (results_none rfl _ _ _) rfl ⟨rfl,S9.blk,S9.only⟩
def QaZ (bs:List UInt8):List UInt8:=if bs.length=32 then (bs.set 0 (bs.getD 0 0 &&& 248)).set 31 (((bs.getD 31 0) &&& 127) ||| 64) else QFu 32 0
theorem QbJ (bs:List UInt8):(QaZ bs).length=32:=by
 unfold QaZ
 split
 ·simp;assumption
 ·simp
set_option maxRecDepth 100000 in
set_option maxHeartbeats 2000000 in
theorem Qul (A:Option Addr) (n c:Nat) (bs:List UInt8) (w:World) (hr:RdB w A n bs) (hn:n≤140737488355328):
 Calls Tryz.prog 109 #[.slice A n c] w fun e w'=>e= .returned (.tuple #[.agg ((QaZ bs).map W8).toArray,.int .i64 (Qca bs:Nat)])∧Later w w':=by
 have hbl:=hr.len
 have hb0:=Blk.new w 45 (QFu 32 (Value.int .u8 0))
 by_cases h32:n=32
 ·subst h32
  have hRN:=hid (show (QaZ bs)=(bs.set 0 (bs.getD 0 0 &&& 248)).set 31 (((bs.getD 31 0) &&& 127) ||| 64) by rw[QaZ,if_pos hbl])
  have hRE:=hid (show Qca bs=0 by rw[Qca,if_pos hbl])
  have L0:Later w ((w.alloc (.cells (QFu 32 (Value.int .u8 0)).toArray 45)).alloc (.cells (QFu 32 (Value.int .u8 0)).toArray 45)):=(Qaa _ _).trans (Qaa _ _)
  go_enter Tryz.func109,Tryz.ntmps109
  have hcl:=QbJ bs
  have hx0:(bs.map W8)[0]?=some (W8 (bs.getD 0 0)):=by rw[QFN,QFC,QFB (by omega)];rfl
  have hy0:(bs.map W8)[31]?=some (W8 (bs.getD 31 0)):=by rw[QFN,QFC,QFB (by omega)];rfl
  generalize bs.getD 0 0=x at *
  generalize bs.getD 31 0=y at *
  go_wp2_with (first
   | (refine Qax rfl _ _ _ _ rfl 5 Tryz.underlying25 Qb0 (w.heap.size+1) 0 32 32 45 (QFu 32 (W8 0)) (Blk.new' _ _ _ (by simp)) A 32 c (bs.map W8) (RdB.later hr L0) (Qay _) rfl rfl (by simp) ?_;intro w4 hb4 ho4
      rw[QFJ (by simp;omega),Qap _ _ (by simp;omega)]at hb4
      have L4:=L0.only ho4 (by omega)
      have h04:=(hb0.later (Qaa _ _)).only ho4 (by omega)
      have d0:=hb4.cellD 0 hx0
      clear ho4)
   | (refine Qac rfl rfl _ _ _ rfl _ _ _ _ hb4 rfl ?hl rfl (by kernel_rfl) ?_;(case hl=>simp;omega);intro v w5 hv hb5 ho5;simp[go_sem]at hv;subst hv
      have L5:=L4.only ho5 (by omega)
      have h05:=h04.only ho5 (by omega)
      have d31:=hb5.cellD 31 (u:=W8 y) (by rw[List.getElem?_set_ne (by omega)];exact hy0)
      clear ho5 d0 hb4)
   | (refine Qac rfl rfl _ _ _ rfl _ _ _ _ hb5 rfl ?hl rfl (by kernel_rfl) ?_;(case hl=>simp;omega);intro v w6 hv hb6 ho6;simp[go_sem]at hv;subst hv
      have L6:=L5.only ho6 (by omega)
      have h06:=h05.only ho6 (by omega)
      have d31':=hb6.cellD 31 (List.getElem?_set_self (by simp;omega))
      clear ho6 d31 hb5)
   | (refine Qac rfl rfl _ _ _ rfl _ _ _ _ hb6 rfl ?hl rfl (by kernel_rfl) ?_;(case hl=>simp;omega);intro v w7 hv hb7 ho7;simp[go_sem]at hv;subst hv
      rw[List.set_set,←QHO,←QHO,←hRN.out]at hb7
      have L7:=L6.only ho7 (by omega)
      have h07:=h06.only ho7 (by omega)
      clear ho7 d31' hb6)
   | (refine Qfp rfl _ rfl hb7 hcl rfl ?_)
   | (refine QaW rfl rfl _ _ rfl h07 rfl rfl hcl rfl ?_;intro w8 hb8 ho8)
   | fail)
  exact bodyPost_ret (Qaf rfl _ _ _ _ _ _ hb8 rfl Tryz.underlying45 rfl (by rw[QFA,hcl];exact Qbk)) rfl ⟨by rw[hRE.out];rfl,L7.only ho8 (by omega)⟩
 ·have hne:((n:Int) != 32)=true:=by simp;omega
  have hRN:=hid (show QaZ bs=QFu 32 0 by rw[QaZ,if_neg (by omega)])
  have hRE:=hid (show Qca bs=2 by rw[Qca,if_neg (by omega)])
  go_enter Tryz.func109,Tryz.ntmps109
  go_wp2_with (first
   | (refine Qao rfl 45 _ rfl (QFu 32 (W8 0)) ?hb ?_;(case hb=>kernel_rfl))
   | (refine QaW (bs:=QFu 32 0) rfl rfl _ _ rfl hb0 rfl (by kernel_rfl) rfl rfl ?_;intro w9 hb9 ho9)
   | fail)
  exact bodyPost_ret (Qaf rfl _ _ _ _ _ _ hb9 rfl Tryz.underlying45 rfl (by rw[QFA,QFM];exact Qbk)) rfl ⟨by rw[hRN.out,hRE.out];rfl,(Qaa _ _).only ho9 (by omega)⟩
theorem Qis:∀x:Fin 256,x.1 &&& 248=x.1/8*8∧(x.1 &&& 127) ||| 64=x.1%64+64:=by decide +kernel
theorem QAV (x:UInt8):x &&& 248=x/8*8:=by
 apply QGl.1
 have h:=x.toNat_lt
 have:=(Qis ⟨x.toNat,h⟩).1
 rw[UInt8.toNat_and,UInt8.toNat_mul,UInt8.toNat_div]
 show x.toNat &&& 248=x.toNat/8*8%256
 simp only at this
 omega
theorem QAl (x:UInt8):(x &&& 127) ||| 64=x%64+64:=by
 apply QGl.1
 have h:=x.toNat_lt
 have:=(Qis ⟨x.toNat,h⟩).2
 rw[UInt8.toNat_or,UInt8.toNat_and,UInt8.toNat_add,UInt8.toNat_mod]
 show (x.toNat &&& 127) ||| 64=(x.toNat%64+64)%256
 simp only at this
 omega
set_option maxRecDepth 100000 in
set_option maxHeartbeats 2000000 in
theorem QvM (A:Option Addr) (n c:Nat) (bs:List UInt8) (w:World) (hr:RdB w A n bs) (hn:n≤140737488355328):
 Calls Tryz.prog 72 #[.slice A n c] w fun e w'=>e= .returned (.tuple #[.agg ((QaZ bs).map W8).toArray,.int .i64 (Qca bs:Nat)])∧Later w w':=by
 have hbl:=hr.len
 have hb0:=Blk.new w 45 (QFu 32 (Value.int .u8 0))
 by_cases h32:n=32
 ·subst h32
  have hRN:=hid (show (QaZ bs)=(bs.set 0 (bs.getD 0 0 &&& 248)).set 31 (((bs.getD 31 0) &&& 127) ||| 64) by rw[QaZ,if_pos hbl])
  have hRE:=hid (show Qca bs=0 by rw[Qca,if_pos hbl])
  have L0:Later w ((w.alloc (.cells (QFu 32 (Value.int .u8 0)).toArray 45)).alloc (.cells (QFu 32 (Value.int .u8 0)).toArray 45)):=(Qaa _ _).trans (Qaa _ _)
  go_enter Tryz.func72,Tryz.ntmps72
  have hX:=hid (QAV (bs.getD 0 0))
  have hY:=hid (QAl (bs.getD 31 0))
  have hcl:=QbJ bs
  have hx0:(bs.map W8)[0]?=some (W8 (bs.getD 0 0)):=by rw[QFN,QFC,QFB (by omega)];rfl
  have hy0:(bs.map W8)[31]?=some (W8 (bs.getD 31 0)):=by rw[QFN,QFC,QFB (by omega)];rfl
  generalize bs.getD 0 0=x at *
  generalize bs.getD 31 0=y at *
  go_wp2_with (first
   | (refine Qax rfl _ _ _ _ rfl 5 Tryz.underlying25 Qb0 (w.heap.size+1) 0 32 32 45 (QFu 32 (W8 0)) (Blk.new' _ _ _ (by simp)) A 32 c (bs.map W8) (RdB.later hr L0) (Qay _) rfl rfl (by simp) ?_;intro w4 hb4 ho4
      rw[QFJ (by simp;omega),Qap _ _ (by simp;omega)]at hb4
      have L4:=L0.only ho4 (by omega)
      have h04:=(hb0.later (Qaa _ _)).only ho4 (by omega)
      have d0:=hb4.cellD 0 hx0
      clear ho4)
   | (refine Qac rfl rfl _ _ _ rfl _ _ _ _ hb4 rfl ?hl rfl (by kernel_rfl) ?_;(case hl=>simp;omega);intro v w5 hv hb5 ho5;simp[go_sem]at hv;subst hv
      have L5:=L4.only ho5 (by omega)
      have h05:=h04.only ho5 (by omega)
      have d31:=hb5.cellD 31 (u:=W8 y) (by rw[List.getElem?_set_ne (by omega)];exact hy0)
      clear ho5 d0 hb4)
   | (refine Qac rfl rfl _ _ _ rfl _ _ _ _ hb5 rfl ?hl rfl (by kernel_rfl) ?_;(case hl=>simp;omega);intro v w6 hv hb6 ho6;simp[go_sem]at hv;subst hv
      have L6:=L5.only ho6 (by omega)
      have h06:=h05.only ho6 (by omega)
      rw[←hX.out,←hY.out,←QHO,←QHO,←hRN.out]at hb6
      clear ho6 d31 hb5)
   | (refine Qfp rfl _ rfl hb6 hcl rfl ?_)
   | (refine QaW rfl rfl _ _ rfl h06 rfl rfl hcl rfl ?_;intro w8 hb8 ho8)
   | fail)
  exact bodyPost_ret (Qaf rfl _ _ _ _ _ _ hb8 rfl Tryz.underlying45 rfl (by rw[QFA,hcl];exact Qbk)) rfl ⟨by rw[hRE.out];rfl,L6.only ho8 (by omega)⟩
 ·have hne:((n:Int) != 32)=true:=by simp;omega
  have hRN:=hid (show QaZ bs=QFu 32 0 by rw[QaZ,if_neg (by omega)])
  have hRE:=hid (show Qca bs=2 by rw[Qca,if_neg (by omega)])
  have h0a:=hb0.later (Qaa _ (.cells (QFu 32 (Value.int .u8 0)).toArray 45))
  go_enter Tryz.func72,Tryz.ntmps72
  go_wp2_with (first
   | (refine Qfp (bs:=QFu 32 0) rfl _ rfl (Blk.new' _ _ _ (by simp)) rfl rfl ?_)
   | (refine QaW (bs:=QFu 32 0) rfl rfl _ _ rfl h0a rfl rfl rfl rfl ?_;intro w9 hb9 ho9)
   | fail)
  exact bodyPost_ret (Qaf rfl _ _ _ _ _ _ hb9 rfl Tryz.underlying45 rfl (by rw[QFA,QFM];exact Qbk)) rfl ⟨by rw[hRN.out,hRE.out];rfl,((Qaa _ _).trans (Qaa _ _)).only ho9 (by omega)⟩
theorem L2_0 (a b j:Nat) (v:Value) (h:(EL a)[j]?=some v):(EL a++EL b)[0+j]?=some v:=by
 have hj:j<4:=by have:=(QFU.1 h).1;rwa [Qam]at this
 rw[QFX,QFS (by rw[Qam];exact hj)]
 exact h
theorem L2_1 (a b j:Nat) (v:Value) (h:(EL b)[j]?=some v):(EL a++EL b)[4+j]?=some v:=by
 rw[QFK (by rw[Qam];omega),Qam,show 4+j-4=j by omega]
 exact h
set_option maxRecDepth 100000 in
set_option maxHeartbeats 2000000 in
theorem Qt3 (u v:Nat) (hu:u<T256) (hv:v<T256) (w:World):
 Calls Tryz.prog 115 #[.agg (EL u++EL v).toArray] w fun e w'=>e= .returned (E (fmul u (pinv v)))∧Later w w':=by
 have h1:Blk ((w.alloc (.cells (EL u++EL v).toArray 236)).alloc (.cells (QFu 4 (.int .u64 0)).toArray 228)) w.heap.size 236 (EL u++EL v):=(Blk.new _ _ _).later (Qaa _ _)
 have h2:Blk ((w.alloc (.cells (EL u++EL v).toArray 236)).alloc (.cells (QFu 4 (.int .u64 0)).toArray 228)) (w.heap.size+1) 228 (QFu 4 (.int .u64 0)):=Blk.new' _ _ _ (by simp)
 have L0:Later w ((w.alloc (.cells (EL u++EL v).toArray 236)).alloc (.cells (QFu 4 (.int .u64 0)).toArray 228)):=(Qaa _ _).trans (Qaa _ _)
 have hI:=hid (QAc v hv)
 have hM:Hid (∀ w,Calls Tryz.prog 137 #[E u,E (pinv v)] w fun e w'=>e= .returned (E (fmul u (pinv v)))∧Later w w'):=hid (Qep u (pinv v) hu (Qu8 v))
 generalize fmul u (pinv v)=q at *
 generalize pinv v=i at *
 go_enter Tryz.func115,Tryz.ntmps115
 go_wp2_with fail
 refine Qad [([0,1,2,3],4)] [] [5,6] (by as_aux_lemma=>kernel_rfl) (by as_aux_lemma=>kernel_rfl) (by intro _ _ d _ _ h;cases d<;>exact h) ?_
 simp only[Qah,pick,QFv,QFw,QFx,QFy,QFz]
 repeat (first|go_big_quiet_skip|(go_big_quiet_want;(first|refine Qfc _ rfl h1.drew (fun j v hv=>L2_0 _ _ j v hv) rfl ?_|refine Qfc _ rfl h1.drew (fun j v hv=>L2_1 _ _ j v hv) rfl ?_);simp only[Act.put,QFD,QFH,QFG];go_big_quiet_on)|(go_big_quiet_step (fail)))
 refine wpQuiet_nil ?_
 go_wp2_with fail
 (with_reducible refine (hI.out _).mono ?_);rintro e w2 ⟨rfl,hl2⟩
 replace hl2:=(Qab _).trans hl2
 go_wp2_with fail
 try refine⟨by first|assumption|exact Qab _|exact Qaa _ _|exact Later.refl _,?_⟩
 try simp only[Qah,pick,QFv,QFw,QFx,QFy,QFz]
 repeat (go_big_quiet_step (fail))
 refine wpQuiet_nil ?_
 go_wp2_with fail
 (with_reducible refine (hM.out _).mono ?_);rintro e w3 ⟨rfl,hl3⟩
 replace hl3:=hl2.trans hl3
 go_wp2_with (first
  | (refine QaM rfl rfl _ _ rfl (h2.later hl3) rfl rfl rfl ?_;intro w9 hb9 ho9)
  | fail)
 exact bodyPost_ret (QhI rfl hb9 rfl) rfl ⟨rfl,(L0.trans hl3).only ho9 (by omega)⟩
structure Lad where
 x2:Nat
 z2:Nat
 x3:Nat
 z3:Nat
def LL (x1:Nat) (s:Lad):List Value:=L5 x1 s.x2 s.z2 s.x3 s.z3
def Lad.Ok (s:Lad):Prop:=s.x2<T256∧s.z2<T256∧s.x3<T256∧s.z3<T256
def Lad.swap (s:Lad):Lad:=⟨s.x3,s.z3,s.x2,s.z2⟩
def Lad.step (x1:Nat) (s:Lad):Lad:=
 ⟨fmul (fmul (fadd s.x2 s.z2) (fadd s.x2 s.z2)) (fmul (fsub s.x2 s.z2) (fsub s.x2 s.z2)),
  fmul (fsub (fmul (fadd s.x2 s.z2) (fadd s.x2 s.z2)) (fmul (fsub s.x2 s.z2) (fsub s.x2 s.z2))) (fadd (fmul (fadd s.x2 s.z2) (fadd s.x2 s.z2)) (fmul 121665 (fsub (fmul (fadd s.x2 s.z2) (fadd s.x2 s.z2)) (fmul (fsub s.x2 s.z2) (fsub s.x2 s.z2))))),
  fmul (fadd (fmul (fsub s.x3 s.z3) (fadd s.x2 s.z2)) (fmul (fadd s.x3 s.z3) (fsub s.x2 s.z2))) (fadd (fmul (fsub s.x3 s.z3) (fadd s.x2 s.z2)) (fmul (fadd s.x3 s.z3) (fsub s.x2 s.z2))),
  fmul x1 (fmul (fsub (fmul (fsub s.x3 s.z3) (fadd s.x2 s.z2)) (fmul (fadd s.x3 s.z3) (fsub s.x2 s.z2))) (fsub (fmul (fsub s.x3 s.z3) (fadd s.x2 s.z2)) (fmul (fadd s.x3 s.z3) (fsub s.x2 s.z2))))⟩
theorem Lad.swap_ok {s:Lad} (h:s.Ok):s.swap.Ok:=⟨h.2.2.1,h.2.2.2,h.1,h.2.1⟩
theorem Lad.step_ok (x1:Nat) (s:Lad):(s.step x1).Ok:=⟨QbO _ _,QbO _ _,QbO _ _,QbO _ _⟩
def Lad.round (x1:Nat) (b:Bool) (s:Lad):Lad:=if b then (s.swap.step x1).swap else s.step x1
theorem Lad.round_ok (x1:Nat) (b:Bool) (s:Lad):(s.round x1 b).Ok:=by
 unfold Lad.round
 split
 ·exact Lad.swap_ok (Lad.step_ok _ _)
 ·exact Lad.step_ok _ _
def kbit (K:List UInt8) (t:Nat):Bool:=decide ((K.getD (t/8) 0).toNat/2^(t%8)%2=1)
def Lad.at (x1:Nat) (K:List UInt8):Nat→Lad
 | 0=>⟨1,0,x1,1⟩
 | k+1=>(Lad.at x1 K k).round x1 (kbit K (254-k))
theorem Lad.at_ok (x1:Nat) (K:List UInt8) (h:x1<T256):∀k,(Lad.at x1 K k).Ok
 | 0=>⟨show (1:Nat)<T256 by decide,show (0:Nat)<T256 by decide,h,show (1:Nat)<T256 by decide⟩
 | _+1=>Lad.round_ok _ _ _
def Qj1 (ks us:List UInt8):Nat:=fmul (Lad.at (QcE us) (QaZ ks) 255).x2 (pinv (Lad.at (QcE us) (QaZ ks) 255).z2)
def Qbu (ks us:List UInt8):Nat:=if ks.length=32∧us.length=32 then (if Qj1 ks us=0 then 5 else 0) else 2
def QbH (ks us:List UInt8):List UInt8:=if ks.length=32∧us.length=32 then nb (Qj1 ks us) else QFu 32 0
theorem Qa9 (ks us:List UInt8):(QbH ks us).length=32:=by
 unfold QbH
 split
 ·exact Qch _
 ·simp
theorem QkC (g:Nat) (t:TypeId) (x1:Nat) (s:Lad) (w:World) (hb:Blk w g t (LL x1 s)):
 Calls Tryz.prog 112 #[.pointer (some ⟨g,0,none⟩)] w fun e w'=>e= .returned (.tuple #[])∧Blk w' g t (LL x1 s.swap)∧Only g w w':=
 Qnn g t x1 s.x2 s.z2 s.x3 s.z3 w hb
theorem Qyq (g:Nat) (t:TypeId) (x1:Nat) (s:Lad) (h1:x1<T256) (hs:s.Ok) (w:World) (hb:Blk w g t (LL x1 s)):
 Calls Tryz.prog 113 #[.pointer (some ⟨g,0,none⟩)] w fun e w'=>e= .returned (.tuple #[])∧Blk w' g t (LL x1 (s.step x1))∧Only g w w':=
 Qn6 g t x1 s.x2 s.z2 s.x3 s.z3 h1 hs.1 hs.2.1 hs.2.2.1 hs.2.2.2 w hb
theorem QbL {P:Program} {C:World→Prop} {a:Act} {o:Oper} {K:Act→Prop} (t:TypeId) (parts:Array (Nat×Operand)) (ho:o.op= .build t parts) (vs:List Value) (hb:P.built t (parts.map fun (i,x)=>(i,a.eval x)).toList=some vs.toArray)
 (h:K (a.put o.dst (.agg vs.toArray))):o.quiet P a C K:=
 ⟨.agg vs.toArray,fun w hw=>by
   unfold Oper.quietAt execOp
   simp only[ho,Sem.run_bind,run_build w t _ _ hb,Result.andThen_ok]
   exact⟨rfl,rfl⟩,h⟩
theorem Qid (a0 a1 a2 a3 b0 b1 b2 b3 c0 c1 c2 c3 d0 d1 d2 d3:Value):
 Program.built Tryz.prog 233 [(0,.agg #[a0,a1,a2,a3]),(1,.agg #[b0,b1,b2,b3]),(3,.agg #[c0,c1,c2,c3]),(4,.agg #[d0,d1,d2,d3])]=some #[a0,a1,a2,a3,b0,b1,b2,b3,.int .u64 0,.int .u64 0,.int .u64 0,.int .u64 0,c0,c1,c2,c3,d0,d1,d2,d3]:=by kernel_rfl
theorem QnA (x1:Nat):Program.built Tryz.prog 233 [(0,E x1),(1,E 1),(3,E x1),(4,E 1)]=some (LL x1 ⟨1,0,x1,1⟩).toArray:=by
 show _=some (EL x1++(EL 1++(EL 0++(EL x1++EL 1)))).toArray
 rw[E,E,Qdi x1,Qdi 1,Qdi 0]
 exact Qid ..
theorem Qoi (us:List UInt8):QcE us<T256:=by
 unfold QcE
 split
 ·exact QGx (QF1 _ Qbt) (show P25<T256 by decide)
 ·exact show 0<T256 by decide
theorem QuO:num (QFu 32 0)=0:=by decide +kernel
theorem Qk9:nb 0=QFu 32 0:=by decide +kernel
theorem Qry (q:Nat) (h:q<T256):(nb q==QFu 32 0)=decide (q=0):=by
 rw[QGk,beq_iff_eq,decide_eq_true_eq]
 constructor
 ·intro e
  rw[←QyI q h,e,QuO]
 ·rintro rfl
  exact Qk9
theorem QiT (a0 a1 a2 a3 b0 b1 b2 b3:Value):
 Program.built Tryz.prog 236 [(0,.agg #[a0,a1,a2,a3]),(1,.agg #[b0,b1,b2,b3])]=some #[a0,a1,a2,a3,b0,b1,b2,b3]:=by kernel_rfl
theorem QjN (a b:Nat):Program.built Tryz.prog 236 [(0,E a),(1,E b)]=some (EL a++EL b).toArray:=by
 rw[E,E,Qdi a,Qdi b]
 exact QiT ..
theorem QiS (x1:Nat) (s:Lad):(LL x1 s).length=20:=QfO ..
theorem QCQ (x1:Nat) (s:Lad):∀v∈LL x1 s,v.oneCell'=true:=by
 intro v hv
 simp only[LL,L5,QGC]at hv
 rcases hv with h|h|h|h|h<;>exact Qp4 _ v h
set_option maxRecDepth 100000 in
set_option maxHeartbeats 4000000 in
theorem Qpy (A B:Option Addr) (n c m d:Nat) (ks us:List UInt8) (w:World) (hk:RdB w A n ks) (hu:RdB w B m us) (hn:n≤140737488355328) (hm:m≤140737488355328):
 Calls Tryz.prog 87 #[.slice A n c,.slice B m d] w fun e w'=>e= .returned (.tuple #[.agg ((QbH ks us).map W8).toArray,.int .i64 (Qbu ks us:Nat)])∧Later w w':=by
 have hkl:=hk.len
 have hul:=hu.len
 have hb0:=Blk.new w 45 (QFu 32 (Value.int .u8 0))
 have L0:=Qaa w (.cells (QFu 32 (Value.int .u8 0)).toArray 45)
 have hcl:=QbJ ks
 have cK:=hid (fun w h=>Qul A n c ks w h hn)
 have cU:=hid (fun w h=>QxC B m d us w h hm)
 by_cases hn32:n=32
 ·subst hn32
  have eK:Qca ks=0:=by rw[Qca,if_pos (by omega)]
  rw[eK]at cK
  have hK:=hid (show QaZ ks=QaZ ks from rfl)
  by_cases hm32:m=32
  ·subst hm32
   have eU:Qca us=0:=by rw[Qca,if_pos (by omega)]
   rw[eU]at cU
   have hx:=Qoi us
   have hQ:=hid (show Qj1 ks us=fmul (Lad.at (QcE us) (QaZ ks) 255).x2 (pinv (Lad.at (QcE us) (QaZ ks) 255).z2) from rfl)
   generalize QaZ ks=K at *
   generalize QcE us=x1 at *
   go_enter Tryz.func87,Tryz.ntmps87
   go_wp2_with fail
   generalize hW:w.alloc _=w0
   replace L0:Later w w0:=by rw[←hW];exact Qaa _ _
   replace hb0:Blk w0 w.heap.size 45 (QFu 32 (Value.int .u8 0)):=by rw[←hW];exact Blk.new w 45 (QFu 32 (Value.int .u8 0))
   have hs0:w.heap.size<w0.heap.size:=hb0.lt
   clear hW
   (with_reducible refine (cK.out _ (hk.later L0)).mono ?_);rintro e w1 ⟨rfl,hl1⟩
   replace hb0:=hb0.later hl1
   replace L0:=L0.trans hl1
   go_wp2_with (first
    | (refine QaW rfl rfl _ _ rfl (Blk.new w1 _ (QFu 32 (.int .u8 0))) rfl rfl hcl rfl ?_;intro w2 hb2 ho2)
    | fail)
   replace hb0:=(hb0.later (Qaa w1 (.cells (QFu 32 (.int .u8 0)).toArray 45))).only ho2 (by have:=hb0.lt;omega)
   replace L0:=(L0.trans (Qaa w1 (.cells (QFu 32 (.int .u8 0)).toArray 45))).only ho2 (by have:=L0.size;omega)
   have hg6:w.heap.size≠w1.heap.size:=by have:=hl1.size;omega
   clear ho2 hl1
   (with_reducible refine (cU.out _ (hu.later L0)).mono ?_);rintro e w3 ⟨rfl,hl3⟩
   replace hb0:=hb0.later hl3
   replace hb2:=hb2.later hl3
   replace L0:=L0.trans hl3
   go_wp2_with (first
    | (refine QaM rfl rfl _ _ rfl (Blk.new w3 _ (QFu 4 (.int .u64 0))) rfl rfl rfl ?_;intro w4 hb4 ho4)
    | fail)
   replace hb0:=(hb0.later (Qaa w3 (.cells (QFu 4 (.int .u64 0)).toArray 228))).only ho4 (by have:=hb0.lt;omega)
   replace hb2:=(hb2.later (Qaa w3 (.cells (QFu 4 (.int .u64 0)).toArray 228))).only ho4 (by have:=hb2.lt;omega)
   replace L0:=(L0.trans (Qaa w3 (.cells (QFu 4 (.int .u64 0)).toArray 228))).only ho4 (by have:=L0.size;omega)
   clear ho4 hl3
   refine QaF [0,2] [([],1,1),([],1,3),([4],2,5)] [] [6] [5] (fun _=>(fun g=>.pointer (some ⟨g,0,none⟩),.cells (QFu 20 (Value.int .u64 0)).toArray 233)) (by as_aux_lemma=>kernel_rfl) (by as_aux_lemma=>kernel_rfl) (by intro _ _ d _ _ h;cases d<;>exact h) (by intro _ _ d _ _ h;cases d<;>exact h) ?_
   simp only[pick,QFv,QFw,QFx,QFy,QFz]
   repeat (first|go_big_quiet_skip|(go_big_quiet_want;(refine QcM _ rfl hb4.drew rfl ?_);simp only[Act.put,QFD,QFH,QFG];go_big_quiet_on)|(go_big_quiet_step (fail)))
   refine wpQuiet_nil ?_
   refine⟨?mk,?_⟩
   case mk=>
    refine⟨fun o ho=>?_,trivial⟩
    simp only[QFv,QFw,Option.some.injEq]at ho
    subst ho
    refine⟨rfl,fun W=>?_⟩
    unfold execOp
    simp[go_sem]
   simp only[Qbv,pick,QFv,QFw,QFx,QFy,QFz]
   refine wpQuiet_nil ?_
   intro v1 j1
   go_wp2_with fail
   (with_reducible refine (of_1 _).mono ?_);rintro e v2 ⟨rfl,j2⟩
   go_wp2_with fail
   try refine⟨by first|assumption|exact Qab _|exact Qaa _ _|exact Later.refl _,?_⟩
   try simp only[Qah,pick,QFv,QFw,QFx,QFy,QFz]
   repeat (go_big_quiet_step (fail))
   refine wpQuiet_nil ?_
   intro v3 j3
   go_wp2_with fail
   (with_reducible refine (of_1 _).mono ?_);rintro e v4 ⟨rfl,j4⟩
   go_wp2_with fail
   try refine⟨by first|assumption|exact Qab _|exact Qaa _ _|exact Later.refl _,?_⟩
   try simp only[Qbv,pick,QFv,QFw,QFx,QFy,QFz]
   go_big_quiet_want
   refine QbL _ _ rfl (LL x1 ⟨1,0,x1,1⟩) (by simp only[QFI,QFW,QFR];exact QnA x1) ?_
   simp only[Act.put,QFD,QFH,QFG]
   go_big_quiet_on
   refine wpQuiet_nil ?_
   intro v5 gl j5 hgl _ hb5
   simp only[QGD,Act.put,QFD,QFH,QFG]
   refine wpQuiet_nil ?_
   intro v6 j6
   replace hb5:Blk v5 gl 233 (QFu 20 (Value.int .u64 0)):=hb5
   refine Qai rfl rfl _ _ _ rfl gl 0 _ _ (LL x1 ⟨1,0,x1,1⟩) (hb5.later j6) rfl rfl (by rw[QiS];kernel_rfl) (by simp[QiS]) (QCQ _ _) ?_
   intro v7 hb7 ho7
   rw[Qap _ _ (by simp[QiS])]at hb7
   have j:=(((((Qab w4).trans j1).trans j2).trans j3).trans j4).trans (j5.trans j6)
   have hlt0:=hb0.lt
   have hlt2:=hb2.lt
   have hw:=L0.size
   replace hb0:=(hb0.later j).only ho7 (by omega)
   replace hb2:=(hb2.later j).only ho7 (by omega)
   replace L0:=(L0.trans j).only ho7 (by omega)
   have hgl0:w.heap.size≠gl:=by omega
   have hgl2:w1.heap.size≠gl:=by omega
   have hgl3:w.heap.size≤gl:=by omega
   generalize w1.heap.size=g6 at *
   clear ho7 j j1 j2 j3 j4 j5 j6 hb5 hgl hb4 hlt0 hlt2 hw cK cU hs0
   go_wp2_with fail
   go_loopw [10] (fun i wr=>∃k:Nat,k≤255∧i= .int .i64 (dn k)∧Blk wr w.heap.size 45 (QFu 32 (Value.int .u8 0))∧Blk wr g6 45 (K.map W8)∧Blk wr gl 233 (LL x1 (Lad.at x1 K (255-k)))∧Later w wr) (fun i _=>(intOf i+1).toNat)
   case atStart=>exact⟨255,by omega,rfl,hb0,hb2,hb7,L0⟩
   case round=>
    clear hb0 hb2 hb7 L0
    obtain⟨k,hk,rfl,hb0,hb2,hb7,L0⟩:=hrel
    cases k with
    | zero=>
      simp only[Ql1]
      have hok:=Lad.at_ok x1 K hx 255
      rw[show 255-0=255 from rfl]at hb7
      have hMB:=hid (show QbH ks us=nb (Qj1 ks us) by rw[QbH,if_pos ⟨hkl,hul⟩])
      have hME:=hid (show Qbu ks us=if Qj1 ks us=0 then 5 else 0 by rw[Qbu,if_pos ⟨hkl,hul⟩])
      rw[hQ.out]at hMB hME
      generalize Lad.at x1 K 255=S at *
      have hQP:fmul S.x2 (pinv S.z2)<P25:=QF1 _ Qbt
      have hv:=hid (Qt3 S.x2 S.z2 hok.1 hok.2.1)
      generalize fmul S.x2 (pinv S.z2)=Q at *
      have hQT:Q<T256:=QGx hQP (by decide)
      obtain⟨y,hy⟩:=QAs (Qch Q)
      obtain⟨z,hz⟩:=QAs (show (QFu 32 (0:UInt8)).length=32 by simp)
      have hBy:Hid (∀ w,Calls Tryz.prog 114 #[E Q] w fun e w'=>e= .returned (.agg (y.val.map W8).toArray)∧Later w w'):=hid (by
       intro w
       have:=QsK Q hQT w
       rwa [QFT hQP,BB,←hy]at this)
      have hcmp:(y.val==z.val)=decide (Q=0):=by rw[hy,hz];exact Qry Q hQT
      have hyl:=y.2
      have hzl:=z.2
      rw[←hy]at hMB
      have hQ0:=hid (show Q=0→y.val=z.val by rintro rfl;rw[hy,hz];exact Qk9)
      have hZ:=hid hz
      clear hy hz hQ
      by_cases hq:Q=0
      ·have hd:(y.val==z.val)=true:=by rw[hcmp,hq];rfl
       have hyz:=hid (hQ0.out hq)
       rw[hq]at hME
       clear hcmp hq hQ0
       go_wp2_with (first
        | (refine QlH rfl _ rfl hb7 (fun j v hv=>L5_1 _ _ _ _ _ j v hv) rfl ?_)
        | (refine QlH rfl _ rfl hb7 (fun j v hv=>L5_2 _ _ _ _ _ j v hv) rfl ?_)
        | (refine Qao rfl 236 _ rfl (EL S.x2++EL S.z2) ?hb ?_;(case hb=>simp only[QFI,QFW,QFR];exact QjN S.x2 S.z2))
        | (go_at_call 115;(with_reducible refine (hv.out _).mono ?_);rintro e w5 ⟨rfl,hl5⟩)
        | (go_at_call 114;(with_reducible refine (hBy.out _).mono ?_);rintro e w6 ⟨rfl,hl6⟩)
        | (refine QaW rfl rfl _ _ rfl (Blk.new w6 _ (QFu 32 (.int .u8 0))) rfl rfl hyl rfl ?_;intro w7 hb8 ho8)
        | (refine Qfp rfl _ rfl hb8 hyl rfl ?_)
        | (refine Qao rfl 45 _ rfl (z.val.map W8) ?hb ?_;(case hb=>rw[hZ.out];kernel_rfl))
        | (refine QaW rfl rfl _ _ rfl (((hb0.later (hl5.trans hl6)).later (Qaa w6 (.cells (QFu 32 (.int .u8 0)).toArray 45))).only ho8 (by have:=(hb0.later (hl5.trans hl6)).lt;omega)) rfl rfl hzl rfl ?_;intro w9 hb9 ho9)
        | fail)
       exact bodyPost_ret (Qaf rfl _ _ _ _ _ _ hb9 rfl Tryz.underlying45 rfl (by rw[QFA,hzl];exact Qbk)) rfl ⟨by rw[hMB.out,hME.out,hyz.out];rfl,(((L0.trans (hl5.trans hl6)).alloc (.cells (QFu 32 (.int .u8 0)).toArray 45)).only ho8 (by have:=(L0.trans (hl5.trans hl6)).size;omega)).only ho9 (by omega)⟩
      ·have hd:(y.val==z.val)=false:=by rw[hcmp];simp[hq]
       rw[if_neg hq]at hME
       clear hcmp
       go_wp2_with (first
        | (refine QlH rfl _ rfl hb7 (fun j v hv=>L5_1 _ _ _ _ _ j v hv) rfl ?_)
        | (refine QlH rfl _ rfl hb7 (fun j v hv=>L5_2 _ _ _ _ _ j v hv) rfl ?_)
        | (refine Qao rfl 236 _ rfl (EL S.x2++EL S.z2) ?hb ?_;(case hb=>simp only[QFI,QFW,QFR];exact QjN S.x2 S.z2))
        | (go_at_call 115;(with_reducible refine (hv.out _).mono ?_);rintro e w5 ⟨rfl,hl5⟩)
        | (go_at_call 114;(with_reducible refine (hBy.out _).mono ?_);rintro e w6 ⟨rfl,hl6⟩)
        | (refine QaW rfl rfl _ _ rfl (Blk.new w6 _ (QFu 32 (.int .u8 0))) rfl rfl hyl rfl ?_;intro w7 hb8 ho8)
        | (refine Qfp rfl _ rfl hb8 hyl rfl ?_)
        | (refine Qao rfl 45 _ rfl (z.val.map W8) ?hb ?_;(case hb=>rw[hZ.out];kernel_rfl))
        | (refine QaW rfl rfl _ _ rfl (((hb0.later (hl5.trans hl6)).later (Qaa w6 (.cells (QFu 32 (.int .u8 0)).toArray 45))).only ho8 (by have:=(hb0.later (hl5.trans hl6)).lt;omega)) rfl rfl hyl rfl ?_;intro w9 hb9 ho9)
        | fail)
       exact bodyPost_ret (Qaf rfl _ _ _ _ _ _ hb9 rfl Tryz.underlying45 rfl (by rw[QFA,hyl];exact Qbk)) rfl ⟨by rw[hMB.out,hME.out];rfl,(((L0.trans (hl5.trans hl6)).alloc (.cells (QFu 32 (.int .u8 0)).toArray 45)).only ho8 (by have:=(L0.trans (hl5.trans hl6)).size;omega)).only ho9 (by omega)⟩
    | succ k=>
      have d0:=hb2.cellD (k/8) (u:=W8 (K.getD (k/8) 0)) (by rw[QFN,QFC,QFB (by omega)];rfl)
      have hcnt:cnt (QGH ((k:Int)%8))=k%8:=by
       rw[show ((k:Int)%8)=((k%8:Nat):Int) by omega,Qeg,cnt,tn64 (by unfold B64;omega)]
      have hbe:=QvE (K.getD (k/8) 0) (k%8)
      have hst:Lad.at x1 K (255-k)=(Lad.at x1 K (254-k)).round x1 (kbit K k):=by
       rw[show 255-k=(254-k)+1 by omega,Lad.at,show 254-(254-k)=k by omega]
      have hkb:kbit K k=(shr8 (K.getD (k/8) 0) (k%8) &&& 1==1):=by rw[hbe];rfl
      generalize K.getD (k/8) 0=kb at *
      have hok:=Lad.at_ok x1 K hx (254-k)
      rw[show 255-(k+1)=254-k by omega]at hb7
      generalize Lad.at x1 K (254-k)=S at *
      have HST:=hid hst
      clear hst hbe
      simp only[QlS]
      cases hb:kbit K k with
      | false=>
        rw[hb]at hkb HST
        have hd:=hkb.symm
        clear hkb
        go_wp2_with fail
        (with_reducible refine (Qyq gl _ x1 S hx hok _ hb7).mono ?_);rintro e w5 ⟨rfl,hb8,ho8⟩
        go_wp2_with fail
        go_roundw
        case rel=>exact⟨k,by omega,by rw[QfQ],hb0.only ho8 hgl0,hb2.only ho8 hgl2,by rw[HST.out];exact hb8,L0.only ho8 hgl3⟩
        case measure=>simp[intOf]
      | true=>
        rw[hb]at hkb HST
        have hd:=hkb.symm
        clear hkb
        go_wp2_with fail
        (with_reducible refine (QkC gl _ x1 S _ hb7).mono ?_);rintro e w5 ⟨rfl,hb8,ho8⟩
        go_wp2_with fail
        (with_reducible refine (Qyq gl _ x1 S.swap hx (Lad.swap_ok hok) _ hb8).mono ?_);rintro e w6 ⟨rfl,hb9,ho9⟩
        go_wp2_with fail
        (with_reducible refine (QkC gl _ x1 (S.swap.step x1) _ hb9).mono ?_);rintro e w7 ⟨rfl,hb10,ho10⟩
        go_wp2_with fail
        go_roundw
        case rel=>exact⟨k,by omega,by rw[QfQ],((hb0.only ho8 hgl0).only ho9 hgl0).only ho10 hgl0,((hb2.only ho8 hgl2).only ho9 hgl2).only ho10 hgl2,by rw[HST.out];exact hb10,((L0.only ho8 hgl3).only ho9 hgl3).only ho10 hgl3⟩
        case measure=>simp[intOf]
  ·have eU:Qca us=2:=by rw[Qca,if_neg (by omega)]
   rw[eU]at cU
   have hMB:=hid (show QbH ks us=QFu 32 0 by rw[QbH,if_neg (by omega)])
   have hME:=hid (show Qbu ks us=2 by rw[Qbu,if_neg (by omega)])
   generalize QaZ ks=K at *
   generalize QcE us=x1 at *
   go_enter Tryz.func87,Tryz.ntmps87
   go_wp2_with fail
   generalize hW:w.alloc _=w0
   replace L0:Later w w0:=by rw[←hW];exact Qaa _ _
   replace hb0:Blk w0 w.heap.size 45 (QFu 32 (Value.int .u8 0)):=by rw[←hW];exact Blk.new w 45 (QFu 32 (Value.int .u8 0))
   clear hW
   (with_reducible refine (cK.out _ (hk.later L0)).mono ?_);rintro e w1 ⟨rfl,hl1⟩
   replace hb0:=hb0.later hl1
   replace L0:=L0.trans hl1
   go_wp2_with (first
    | (refine QaW rfl rfl _ _ rfl (Blk.new w1 _ (QFu 32 (.int .u8 0))) rfl rfl hcl rfl ?_;intro w2 hb2 ho2)
    | fail)
   replace hb0:=(hb0.later (Qaa w1 (.cells (QFu 32 (.int .u8 0)).toArray 45))).only ho2 (by have:=hb0.lt;omega)
   replace L0:=(L0.trans (Qaa w1 (.cells (QFu 32 (.int .u8 0)).toArray 45))).only ho2 (by have:=L0.size;omega)
   clear ho2 hl1
   (with_reducible refine (cU.out _ (hu.later L0)).mono ?_);rintro e w3 ⟨rfl,hl3⟩
   replace hb0:=hb0.later hl3
   replace L0:=L0.trans hl3
   go_wp2_with (first
    | (refine QaM rfl rfl _ _ rfl (Blk.new w3 _ (QFu 4 (.int .u64 0))) rfl rfl rfl ?_;intro w4 hb4 ho4
       have hb04:=(hb0.later (Qaa w3 (.cells (QFu 4 (.int .u64 0)).toArray 228))).only ho4 (by have:=hb0.lt;omega)
       have L04:=(L0.trans (Qaa w3 (.cells (QFu 4 (.int .u64 0)).toArray 228))).only ho4 (by have:=L0.size;omega))
    | (refine Qao rfl 45 _ rfl (QFu 32 (W8 0)) ?hb ?_;(case hb=>kernel_rfl))
    | (refine QaW (bs:=QFu 32 0) rfl rfl _ _ rfl hb04 rfl (by kernel_rfl) rfl rfl ?_;intro w9 hb9 ho9)
    | fail)
   exact bodyPost_ret (Qaf rfl _ _ _ _ _ _ hb9 rfl Tryz.underlying45 rfl (by rw[QFA,QFM];exact Qbk)) rfl ⟨by rw[hMB.out,hME.out];rfl,L04.only ho9 (by omega)⟩
 ·have eK:Qca ks=2:=by rw[Qca,if_neg (by omega)]
  rw[eK]at cK
  have hMB:=hid (show QbH ks us=QFu 32 0 by rw[QbH,if_neg (by omega)])
  have hME:=hid (show Qbu ks us=2 by rw[Qbu,if_neg (by omega)])
  generalize QaZ ks=K at *
  go_enter Tryz.func87,Tryz.ntmps87
  go_wp2_with fail
  generalize hW:w.alloc _=w0
  replace L0:Later w w0:=by rw[←hW];exact Qaa _ _
  replace hb0:Blk w0 w.heap.size 45 (QFu 32 (Value.int .u8 0)):=by rw[←hW];exact Blk.new w 45 (QFu 32 (Value.int .u8 0))
  clear hW
  (with_reducible refine (cK.out _ (hk.later L0)).mono ?_);rintro e w1 ⟨rfl,hl1⟩
  replace hb0:=hb0.later hl1
  replace L0:=L0.trans hl1
  go_wp2_with (first
   | (refine QaW rfl rfl _ _ rfl (Blk.new w1 _ (QFu 32 (.int .u8 0))) rfl rfl hcl rfl ?_;intro w2 hb2 ho2
      have hb02:=(hb0.later (Qaa w1 (.cells (QFu 32 (.int .u8 0)).toArray 45))).only ho2 (by have:=hb0.lt;omega)
      have L02:=(L0.trans (Qaa w1 (.cells (QFu 32 (.int .u8 0)).toArray 45))).only ho2 (by have:=L0.size;omega))
   | (refine Qao rfl 45 _ rfl (QFu 32 (W8 0)) ?hb ?_;(case hb=>kernel_rfl))
   | (refine QaW (bs:=QFu 32 0) rfl rfl _ _ rfl hb02 rfl (by kernel_rfl) rfl rfl ?_;intro w9 hb9 ho9)
   | fail)
  exact bodyPost_ret (Qaf rfl _ _ _ _ _ _ hb9 rfl Tryz.underlying45 rfl (by rw[QFA,QFM];exact Qbk)) rfl ⟨by rw[hMB.out,hME.out];rfl,L02.only ho9 (by omega)⟩
theorem QnS {ks us:List UInt8} (h:Qbu ks us=0):ks.length=32∧us.length=32:=by
 unfold Qbu at h
 split at h
 ·assumption
 ·cases h
end Go.Proofs.YtcbdgnlcknllnaaGreat
namespace Go.Proofs.YtcbdgnlcknllnaaGreat
namespace Ed
instance neP:NeZero P25:=⟨by decide⟩
abbrev Fp:=Fin P25
def toF (n:Nat):Fp:=Fin.ofNat P25 n
theorem Qck (n:Nat):(toF n).val=n%P25:=rfl
theorem QtZ (a:Fp):toF a.val=a:=Fin.ext (QFT a.isLt)
theorem Qmc (n:Nat):toF (n%P25)=toF n:=Fin.ext (QG3 _ _)
theorem Qz6 (a b:Nat):toF (a+b)=toF a+toF b:=Fin.ext (by rw[Fin.val_add,Qck,Qck,Qck,←QHL])
theorem Ql7 (a b:Nat):toF (a*b)=toF a*toF b:=Fin.ext (by rw[Fin.val_mul,Qck,Qck,Qck,←QGT])
theorem Ql2 (a b:Nat):toF (fadd a b)=toF a+toF b:=by rw[fadd,Qmc,Qz6]
theorem Qg8 (a b:Nat):toF (fmul a b)=toF a*toF b:=by rw[fmul,Qmc,Ql7]
theorem QlJ (a b:Nat):toF (fsub a b)=toF a-toF b:=by
 rw[fsub,Qmc]
 apply Fin.ext
 rw[Fin.sub_def,Qck]
 show _=((P25-(toF b).val)+(toF a).val)%P25
 rw[Qck,Qck,QHr,Nat.add_mod_mod]
theorem Qhc:toF 0=0:=rfl
theorem Qjg {a:Nat}:toF a=0↔a%P25=0:=by
 rw[←Qhc,Fin.ext_iff,Qck,Qck,QHC]
theorem QzT {a b:Nat} (h:toF a=toF b):a%P25=b%P25:=by
 rw[Fin.ext_iff,Qck,Qck]at h
 exact h
theorem QiK {a:Fp} (h:a≠0):a.val%P25≠0:=by
 intro h0
 apply h
 rw[←QtZ a]
 exact Qjg.2 h0
def finv (a:Fp):Fp:=toF (pinv a.val)
theorem Qa4 {a:Fp} (h:a≠0):a*finv a=1:=by
 have h1:=Qwb a.val (QiK h)
 have h2:toF (a.val*pinv a.val)=toF 1:=Fin.ext (by rw[Qck,Qck,h1];rfl)
 rw[Ql7,QtZ]at h2
 exact h2
theorem Qqg:(1:Fp)≠0:=by decide
theorem QkI:(2:Fp)≠0:=by decide
theorem QdF {a b:Fp} (h:a*b=0):a=0∨b=0:=by
 by_cases ha:a=0
 ·exact .inl ha
 ·have:=Qa4 ha
  right
  grobner
theorem Qba {a b:Fp} (ha:a≠0) (hb:b≠0):a*b≠0:=fun h=>(QdF h).elim ha hb
theorem Qfs {a b c:Fp} (hc:c≠0) (h:a*c=b*c):a=b:=by
 have:=Qa4 hc
 grobner
theorem QyH {a:Fp} (h:a*a=1):a=1∨a= -1:=by
 have:(a-1)*(a+1)=0:=by grobner
 rcases QdF this with h|h
 ·left;grobner
 ·right;grobner
def fpow (a:Fp) (n:Nat):Fp:=toF (a.val^n)
theorem Qf7 (a:Fp) (m n:Nat):fpow a (m+n)=fpow a m*fpow a n:=by rw[fpow,QGW,Ql7,fpow,fpow]
theorem QwL (a:Fp):fpow a 1=a:=by rw[fpow,Nat.pow_one,QtZ]
theorem Qc2 (a b:Fp) (n:Nat):fpow (a*b) n=fpow a n*fpow b n:=by
 rw[fpow,fpow,fpow,←Ql7,←Nat.mul_pow]
 apply Fin.ext
 rw[Qck,Qck,Fin.val_mul,←Nat.pow_mod]
theorem Qi9 {a:Fp} (h:a≠0):fpow a (P25-1)=1:=Fin.ext (by rw[fpow,Qck,QyS _ (QiK h)];rfl)
def isSq (a:Fp):Prop:=∃r:Fp,r*r=a
def Hp:Nat:=28948022309329048855892746252171976963317496166410141009864396001978282409974
def Qp:Nat:=14474011154664524427946373126085988481658748083205070504932198000989141204987
def Op:Nat:=7237005577332262213973186563042994240829374041602535252466099000494570602494
theorem QtV {a:Fp} (h:a≠0):fpow a Hp=1∨fpow a Hp= -1:=by
 apply QyH
 rw[←Qf7,show Hp+Hp=P25-1 by decide]
 exact Qi9 h
theorem Qs5 {a:Fp} (h:a≠0) (hs:isSq a):fpow a Hp=1:=by
 obtain⟨r,rfl⟩:=hs
 have hr:r≠0:=by rintro rfl;exact h (by decide)
 rw[Qc2,←Qf7,show Hp+Hp=P25-1 by decide]
 exact Qi9 hr
theorem QuU {i:Fp} (hi:i*i= -1) {a:Fp} (h:fpow a Hp=1):isSq a:=by
 have h1:fpow a Qp*fpow a Qp=1:=by rw[←Qf7,show Qp+Qp=Hp by decide];exact h
 have h2:fpow a Op*fpow a Op=a*fpow a Qp:=by
  rw[←Qf7,show Op+Op=1+Qp by decide,Qf7,QwL]
 rcases QyH h1 with h3|h3
 ·exact⟨fpow a Op,by rw[h2,h3];grobner⟩
 ·exact⟨i*fpow a Op,by rw[h3]at h2;grobner⟩
def Qhf (δ:Fp):Prop:=∀r:Fp,r*r≠δ
@[ext] structure Pt (δ:Fp) where
  x:Fp
  y:Fp
  on:x*x+y*y=1+δ*x*x*y*y
theorem Qjf {δ z w:Fp} (hδ:Qhf δ) (h:w*w=δ*(z*z)):z=0:=by
 by_cases hz:z=0
 ·exact hz
 ·have:=Qa4 hz
  exact absurd (show (w*finv z)*(w*finv z)=δ by grobner) (hδ _)
theorem QpE {δ:Fp} (hδ:Qhf δ) {x1 y1 x2 y2 ε:Fp} (h1:x1*x1+y1*y1=1+δ*x1*x1*y1*y1) (h2:x2*x2+y2*y2=1+δ*x2*x2*y2*y2)
 (ht:δ*x1*x2*y1*y2=ε) (he:ε*ε=1):False:=by
 have a1:(x1+ε*y1)*(x1+ε*y1)=δ*((x1*y1*(x2+y2))*(x1*y1*(x2+y2))):=by grobner
 have a2:(x1-ε*y1)*(x1-ε*y1)=δ*((x1*y1*(x2-y2))*(x1*y1*(x2-y2))):=by grobner
 have b1:=Qjf hδ a1
 have b2:=Qjf hδ a2
 have c:2*(x1*y1*x2)=0:=by grobner
 have hn:2*(x1*y1*x2)≠0:=by
  refine Qba QkI ?_
  intro h0
  have:ε=0:=by rw[←ht];grobner
  rw[this]at he
  revert he
  decide
 exact hn c
section
variable {δ:Fp}
def tt (P Q:Pt δ):Fp:=δ*P.x*Q.x*P.y*Q.y
theorem Qg2 (hδ:Qhf δ) (P Q:Pt δ):1+tt P Q≠0:=fun h=>QpE hδ (ε:= -1) P.on Q.on (by unfold tt at h;grobner) (by decide)
theorem QgR (hδ:Qhf δ) (P Q:Pt δ):1-tt P Q≠0:=fun h=>QpE hδ (ε:=1) P.on Q.on (by unfold tt at h;grobner) (by decide)
theorem QBH {x1 y1 x2 y2 i j:Fp} (h1:x1*x1+y1*y1=1+δ*x1*x1*y1*y1) (h2:x2*x2+y2*y2=1+δ*x2*x2*y2*y2)
 (hi:(1+δ*x1*x2*y1*y2)*i=1) (hj:(1-δ*x1*x2*y1*y2)*j=1):
 ((x1*y2+x2*y1)*i)*((x1*y2+x2*y1)*i)+((y1*y2-x1*x2)*j)*((y1*y2-x1*x2)*j)=1+δ*((x1*y2+x2*y1)*i)*((x1*y2+x2*y1)*i)*((y1*y2-x1*x2)*j)*((y1*y2-x1*x2)*j):=by
 have key:(x1*y2+x2*y1)*(x1*y2+x2*y1)*((1-δ*x1*x2*y1*y2)*(1-δ*x1*x2*y1*y2))+(y1*y2-x1*x2)*(y1*y2-x1*x2)*((1+δ*x1*x2*y1*y2)*(1+δ*x1*x2*y1*y2))
  = (1+δ*x1*x2*y1*y2)*(1+δ*x1*x2*y1*y2)*((1-δ*x1*x2*y1*y2)*(1-δ*x1*x2*y1*y2))+δ*((x1*y2+x2*y1)*(x1*y2+x2*y1))*((y1*y2-x1*x2)*(y1*y2-x1*x2)):=by grobner
 generalize x1*y2+x2*y1=X at *
 generalize y1*y2-x1*x2=Y at *
 generalize 1+δ*x1*x2*y1*y2=A at *
 generalize 1-δ*x1*x2*y1*y2=B at *
 have k2:(X*X*(B*B)+Y*Y*(A*A))*(i*i*(j*j))=(A*A*(B*B)+δ*(X*X)*(Y*Y))*(i*i*(j*j)):=by rw[key]
 have hi2:A*A*(i*i)=1:=by grobner
 have hj2:B*B*(j*j)=1:=by grobner
 clear key h1 h2 hi hj
 grobner
def Pt.add (hδ:Qhf δ) (P Q:Pt δ):Pt δ:=
 ⟨(P.x*Q.y+Q.x*P.y)*finv (1+tt P Q),(P.y*Q.y-P.x*Q.x)*finv (1-tt P Q),QBH P.on Q.on (Qa4 (Qg2 hδ P Q)) (Qa4 (QgR hδ P Q))⟩
variable (hδ:Qhf δ)
theorem QjY (P Q:Pt δ):(P.add hδ Q).x*(1+tt P Q)=P.x*Q.y+Q.x*P.y:=by
 have:=Qa4 (Qg2 hδ P Q)
 show (P.x*Q.y+Q.x*P.y)*finv (1+tt P Q)*(1+tt P Q)=_
 grobner
theorem QgU (P Q:Pt δ):(P.add hδ Q).y*(1-tt P Q)=P.y*Q.y-P.x*Q.x:=by
 have:=Qa4 (QgR hδ P Q)
 show (P.y*Q.y-P.x*Q.x)*finv (1-tt P Q)*(1-tt P Q)=_
 grobner
def Pt.zero:Pt δ:=⟨0,1,by grobner⟩
def Pt.neg (P:Pt δ):Pt δ:=⟨-P.x,P.y,by have:=P.on;grobner⟩
theorem Qmm (P Q:Pt δ):P.add hδ Q=Q.add hδ P:=by
 have ht:tt P Q=tt Q P:=by unfold tt;grobner
 apply Pt.ext
 ·apply Qfs (Qg2 hδ P Q)
  rw[QjY,ht,QjY]
  grobner
 ·apply Qfs (QgR hδ P Q)
  rw[QgU,ht,QgU]
  grobner
theorem Qhg (P:Pt δ):P.add hδ Pt.zero=P:=by
 have ht:tt P (Pt.zero)=0:=by unfold tt Pt.zero;grobner
 apply Pt.ext
 ·apply Qfs (Qg2 hδ P Pt.zero)
  rw[QjY,ht]
  simp only[Pt.zero]
  grobner
 ·apply Qfs (QgR hδ P Pt.zero)
  rw[QgU,ht]
  simp only[Pt.zero]
  grobner
theorem Qx1 (P:Pt δ):P.add hδ P.neg=Pt.zero:=by
 have h:=P.on
 apply Pt.ext
 ·apply Qfs (Qg2 hδ P P.neg)
  rw[QjY]
  simp only[Pt.zero,Pt.neg]
  grobner
 ·apply Qfs (QgR hδ P P.neg)
  rw[QgU]
  simp only[Pt.zero,Pt.neg,tt]
  grobner
end
theorem QA7 {d x1 y1 x2 y2 x3 y3:Fp} (h1:x1*x1+y1*y1=1+d*x1*x1*y1*y1) (h2:x2*x2+y2*y2=1+d*x2*x2*y2*y2) (h3:x3*x3+y3*y3=1+d*x3*x3*y3*y3):
 ((x1*y2+x2*y1)*(1-d*x1*x2*y1*y2)*y3+(y1*y2-x1*x2)*(1+d*x1*x2*y1*y2)*x3)*((1+d*x2*x3*y2*y3)*(1-d*x2*x3*y2*y3)+d*x1*y1*(x2*y3+x3*y2)*(y2*y3-x2*x3))
 = (x1*(y2*y3-x2*x3)*(1+d*x2*x3*y2*y3)+y1*(x2*y3+x3*y2)*(1-d*x2*x3*y2*y3))*((1+d*x1*x2*y1*y2)*(1-d*x1*x2*y1*y2)+d*(x1*y2+x2*y1)*(y1*y2-x1*x2)*x3*y3):=by grobner
theorem QBf {d x1 y1 x2 y2 x3 y3:Fp} (h1:x1*x1+y1*y1=1+d*x1*x1*y1*y1) (h2:x2*x2+y2*y2=1+d*x2*x2*y2*y2) (h3:x3*x3+y3*y3=1+d*x3*x3*y3*y3):
 ((y1*y2-x1*x2)*(1+d*x1*x2*y1*y2)*y3-(x1*y2+x2*y1)*(1-d*x1*x2*y1*y2)*x3)*((1+d*x2*x3*y2*y3)*(1-d*x2*x3*y2*y3)-d*x1*y1*(x2*y3+x3*y2)*(y2*y3-x2*x3))
 = (y1*(y2*y3-x2*x3)*(1+d*x2*x3*y2*y3)-x1*(x2*y3+x3*y2)*(1-d*x2*x3*y2*y3))*((1+d*x1*x2*y1*y2)*(1-d*x1*x2*y1*y2)-d*(x1*y2+x2*y1)*(y1*y2-x1*x2)*x3*y3):=by grobner
theorem QBI {L q X Y x3 y3 xa ya p m:Fp} (l:L*q=xa*y3+x3*ya) (h1:xa*p=X) (h2:ya*m=Y):L*(p*m*q)=X*m*y3+Y*p*x3:=by grobner
theorem QyW {L q X Y x3 y3 xa ya p m:Fp} (l:L*q=ya*y3-xa*x3) (h1:xa*p=X) (h2:ya*m=Y):L*(p*m*q)=Y*p*y3-X*m*x3:=by grobner
theorem QCC {d X Y x3 y3 xa ya p m:Fp} (h1:xa*p=X) (h2:ya*m=Y):p*m*(1+d*xa*x3*ya*y3)=p*m+d*X*Y*x3*y3:=by grobner
theorem QyP {d X Y x3 y3 xa ya p m:Fp} (h1:xa*p=X) (h2:ya*m=Y):p*m*(1-d*xa*x3*ya*y3)=p*m-d*X*Y*x3*y3:=by grobner
theorem QBM {L M d1 d2 n1 n2:Fp} (hd1:d1≠0) (hd2:d2≠0) (h1:L*d1=n1) (h2:M*d2=n2) (h:n1*d2=n2*d1):L=M:=by
 apply Qfs (Qba hd1 hd2)
 clear hd1 hd2
 grobner
section
variable {δ:Fp} (hδ:Qhf δ)
theorem Qkf (P Q R:Pt δ):(P.add hδ Q).add hδ R=P.add hδ (Q.add hδ R):=by
 have a1:=QjY hδ P Q
 have a2:=QgU hδ P Q
 have b1:=QjY hδ Q R
 have b2:=QgU hδ Q R
 have ex:=QA7 P.on Q.on R.on
 have ey:=QBf P.on Q.on R.on
 apply Pt.ext
 ·refine QBM (Qba (Qba (Qg2 hδ P Q) (QgR hδ P Q)) (Qg2 hδ (P.add hδ Q) R)) (Qba (Qba (Qg2 hδ Q R) (QgR hδ Q R)) (Qg2 hδ P (Q.add hδ R)))
   (QBI (QjY hδ (P.add hδ Q) R) a1 a2) (QBI ((QjY hδ P (Q.add hδ R)).trans (show _=(Q.add hδ R).x*P.y+P.x*(Q.add hδ R).y by clear a1 a2 b1 b2 ex ey;grobner)) b1 b2) ?_
  rw[show (1+tt P Q)*(1-tt P Q)*(1+tt (P.add hδ Q) R)=_ from QCC a1 a2,show (1+tt Q R)*(1-tt Q R)*(1+tt P (Q.add hδ R))=_ from (show _=(1+tt Q R)*(1-tt Q R)*(1+δ*(Q.add hδ R).x*P.x*(Q.add hδ R).y*P.y) by unfold tt;clear a1 a2 b1 b2 ex ey;grobner).trans (QCC b1 b2)]
  clear a1 a2 b1 b2 ey
  simp only[tt]
  refine Eq.trans ?_ (ex.trans ?_)
  ·clear ex;grobner
  ·clear ex;grobner
 ·refine QBM (Qba (Qba (Qg2 hδ P Q) (QgR hδ P Q)) (QgR hδ (P.add hδ Q) R)) (Qba (Qba (Qg2 hδ Q R) (QgR hδ Q R)) (QgR hδ P (Q.add hδ R)))
   (QyW (QgU hδ (P.add hδ Q) R) a1 a2) (QyW ((QgU hδ P (Q.add hδ R)).trans (show _=(Q.add hδ R).y*P.y-(Q.add hδ R).x*P.x by clear a1 a2 b1 b2 ex ey;grobner)) b1 b2) ?_
  rw[show (1+tt P Q)*(1-tt P Q)*(1-tt (P.add hδ Q) R)=_ from QyP a1 a2,show (1+tt Q R)*(1-tt Q R)*(1-tt P (Q.add hδ R))=_ from (show _=(1+tt Q R)*(1-tt Q R)*(1-δ*(Q.add hδ R).x*P.x*(Q.add hδ R).y*P.y) by unfold tt;clear a1 a2 b1 b2 ex ey;grobner).trans (QyP b1 b2)]
  clear a1 a2 b1 b2 ex
  simp only[tt]
  refine Eq.trans ?_ (ey.trans ?_)
  ·clear ey;grobner
  ·clear ey;grobner
def Pt.mul (P:Pt δ):Nat→Pt δ
 | 0=>Pt.zero
 | n+1=>(Pt.mul P n).add hδ P
theorem Qna (P:Pt δ):Pt.zero.add hδ P=P:=by rw[Qmm,Qhg]
theorem QeB (P:Pt δ) (m:Nat):∀n,P.mul hδ (m+n)=(P.mul hδ m).add hδ (P.mul hδ n)
 | 0=>by rw[Pt.mul,Qhg];rfl
 | n+1=>by
   show (P.mul hδ (m+n)).add hδ P=(P.mul hδ m).add hδ ((P.mul hδ n).add hδ P)
   rw[QeB P m n,Qkf]
theorem Qiz (P:Pt δ):P.mul hδ 1=P:=Qna hδ P
theorem Qg6 (P:Pt δ) (m:Nat):∀n,P.mul hδ (m*n)=(P.mul hδ m).mul hδ n
 | 0=>rfl
 | n+1=>by
   rw[Nat.mul_succ,QeB,Qg6 P m n]
   rfl
theorem QvP (P Q:Pt δ):(P.add hδ Q).add hδ Q.neg=P:=by rw[Qkf,Qx1,Qhg]
end
def Par (s δ:Fp):Prop:=(s=1∧δ*121666=121665)∨(s= -1∧δ*121665=121666)
def Rep {δ:Fp} (s X Z:Fp) (P:Pt δ):Prop:=∃k:Fp,k≠0∧X=k*(1+P.y)∧Z=k*s*(1-P.y)
theorem QhV {s δ:Fp} (h:Par s δ):s*s=1:=by
 rcases h with ⟨rfl,_⟩|⟨rfl,_⟩<;>grobner
section
variable {δ:Fp} (hδ:Qhf δ)
include hδ in
theorem QeP (z:Fp):1-δ*z*z≠0:=by
 intro h
 have h1:(1:Fp)*1=δ*(z*z):=by grobner
 have:=Qjf hδ h1
 subst this
 revert h
 grobner
include hδ in
theorem QiV:1-δ≠0:=by
 have:=QeP hδ 1
 grobner
theorem QwA {δ x y y2 k X Z:Fp} (on:x*x+y*y=1+δ*x*x*y*y) (h:δ*121666=121665) (hy:y2*(1-δ*x*x*y*y)=y*y-x*x) (hX:X=k*(1+y)) (hZ:Z=k*1*(1-y)):
 (X+Z)*(X+Z)*((X-Z)*(X-Z))=8*k*k*k*k*121666*(1-δ*y*y)*(1-δ*x*x*y*y)*(1+y2)∧
 ((X+Z)*(X+Z)-(X-Z)*(X-Z))*((X+Z)*(X+Z)+121665*((X+Z)*(X+Z)-(X-Z)*(X-Z)))=8*k*k*k*k*121666*(1-δ*y*y)*(1-δ*x*x*y*y)*1*(1-y2):=by
 have e1:(X+Z)*(X+Z)=4*(k*k):=by rw[hX,hZ];clear on h hy hX hZ;grobner
 have e2:(X-Z)*(X-Z)=4*(k*k)*(y*y):=by rw[hX,hZ];clear on h hy hX hZ;grobner
 rw[e1,e2]
 clear hX hZ e1 e2
 constructor
 ·have:(1-δ*y*y)*((1-δ*x*x*y*y)*(1+y2))=2*(y*y)*(1-δ):=by clear h;grobner
  clear on hy
  grobner
 ·have:(1-δ*y*y)*((1-δ*x*x*y*y)*(1-y2))=2*(1-y*y)*(1-δ*y*y):=by clear h;grobner
  clear on hy
  grobner
theorem Qwl {δ x y y2 k X Z:Fp} (on:x*x+y*y=1+δ*x*x*y*y) (h:δ*121665=121666) (hy:y2*(1-δ*x*x*y*y)=y*y-x*x) (hX:X=k*(1+y)) (hZ:Z=k*(-1)*(1-y)):
 (X+Z)*(X+Z)*((X-Z)*(X-Z))= -8*k*k*k*k*121665*(1-δ*y*y)*(1-δ*x*x*y*y)*(1+y2)∧
 ((X+Z)*(X+Z)-(X-Z)*(X-Z))*((X+Z)*(X+Z)+121665*((X+Z)*(X+Z)-(X-Z)*(X-Z)))= -8*k*k*k*k*121665*(1-δ*y*y)*(1-δ*x*x*y*y)*(-1)*(1-y2):=by
 have e1:(X-Z)*(X-Z)=4*(k*k):=by rw[hX,hZ];clear on h hy hX hZ;grobner
 have e2:(X+Z)*(X+Z)=4*(k*k)*(y*y):=by rw[hX,hZ];clear on h hy hX hZ;grobner
 rw[e1,e2]
 clear hX hZ e1 e2
 constructor
 ·have:(1-δ*y*y)*((1-δ*x*x*y*y)*(1+y2))=2*(y*y)*(1-δ):=by clear h;grobner
  clear on hy
  grobner
 ·have:(1-δ*y*y)*((1-δ*x*x*y*y)*(1-y2))=2*(1-y*y)*(1-δ*y*y):=by clear h;grobner
  clear on hy
  grobner
theorem c8:(8:Fp)≠0:=by decide
theorem c8':(-8:Fp)≠0:=by decide
theorem c65:(121665:Fp)≠0:=by decide
theorem c66:(121666:Fp)≠0:=by decide
theorem Qzc {s X Z:Fp} {P:Pt δ} (hp:Par s δ) (h:Rep s X Z P):
 Rep s ((X+Z)*(X+Z)*((X-Z)*(X-Z))) (((X+Z)*(X+Z)-(X-Z)*(X-Z))*((X+Z)*(X+Z)+121665*((X+Z)*(X+Z)-(X-Z)*(X-Z)))) (P.add hδ P):=by
 obtain⟨k,hk,hX,hZ⟩:=h
 have hy:=QgU hδ P P
 have n1:1-δ*P.x*P.x*P.y*P.y≠0:=QgR hδ P P
 have n2:=QeP hδ P.y
 rcases hp with ⟨rfl,hd⟩|⟨rfl,hd⟩
 ·obtain⟨a,b⟩:=QwA P.on hd (by simpa only[tt] using hy) hX hZ
  exact⟨_,Qba (Qba (Qba (Qba (Qba (Qba (Qba c8 hk) hk) hk) hk) c66) n2) n1,a,b⟩
 ·obtain⟨a,b⟩:=Qwl P.on hd (by simpa only[tt] using hy) hX hZ
  exact⟨_,Qba (Qba (Qba (Qba (Qba (Qba (Qba c8' hk) hk) hk) hk) c65) n2) n1,a,b⟩
theorem QzZ {δ x2 y2 x3 y3 yp ym:Fp} (on2:x2*x2+y2*y2=1+δ*x2*x2*y2*y2) (on3:x3*x3+y3*y3=1+δ*x3*x3*y3*y3)
 (hp:yp*(1-δ*x2*x3*y2*y3)=y2*y3-x2*x3) (hm:ym*(1+δ*x2*x3*y2*y3)=y2*y3+x2*x3):
 (y2+y3)*(y2+y3)*((1-δ)*(1-δ*(y2*y3)*(y2*y3)))=(1+yp)*(1+ym)*((1-δ*x2*x3*y2*y3)*(1+δ*x2*x3*y2*y3)*(1-δ*y2*y2)*(1-δ*y3*y3))∧
 (y2-y3)*(y2-y3)*((1-δ)*(1-δ*(y2*y3)*(y2*y3)))=(1-yp)*(1-ym)*((1-δ*x2*x3*y2*y3)*(1+δ*x2*x3*y2*y3)*(1-δ*y2*y2)*(1-δ*y3*y3)):=by
 have u2:x2*x2*(1-δ*y2*y2)=1-y2*y2:=by clear on3 hp hm;grobner
 have u3:x3*x3*(1-δ*y3*y3)=1-y3*y3:=by clear u2 on2 hp hm;grobner
 have p1:(1+yp)*(1-δ*x2*x3*y2*y3)=(1-δ*x2*x3*y2*y3)+(y2*y3-x2*x3):=by clear on2 on3 hm u2 u3;grobner
 have m1:(1+ym)*(1+δ*x2*x3*y2*y3)=(1+δ*x2*x3*y2*y3)+(y2*y3+x2*x3):=by clear on2 on3 u2 u3 hp;grobner
 have p2:(1-yp)*(1-δ*x2*x3*y2*y3)=(1-δ*x2*x3*y2*y3)-(y2*y3-x2*x3):=by clear on2 on3 hm u2 u3;grobner
 have m2:(1-ym)*(1+δ*x2*x3*y2*y3)=(1+δ*x2*x3*y2*y3)-(y2*y3+x2*x3):=by clear on2 on3 u2 u3 hp;grobner
 clear on2 on3 hp hm
 constructor
 ·have:(1+yp)*(1+ym)*((1-δ*x2*x3*y2*y3)*(1+δ*x2*x3*y2*y3)*(1-δ*y2*y2)*(1-δ*y3*y3))=((1+yp)*(1-δ*x2*x3*y2*y3))*((1+ym)*(1+δ*x2*x3*y2*y3))*((1-δ*y2*y2)*(1-δ*y3*y3)):=by clear u2 u3 p1 m1 p2 m2;grobner
  rw[this,p1,m1]
  clear this p1 m1 p2 m2
  grobner
 ·have:(1-yp)*(1-ym)*((1-δ*x2*x3*y2*y3)*(1+δ*x2*x3*y2*y3)*(1-δ*y2*y2)*(1-δ*y3*y3))=((1-yp)*(1-δ*x2*x3*y2*y3))*((1-ym)*(1+δ*x2*x3*y2*y3))*((1-δ*y2*y2)*(1-δ*y3*y3)):=by clear u2 u3 p1 m1 p2 m2;grobner
  rw[this,p2,m2]
  clear this p1 m1 p2 m2
  grobner
theorem Qv4 {s k2 k3 y2 y3 yp ym x1 D E X2 Z2 X3 Z3 w:Fp} (hs:s*s=1) (hx:x1*(1-ym)=s*(1+ym)) (a:(y2+y3)*(y2+y3)*D=(1+yp)*(1+ym)*E) (b:(y2-y3)*(y2-y3)*D=(1-yp)*(1-ym)*E) (hw:D*w=1)
 (hX2:X2=k2*(1+y2)) (hZ2:Z2=k2*s*(1-y2)) (hX3:X3=k3*(1+y3)) (hZ3:Z3=k3*s*(1-y3)):
 ((X3-Z3)*(X2+Z2)+(X3+Z3)*(X2-Z2))*((X3-Z3)*(X2+Z2)+(X3+Z3)*(X2-Z2))=16*k2*k2*k3*k3*E*w*(1+ym)*(1+yp)∧
 x1*(((X3-Z3)*(X2+Z2)-(X3+Z3)*(X2-Z2))*((X3-Z3)*(X2+Z2)-(X3+Z3)*(X2-Z2)))=16*k2*k2*k3*k3*E*w*(1+ym)*s*(1-yp):=by
 have e1:(X3-Z3)*(X2+Z2)+(X3+Z3)*(X2-Z2)=4*(k2*k3)*(y2+y3):=by rw[hX2,hX3,hZ2,hZ3];clear a b hx hw hX2 hX3 hZ2 hZ3;grobner
 have e2:(X3-Z3)*(X2+Z2)-(X3+Z3)*(X2-Z2)= -4*s*(k2*k3)*(y2-y3):=by rw[hX2,hX3,hZ2,hZ3];clear a b hx hw hX2 hX3 hZ2 hZ3;grobner
 rw[e1,e2]
 clear hX2 hX3 hZ2 hZ3 e1 e2
 have a':(y2+y3)*(y2+y3)=(1+yp)*(1+ym)*E*w:=by
  have:(y2+y3)*(y2+y3)*(D*w)=(1+yp)*(1+ym)*E*w:=by clear b hx hs hw;grobner
  rw[hw]at this
  clear a b hx hs hw
  grobner
 have b':(y2-y3)*(y2-y3)=(1-yp)*(1-ym)*E*w:=by
  have:(y2-y3)*(y2-y3)*(D*w)=(1-yp)*(1-ym)*E*w:=by clear a hx hs hw;grobner
  rw[hw]at this
  clear a b hx hs hw
  grobner
 clear a b hw
 constructor
 ·clear b' hx
  grobner
 ·clear a'
  have:x1*((y2-y3)*(y2-y3))=s*(1+ym)*((1-yp)*E*w):=by rw[b',←hx];clear b' hs hx;grobner
  clear b' hx
  grobner
theorem c16:(16:Fp)≠0:=by decide
theorem QAN {s X2 Z2 X3 Z3 x1 ym:Fp} {P Q:Pt δ} (hp:Par s δ) (h2:Rep s X2 Z2 P) (h3:Rep s X3 Z3 Q) (hm:(Q.add hδ P.neg).y=ym) (hx:x1*(1-ym)=s*(1+ym)) (hym:1+ym≠0):
 Rep s (((X3-Z3)*(X2+Z2)+(X3+Z3)*(X2-Z2))*((X3-Z3)*(X2+Z2)+(X3+Z3)*(X2-Z2))) (x1*(((X3-Z3)*(X2+Z2)-(X3+Z3)*(X2-Z2))*((X3-Z3)*(X2+Z2)-(X3+Z3)*(X2-Z2)))) (P.add hδ Q):=by
 obtain⟨k2,hk2,hX2,hZ2⟩:=h2
 obtain⟨k3,hk3,hX3,hZ3⟩:=h3
 have hy:=QgU hδ P Q
 have hy':=QgU hδ Q P.neg
 rw[hm]at hy'
 have ne1:1-δ*P.x*Q.x*P.y*Q.y≠0:=QgR hδ P Q
 have ne2:1+δ*P.x*Q.x*P.y*Q.y≠0:=Qg2 hδ P Q
 obtain⟨a,b⟩:=QzZ P.on Q.on (by simpa only[tt] using hy) (ym:=ym) (by simp only[tt,Pt.neg]at hy';clear hX2 hX3 hZ2 hZ3 hy hm hx hk2 hk3 ne1 ne2 hym;grobner)
 have hD:(1-δ)*(1-δ*(P.y*Q.y)*(P.y*Q.y))≠0:=Qba (QiV hδ) (QeP hδ _)
 obtain⟨c,d⟩:=Qv4 (QhV hp) hx a b (Qa4 hD) hX2 hZ2 hX3 hZ3
 refine⟨_,?_,c,d⟩
 refine Qba (Qba (Qba (Qba (Qba (Qba (Qba c16 hk2) hk2) hk3) hk3) (Qba (Qba (Qba ne1 ne2) (QeP hδ _)) (QeP hδ _))) ?_) hym
 intro h0
 have:=Qa4 hD
 rw[h0]at this
 revert this
 grobner
end
theorem QCK:toF 121665=121665:=rfl
section
variable {δ:Fp} (hδ:Qhf δ)
def LRep (s:Fp) (l:Lad) (P Q:Pt δ):Prop:=Rep s (toF l.x2) (toF l.z2) P∧Rep s (toF l.x3) (toF l.z3) Q
theorem QqC {s ym:Fp} {x1:Nat} {l:Lad} {P Q:Pt δ} (hp:Par s δ) (h:LRep s l P Q) (hm:(Q.add hδ P.neg).y=ym) (hx:toF x1*(1-ym)=s*(1+ym)) (hym:1+ym≠0):
 LRep s (l.step x1) (P.add hδ P) (P.add hδ Q):=by
 have a:=Qzc hδ hp h.1
 have b:=QAN hδ hp h.1 h.2 hm hx hym
 refine⟨?_,?_⟩
 ·simpa only[Lad.step,Qg8,Ql2,QlJ,QCK] using a
 ·simpa only[Lad.step,Qg8,Ql2,QlJ] using b
theorem QrX (P Q:Pt δ):(Q.add hδ P.neg).y=(P.add hδ Q.neg).y:=by
 have a:=QgU hδ Q P.neg
 have b:=QgU hδ P Q.neg
 have n:=QgR hδ Q P.neg
 apply Qfs n
 rw[a]
 have e:tt Q P.neg=tt P Q.neg:=by simp only[tt,Pt.neg];clear a b n;grobner
 rw[e,b]
 simp only[Pt.neg]
 clear a b n e
 grobner
def kval (K:List UInt8):Nat→Nat
 | 0=>0
 | j+1=>2*kval K j+(kbit K (254-j)).toNat
theorem QpB (G:Pt δ) (n:Nat):((G.mul hδ (n+1)).add hδ (G.mul hδ n).neg)=G:=by
 show (((G.mul hδ n).add hδ G).add hδ (G.mul hδ n).neg)=G
 rw[Qmm hδ (G.mul hδ n) G,QvP]
theorem QuL {s:Fp} {x1:Nat} {G:Pt δ} (hp:Par s δ) (hx:toF x1*(1-G.y)=s*(1+G.y)) (hy:1+G.y≠0) (K:List UInt8):
 ∀j,LRep s (Lad.at x1 K j) (G.mul hδ (kval K j)) (G.mul hδ (kval K j+1))
 | 0=>by
   have hs:=QhV hp
   have hy1:1-G.y≠0:=by
    intro h0
    rw[h0]at hx
    have:s*(s*(1+G.y))=0:=by rw[←hx];clear hx hs hp hy;grobner
    have h1:1+G.y=0:=by clear hx hp h0 hy;grobner
    exact hy h1
   refine⟨⟨finv 2,?_,?_,?_⟩,⟨s*finv (1-G.y),?_,?_,?_⟩⟩
   ·intro h0
    have:=Qa4 QkI
    rw[h0]at this
    revert this
    decide
   ·have:=Qa4 QkI
    show (1:Fp)=finv 2*(1+1)
    grobner
   ·show (0:Fp)=finv 2*s*(1-1)
    grobner
   ·intro h0
    have:=Qa4 hy1
    have:s*s=0:=by
     have h1:s*(s*finv (1-G.y))=0:=by rw[h0];clear h0 this hs hx hp hy;grobner
     clear hx hp hy h0
     grobner
    rw[hs]at this
    exact Qqg this
   ·rw[show G.mul hδ (kval K 0+1)=G from Qiz hδ G]
    show toF x1=_
    have:=Qa4 hy1
    clear hp hy hy1
    grobner
   ·rw[show G.mul hδ (kval K 0+1)=G from Qiz hδ G]
    show (1:Fp)=_
    have:=Qa4 hy1
    clear hp hy hy1 hx
    grobner
 | j+1=>by
   have ih:=QuL hp hx hy K j
   have hsub:((G.mul hδ (kval K j+1)).add hδ (G.mul hδ (kval K j)).neg).y=G.y:=by rw[QpB]
   have hsub':((G.mul hδ (kval K j)).add hδ (G.mul hδ (kval K j+1)).neg).y=G.y:=by rw[QrX,QpB]
   have e0:kval K (j+1)=2*kval K j+(kbit K (254-j)).toNat:=rfl
   rw[e0]
   show LRep s (Lad.round x1 (kbit K (254-j)) (Lad.at x1 K j)) _ _
   generalize kval K j=n at *
   cases kbit K (254-j)
   ·have:=QqC hδ hp ih hsub hx hy
    rw[←QeB,←QeB]at this
    rw[show 2*n+false.toNat=n+n by simp;omega,show n+n+1=n+(n+1) by omega]
    exact this
   ·have:=QqC hδ hp (show LRep s (Lad.at x1 K j).swap (G.mul hδ (n+1)) (G.mul hδ n) from ⟨ih.2,ih.1⟩) hsub' hx hy
    rw[←QeB,←QeB]at this
    rw[show 2*n+true.toNat=n+1+n by simp;omega,show n+1+n+1=n+1+(n+1) by omega]
    exact⟨this.2,this.1⟩
def Pt.u (s:Fp) (Q:Pt δ):Fp:=if 1-Q.y=0 then 0 else s*(1+Q.y)*finv (1-Q.y)
theorem QEe {x y d:Fp} (h:x=0) (on:x*x+y*y=1+d*x*x*y*y):(1+y)*(1-y)=0:=by grobner
theorem QE5 {a b:Fp} (h:a=0) (k:b=0) (y z t:Fp):a*y+b*z=0*t:=by grobner
theorem Qyp {c d i r:Fp} (h:r*r=c*i) (hi:d*i=1):d*r*(d*r)=c*d:=by grobner
theorem QEh {u a:Fp} (h:u*u+a*u+1=0):(2*u+a)*(2*u+a)=a*a-4:=by grobner
theorem QCX {u a:Fp} (h:u+1=0):u*(u*u+a*u+1)=a-2:=by grobner
theorem QCs {u a:Fp} (h:u-1=0):u*(u*u+a*u+1)=a+2:=by grobner
theorem Qm9 {a:Nat} (ha:a=0) (n m:Nat) (h:0<n):a^n%m=0:=by rw[ha,Nat.zero_pow h,QHC]
theorem QuY (a:Nat) (ha:a=0):pinv a=0:=Qm9 ha _ _ (by unfold P25;omega)
theorem Qnr:finv 0=0:=by
 unfold finv
 rw[QuY _ (show (0:Fp).val=0 from rfl)]
 rfl
theorem QqB (n:Nat):toF (pinv n)=finv (toF n):=by
 show toF (n^(P25-2)%P25)=toF ((n%P25)^(P25-2)%P25)
 rw[←Nat.pow_mod]
theorem QEd {s X Z:Fp} {Q:Pt δ} (hp:Par s δ) (h:Rep s X Z Q):X*finv Z=Q.u s:=by
 obtain⟨k,hk,hX,hZ⟩:=h
 have hs:=QhV hp
 unfold Pt.u
 split
 ·rename_i h0
  rw[h0]at hZ
  have:Z=0:=by rw[hZ];clear hs hp hX hZ h0;grobner
  rw[this,Qnr]
  clear hs hp hX hZ h0 this
  grobner
 ·rename_i h0
  have hsn:s≠0:=by rintro rfl;revert hs;decide
  have hz:Z≠0:=by rw[hZ];exact Qba (Qba hk hsn) h0
  have i1:=Qa4 hz
  have i2:=Qa4 h0
  have i3:=Qa4 hk
  apply Qfs hz
  have e1:X*finv Z*Z=X:=by clear hX hZ hs hp i2 i3;grobner
  have e2:s*(1+Q.y)*finv (1-Q.y)*Z=k*(1+Q.y):=by rw[hZ];clear hX hZ hp i1 i3 e1;grobner
  rw[e1,e2,hX]
def multN (x1:Nat) (K:List UInt8):Nat:=fmul (Lad.at x1 K 255).x2 (pinv (Lad.at x1 K 255).z2)
theorem QoH {s:Fp} {x1:Nat} {G:Pt δ} (hp:Par s δ) (hx:toF x1*(1-G.y)=s*(1+G.y)) (hy:1+G.y≠0) (K:List UInt8):
 toF (multN x1 K)=(G.mul hδ (kval K 255)).u s:=by
 rw[multN,Qg8,QqB]
 exact QEd hp (QuL hδ hp hx hy K 255).1
include hδ in
theorem Qut {s:Fp} (hp:Par s δ) {Q:Pt δ}:Q.u s=0↔Q.x=0:=by
 have hs:=QhV hp
 have hsn:s≠0:=by rintro rfl;revert hs;decide
 have on:=Q.on
 unfold Pt.u
 constructor
 ·intro h
  have hy:Q.y*Q.y=1:=by
   split at h
   ·rename_i h0
    clear h on hs hp hsn
    grobner
   ·rename_i h0
    have hf:finv (1-Q.y)≠0:=by
     intro h1
     have:=Qa4 h0
     rw[h1]at this
     clear h on hs hp
     have h2:(1:Fp)=0:=by grobner
     exact Qqg h2
    rcases QdF h with h1|h1
    ·rcases QdF h1 with h2|h2
     ·exact absurd h2 hsn
     ·clear h h1 on hs hp hsn hf
      grobner
    ·exact absurd h1 hf
  have:Q.x*Q.x*(1-δ)=0:=by clear h hs hp hsn;grobner
  rcases QdF this with h1|h1
  ·exact (QdF h1).elim id id
  ·exact absurd h1 (QiV hδ)
 ·intro h
  have:(1+Q.y)*(1-Q.y)=0:=QEe h on
  rcases QdF this with h1|h1
  ·split
   ·rfl
   ·rw[h1]
    clear this on hs hp hsn h h1
    grobner
  ·rw[if_pos h1]
theorem Qqd {Q:Pt δ} (h:Q.x=0):∀n,(Q.mul hδ n).x=0
 | 0=>rfl
 | n+1=>by
   have ih:=Qqd h n
   apply Qfs (Qg2 hδ (Q.mul hδ n) Q)
   exact (QjY hδ (Q.mul hδ n) Q).trans (QE5 ih h _ _ _)
theorem Qyk {s:Fp} (hp:Par s δ) {Q:Pt δ} (h:Q.u s≠0):Q.u s*(1-Q.y)=s*(1+Q.y)∧1+Q.y≠0:=by
 have hs:=QhV hp
 unfold Pt.u at h ⊢
 split at h
 ·exact absurd rfl h
 ·rename_i h0
  have:=Qa4 h0
  rw[if_neg h0]
  refine⟨by clear h hs hp;grobner,fun h1=>h ?_⟩
  rw[h1]
  clear h hs hp this
  grobner
end
theorem QiB (a:Fp) (n:Nat) (h:n<2^256):fpow a n=toF (pwm P25 256 a.val n):=by rw[Qqj P25 256 a.val n h,Qmc];rfl
theorem h66:fpow 121666 Hp=1:=by rw[QiB _ _ (by decide)];decide +kernel
theorem h65:fpow 121665 Hp= -1:=by rw[QiB _ _ (by decide)];decide +kernel
theorem h2:fpow 2 Hp= -1:=by rw[QiB _ _ (by decide)];decide +kernel
theorem h4:fpow 4 Hp=1:=by rw[QiB _ _ (by decide)];decide +kernel
theorem hm1:(1:Fp)≠ -1:=by decide
theorem Qki (r:Fp):r*r≠121665*121666:=by
 intro h
 have h0:(121665*121666:Fp)≠0:=Qba c65 c66
 have:=Qs5 h0 ⟨r,h⟩
 rw[Qc2,h65,h66]at this
 revert this
 decide
theorem QBc:∃i:Fp,i*i= -1:=⟨fpow 2 Qp,by rw[←Qf7,show Qp+Qp=Hp by decide,h2]⟩
theorem QCO:Qhf (121665*finv 121666):=by
 intro r h
 have:=Qa4 c66
 exact Qki (121666*r) (Qyp h this)
theorem QCJ:Qhf (121666*finv 121665):=by
 intro r h
 have:=Qa4 c65
 exact Qki (121665*r) ((Qyp h this).trans (by decide))
theorem par1:Par 1 (121665*finv 121666):=.inl ⟨rfl,by have:=Qa4 c66;grobner⟩
theorem par2:Par (-1) (121666*finv 121665):=.inr ⟨rfl,by have:=Qa4 c65;grobner⟩
theorem QAq (u:Fp):u*u+486662*u+1≠0:=by
 intro h
 have e:(2*u+486662)*(2*u+486662)=4*4*(121665*121666):=(QEh h).trans (by decide)
 have n0:(4*4*(121665*121666):Fp)≠0:=by decide
 have:=Qs5 n0 ⟨_,e⟩
 rw[Qc2,Qc2,Qc2,h4,h65,h66]at this
 revert this
 decide
theorem QzU {u h m n r d:Fp} (hh:h=u*u+486662*u+1) (hn:h*n=1) (hm:(u+1)*m=1) (hr:r*r=121666*(u*h)) (hd:d*121666=121665):
 2*r*n*(2*r*n)+(u-1)*m*((u-1)*m)=1+d*(2*r*n)*(2*r*n)*((u-1)*m)*((u-1)*m):=by
 have ex:2*r*n*(2*r*n)=4*121666*u*n:=by clear hm hd hh;grobner
 have ex2:d*(2*r*n)*(2*r*n)=4*121665*u*n:=by clear hm hh hn hr;grobner
 rw[ex,ex2]
 have key:4*121666*u*((u+1)*(u+1))+(u-1)*(u-1)*h=h*((u+1)*(u+1))+4*121665*u*((u-1)*(u-1)):=by rw[hh];clear hn hm hr hd ex ex2 hh;grobner
 have k2:(4*121666*u*((u+1)*(u+1))+(u-1)*(u-1)*h)*(n*(m*m))=(h*((u+1)*(u+1))+4*121665*u*((u-1)*(u-1)))*(n*(m*m)):=by rw[key]
 have hm2:(u+1)*(u+1)*(m*m)=1:=by clear key k2 ex ex2 hn hr hd hh;grobner
 clear key ex ex2 hr hd hh
 generalize (u+1)*(u+1)=v at *
 clear hm
 grobner
theorem QA1 {u h m n r d:Fp} (hh:h=u*u+486662*u+1) (hn:h*n=1) (hm:(u-1)*m=1) (hr:r*r=121665*(u*h)) (hd:d*121665=121666):
 2*r*n*(2*r*n)+(u+1)*m*((u+1)*m)=1+d*(2*r*n)*(2*r*n)*((u+1)*m)*((u+1)*m):=by
 have ex:2*r*n*(2*r*n)=4*121665*u*n:=by clear hm hd hh;grobner
 have ex2:d*(2*r*n)*(2*r*n)=4*121666*u*n:=by clear hm hh hn hr;grobner
 rw[ex,ex2]
 have key:4*121665*u*((u-1)*(u-1))+(u+1)*(u+1)*h=h*((u-1)*(u-1))+4*121666*u*((u+1)*(u+1)):=by rw[hh];clear hn hm hr hd ex ex2 hh;grobner
 have k2:(4*121665*u*((u-1)*(u-1))+(u+1)*(u+1)*h)*(n*(m*m))=(h*((u-1)*(u-1))+4*121666*u*((u+1)*(u+1)))*(n*(m*m)):=by rw[key]
 have hm2:(u-1)*(u-1)*(m*m)=1:=by clear key k2 ex ex2 hn hr hd hh;grobner
 clear key ex ex2 hr hd hh
 generalize (u-1)*(u-1)=v at *
 clear hm
 grobner
theorem Qno {u:Fp} (hu:u≠0):∃(s δ:Fp) (_:Qhf δ) (_:Par s δ) (P:Pt δ),u*(1-P.y)=s*(1+P.y)∧1+P.y≠0:=by
 obtain⟨i,hi⟩:=QBc
 have hq:=QAq u
 have hg:u*(u*u+486662*u+1)≠0:=Qba hu hq
 have hn:=Qa4 hq
 rcases QtV hg with h1|h1
 ·obtain⟨r,hr⟩:=QuU hi (show fpow (121666*(u*(u*u+486662*u+1))) Hp=1 by rw[Qc2,h66,h1];decide)
  have hu1:u+1≠0:=by
   intro h0
   have:u*(u*u+486662*u+1)=4*121665:=(QCX h0).trans (by decide)
   rw[this,Qc2,h4,h65]at h1
   revert h1
   decide
  have hm:=Qa4 hu1
  refine⟨1,_,QCO,par1,⟨_,_,QzU rfl hn hm hr (by have:=Qa4 c66;clear hr hm hn h1 hi;grobner)⟩,?_,?_⟩
  ·show u*(1-(u-1)*finv (u+1))=1*(1+(u-1)*finv (u+1))
   clear hr hn h1 hi
   grobner
  ·show 1+(u-1)*finv (u+1)≠0
   have e:1+(u-1)*finv (u+1)=2*u*finv (u+1):=by clear hr hn h1 hi;grobner
   rw[e]
   refine Qba (Qba QkI hu) fun h0=>?_
   rw[h0]at hm
   exact Qqg (by clear hr hn h1 hi e;grobner)
 ·obtain⟨r,hr⟩:=QuU hi (show fpow (121665*(u*(u*u+486662*u+1))) Hp=1 by rw[Qc2,h65,h1];decide)
  have hu1:u-1≠0:=by
   intro h0
   have:u*(u*u+486662*u+1)=4*121666:=(QCs h0).trans (by decide)
   rw[this,Qc2,h4,h66]at h1
   revert h1
   decide
  have hm:=Qa4 hu1
  refine⟨-1,_,QCJ,par2,⟨_,_,QA1 rfl hn hm hr (by have:=Qa4 c65;clear hr hm hn h1 hi;grobner)⟩,?_,?_⟩
  ·show u*(1-(u+1)*finv (u-1))= -1*(1+(u+1)*finv (u-1))
   clear hr hn h1 hi
   grobner
  ·show 1+(u+1)*finv (u-1)≠0
   have e:1+(u+1)*finv (u-1)=2*u*finv (u-1):=by clear hr hn h1 hi;grobner
   rw[e]
   refine Qba (Qba QkI hu) fun h0=>?_
   rw[h0]at hm
   exact Qqg (by clear hr hn h1 hi e;grobner)
theorem QiA (x1:Nat) (K:List UInt8):multN x1 K<P25:=QF1 _ Qbt
theorem Qml {x1:Nat} (h:toF x1=0) (K:List UInt8):∀j,toF (Lad.at x1 K j).x2*toF (Lad.at x1 K j).z2=0∧toF (Lad.at x1 K j).x3*toF (Lad.at x1 K j).z3=0
 | 0=>⟨by show toF 1*toF 0=0;rw[Qhc];grobner,by show toF x1*toF 1=0;rw[h];grobner⟩
 | j+1=>by
   have st:∀l:Lad,toF l.x2*toF l.z2=0→toF (l.step x1).x2*toF (l.step x1).z2=0∧toF (l.step x1).x3*toF (l.step x1).z3=0:=by
    intro l hl
    simp only[Lad.step,Qg8,Ql2,QlJ,h]
    generalize toF l.x2=a at *
    generalize toF l.z2=b at *
    generalize toF l.x3=c at *
    generalize toF l.z3=d at *
    constructor
    ·have e:(a+b)*(a+b)-(a-b)*(a-b)=0:=by grobner
     rw[e]
     clear e hl
     grobner
    ·clear hl
     grobner
   have ih:=Qml h K j
   have e0:Lad.at x1 K (j+1)=Lad.round x1 (kbit K (254-j)) (Lad.at x1 K j):=rfl
   rw[e0]
   unfold Lad.round
   cases kbit K (254-j)
   ·exact st _ ih.1
   ·have:=st (Lad.at x1 K j).swap ih.2
    exact⟨this.2,this.1⟩
theorem Qtc {n:Nat} (hn:n<P25) (h:toF n=0):n=0:=by
 have:=Qjg.1 h
 rwa [QFT hn]at this
theorem Qdp {x1:Nat} (h:toF x1=0) (K:List UInt8):multN x1 K=0:=by
 apply Qtc (QiA _ _)
 rw[multN,Qg8,QqB]
 rcases QdF (Qml h K 255).1 with h0|h0
 ·rw[h0]
  grobner
 ·rw[h0,Qnr]
  grobner
theorem multN_comm (x1:Nat) (K L:List UInt8):multN (multN x1 K) L=multN (multN x1 L) K:=by
 by_cases h0:toF x1=0
 ·rw[Qdp h0,Qdp h0,Qdp Qhc,Qdp Qhc]
 ·obtain⟨s,δ,hδ,hp,G,hx,hy⟩:=Qno h0
  have half:∀K L,toF (multN (multN x1 K) L)=(G.mul hδ (kval K 255*kval L 255)).u s:=by
   intro K L
   have e1:=QoH hδ hp hx hy K
   rw[Qg6]
   by_cases h1:toF (multN x1 K)=0
   ·rw[Qdp h1]
    have h2:(G.mul hδ (kval K 255)).x=0:=(Qut hδ hp).1 (by rw[←e1];exact h1)
    exact ((Qut hδ hp).2 (Qqd hδ h2 _)).symm
   ·have h2:(G.mul hδ (kval K 255)).u s≠0:=by rw[←e1];exact h1
    obtain⟨b1,b2⟩:=Qyk hp h2
    exact QoH hδ hp (by rw[e1];exact b1) b2 L
  have:=(half K L).trans ((by rw[QGF]:_=_).trans (half L K).symm)
  have:=QzT this
  rwa [QFT (QiA _ _),QFT (QiA _ _)]at this
end Ed
end Go.Proofs.YtcbdgnlcknllnaaGreat
