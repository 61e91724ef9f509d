/-
  Lemmas for the last text of this claim (part 8 of 20).
-/
import Derived.ArgAppend
import Derived.BigQuiet
import Derived.BigRegion
import Derived.ChangeOld
import Derived.Deep.RegionWith
import Derived.DeepKeys4
import Derived.JoinedCond
import Derived.LaidMore
import Derived.Laws.BytesArg
import Derived.Laws.CopyOwn
import Derived.Laws.Externs
import Derived.Laws.IdiomStrings
import Derived.Laws.Tables
import Derived.Lib.AppendStr
import Derived.Lib.AppendZerosOnto
import Derived.Lib.Mul64
import Derived.Lib.SlBytesConst
import Derived.LoopN
import Derived.Maps.OwnSet
import Derived.OpenShut
import Derived.OrdersHeld
import Derived.ProofKit
import Derived.Shelf.Spec.BitsCarry
import Derived.ShutString
import Derived.Test.YtdhgpkdjdmlphaaGreatProg
import Derived.Test.YtdhgpkdjdmlphaaGreatRows
import Derived.WalkKit
import Derived.WalkLawsBesides
import Derived.WalkSpells
import Derived.Test.YtdhgpkdjdmlphaaGreatUD
import Derived.Test.YtdhgpkdjdmlphaaGreatUG
open Bool renaming eq_iff_iff → QHh
open List renaming replicate → QGn, getElem?_cons_succ → QGo, getElem?_cons_zero → QGp, getD_eq_getElem?_getD → QGq, length_map → QGr, getElem?_eq_getElem → QGt, cons_append → QGu, nil_append → QGv, setIfInBounds_toArray → QGw, set_cons_zero → QGz, length_replicate → QGA, set_cons_succ → QGB, map_toArray → QGC, take_of_length_le → QGD, getElem?_append_right → QGE, getElem?_map → QGF, getElem?_append_left → QGG, map_nil → QGH, mem_cons → QGJ, getElem?_eq_some_iff → QGL, map_cons → QGR, mem_append → QHd, getElem?_set_self → QHS, getElem?_set_ne → QHU, map_set → QIP
open Nat renaming mod_eq_of_lt → QGO, zero_add → QGT, mod_lt → QGU, lt_trans → QHr
open Option renaming toList_some → QGs, bind_some → QHN
open UInt64 renaming ofInt → QHo
open UInt8 renaming toNat_inj → QHl
set_option linter.all false
namespace Go.Proofs.YtdhgpkdjdmlphaaGreat
open Go.RowKit
open Go.BigFrame
def fadd (a b:Nat):Nat:=(a+b)%P25
def fsub (a b:Nat):Nat:=(a+(P25-b%P25))%P25
def fmul (a b:Nat):Nat:=a*b%P25
def L5 (a b c d e:Nat):List Value:=EL a++(EL b++(EL c++(EL d++EL e)))
theorem QfP (a b c d e:Nat):(L5 a b c d e).length=20:=by simp[L5,Qak]
theorem L5_0 (a b c d e j:Nat) (v:Value) (h:(EL a)[j]?=some v):(L5 a b c d e)[0+j]?=some v:=by
 have hj:j<4:=by have:=(QGL.1 h).1;rwa [Qak]at this
 rw[QGT,L5,QGG (by rw[Qak];exact hj)]
 exact h
theorem L5_1 (a b c d e j:Nat) (v:Value) (h:(EL b)[j]?=some v):(L5 a b c d e)[4+j]?=some v:=by
 have hj:j<4:=by have:=(QGL.1 h).1;rwa [Qak]at this
 rw[L5,QGE (by rw[Qak];omega),Qak,QGG (by rw[Qak];omega),show 4+j-4=j by omega]
 exact h
theorem L5_2 (a b c d e j:Nat) (v:Value) (h:(EL c)[j]?=some v):(L5 a b c d e)[8+j]?=some v:=by
 have hj:j<4:=by have:=(QGL.1 h).1;rwa [Qak]at this
 rw[L5,QGE (by rw[Qak];omega),Qak,QGE (by rw[Qak];omega),Qak,QGG (by rw[Qak];omega),show 8+j-4-4=j by omega]
 exact h
theorem L5_3 (a b c d e j:Nat) (v:Value) (h:(EL d)[j]?=some v):(L5 a b c d e)[12+j]?=some v:=by
 have hj:j<4:=by have:=(QGL.1 h).1;rwa [Qak]at this
 rw[L5,QGE (by rw[Qak];omega),Qak,QGE (by rw[Qak];omega),Qak,QGE (by rw[Qak];omega),Qak,QGG (by rw[Qak];omega),show 12+j-4-4-4=j by omega]
 exact h
theorem L5_4 (a b c d e j:Nat) (v:Value) (h:(EL e)[j]?=some v):(L5 a b c d e)[16+j]?=some v:=by
 rw[L5,QGE (by rw[Qak];omega),Qak,QGE (by rw[Qak];omega),Qak,QGE (by rw[Qak];omega),Qak,QGE (by rw[Qak];omega),Qak,show 16+j-4-4-4-4=j by omega]
 exact h
theorem QAn (a b c d e n:Nat):Qar (L5 a b c d e) 4 (EL n)=L5 a n c d e:=by
 simp only[L5,Qdp,Qar]
 rfl
theorem QAJ (a b c d e n:Nat):Qar (L5 a b c d e) 8 (EL n)=L5 a b n d e:=by
 simp only[L5,Qdp,Qar]
 rfl
theorem QBm (a b c d e n:Nat):Qar (L5 a b c d e) 12 (EL n)=L5 a b c n e:=by
 simp only[L5,Qdp,Qar]
 rfl
theorem QB1 (a b c d e n:Nat):Qar (L5 a b c d e) 16 (EL n)=L5 a b c d n:=by
 simp only[L5,Qdp,Qar]
 rfl
section
variable {ops:Array Oper} {rest:List Oper} {o:Oper} {a:Act} {w:World} {Q:Exit→Act→World→Prop}
theorem Ql0 (hw:Region.wanted o (yielded ops a.tmps)=true) (x:Operand) (ho:o.op= .load 211 x) {g off:Nat} {t:TypeId} {l:List Value} {n:Nat} (hb:Blk w g t l) (hl:∀j v,(EL n)[j]?=some v→l[off+j]?=some v) (hx:a.eval x= .pointer (some ⟨g,off,none⟩))
 (h:wpList Tryz.prog ops Q rest (a.put o.dst (E n)) w):wpList Tryz.prog ops Q (o :: rest) a w:=
 wpList_want hw fun K hK=>by
  unfold Oper.wp
  simp only[execOp,ho,hx,Instr.loadAt,Instr.sureAddr,Sem.run_bind,Sem.run_pure,Result.andThen_ok,Qbw w g off 211 (EL n) _ (fun j v hv=>hb.cellD _ (hl j v hv)) Tryz.underlying211 rfl (by rw[Qak];exact QhN)]
  exact hK _ _ h
theorem QiD (hgd:o.guard=none) (hd:o.dst=none) (x y:Operand) (ho:o.op= .store 211 x y) {g off:Nat} {t:TypeId} {l:List Value} {n:Nat} (hg:Blk w g t l) (hx:a.eval x= .pointer (some ⟨g,off,none⟩)) (hy:a.eval y=E n) (hl:off+4≤l.length)
 (h:∀w',Blk w' g t (Qar l off (EL n))→Only g w w'→wpList Tryz.prog ops Q rest a w'):wpList Tryz.prog ops Q (o :: rest) a w:=
 Qal hgd hd _ x y ho g off t l _ hg hx hy (by rw[Qak];exact QhN) (by rw[Qak];exact hl) (Qqq n) h
theorem Qfp {K:Act→Prop} (x:Operand) (ho:o.op= .load 211 x) {w0:World} {g off:Nat} {t:TypeId} {l:List Value} {n:Nat} (hb:Blk w0 g t l) (hl:∀j v,(EL n)[j]?=some v→l[off+j]?=some v) (hx:a.eval x= .pointer (some ⟨g,off,none⟩)) (h:K (a.put o.dst (E n))):
 o.quiet Tryz.prog a (fun w'=>∃x,w'=grow w0 x) K:=
 QaJ _ x ho g off (EL n) (fun w' hw j v hv=>by obtain⟨y,rfl⟩:=hw;exact (hb.later ⟨y,rfl⟩).cellD _ (hl j v hv)) hx _ Tryz.underlying211 rfl (by rw[Qak];exact QhN) h
end
end Go.Proofs.YtdhgpkdjdmlphaaGreat
namespace Go.Proofs.YtdhgpkdjdmlphaaGreat
open Go.RowKit
set_option maxRecDepth 100000 in
set_option maxHeartbeats 8000000 in
theorem Qnl (g:Nat) (t:TypeId) (x1 x2 z2 x3 z3:Nat) (w:World) (hb:Blk w g t (L5 x1 x2 z2 x3 z3)):
 Calls Tryz.prog 125 #[.pointer (some ⟨g,0,none⟩)] w fun e w'=>e= .returned (.tuple #[])∧Blk w' g t (L5 x1 x3 z3 x2 z2)∧Only g w w':=by
 have e0:L5 x1 x2 z2 x3 z3=[n64 (lim x1 0),n64 (lim x1 1),n64 (lim x1 2),n64 (lim x1 3),n64 (lim x2 0),n64 (lim x2 1),n64 (lim x2 2),n64 (lim x2 3),n64 (lim z2 0),n64 (lim z2 1),n64 (lim z2 2),n64 (lim z2 3),n64 (lim x3 0),n64 (lim x3 1),n64 (lim x3 2),n64 (lim x3 3),n64 (lim z3 0),n64 (lim z3 1),n64 (lim z3 2),n64 (lim z3 3)]:=by simp only[L5,Qdp];rfl
 have hb':=hb
 rw[e0]at hb'
 have HB:=hid hb'
 clear e0 hb
 have c4:=hb'.cellD 4 rfl;have c5:=hb'.cellD 5 rfl;have c6:=hb'.cellD 6 rfl;have c7:=hb'.cellD 7 rfl
 have c8:=hb'.cellD 8 rfl;have c9:=hb'.cellD 9 rfl;have c10:=hb'.cellD 10 rfl;have c11:=hb'.cellD 11 rfl
 have c12:=hb'.cellD 12 rfl;have c13:=hb'.cellD 13 rfl;have c14:=hb'.cellD 14 rfl;have c15:=hb'.cellD 15 rfl
 have c16:=hb'.cellD 16 rfl;have c17:=hb'.cellD 17 rfl;have c18:=hb'.cellD 18 rfl;have c19:=hb'.cellD 19 rfl
 have f4:=hb'.frozen 4;have f5:=hb'.frozen 5;have f6:=hb'.frozen 6;have f7:=hb'.frozen 7
 have f8:=hb'.frozen 8;have f9:=hb'.frozen 9;have f10:=hb'.frozen 10;have f11:=hb'.frozen 11
 have f12:=hb'.frozen 12;have f13:=hb'.frozen 13;have f14:=hb'.frozen 14;have f15:=hb'.frozen 15
 have f16:=hb'.frozen 16;have f17:=hb'.frozen 17;have f18:=hb'.frozen 18;have f19:=hb'.frozen 19
 clear hb'
 go_enter Tryz.func125,Tryz.ntmps125
 go_wp2_with fail
 go_region
 have hfin:=((((((((((((((((HB.out.set_ 4 (n64 (lim x3 0))).set_ 5 (n64 (lim x3 1))).set_ 6 (n64 (lim x3 2))).set_ 7 (n64 (lim x3 3))).set_ 8 (n64 (lim z3 0))).set_ 9 (n64 (lim z3 1))).set_ 10 (n64 (lim z3 2))).set_ 11 (n64 (lim z3 3))).set_ 12 (n64 (lim x2 0))).set_ 13 (n64 (lim x2 1))).set_ 14 (n64 (lim x2 2))).set_ 15 (n64 (lim x2 3))).set_ 16 (n64 (lim z2 0))).set_ 17 (n64 (lim z2 1))).set_ 18 (n64 (lim z2 2))).set_ 19 (n64 (lim z2 3))).drew
 have hon:=Only.later (c:=World.drew _) (((((((((((((((((World.grownBy.refl w _).trans (QaL _ g 4 (n64 (lim x3 0)))).trans (QaL _ g 5 (n64 (lim x3 1)))).trans (QaL _ g 6 (n64 (lim x3 2)))).trans (QaL _ g 7 (n64 (lim x3 3)))).trans (QaL _ g 8 (n64 (lim z3 0)))).trans (QaL _ g 9 (n64 (lim z3 1)))).trans (QaL _ g 10 (n64 (lim z3 2)))).trans (QaL _ g 11 (n64 (lim z3 3)))).trans (QaL _ g 12 (n64 (lim x2 0)))).trans (QaL _ g 13 (n64 (lim x2 1)))).trans (QaL _ g 14 (n64 (lim x2 2)))).trans (QaL _ g 15 (n64 (lim x2 3)))).trans (QaL _ g 16 (n64 (lim z2 0)))).trans (QaL _ g 17 (n64 (lim z2 1)))).trans (QaL _ g 18 (n64 (lim z2 2)))).trans (QaL _ g 19 (n64 (lim z2 3)))) (Qab _)
 have e1:L5 x1 x3 z3 x2 z2=[n64 (lim x1 0),n64 (lim x1 1),n64 (lim x1 2),n64 (lim x1 3),n64 (lim x3 0),n64 (lim x3 1),n64 (lim x3 2),n64 (lim x3 3),n64 (lim z3 0),n64 (lim z3 1),n64 (lim z3 2),n64 (lim z3 3),n64 (lim x2 0),n64 (lim x2 1),n64 (lim x2 2),n64 (lim x2 3),n64 (lim z2 0),n64 (lim z2 1),n64 (lim z2 2),n64 (lim z2 3)]:=by simp only[L5,Qdp];rfl
 clear HB c4 c5 c6 c7 c8 c9 c10 c11 c12 c13 c14 c15 c16 c17 c18 c19 f4 f5 f6 f7 f8 f9 f10 f11 f12 f13 f14 f15 f16 f17 f18 f19
 refine bodyPost_end (results_none rfl _ _ _) rfl ⟨rfl,?_,hon⟩
 rw[e1]
 exact hfin
end Go.Proofs.YtdhgpkdjdmlphaaGreat
namespace Go.Proofs.YtdhgpkdjdmlphaaGreat
open Go.RowKit
open Go.BigFrame
theorem Only.past {g j:Nat} {a b c:World} (h:Only g a b) (k:Only j b c) (hj:a.heap.size≤j):Only g a c:=
 World.grownBy.andThen h k (fun i e=>.inl (by injection e with e;omega))
theorem Qfv (a b:Nat):fadd a b<T256:=QHr (QGU _ Qbp) (by decide)
theorem Qfu (a b:Nat):fsub a b<T256:=QHr (QGU _ Qbp) (by decide)
theorem QbP (a b:Nat):fmul a b<T256:=QHr (QGU _ Qbp) (by decide)
theorem sum2 (x y:Nat) (hx:x<T256) (hy:y<T256) (w:World) (g:Nat) (hb:Blk w g 211 (EL x++EL y)):
 Calls Tryz.prog 155 #[.slice (some ⟨g,0,none⟩) 2 2] w fun e w'=>e= .returned (E (fadd x y))∧Later w w':=by
 have:=QBi (some ⟨g,0,none⟩) 2 2 [x,y] w (Qta [x,y] 2 hb (by simp) rfl) (by intro z hz;simp at hz;rcases hz with rfl|rfl;exact hx;exact hy) (by omega)
 rwa [show [x,y].sum=x+y by simp]at this
theorem Qf9 (x y:Nat) (hx:x<T256) (hy:y<T256) (w:World) (g:Nat) (hb:Blk w g 211 (EL x++EL y)):
 Calls Tryz.prog 158 #[.slice (some ⟨g,0,none⟩) 2 2] w fun e w'=>e= .returned (E (fmul x y))∧Later w w':=by
 have:=QoU (some ⟨g,0,none⟩) 2 2 [x,y] w (Qta [x,y] 2 hb (by simp) rfl) (by intro z hz;simp at hz;rcases hz with rfl|rfl;exact hx;exact hy) (by omega) (by omega)
 rwa [show QfB [x,y]=x*y by simp[QfB]]at this
theorem Qme (x:Nat) (hx:x<T256) (w:World):
 Calls Tryz.prog 157 #[E x] w fun e w'=>e= .returned (E (fmul x x))∧Later w w':=Qht x hx w
theorem sub2 (x y:Nat) (hx:x<T256) (hy:y<T256) (w:World):
 Calls Tryz.prog 156 #[E x,E y] w fun e w'=>e= .returned (E (fsub x y))∧Later w w':=Qyp x y hx hy w
section
variable {ops:Array Oper} {o:Oper} {a:Act}
theorem Qgf (hw:Region.wanted o (yielded ops a.tmps)=true) (x y:Operand) (ho:o.op= .buildSlice 306 2 #[(0,x),(1,y)]) (n m:Nat) (hx:a.eval x=E n) (hy:a.eval y=E m):
 Makes Tryz.prog ops o (fun g=>.slice (some ⟨g,0,none⟩) 2 2) (.cells (EL n++EL m).toArray 211) a:=
 ⟨hw,fun w=>by
   have hr:=QkC n m w
   simp only[execOp,ho,QGC,QGR,QGH,hx,hy,Sem.run_bind,hr,Result.andThen_ok,Sem.run_pure]⟩
theorem Qdt (hw:Region.wanted o (yielded ops a.tmps)=true) (ho:o.op= .alloc 211):
 Makes Tryz.prog ops o (fun g=>.pointer (some ⟨g,0,none⟩)) (.cells (QGn 4 (.int .u64 0)).toArray 211) a:=
 ⟨hw,fun w=>by
   unfold execOp
   rw[ho]
   simp[go_sem]⟩
end
structure St (w0 wk:World) (g:Nat) (t:TypeId) (l:List Value) (ls:List (Nat×Nat)):Prop where
 only:Only g w0 wk
 blk:Blk wk g t l
 loc:∀p∈ls,Blk wk p.1 211 (EL p.2)∧w0.heap.size≤p.1
 gl:g<w0.heap.size
section
variable {w0 wk v:World} {g:Nat} {t:TypeId} {l:List Value} {ls:List (Nat×Nat)}
theorem St.nth (h:St w0 wk g t l ls) (i:Nat) {k n:Nat} (hi:ls[i]?=some (k,n)):Blk wk k 211 (EL n):=(h.loc (k,n) (List.mem_of_getElem? hi)).1
theorem St.later (h:St w0 wk g t l ls) (k:Later wk v):St w0 v g t l ls:=
 ⟨h.only.later k,h.blk.later k,fun p hp=>⟨(h.loc p hp).1.later k,(h.loc p hp).2⟩,h.gl⟩
theorem St.drew (h:St w0 wk g t l ls):St w0 wk.drew g t l ls:=h.later (Qab _)
theorem St.write {l':List Value} (h:St w0 wk g t l ls) (k:Only g wk v) (hb:Blk v g t l'):St w0 v g t l' ls:=
 ⟨h.only.trans k,hb,fun p hp=>⟨(h.loc p hp).1.only k (by have:=(h.loc p hp).2;have:=h.gl;omega),(h.loc p hp).2⟩,h.gl⟩
theorem St.one {v1:World} {k n:Nat} (h:St w0 wk g t l ls) (j:Later wk v) (hk:wk.heap.size≤k) (o:Only k v v1) (hb:Blk v1 k 211 (EL n)):St w0 v1 g t l ((k,n) :: ls):=by
 have h1:=h.later j
 have hs:=h.only.size
 refine⟨h1.only.past o (by omega),h1.blk.only o (by have:=h.blk.lt;omega),?_,h.gl⟩
 intro p hp
 rcases QGJ.1 hp with rfl|hp
 ·exact⟨hb,by show w0.heap.size≤k;omega⟩
 ·exact⟨(h1.loc p hp).1.only o (by have:=(h.loc p hp).1.lt;omega),(h.loc p hp).2⟩
theorem St.two {v1 v2:World} {k1 k2 n1 n2:Nat} (h:St w0 wk g t l ls) (j:Later wk v) (hk1:wk.heap.size≤k1) (hk2:wk.heap.size≤k2) (hne:k1≠k2) (o1:Only k1 v v1) (hb1:Blk v1 k1 211 (EL n1)) (o2:Only k2 v1 v2) (hb2:Blk v2 k2 211 (EL n2)):St w0 v2 g t l ((k1,n1) :: (k2,n2) :: ls):=by
 have h1:=h.later j
 have hs:=h.only.size
 refine⟨(h1.only.past o1 (by omega)).past o2 (by omega),(h1.blk.only o1 (by have:=h.blk.lt;omega)).only o2 (by have:=h.blk.lt;omega),?_,h.gl⟩
 intro p hp
 rcases QGJ.1 hp with rfl|hp
 ·exact⟨hb1.only o2 hne,by show w0.heap.size≤k1;omega⟩
 rcases QGJ.1 hp with rfl|hp
 ·exact⟨hb2,by show w0.heap.size≤k2;omega⟩
 ·exact⟨((h1.loc p hp).1.only o1 (by have:=(h.loc p hp).1.lt;omega)).only o2 (by have:=(h.loc p hp).1.lt;omega),(h.loc p hp).2⟩
end
set_option maxRecDepth 100000 in
set_option maxHeartbeats 8000000 in
theorem Qoq (g:Nat) (t:TypeId) (x1 x2 z2 x3 z3:Nat) (k1:x1<T256) (k2:x2<T256) (k3:z2<T256) (k4:x3<T256) (k5:z3<T256) (w:World) (hb:Blk w g t (L5 x1 x2 z2 x3 z3)):
 Calls Tryz.prog 126 #[.pointer (some ⟨g,0,none⟩)] w fun e w'=>e= .returned (.tuple #[])∧Blk w' g t (L5 x1
  (fmul (fmul (fadd x2 z2) (fadd x2 z2)) (fmul (fsub x2 z2) (fsub x2 z2)))
  (fmul (fsub (fmul (fadd x2 z2) (fadd x2 z2)) (fmul (fsub x2 z2) (fsub x2 z2))) (fadd (fmul (fadd x2 z2) (fadd x2 z2)) (fmul 121665 (fsub (fmul (fadd x2 z2) (fadd x2 z2)) (fmul (fsub x2 z2) (fsub x2 z2))))))
  (fmul (fadd (fmul (fsub x3 z3) (fadd x2 z2)) (fmul (fadd x3 z3) (fsub x2 z2))) (fadd (fmul (fsub x3 z3) (fadd x2 z2)) (fmul (fadd x3 z3) (fsub x2 z2))))
  (fmul x1 (fmul (fsub (fmul (fsub x3 z3) (fadd x2 z2)) (fmul (fadd x3 z3) (fsub x2 z2))) (fsub (fmul (fsub x3 z3) (fadd x2 z2)) (fmul (fadd x3 z3) (fsub x2 z2))))))∧Only g w w':=by
 have cA:=hid (sum2 x2 z2 k2 k3)
 have cB:=hid (sub2 x2 z2 k2 k3)
 have cC:=hid (sum2 x3 z3 k4 k5)
 have cD:=hid (sub2 x3 z3 k4 k5)
 have tA:=Qfv x2 z2
 have tB:=Qfu x2 z2
 have tC:=Qfv x3 z3
 have tD:=Qfu x3 z3
 generalize fadd x2 z2=A at *
 generalize fsub x2 z2=B at *
 generalize fadd x3 z3=C at *
 generalize fsub x3 z3=D at *
 have cAA:=hid (Qme A tA)
 have cBB:=hid (Qme B tB)
 have cDA:=hid (Qf9 D A tD tA)
 have cCB:=hid (Qf9 C B tC tB)
 have tAA:=QbP A A
 have tBB:=QbP B B
 have tDA:=QbP D A
 have tCB:=QbP C B
 generalize fmul A A=AA at *
 generalize fmul B B=BB at *
 generalize fmul D A=DA at *
 generalize fmul C B=CB at *
 have cF:=hid (sub2 AA BB tAA tBB)
 have tF:=Qfu AA BB
 have cS:=hid (sum2 DA CB tDA tCB)
 have tS:=Qfv DA CB
 have cG:=hid (sub2 DA CB tDA tCB)
 have tG:=Qfu DA CB
 have cX2:=hid (Qf9 AA BB tAA tBB)
 generalize fsub AA BB=F at *
 generalize fadd DA CB=S at *
 generalize fsub DA CB=G at *
 generalize fmul AA BB=X2 at *
 have cSS:=hid (Qme S tS)
 have cGG:=hid (Qme G tG)
 have tGG:=QbP G G
 have cM:=hid (Qf9 121665 F (by decide) tF)
 have tM:=QbP 121665 F
 generalize fmul S S=X3 at *
 generalize fmul G G=GG at *
 generalize fmul 121665 F=M at *
 have cZ3:=hid (Qf9 x1 GG k1 tGG)
 have cN:=hid (sum2 AA M tAA tM)
 have tN:=Qfv AA M
 generalize fmul x1 GG=Z3 at *
 generalize fadd AA M=N at *
 have cZ2:=hid (Qf9 F N tF tN)
 generalize fmul F N=Z2 at *
 have cOf:Hid (∀ w,Calls Tryz.prog 93 #[.int .u64 121665] w fun e w'=>e= .returned (E 121665)∧Later w w'):=hid (Qt5 121665 (by decide))
 clear tA tB tC tD tAA tBB tDA tCB tF tS tG tGG tM tN k1 k2 k3 k4 k5
 have S0:St w w g t (L5 x1 x2 z2 x3 z3) []:=⟨World.grownBy.refl w _,hb,by simp,hb.lt⟩
 go_enter Tryz.func126,Tryz.ntmps126
 go_wp2_with fail
 refine QaC [0,1,2,3,4,5,6,7,10,11,12,13,14,15,16,17] [([],2,8),([],1,9),([],1,18),([],2,19),([],2,20)] [] [21,22] [8,19,20] (fun i=>if i=8 then (fun g=>.slice (some ⟨g,0,none⟩) 2 2,.cells (EL x2++EL z2).toArray 211) else (fun g=>.pointer (some ⟨g,0,none⟩),.cells (QGn 4 (Value.int .u64 0)).toArray 211)) (by as_aux_lemma=>kernel_rfl) (by as_aux_lemma=>kernel_rfl) (by intro _ _ d _ _ h;cases d<;>exact h) (by intro _ _ d _ _ h;cases d<;>exact h) ?_
 simp only[pick,QGo,QGp,QGs,QGu,QGv]
 repeat (first|go_big_quiet_skip|(go_big_quiet_want;(first|refine Qfp _ rfl S0.drew.blk (fun j v hv=>L5_1 _ _ _ _ _ j v hv) rfl ?_|refine Qfp _ rfl S0.drew.blk (fun j v hv=>L5_2 _ _ _ _ _ j v hv) rfl ?_);simp only[Act.put,QGw,QGB,QGz];go_big_quiet_on)|(go_big_quiet_step (fail)))
 refine wpQuiet_nil ?_
 refine⟨?mk,?_⟩
 case mk=>
  refine⟨fun o ho=>?_,fun o ho=>?_,fun o ho=>?_,trivial⟩
  all_goals
   simp only[QGo,QGp,Option.some.injEq]at ho
   subst ho
  ·exact Qgf rfl _ _ rfl x2 z2 rfl rfl
  ·exact Qdt rfl rfl
  ·exact Qdt rfl rfl
 simp only[Qbu,pick,QGo,QGp,QGs,QGu,QGv,reduceIte,QHN]
 refine wpQuiet_nil ?_
 intro aa gx j1 _ _ hx1
 have hx2:Blk aa gx 211 (EL x2++EL z2):=hx1
 refine wpQuiet_nil ?_
 intro ab j2
 go_wp2_with fail
 (with_reducible refine (cA.out _ gx (hx2.later j2)).mono ?_);rintro e ac ⟨rfl,j3⟩
 go_wp2_with fail
 try refine⟨by first|assumption|exact Qab _|exact Qaa _ _|exact Later.refl _,?_⟩
 try simp only[Qaj,pick,QGo,QGp,QGs,QGu,QGv]
 repeat (go_big_quiet_step (fail))
 refine wpQuiet_nil ?_
 intro ad j4
 go_wp2_with fail
 (with_reducible refine (cB.out _).mono ?_);rintro e ae ⟨rfl,j5⟩
 go_wp2_with fail
 try refine⟨by first|assumption|exact Qab _|exact Qaa _ _|exact Later.refl _,?_⟩
 try simp only[Qaj,pick,QGo,QGp,QGs,QGu,QGv]
 repeat (go_big_quiet_step (fail))
 refine wpQuiet_nil ?_
 have j0:=((((Qab _).trans j1).trans j2).trans j3).trans (j4.trans j5)
 clear j1 j2 j3 j4 j5 hx1 hx2
 intro a1 gA i1 hg1 _ hb1
 refine wpQuiet_nil ?_
 intro a2 gB i2 hg2 hn2 hb2
 refine wpQuiet_nil ?_
 intro a3 i3
 have hne:gA≠gB:=fun e=>hn2 (.inl e.symm)
 have hX:Blk a3 gA 211 (QGn 4 (Value.int .u64 0)):=Blk.later (show Blk a1 gA _ _ from hb1) (i2.trans i3)
 have hY:Blk a3 gB 211 (QGn 4 (Value.int .u64 0)):=Blk.later (show Blk a2 gB _ _ from hb2) i3
 have jj:=j0.trans (i1.trans (i2.trans i3))
 clear hb1 hb2 i1 i2 i3 hn2
 simp only[Act.put,QGw,QGB,QGz]
 go_wp2_with (first
  | (refine QaI rfl rfl _ _ rfl hX rfl rfl rfl ?_;intro a4 hb3 ho3
     have hY3:=hY.only ho3 (fun e=>hne e.symm))
  | (refine QaI rfl rfl _ _ rfl hY3 rfl rfl rfl ?_;intro a5 hb4 ho4
     have S1:=S0.two jj hg1 hg2 hne ho3 hb3 ho4 hb4)
  | fail)
 clear jj hX hY hY3 hg1 hg2 hne ho3 hb3 ho4 hb4 S0
 clear j0 cA cB
 go_wp2_with fail
 refine QaC [0,1,2,3,4,5,6,7,10,11,12,13,14,15,16,17] [([],2,8),([],1,9),([],1,18),([],2,19),([],2,20)] [] [21,22] [8,19,20] (fun i=>if i=8 then (fun g=>.slice (some ⟨g,0,none⟩) 2 2,.cells (EL x3++EL z3).toArray 211) else (fun g=>.pointer (some ⟨g,0,none⟩),.cells (QGn 4 (Value.int .u64 0)).toArray 211)) (by as_aux_lemma=>kernel_rfl) (by as_aux_lemma=>kernel_rfl) (by intro _ _ d _ _ h;cases d<;>exact h) (by intro _ _ d _ _ h;cases d<;>exact h) ?_
 simp only[pick,QGo,QGp,QGs,QGu,QGv]
 repeat (first|go_big_quiet_skip|(go_big_quiet_want;(first|refine Qfp _ rfl S1.drew.blk (fun j v hv=>L5_3 _ _ _ _ _ j v hv) rfl ?_|refine Qfp _ rfl S1.drew.blk (fun j v hv=>L5_4 _ _ _ _ _ j v hv) rfl ?_);simp only[Act.put,QGw,QGB,QGz];go_big_quiet_on)|(go_big_quiet_step (fail)))
 refine wpQuiet_nil ?_
 refine⟨?mk,?_⟩
 case mk=>
  refine⟨fun o ho=>?_,fun o ho=>?_,fun o ho=>?_,trivial⟩
  all_goals
   simp only[QGo,QGp,Option.some.injEq]at ho
   subst ho
  ·exact Qgf rfl _ _ rfl x3 z3 rfl rfl
  ·exact Qdt rfl rfl
  ·exact Qdt rfl rfl
 simp only[Qbu,pick,QGo,QGp,QGs,QGu,QGv,reduceIte,QHN]
 refine wpQuiet_nil ?_
 intro ba gx j1 _ _ hx1
 have hx2:Blk ba gx 211 (EL x3++EL z3):=hx1
 refine wpQuiet_nil ?_
 intro bb j2
 go_wp2_with fail
 (with_reducible refine (cC.out _ gx (hx2.later j2)).mono ?_);rintro e bc ⟨rfl,j3⟩
 go_wp2_with fail
 try refine⟨by first|assumption|exact Qab _|exact Qaa _ _|exact Later.refl _,?_⟩
 try simp only[Qaj,pick,QGo,QGp,QGs,QGu,QGv]
 repeat (go_big_quiet_step (fail))
 refine wpQuiet_nil ?_
 intro bd j4
 go_wp2_with fail
 (with_reducible refine (cD.out _).mono ?_);rintro e be ⟨rfl,j5⟩
 go_wp2_with fail
 try refine⟨by first|assumption|exact Qab _|exact Qaa _ _|exact Later.refl _,?_⟩
 try simp only[Qaj,pick,QGo,QGp,QGs,QGu,QGv]
 repeat (go_big_quiet_step (fail))
 refine wpQuiet_nil ?_
 have j0:=((((Qab _).trans j1).trans j2).trans j3).trans (j4.trans j5)
 clear j1 j2 j3 j4 j5 hx1 hx2
 intro b1 gC i1 hg1 _ hb1
 refine wpQuiet_nil ?_
 intro b2 gD i2 hg2 hn2 hb2
 refine wpQuiet_nil ?_
 intro b3 i3
 have hne:gC≠gD:=fun e=>hn2 (.inl e.symm)
 have hX:Blk b3 gC 211 (QGn 4 (Value.int .u64 0)):=Blk.later (show Blk b1 gC _ _ from hb1) (i2.trans i3)
 have hY:Blk b3 gD 211 (QGn 4 (Value.int .u64 0)):=Blk.later (show Blk b2 gD _ _ from hb2) i3
 have jj:=j0.trans (i1.trans (i2.trans i3))
 clear hb1 hb2 i1 i2 i3 hn2
 simp only[Act.put,QGw,QGB,QGz]
 go_wp2_with (first
  | (refine QaI rfl rfl _ _ rfl hX rfl rfl rfl ?_;intro b4 hb3 ho3
     have hY3:=hY.only ho3 (fun e=>hne e.symm))
  | (refine QaI rfl rfl _ _ rfl hY3 rfl rfl rfl ?_;intro b5 hb4 ho4
     have S2:=S1.two jj hg1 hg2 hne ho3 hb3 ho4 hb4)
  | fail)
 clear jj hX hY hY3 hg1 hg2 hne ho3 hb3 ho4 hb4 S1
 clear j0 cC cD
 go_wp2_with fail
 refine QaC [0,2] [([],1,1),([],1,3),([],2,4),([],2,5)] [] [6,7] [4,5] (fun _=>(fun g=>.pointer (some ⟨g,0,none⟩),.cells (QGn 4 (Value.int .u64 0)).toArray 211)) (by as_aux_lemma=>kernel_rfl) (by as_aux_lemma=>kernel_rfl) (by intro _ _ d _ _ h;cases d<;>exact h) (by intro _ _ d _ _ h;cases d<;>exact h) ?_
 simp only[pick,QGo,QGp,QGs,QGu,QGv]
 repeat (first|go_big_quiet_skip|(go_big_quiet_want;(first|refine QcY _ rfl (S2.drew.nth 2 rfl) rfl ?_|refine QcY _ rfl (S2.drew.nth 3 rfl) rfl ?_);simp only[Act.put,QGw,QGB,QGz];go_big_quiet_on)|(go_big_quiet_step (fail)))
 refine wpQuiet_nil ?_
 refine⟨?mk,?_⟩
 case mk=>
  refine⟨fun o ho=>?_,fun o ho=>?_,trivial⟩
  all_goals
   simp only[QGo,QGp,Option.some.injEq]at ho
   subst ho
   exact Qdt rfl rfl
 simp only[Qbu,pick,QGo,QGp,QGs,QGu,QGv,QHN]
 refine wpQuiet_nil ?_
 intro ca j1
 go_wp2_with fail
 (with_reducible refine (cAA.out _).mono ?_);rintro e cb ⟨rfl,j2⟩
 go_wp2_with fail
 try refine⟨by first|assumption|exact Qab _|exact Qaa _ _|exact Later.refl _,?_⟩
 try simp only[Qaj,pick,QGo,QGp,QGs,QGu,QGv]
 repeat (go_big_quiet_step (fail))
 refine wpQuiet_nil ?_
 intro cc j3
 go_wp2_with fail
 (with_reducible refine (cBB.out _).mono ?_);rintro e cd ⟨rfl,j4⟩
 go_wp2_with fail
 try refine⟨by first|assumption|exact Qab _|exact Qaa _ _|exact Later.refl _,?_⟩
 try simp only[Qaj,pick,QGo,QGp,QGs,QGu,QGv]
 repeat (go_big_quiet_step (fail))
 refine wpQuiet_nil ?_
 have j0:=(((Qab _).trans j1).trans j2).trans (j3.trans j4)
 clear j1 j2 j3 j4
 intro c1 gAA i1 hg1 _ hb1
 refine wpQuiet_nil ?_
 intro c2 gBB i2 hg2 hn2 hb2
 refine wpQuiet_nil ?_
 intro c3 i3
 have hne:gAA≠gBB:=fun e=>hn2 (.inl e.symm)
 have hX:Blk c3 gAA 211 (QGn 4 (Value.int .u64 0)):=Blk.later (show Blk c1 gAA _ _ from hb1) (i2.trans i3)
 have hY:Blk c3 gBB 211 (QGn 4 (Value.int .u64 0)):=Blk.later (show Blk c2 gBB _ _ from hb2) i3
 have jj:=j0.trans (i1.trans (i2.trans i3))
 clear hb1 hb2 i1 i2 i3 hn2
 simp only[Act.put,QGw,QGB,QGz]
 go_wp2_with (first
  | (refine QaI rfl rfl _ _ rfl hX rfl rfl rfl ?_;intro c4 hb3 ho3
     have hY3:=hY.only ho3 (fun e=>hne e.symm))
  | (refine QaI rfl rfl _ _ rfl hY3 rfl rfl rfl ?_;intro c5 hb4 ho4
     have S3:=S2.two jj hg1 hg2 hne ho3 hb3 ho4 hb4
     have q0:=S3.nth 0 rfl
     have q1:=S3.nth 1 rfl)
  | (refine QbK rfl _ rfl q0 rfl ?_)
  | (refine QbK rfl _ rfl q1 rfl ?_)
  | fail)
 clear jj hX hY hY3 hg1 hg2 hne ho3 hb3 ho4 hb4 S2
 clear j0 cAA cBB
 (with_reducible refine (cF.out _).mono ?_);rintro e d1 ⟨rfl,j1⟩
 go_wp2_with (first
  | (refine QaI rfl rfl _ _ rfl (Blk.new d1 _ (QGn 4 (.int .u64 0))) rfl rfl rfl ?_;intro d2 hb3 ho3)
  | fail)
 have S4:=S3.one (j1.trans (Qaa d1 _)) j1.size ho3 hb3
 clear j1 hb3 ho3 S3 cF q0 q1
 generalize hgF:d1.heap.size=gF at *
 clear hgF
 refine QaC [0,1,4,5] [([],2,2),([],1,3),([],2,6),([],1,7),([],2,8),([],2,9)] [] [10,11] [2,6,8,9] (fun i=>if i=2 then (fun g=>.slice (some ⟨g,0,none⟩) 2 2,.cells (EL D++EL A).toArray 211) else if i=6 then (fun g=>.slice (some ⟨g,0,none⟩) 2 2,.cells (EL C++EL B).toArray 211) else (fun g=>.pointer (some ⟨g,0,none⟩),.cells (QGn 4 (Value.int .u64 0)).toArray 211)) (by as_aux_lemma=>kernel_rfl) (by as_aux_lemma=>kernel_rfl) (by intro _ _ d _ _ h;cases d<;>exact h) (by intro _ _ d _ _ h;cases d<;>exact h) ?_
 simp only[pick,QGo,QGp,QGs,QGu,QGv]
 repeat (first|go_big_quiet_skip|(go_big_quiet_want;(first|refine QcY _ rfl (S4.drew.nth 3 rfl) rfl ?_|refine QcY _ rfl (S4.drew.nth 4 rfl) rfl ?_|refine QcY _ rfl (S4.drew.nth 5 rfl) rfl ?_|refine QcY _ rfl (S4.drew.nth 6 rfl) rfl ?_);simp only[Act.put,QGw,QGB,QGz];go_big_quiet_on)|(go_big_quiet_step (fail)))
 refine wpQuiet_nil ?_
 refine⟨?mk,?_⟩
 case mk=>
  refine⟨fun o ho=>?_,fun o ho=>?_,fun o ho=>?_,fun o ho=>?_,trivial⟩
  all_goals
   simp only[QGo,QGp,Option.some.injEq]at ho
   subst ho
  ·exact Qgf rfl _ _ rfl D A rfl rfl
  ·exact Qgf rfl _ _ rfl C B rfl rfl
  ·exact Qdt rfl rfl
  ·exact Qdt rfl rfl
 simp only[Qbu,pick,QGo,QGp,QGs,QGu,QGv,reduceIte,QHN]
 refine wpQuiet_nil ?_
 intro e1 gx j1 _ _ hx1
 have hx2:Blk e1 gx 211 (EL D++EL A):=hx1
 refine wpQuiet_nil ?_
 intro e2 j2
 go_wp2_with fail
 (with_reducible refine (cDA.out _ gx (hx2.later j2)).mono ?_);rintro e e3 ⟨rfl,j3⟩
 go_wp2_with fail
 try refine⟨by first|assumption|exact Qab _|exact Qaa _ _|exact Later.refl _,?_⟩
 try simp only[Qaj,pick,QGo,QGp,QGs,QGu,QGv]
 repeat (go_big_quiet_step (fail))
 refine wpQuiet_nil ?_
 intro e4 gy j4 _ _ hy1
 have hy2:Blk e4 gy 211 (EL C++EL B):=hy1
 refine wpQuiet_nil ?_
 intro e5 j5
 go_wp2_with fail
 (with_reducible refine (cCB.out _ gy (hy2.later j5)).mono ?_);rintro e e6 ⟨rfl,j6⟩
 go_wp2_with fail
 try refine⟨by first|assumption|exact Qab _|exact Qaa _ _|exact Later.refl _,?_⟩
 try simp only[Qaj,pick,QGo,QGp,QGs,QGu,QGv]
 repeat (go_big_quiet_step (fail))
 refine wpQuiet_nil ?_
 have j0:=(((Qab _).trans j1).trans (j2.trans j3)).trans ((j4.trans j5).trans j6)
 clear j1 j2 j3 j4 j5 j6 hx1 hx2 hy1 hy2
 intro f1 gDA i1 hg1 _ hb1
 refine wpQuiet_nil ?_
 intro f2 gCB i2 hg2 hn2 hb2
 refine wpQuiet_nil ?_
 intro f3 i3
 have hne:gDA≠gCB:=fun e=>hn2 (.inl e.symm)
 have hX:Blk f3 gDA 211 (QGn 4 (Value.int .u64 0)):=Blk.later (show Blk f1 gDA _ _ from hb1) (i2.trans i3)
 have hY:Blk f3 gCB 211 (QGn 4 (Value.int .u64 0)):=Blk.later (show Blk f2 gCB _ _ from hb2) i3
 have jj:=j0.trans (i1.trans (i2.trans i3))
 clear hb1 hb2 i1 i2 i3 hn2
 simp only[Act.put,QGw,QGB,QGz]
 go_wp2_with (first
  | (refine QaI rfl rfl _ _ rfl hX rfl rfl rfl ?_;intro f4 hb3 ho3
     have hY3:=hY.only ho3 (fun e=>hne e.symm))
  | (refine QaI rfl rfl _ _ rfl hY3 rfl rfl rfl ?_;intro f5 hb4 ho4
     have S5:=S4.two jj hg1 hg2 hne ho3 hb3 ho4 hb4
     have q0:=S5.nth 0 rfl
     have q1:=S5.nth 1 rfl)
  | (refine QbK rfl _ rfl q0 rfl ?_)
  | (refine QbK rfl _ rfl q1 rfl ?_)
  | (refine Qd1 rfl _ _ rfl DA CB rfl rfl ?_)
  | fail)
 clear jj hX hY hY3 hg1 hg2 hne ho3 hb3 ho4 hb4 S4
 clear j0 cDA cCB
 (with_reducible refine (cS.out _ _ (Blk.new f5 _ (EL DA++EL CB))).mono ?_);rintro e h1 ⟨rfl,j1⟩
 go_wp2_with fail
 (with_reducible refine (cSS.out _).mono ?_);rintro e h2 ⟨rfl,j2⟩
 replace S5:=(S5.later (Qaa f5 _)).later (j1.trans j2)
 go_wp2_with (first
  | (refine QiD rfl rfl _ _ rfl S5.blk rfl rfl (by rw[QfP];omega) ?_;intro h3 hb3 ho3)
  | fail)
 rw[QBm]at hb3
 have S6:=S5.write ho3 hb3
 clear j1 j2 hb3 ho3 S5 cS cSS q0 q1
 go_wp2_with fail
 refine Qaf [([0,1,2,3,4,5,6],7),([],8),([],9),([],10)] [11,12] [13] (by as_aux_lemma=>kernel_rfl) (by as_aux_lemma=>kernel_rfl) (by intro _ _ d _ _ h;cases d<;>exact h) ?_
 simp only[Qaj,pick,QGo,QGp,QGs,QGu,QGv]
 repeat (first|go_big_quiet_skip|(go_big_quiet_want;(first|refine QcY _ rfl (S6.drew.nth 0 rfl) rfl ?_|refine QcY _ rfl (S6.drew.nth 1 rfl) rfl ?_|refine Qfp _ rfl S6.drew.blk (fun j v hv=>L5_0 _ _ _ _ _ j v hv) rfl ?_);simp only[Act.put,QGw,QGB,QGz];go_big_quiet_on)|(go_big_quiet_step (fail)))
 refine wpQuiet_nil ?_
 go_wp2_with fail
 (with_reducible refine (cG.out _).mono ?_);rintro e p1 ⟨rfl,j1⟩
 go_wp2_with fail
 try refine⟨by first|assumption|exact Qab _|exact Qaa _ _|exact Later.refl _,?_⟩
 try simp only[Qaj,pick,QGo,QGp,QGs,QGu,QGv]
 repeat (go_big_quiet_step (fail))
 refine wpQuiet_nil ?_
 go_wp2_with fail
 (with_reducible refine (cGG.out _).mono ?_);rintro e p2 ⟨rfl,j2⟩
 go_wp2_with fail
 try refine⟨by first|assumption|exact Qab _|exact Qaa _ _|exact Later.refl _,?_⟩
 try simp only[Qaj,pick,QGo,QGp,QGs,QGu,QGv]
 repeat (go_big_quiet_step (fail))
 refine wpQuiet_nil ?_
 go_wp2_with (first
  | (refine Qd1 rfl _ _ rfl x1 GG rfl rfl ?_)
  | fail)
 refine⟨Qaa _ _,?_⟩
 simp only[Act.put,QGw,QGB,QGz]
 refine wpQuiet_nil ?_
 go_wp2_with fail
 (with_reducible refine (cZ3.out _ _ (Blk.new p2 _ (EL x1++EL GG))).mono ?_);rintro e p3 ⟨rfl,j3⟩
 replace S6:=S6.later ((((Qab _).trans j1).trans j2).trans ((Qaa p2 _).trans j3))
 go_wp2_with fail
 try refine⟨by first|assumption|exact Qab _|exact Qaa _ _|exact Later.refl _,?_⟩
 try simp only[Qaj,pick,QGo,QGp,QGs,QGu,QGv]
 repeat (go_big_quiet_step (fail))
 refine wpQuiet_nil ?_
 go_wp2_with (first
  | (refine QiD rfl rfl _ _ rfl S6.blk rfl rfl (by rw[QfP];omega) ?_;intro p4 hb3 ho3
     rw[QB1]at hb3
     have S7:=S6.write ho3 hb3
     have q3:=S7.nth 3 rfl
     have q4:=S7.nth 4 rfl)
  | (refine QbK rfl _ rfl q3 rfl ?_)
  | (refine QbK rfl _ rfl q4 rfl ?_)
  | (refine Qd1 rfl _ _ rfl AA BB rfl rfl ?_)
  | fail)
 clear j1 j2 j3 hb3 ho3 S6 q3 q4 cG cGG cZ3
 (with_reducible refine (cX2.out _ _ (Blk.new p4 _ (EL AA++EL BB))).mono ?_);rintro e r1 ⟨rfl,j1⟩
 replace S7:=S7.later ((Qaa p4 _).trans j1)
 go_wp2_with (first
  | (refine QiD rfl rfl _ _ rfl S7.blk rfl rfl (by rw[QfP];omega) ?_;intro r2 hb3 ho3
     rw[QAn]at hb3
     have S8:=S7.write ho3 hb3)
  | fail)
 clear j1 hb3 ho3 S7 cX2
 refine Qaf [([0,1,2,4],3),([],5),([],6),([],7),([],8),([],9),([],10)] [11,12] [13] (by as_aux_lemma=>kernel_rfl) (by as_aux_lemma=>kernel_rfl) (by intro _ _ d _ _ h;cases d<;>exact h) ?_
 simp only[Qaj,pick,QGo,QGp,QGs,QGu,QGv]
 repeat (first|go_big_quiet_skip|(go_big_quiet_want;(first|refine QcY _ rfl (S8.drew.nth 2 rfl) rfl ?_|refine QcY _ rfl (S8.drew.nth 3 rfl) rfl ?_);simp only[Act.put,QGw,QGB,QGz];go_big_quiet_on)|(go_big_quiet_step (fail)))
 refine wpQuiet_nil ?_
 go_wp2_with fail
 (with_reducible refine (cOf.out _).mono ?_);rintro e u1 ⟨rfl,j1⟩
 go_wp2_with fail
 try refine⟨by first|assumption|exact Qab _|exact Qaa _ _|exact Later.refl _,?_⟩
 try simp only[Qaj,pick,QGo,QGp,QGs,QGu,QGv]
 repeat (go_big_quiet_step (fail))
 refine wpQuiet_nil ?_
 go_wp2_with (first
  | (refine Qd1 rfl _ _ rfl 121665 F rfl rfl ?_)
  | fail)
 refine⟨Qaa _ _,?_⟩
 simp only[Act.put,QGw,QGB,QGz]
 refine wpQuiet_nil ?_
 go_wp2_with fail
 (with_reducible refine (cM.out _ _ (Blk.new u1 _ (EL 121665++EL F))).mono ?_);rintro e u2 ⟨rfl,j2⟩
 go_wp2_with fail
 try refine⟨by first|assumption|exact Qab _|exact Qaa _ _|exact Later.refl _,?_⟩
 try simp only[Qaj,pick,QGo,QGp,QGs,QGu,QGv]
 repeat (go_big_quiet_step (fail))
 refine wpQuiet_nil ?_
 go_wp2_with (first
  | (refine Qd1 rfl _ _ rfl AA M rfl rfl ?_)
  | fail)
 refine⟨Qaa _ _,?_⟩
 simp only[Act.put,QGw,QGB,QGz]
 refine wpQuiet_nil ?_
 go_wp2_with fail
 (with_reducible refine (cN.out _ _ (Blk.new u2 _ (EL AA++EL M))).mono ?_);rintro e u3 ⟨rfl,j3⟩
 go_wp2_with fail
 try refine⟨by first|assumption|exact Qab _|exact Qaa _ _|exact Later.refl _,?_⟩
 try simp only[Qaj,pick,QGo,QGp,QGs,QGu,QGv]
 repeat (go_big_quiet_step (fail))
 refine wpQuiet_nil ?_
 go_wp2_with (first
  | (refine Qd1 rfl _ _ rfl F N rfl rfl ?_)
  | fail)
 refine⟨Qaa _ _,?_⟩
 simp only[Act.put,QGw,QGB,QGz]
 refine wpQuiet_nil ?_
 go_wp2_with fail
 (with_reducible refine (cZ2.out _ _ (Blk.new u3 _ (EL F++EL N))).mono ?_);rintro e u4 ⟨rfl,j4⟩
 replace S8:=S8.later ((((Qab _).trans j1).trans ((Qaa u1 _).trans j2)).trans (((Qaa u2 _).trans j3).trans ((Qaa u3 _).trans j4)))
 go_wp2_with fail
 try refine⟨by first|assumption|exact Qab _|exact Qaa _ _|exact Later.refl _,?_⟩
 try simp only[Qaj,pick,QGo,QGp,QGs,QGu,QGv]
 repeat (go_big_quiet_step (fail))
 refine wpQuiet_nil ?_
 go_wp2_with (first
  | (refine QiD rfl rfl _ _ rfl S8.blk rfl rfl (by rw[QfP];omega) ?_;intro u5 hb3 ho3
     rw[QAJ]at hb3
     have S9:=S8.write ho3 hb3)
  | fail)
 exact bodyPost_end (results_none rfl _ _ _) rfl ⟨rfl,S9.blk,S9.only⟩
def QaZ (bs:List UInt8):List UInt8:=if bs.length=32 then (bs.set 0 (bs.getD 0 0 &&& 248)).set 31 (((bs.getD 31 0) &&& 127) ||| 64) else QGn 32 0
theorem QbI (bs:List UInt8):(QaZ bs).length=32:=by
 unfold QaZ
 split
 ·simp;assumption
 ·simp
set_option maxRecDepth 100000 in
set_option maxHeartbeats 2000000 in
theorem QtP (A:Option Addr) (n c:Nat) (bs:List UInt8) (w:World) (hr:RdB w A n bs) (hn:n≤140737488355328):
 Calls Tryz.prog 124 #[.slice A n c] w fun e w'=>e= .returned (.tuple #[.agg ((QaZ bs).map W8).toArray,.int .i64 (Qck bs:Nat)])∧Later w w':=by
 have hbl:=hr.len
 have hb0:=Blk.new w 30 (QGn 32 (Value.int .u8 0))
 by_cases h32:n=32
 ·subst h32
  have hRN:=hid (show (QaZ bs)=(bs.set 0 (bs.getD 0 0 &&& 248)).set 31 (((bs.getD 31 0) &&& 127) ||| 64) by rw[QaZ,if_pos hbl])
  have hRE:=hid (show Qck bs=0 by rw[Qck,if_pos hbl])
  have L0:Later w ((w.alloc (.cells (QGn 32 (Value.int .u8 0)).toArray 30)).alloc (.cells (QGn 32 (Value.int .u8 0)).toArray 30)):=(Qaa _ _).trans (Qaa _ _)
  go_enter Tryz.func124,Tryz.ntmps124
  have hcl:=QbI bs
  have hx0:(bs.map W8)[0]?=some (W8 (bs.getD 0 0)):=by rw[QGF,QGq,QGt (by omega)];rfl
  have hy0:(bs.map W8)[31]?=some (W8 (bs.getD 31 0)):=by rw[QGF,QGq,QGt (by omega)];rfl
  generalize bs.getD 0 0=x at *
  generalize bs.getD 31 0=y at *
  go_wp2_with (first
   | (refine Qax rfl _ _ _ _ rfl 5 Tryz.underlying22 Qb2 (w.heap.size+1) 0 32 32 30 (QGn 32 (W8 0)) (Blk.new' _ _ _ (by simp)) A 32 c (bs.map W8) (RdB.later hr L0) (QaX _) rfl rfl (by simp) ?_;intro w4 hb4 ho4
      rw[QGD (by simp;omega),Qav _ _ (by simp;omega)]at hb4
      have L4:=L0.only ho4 (by omega)
      have h04:=(hb0.later (Qaa _ _)).only ho4 (by omega)
      have d0:=hb4.cellD 0 hx0
      clear ho4)
   | (refine Qad rfl rfl _ _ _ rfl _ _ _ _ hb4 rfl ?hl rfl (by kernel_rfl) ?_;(case hl=>simp;omega);intro v w5 hv hb5 ho5;simp[go_sem]at hv;subst hv
      have L5:=L4.only ho5 (by omega)
      have h05:=h04.only ho5 (by omega)
      have d31:=hb5.cellD 31 (u:=W8 y) (by rw[QHU (by omega)];exact hy0)
      clear ho5 d0 hb4)
   | (refine Qad rfl rfl _ _ _ rfl _ _ _ _ hb5 rfl ?hl rfl (by kernel_rfl) ?_;(case hl=>simp;omega);intro v w6 hv hb6 ho6;simp[go_sem]at hv;subst hv
      have L6:=L5.only ho6 (by omega)
      have h06:=h05.only ho6 (by omega)
      have d31':=hb6.cellD 31 (QHS (by simp;omega))
      clear ho6 d31 hb5)
   | (refine Qad rfl rfl _ _ _ rfl _ _ _ _ hb6 rfl ?hl rfl (by kernel_rfl) ?_;(case hl=>simp;omega);intro v w7 hv hb7 ho7;simp[go_sem]at hv;subst hv
      rw[List.set_set,←QIP,←QIP,←hRN.out]at hb7
      have L7:=L6.only ho7 (by omega)
      have h07:=h06.only ho7 (by omega)
      clear ho7 d31' hb6)
   | (refine Qft rfl _ rfl hb7 hcl rfl ?_)
   | (refine QaO rfl rfl _ _ rfl h07 rfl rfl hcl rfl ?_;intro w8 hb8 ho8)
   | fail)
  exact bodyPost_ret (Qac rfl _ _ _ _ _ _ hb8 rfl Tryz.underlying30 rfl (by rw[QGr,hcl];exact Qbf)) rfl ⟨by rw[hRE.out];rfl,L7.only ho8 (by omega)⟩
 ·have hne:((n:Int) != 32)=true:=by simp;omega
  have hRN:=hid (show QaZ bs=QGn 32 0 by rw[QaZ,if_neg (by omega)])
  have hRE:=hid (show Qck bs=2 by rw[Qck,if_neg (by omega)])
  go_enter Tryz.func124,Tryz.ntmps124
  go_wp2_with (first
   | (refine Qap rfl 30 _ rfl (QGn 32 (W8 0)) ?hb ?_;(case hb=>kernel_rfl))
   | (refine QaO (bs:=QGn 32 0) rfl rfl _ _ rfl hb0 rfl (by kernel_rfl) rfl rfl ?_;intro w9 hb9 ho9)
   | fail)
  exact bodyPost_ret (Qac rfl _ _ _ _ _ _ hb9 rfl Tryz.underlying30 rfl (by rw[QGr,QGA];exact Qbf)) rfl ⟨by rw[hRN.out,hRE.out];rfl,(Qaa _ _).only ho9 (by omega)⟩
theorem Qix:∀x:Fin 256,x.1 &&& 248=x.1/8*8∧(x.1 &&& 127) ||| 64=x.1%64+64:=by decide +kernel
theorem QAL (x:UInt8):x &&& 248=x/8*8:=by
 apply QHl.1
 have h:=x.toNat_lt
 have:=(Qix ⟨x.toNat,h⟩).1
 rw[UInt8.toNat_and,UInt8.toNat_mul,UInt8.toNat_div]
 show x.toNat &&& 248=x.toNat/8*8%256
 simp only at this
 omega
theorem QAH (x:UInt8):(x &&& 127) ||| 64=x%64+64:=by
 apply QHl.1
 have h:=x.toNat_lt
 have:=(Qix ⟨x.toNat,h⟩).2
 rw[UInt8.toNat_or,UInt8.toNat_and,UInt8.toNat_add,UInt8.toNat_mod]
 show (x.toNat &&& 127) ||| 64=(x.toNat%64+64)%256
 simp only at this
 omega
set_option maxRecDepth 100000 in
set_option maxHeartbeats 2000000 in
theorem Qv7 (A:Option Addr) (n c:Nat) (bs:List UInt8) (w:World) (hr:RdB w A n bs) (hn:n≤140737488355328):
 Calls Tryz.prog 103 #[.slice A n c] w fun e w'=>e= .returned (.tuple #[.agg ((QaZ bs).map W8).toArray,.int .i64 (Qck bs:Nat)])∧Later w w':=by
 have hbl:=hr.len
 have hb0:=Blk.new w 30 (QGn 32 (Value.int .u8 0))
 by_cases h32:n=32
 ·subst h32
  have hRN:=hid (show (QaZ bs)=(bs.set 0 (bs.getD 0 0 &&& 248)).set 31 (((bs.getD 31 0) &&& 127) ||| 64) by rw[QaZ,if_pos hbl])
  have hRE:=hid (show Qck bs=0 by rw[Qck,if_pos hbl])
  have L0:Later w ((w.alloc (.cells (QGn 32 (Value.int .u8 0)).toArray 30)).alloc (.cells (QGn 32 (Value.int .u8 0)).toArray 30)):=(Qaa _ _).trans (Qaa _ _)
  go_enter Tryz.func103,Tryz.ntmps103
  have hX:=hid (QAL (bs.getD 0 0))
  have hY:=hid (QAH (bs.getD 31 0))
  have hcl:=QbI bs
  have hx0:(bs.map W8)[0]?=some (W8 (bs.getD 0 0)):=by rw[QGF,QGq,QGt (by omega)];rfl
  have hy0:(bs.map W8)[31]?=some (W8 (bs.getD 31 0)):=by rw[QGF,QGq,QGt (by omega)];rfl
  generalize bs.getD 0 0=x at *
  generalize bs.getD 31 0=y at *
  go_wp2_with (first
   | (refine Qax rfl _ _ _ _ rfl 5 Tryz.underlying22 Qb2 (w.heap.size+1) 0 32 32 30 (QGn 32 (W8 0)) (Blk.new' _ _ _ (by simp)) A 32 c (bs.map W8) (RdB.later hr L0) (QaX _) rfl rfl (by simp) ?_;intro w4 hb4 ho4
      rw[QGD (by simp;omega),Qav _ _ (by simp;omega)]at hb4
      have L4:=L0.only ho4 (by omega)
      have h04:=(hb0.later (Qaa _ _)).only ho4 (by omega)
      have d0:=hb4.cellD 0 hx0
      clear ho4)
   | (refine Qad rfl rfl _ _ _ rfl _ _ _ _ hb4 rfl ?hl rfl (by kernel_rfl) ?_;(case hl=>simp;omega);intro v w5 hv hb5 ho5;simp[go_sem]at hv;subst hv
      have L5:=L4.only ho5 (by omega)
      have h05:=h04.only ho5 (by omega)
      have d31:=hb5.cellD 31 (u:=W8 y) (by rw[QHU (by omega)];exact hy0)
      clear ho5 d0 hb4)
   | (refine Qad rfl rfl _ _ _ rfl _ _ _ _ hb5 rfl ?hl rfl (by kernel_rfl) ?_;(case hl=>simp;omega);intro v w6 hv hb6 ho6;simp[go_sem]at hv;subst hv
      have L6:=L5.only ho6 (by omega)
      have h06:=h05.only ho6 (by omega)
      rw[←hX.out,←hY.out,←QIP,←QIP,←hRN.out]at hb6
      clear ho6 d31 hb5)
   | (refine Qft rfl _ rfl hb6 hcl rfl ?_)
   | (refine QaO rfl rfl _ _ rfl h06 rfl rfl hcl rfl ?_;intro w8 hb8 ho8)
   | fail)
  exact bodyPost_ret (Qac rfl _ _ _ _ _ _ hb8 rfl Tryz.underlying30 rfl (by rw[QGr,hcl];exact Qbf)) rfl ⟨by rw[hRE.out];rfl,L6.only ho8 (by omega)⟩
 ·have hne:((n:Int) != 32)=true:=by simp;omega
  have hRN:=hid (show QaZ bs=QGn 32 0 by rw[QaZ,if_neg (by omega)])
  have hRE:=hid (show Qck bs=2 by rw[Qck,if_neg (by omega)])
  have h0a:=hb0.later (Qaa _ (.cells (QGn 32 (Value.int .u8 0)).toArray 30))
  go_enter Tryz.func103,Tryz.ntmps103
  go_wp2_with (first
   | (refine Qft (bs:=QGn 32 0) rfl _ rfl (Blk.new' _ _ _ (by simp)) rfl rfl ?_)
   | (refine QaO (bs:=QGn 32 0) rfl rfl _ _ rfl h0a rfl rfl rfl rfl ?_;intro w9 hb9 ho9)
   | fail)
  exact bodyPost_ret (Qac rfl _ _ _ _ _ _ hb9 rfl Tryz.underlying30 rfl (by rw[QGr,QGA];exact Qbf)) rfl ⟨by rw[hRN.out,hRE.out];rfl,((Qaa _ _).trans (Qaa _ _)).only ho9 (by omega)⟩
theorem L2_0 (a b j:Nat) (v:Value) (h:(EL a)[j]?=some v):(EL a++EL b)[0+j]?=some v:=by
 have hj:j<4:=by have:=(QGL.1 h).1;rwa [Qak]at this
 rw[QGT,QGG (by rw[Qak];exact hj)]
 exact h
theorem L2_1 (a b j:Nat) (v:Value) (h:(EL b)[j]?=some v):(EL a++EL b)[4+j]?=some v:=by
 rw[QGE (by rw[Qak];omega),Qak,show 4+j-4=j by omega]
 exact h
set_option maxRecDepth 100000 in
set_option maxHeartbeats 2000000 in
theorem QvP (u v:Nat) (hu:u<T256) (hv:v<T256) (w:World):
 Calls Tryz.prog 127 #[.agg (EL u++EL v).toArray] w fun e w'=>e= .returned (E (fmul u (pinv v)))∧Later w w':=by
 have h1:Blk ((w.alloc (.cells (EL u++EL v).toArray 247)).alloc (.cells (QGn 4 (.int .u64 0)).toArray 211)) w.heap.size 247 (EL u++EL v):=(Blk.new _ _ _).later (Qaa _ _)
 have h2:Blk ((w.alloc (.cells (EL u++EL v).toArray 247)).alloc (.cells (QGn 4 (.int .u64 0)).toArray 211)) (w.heap.size+1) 211 (QGn 4 (.int .u64 0)):=Blk.new' _ _ _ (by simp)
 have L0:Later w ((w.alloc (.cells (EL u++EL v).toArray 247)).alloc (.cells (QGn 4 (.int .u64 0)).toArray 211)):=(Qaa _ _).trans (Qaa _ _)
 have hI:=hid (QAp v hv)
 have hM:Hid (∀ w,Calls Tryz.prog 159 #[E u,E (pinv v)] w fun e w'=>e= .returned (E (fmul u (pinv v)))∧Later w w'):=hid (Qem u (pinv v) hu (Qvp v))
 generalize fmul u (pinv v)=q at *
 generalize pinv v=i at *
 go_enter Tryz.func127,Tryz.ntmps127
 go_wp2_with fail
 refine Qaf [([0,1,2,3],4)] [] [5,6] (by as_aux_lemma=>kernel_rfl) (by as_aux_lemma=>kernel_rfl) (by intro _ _ d _ _ h;cases d<;>exact h) ?_
 simp only[Qaj,pick,QGo,QGp,QGs,QGu,QGv]
 repeat (first|go_big_quiet_skip|(go_big_quiet_want;(first|refine Qfp _ rfl h1.drew (fun j v hv=>L2_0 _ _ j v hv) rfl ?_|refine Qfp _ rfl h1.drew (fun j v hv=>L2_1 _ _ j v hv) rfl ?_);simp only[Act.put,QGw,QGB,QGz];go_big_quiet_on)|(go_big_quiet_step (fail)))
 refine wpQuiet_nil ?_
 go_wp2_with fail
 (with_reducible refine (hI.out _).mono ?_);rintro e w2 ⟨rfl,hl2⟩
 replace hl2:=(Qab _).trans hl2
 go_wp2_with fail
 try refine⟨by first|assumption|exact Qab _|exact Qaa _ _|exact Later.refl _,?_⟩
 try simp only[Qaj,pick,QGo,QGp,QGs,QGu,QGv]
 repeat (go_big_quiet_step (fail))
 refine wpQuiet_nil ?_
 go_wp2_with fail
 (with_reducible refine (hM.out _).mono ?_);rintro e w3 ⟨rfl,hl3⟩
 replace hl3:=hl2.trans hl3
 go_wp2_with (first
  | (refine QaI rfl rfl _ _ rfl (h2.later hl3) rfl rfl rfl ?_;intro w9 hb9 ho9)
  | fail)
 exact bodyPost_ret (QhU rfl hb9 rfl) rfl ⟨rfl,(L0.trans hl3).only ho9 (by omega)⟩
structure Lad where
 x2:Nat
 z2:Nat
 x3:Nat
 z3:Nat
def LL (x1:Nat) (s:Lad):List Value:=L5 x1 s.x2 s.z2 s.x3 s.z3
def Lad.Ok (s:Lad):Prop:=s.x2<T256∧s.z2<T256∧s.x3<T256∧s.z3<T256
def Lad.swap (s:Lad):Lad:=⟨s.x3,s.z3,s.x2,s.z2⟩
def Lad.step (x1:Nat) (s:Lad):Lad:=
 ⟨fmul (fmul (fadd s.x2 s.z2) (fadd s.x2 s.z2)) (fmul (fsub s.x2 s.z2) (fsub s.x2 s.z2)),
  fmul (fsub (fmul (fadd s.x2 s.z2) (fadd s.x2 s.z2)) (fmul (fsub s.x2 s.z2) (fsub s.x2 s.z2))) (fadd (fmul (fadd s.x2 s.z2) (fadd s.x2 s.z2)) (fmul 121665 (fsub (fmul (fadd s.x2 s.z2) (fadd s.x2 s.z2)) (fmul (fsub s.x2 s.z2) (fsub s.x2 s.z2))))),
  fmul (fadd (fmul (fsub s.x3 s.z3) (fadd s.x2 s.z2)) (fmul (fadd s.x3 s.z3) (fsub s.x2 s.z2))) (fadd (fmul (fsub s.x3 s.z3) (fadd s.x2 s.z2)) (fmul (fadd s.x3 s.z3) (fsub s.x2 s.z2))),
  fmul x1 (fmul (fsub (fmul (fsub s.x3 s.z3) (fadd s.x2 s.z2)) (fmul (fadd s.x3 s.z3) (fsub s.x2 s.z2))) (fsub (fmul (fsub s.x3 s.z3) (fadd s.x2 s.z2)) (fmul (fadd s.x3 s.z3) (fsub s.x2 s.z2))))⟩
theorem Lad.swap_ok {s:Lad} (h:s.Ok):s.swap.Ok:=⟨h.2.2.1,h.2.2.2,h.1,h.2.1⟩
theorem Lad.step_ok (x1:Nat) (s:Lad):(s.step x1).Ok:=⟨QbP _ _,QbP _ _,QbP _ _,QbP _ _⟩
def Lad.round (x1:Nat) (b:Bool) (s:Lad):Lad:=if b then (s.swap.step x1).swap else s.step x1
theorem Lad.round_ok (x1:Nat) (b:Bool) (s:Lad):(s.round x1 b).Ok:=by
 unfold Lad.round
 split
 ·exact Lad.swap_ok (Lad.step_ok _ _)
 ·exact Lad.step_ok _ _
def kbit (K:List UInt8) (t:Nat):Bool:=decide ((K.getD (t/8) 0).toNat/2^(t%8)%2=1)
def Lad.at (x1:Nat) (K:List UInt8):Nat→Lad
 | 0=>⟨1,0,x1,1⟩
 | k+1=>(Lad.at x1 K k).round x1 (kbit K (254-k))
theorem Lad.at_ok (x1:Nat) (K:List UInt8) (h:x1<T256):∀k,(Lad.at x1 K k).Ok
 | 0=>⟨show (1:Nat)<T256 by decide,show (0:Nat)<T256 by decide,h,show (1:Nat)<T256 by decide⟩
 | _+1=>Lad.round_ok _ _ _
def Qkl (ks us:List UInt8):Nat:=fmul (Lad.at (QcM us) (QaZ ks) 255).x2 (pinv (Lad.at (QcM us) (QaZ ks) 255).z2)
def Qbt (ks us:List UInt8):Nat:=if ks.length=32∧us.length=32 then (if Qkl ks us=0 then 5 else 0) else 2
def QbB (ks us:List UInt8):List UInt8:=if ks.length=32∧us.length=32 then nb (Qkl ks us) else QGn 32 0
theorem QaY (ks us:List UInt8):(QbB ks us).length=32:=by
 unfold QbB
 split
 ·exact Qcj _
 ·simp
theorem QkR (g:Nat) (t:TypeId) (x1:Nat) (s:Lad) (w:World) (hb:Blk w g t (LL x1 s)):
 Calls Tryz.prog 125 #[.pointer (some ⟨g,0,none⟩)] w fun e w'=>e= .returned (.tuple #[])∧Blk w' g t (LL x1 s.swap)∧Only g w w':=
 Qnl g t x1 s.x2 s.z2 s.x3 s.z3 w hb
theorem Qy8 (g:Nat) (t:TypeId) (x1:Nat) (s:Lad) (h1:x1<T256) (hs:s.Ok) (w:World) (hb:Blk w g t (LL x1 s)):
 Calls Tryz.prog 126 #[.pointer (some ⟨g,0,none⟩)] w fun e w'=>e= .returned (.tuple #[])∧Blk w' g t (LL x1 (s.step x1))∧Only g w w':=
 Qoq g t x1 s.x2 s.z2 s.x3 s.z3 h1 hs.1 hs.2.1 hs.2.2.1 hs.2.2.2 w hb
theorem Qcr {P:Program} {C:World→Prop} {a:Act} {o:Oper} {K:Act→Prop} (t:TypeId) (parts:Array (Nat×Operand)) (ho:o.op= .build t parts) (vs:List Value) (hb:P.built t (parts.map fun (i,x)=>(i,a.eval x)).toList=some vs.toArray)
 (h:K (a.put o.dst (.agg vs.toArray))):o.quiet P a C K:=
 ⟨.agg vs.toArray,fun w hw=>by
   unfold Oper.quietAt execOp
   simp only[ho,Sem.run_bind,run_build w t _ _ hb,Result.andThen_ok]
   exact⟨rfl,rfl⟩,h⟩
theorem Qil (a0 a1 a2 a3 b0 b1 b2 b3 c0 c1 c2 c3 d0 d1 d2 d3:Value):
 Program.built Tryz.prog 245 [(0,.agg #[a0,a1,a2,a3]),(1,.agg #[b0,b1,b2,b3]),(3,.agg #[c0,c1,c2,c3]),(4,.agg #[d0,d1,d2,d3])]=some #[a0,a1,a2,a3,b0,b1,b2,b3,.int .u64 0,.int .u64 0,.int .u64 0,.int .u64 0,c0,c1,c2,c3,d0,d1,d2,d3]:=by kernel_rfl
theorem Qnr (x1:Nat):Program.built Tryz.prog 245 [(0,E x1),(1,E 1),(3,E x1),(4,E 1)]=some (LL x1 ⟨1,0,x1,1⟩).toArray:=by
 show _=some (EL x1++(EL 1++(EL 0++(EL x1++EL 1)))).toArray
 rw[E,E,Qdp x1,Qdp 1,Qdp 0]
 exact Qil ..
theorem QoV (us:List UInt8):QcM us<T256:=by
 unfold QcM
 split
 ·exact QHr (QGU _ Qbp) (show P25<T256 by decide)
 ·exact show 0<T256 by decide
theorem Qtr:num (QGn 32 0)=0:=by decide +kernel
theorem Qmo:nb 0=QGn 32 0:=by decide +kernel
theorem QsJ (q:Nat) (h:q<T256):(nb q==QGn 32 0)=decide (q=0):=by
 rw[QHh,beq_iff_eq,decide_eq_true_eq]
 constructor
 ·intro e
  rw[←Qzg q h,e,Qtr]
 ·rintro rfl
  exact Qmo
theorem QjK (a0 a1 a2 a3 b0 b1 b2 b3:Value):
 Program.built Tryz.prog 247 [(0,.agg #[a0,a1,a2,a3]),(1,.agg #[b0,b1,b2,b3])]=some #[a0,a1,a2,a3,b0,b1,b2,b3]:=by kernel_rfl
theorem QiN (a b:Nat):Program.built Tryz.prog 247 [(0,E a),(1,E b)]=some (EL a++EL b).toArray:=by
 rw[E,E,Qdp a,Qdp b]
 exact QjK ..
theorem QjC (x1:Nat) (s:Lad):(LL x1 s).length=20:=QfP ..
theorem QCF (x1:Nat) (s:Lad):∀v∈LL x1 s,v.oneCell'=true:=by
 intro v hv
 simp only[LL,L5,QHd]at hv
 rcases hv with h|h|h|h|h<;>exact Qqq _ v h
set_option maxRecDepth 100000 in
set_option maxHeartbeats 4000000 in
theorem Qiq (A B:Option Addr) (n c m d:Nat) (ks us:List UInt8) (w:World) (hk:RdB w A n ks) (hu:RdB w B m us) (hn:n≤140737488355328) (hm:m≤140737488355328):
 Calls Tryz.prog 94 #[.slice A n c,.slice B m d] w fun e w'=>e= .returned (.tuple #[.agg ((QbB ks us).map W8).toArray,.int .i64 (Qbt ks us:Nat)])∧Later w w':=by
 have hkl:=hk.len
 have hul:=hu.len
 have hb0:=Blk.new w 30 (QGn 32 (Value.int .u8 0))
 have L0:=Qaa w (.cells (QGn 32 (Value.int .u8 0)).toArray 30)
 have hcl:=QbI ks
 have cK:=hid (fun w h=>QtP A n c ks w h hn)
 have cU:=hid (fun w h=>QqT B m d us w h hm)
 by_cases hn32:n=32
 ·subst hn32
  have eK:Qck ks=0:=by rw[Qck,if_pos (by omega)]
  rw[eK]at cK
  have hK:=hid (show QaZ ks=QaZ ks from rfl)
  by_cases hm32:m=32
  ·subst hm32
   have eU:Qck us=0:=by rw[Qck,if_pos (by omega)]
   rw[eU]at cU
   have hx:=QoV us
   have hQ:=hid (show Qkl ks us=fmul (Lad.at (QcM us) (QaZ ks) 255).x2 (pinv (Lad.at (QcM us) (QaZ ks) 255).z2) from rfl)
   generalize QaZ ks=K at *
   generalize QcM us=x1 at *
   go_enter Tryz.func94,Tryz.ntmps94
   go_wp2_with fail
   generalize hW:w.alloc _=w0
   replace L0:Later w w0:=by rw[←hW];exact Qaa _ _
   replace hb0:Blk w0 w.heap.size 30 (QGn 32 (Value.int .u8 0)):=by rw[←hW];exact Blk.new w 30 (QGn 32 (Value.int .u8 0))
   have hs0:w.heap.size<w0.heap.size:=hb0.lt
   clear hW
   (with_reducible refine (cK.out _ (hk.later L0)).mono ?_);rintro e w1 ⟨rfl,hl1⟩
   replace hb0:=hb0.later hl1
   replace L0:=L0.trans hl1
   go_wp2_with (first
    | (refine QaO rfl rfl _ _ rfl (Blk.new w1 _ (QGn 32 (.int .u8 0))) rfl rfl hcl rfl ?_;intro w2 hb2 ho2)
    | fail)
   replace hb0:=(hb0.later (Qaa w1 (.cells (QGn 32 (.int .u8 0)).toArray 30))).only ho2 (by have:=hb0.lt;omega)
   replace L0:=(L0.trans (Qaa w1 (.cells (QGn 32 (.int .u8 0)).toArray 30))).only ho2 (by have:=L0.size;omega)
   have hg6:w.heap.size≠w1.heap.size:=by have:=hl1.size;omega
   clear ho2 hl1
   (with_reducible refine (cU.out _ (hu.later L0)).mono ?_);rintro e w3 ⟨rfl,hl3⟩
   replace hb0:=hb0.later hl3
   replace hb2:=hb2.later hl3
   replace L0:=L0.trans hl3
   go_wp2_with (first
    | (refine QaI rfl rfl _ _ rfl (Blk.new w3 _ (QGn 4 (.int .u64 0))) rfl rfl rfl ?_;intro w4 hb4 ho4)
    | fail)
   replace hb0:=(hb0.later (Qaa w3 (.cells (QGn 4 (.int .u64 0)).toArray 211))).only ho4 (by have:=hb0.lt;omega)
   replace hb2:=(hb2.later (Qaa w3 (.cells (QGn 4 (.int .u64 0)).toArray 211))).only ho4 (by have:=hb2.lt;omega)
   replace L0:=(L0.trans (Qaa w3 (.cells (QGn 4 (.int .u64 0)).toArray 211))).only ho4 (by have:=L0.size;omega)
   clear ho4 hl3
   refine QaC [0,2] [([],1,1),([],1,3),([4],2,5)] [] [6] [5] (fun _=>(fun g=>.pointer (some ⟨g,0,none⟩),.cells (QGn 20 (Value.int .u64 0)).toArray 245)) (by as_aux_lemma=>kernel_rfl) (by as_aux_lemma=>kernel_rfl) (by intro _ _ d _ _ h;cases d<;>exact h) (by intro _ _ d _ _ h;cases d<;>exact h) ?_
   simp only[pick,QGo,QGp,QGs,QGu,QGv]
   repeat (first|go_big_quiet_skip|(go_big_quiet_want;(refine QcY _ rfl hb4.drew rfl ?_);simp only[Act.put,QGw,QGB,QGz];go_big_quiet_on)|(go_big_quiet_step (fail)))
   refine wpQuiet_nil ?_
   refine⟨?mk,?_⟩
   case mk=>
    refine⟨fun o ho=>?_,trivial⟩
    simp only[QGo,QGp,Option.some.injEq]at ho
    subst ho
    refine⟨rfl,fun W=>?_⟩
    unfold execOp
    simp[go_sem]
   simp only[Qbu,pick,QGo,QGp,QGs,QGu,QGv]
   refine wpQuiet_nil ?_
   intro v1 j1
   go_wp2_with fail
   (with_reducible refine (of_1 _).mono ?_);rintro e v2 ⟨rfl,j2⟩
   go_wp2_with fail
   try refine⟨by first|assumption|exact Qab _|exact Qaa _ _|exact Later.refl _,?_⟩
   try simp only[Qaj,pick,QGo,QGp,QGs,QGu,QGv]
   repeat (go_big_quiet_step (fail))
   refine wpQuiet_nil ?_
   intro v3 j3
   go_wp2_with fail
   (with_reducible refine (of_1 _).mono ?_);rintro e v4 ⟨rfl,j4⟩
   go_wp2_with fail
   try refine⟨by first|assumption|exact Qab _|exact Qaa _ _|exact Later.refl _,?_⟩
   try simp only[Qbu,pick,QGo,QGp,QGs,QGu,QGv]
   go_big_quiet_want
   refine Qcr _ _ rfl (LL x1 ⟨1,0,x1,1⟩) (by simp only[QGC,QGR,QGH];exact Qnr x1) ?_
   simp only[Act.put,QGw,QGB,QGz]
   go_big_quiet_on
   refine wpQuiet_nil ?_
   intro v5 gl j5 hgl _ hb5
   simp only[QHN,Act.put,QGw,QGB,QGz]
   refine wpQuiet_nil ?_
   intro v6 j6
   replace hb5:Blk v5 gl 245 (QGn 20 (Value.int .u64 0)):=hb5
   refine Qal rfl rfl _ _ _ rfl gl 0 _ _ (LL x1 ⟨1,0,x1,1⟩) (hb5.later j6) rfl rfl (by rw[QjC];kernel_rfl) (by simp[QjC]) (QCF _ _) ?_
   intro v7 hb7 ho7
   rw[Qav _ _ (by simp[QjC])]at hb7
   have j:=(((((Qab w4).trans j1).trans j2).trans j3).trans j4).trans (j5.trans j6)
   have hlt0:=hb0.lt
   have hlt2:=hb2.lt
   have hw:=L0.size
   replace hb0:=(hb0.later j).only ho7 (by omega)
   replace hb2:=(hb2.later j).only ho7 (by omega)
   replace L0:=(L0.trans j).only ho7 (by omega)
   have hgl0:w.heap.size≠gl:=by omega
   have hgl2:w1.heap.size≠gl:=by omega
   have hgl3:w.heap.size≤gl:=by omega
   generalize w1.heap.size=g6 at *
   clear ho7 j j1 j2 j3 j4 j5 j6 hb5 hgl hb4 hlt0 hlt2 hw cK cU hs0
   go_wp2_with fail
   go_loopw [10] (fun i wr=>∃k:Nat,k≤255∧i= .int .i64 (dn k)∧Blk wr w.heap.size 30 (QGn 32 (Value.int .u8 0))∧Blk wr g6 30 (K.map W8)∧Blk wr gl 245 (LL x1 (Lad.at x1 K (255-k)))∧Later w wr) (fun i _=>(intOf i+1).toNat)
   case atStart=>exact⟨255,by omega,rfl,hb0,hb2,hb7,L0⟩
   case round=>
    clear hb0 hb2 hb7 L0
    obtain⟨k,hk,rfl,hb0,hb2,hb7,L0⟩:=hrel
    cases k with
    | zero=>
      simp only[QlP]
      have hok:=Lad.at_ok x1 K hx 255
      rw[show 255-0=255 from rfl]at hb7
      have hMB:=hid (show QbB ks us=nb (Qkl ks us) by rw[QbB,if_pos ⟨hkl,hul⟩])
      have hME:=hid (show Qbt ks us=if Qkl ks us=0 then 5 else 0 by rw[Qbt,if_pos ⟨hkl,hul⟩])
      rw[hQ.out]at hMB hME
      generalize Lad.at x1 K 255=S at *
      have hQP:fmul S.x2 (pinv S.z2)<P25:=QGU _ Qbp
      have hv:=hid (QvP S.x2 S.z2 hok.1 hok.2.1)
      generalize fmul S.x2 (pinv S.z2)=Q at *
      have hQT:Q<T256:=QHr hQP (by decide)
      obtain⟨y,hy⟩:=QBD (Qcj Q)
      obtain⟨z,hz⟩:=QBD (show (QGn 32 (0:UInt8)).length=32 by simp)
      have hBy:Hid (∀ w,Calls Tryz.prog 92 #[E Q] w fun e w'=>e= .returned (.agg (y.val.map W8).toArray)∧Later w w'):=hid (by
       intro w
       have:=Qi0 Q hQT w
       rwa [QGO hQP,BB,←hy]at this)
      have hcmp:(y.val==z.val)=decide (Q=0):=by rw[hy,hz];exact QsJ Q hQT
      have hyl:=y.2
      have hzl:=z.2
      rw[←hy]at hMB
      have hQ0:=hid (show Q=0→y.val=z.val by rintro rfl;rw[hy,hz];exact Qmo)
      have hZ:=hid hz
      clear hy hz hQ
      by_cases hq:Q=0
      ·have hd:(y.val==z.val)=true:=by rw[hcmp,hq];rfl
       have hyz:=hid (hQ0.out hq)
       rw[hq]at hME
       clear hcmp hq hQ0
       go_wp2_with (first
        | (refine Ql0 rfl _ rfl hb7 (fun j v hv=>L5_1 _ _ _ _ _ j v hv) rfl ?_)
        | (refine Ql0 rfl _ rfl hb7 (fun j v hv=>L5_2 _ _ _ _ _ j v hv) rfl ?_)
        | (refine Qap rfl 247 _ rfl (EL S.x2++EL S.z2) ?hb ?_;(case hb=>simp only[QGC,QGR,QGH];exact QiN S.x2 S.z2))
        | (go_at_call 127;(with_reducible refine (hv.out _).mono ?_);rintro e w5 ⟨rfl,hl5⟩)
        | (go_at_call 92;(with_reducible refine (hBy.out _).mono ?_);rintro e w6 ⟨rfl,hl6⟩)
        | (refine QaO rfl rfl _ _ rfl (Blk.new w6 _ (QGn 32 (.int .u8 0))) rfl rfl hyl rfl ?_;intro w7 hb8 ho8)
        | (refine Qft rfl _ rfl hb8 hyl rfl ?_)
        | (refine Qap rfl 30 _ rfl (z.val.map W8) ?hb ?_;(case hb=>rw[hZ.out];kernel_rfl))
        | (refine QaO rfl rfl _ _ rfl (((hb0.later (hl5.trans hl6)).later (Qaa w6 (.cells (QGn 32 (.int .u8 0)).toArray 30))).only ho8 (by have:=(hb0.later (hl5.trans hl6)).lt;omega)) rfl rfl hzl rfl ?_;intro w9 hb9 ho9)
        | fail)
       exact bodyPost_ret (Qac rfl _ _ _ _ _ _ hb9 rfl Tryz.underlying30 rfl (by rw[QGr,hzl];exact Qbf)) rfl ⟨by rw[hMB.out,hME.out,hyz.out];rfl,(((L0.trans (hl5.trans hl6)).alloc (.cells (QGn 32 (.int .u8 0)).toArray 30)).only ho8 (by have:=(L0.trans (hl5.trans hl6)).size;omega)).only ho9 (by omega)⟩
      ·have hd:(y.val==z.val)=false:=by rw[hcmp];simp[hq]
       rw[if_neg hq]at hME
       clear hcmp
       go_wp2_with (first
        | (refine Ql0 rfl _ rfl hb7 (fun j v hv=>L5_1 _ _ _ _ _ j v hv) rfl ?_)
        | (refine Ql0 rfl _ rfl hb7 (fun j v hv=>L5_2 _ _ _ _ _ j v hv) rfl ?_)
        | (refine Qap rfl 247 _ rfl (EL S.x2++EL S.z2) ?hb ?_;(case hb=>simp only[QGC,QGR,QGH];exact QiN S.x2 S.z2))
        | (go_at_call 127;(with_reducible refine (hv.out _).mono ?_);rintro e w5 ⟨rfl,hl5⟩)
        | (go_at_call 92;(with_reducible refine (hBy.out _).mono ?_);rintro e w6 ⟨rfl,hl6⟩)
        | (refine QaO rfl rfl _ _ rfl (Blk.new w6 _ (QGn 32 (.int .u8 0))) rfl rfl hyl rfl ?_;intro w7 hb8 ho8)
        | (refine Qft rfl _ rfl hb8 hyl rfl ?_)
        | (refine Qap rfl 30 _ rfl (z.val.map W8) ?hb ?_;(case hb=>rw[hZ.out];kernel_rfl))
        | (refine QaO rfl rfl _ _ rfl (((hb0.later (hl5.trans hl6)).later (Qaa w6 (.cells (QGn 32 (.int .u8 0)).toArray 30))).only ho8 (by have:=(hb0.later (hl5.trans hl6)).lt;omega)) rfl rfl hyl rfl ?_;intro w9 hb9 ho9)
        | fail)
       exact bodyPost_ret (Qac rfl _ _ _ _ _ _ hb9 rfl Tryz.underlying30 rfl (by rw[QGr,hyl];exact Qbf)) rfl ⟨by rw[hMB.out,hME.out];rfl,(((L0.trans (hl5.trans hl6)).alloc (.cells (QGn 32 (.int .u8 0)).toArray 30)).only ho8 (by have:=(L0.trans (hl5.trans hl6)).size;omega)).only ho9 (by omega)⟩
    | succ k=>
      have d0:=hb2.cellD (k/8) (u:=W8 (K.getD (k/8) 0)) (by rw[QGF,QGq,QGt (by omega)];rfl)
      have hcnt:cnt (QHo ((k:Int)%8))=k%8:=by
       rw[show ((k:Int)%8)=((k%8:Nat):Int) by omega,QfC,cnt,tn64 (by unfold B64;omega)]
      have hbe:=QuV (K.getD (k/8) 0) (k%8)
      have hst:Lad.at x1 K (255-k)=(Lad.at x1 K (254-k)).round x1 (kbit K k):=by
       rw[show 255-k=(254-k)+1 by omega,Lad.at,show 254-(254-k)=k by omega]
      have hkb:kbit K k=(shr8 (K.getD (k/8) 0) (k%8) &&& 1==1):=by rw[hbe];rfl
      generalize K.getD (k/8) 0=kb at *
      have hok:=Lad.at_ok x1 K hx (254-k)
      rw[show 255-(k+1)=254-k by omega]at hb7
      generalize Lad.at x1 K (254-k)=S at *
      have HST:=hid hst
      clear hst hbe
      simp only[Qlv]
      cases hb:kbit K k with
      | false=>
        rw[hb]at hkb HST
        have hd:=hkb.symm
        clear hkb
        go_wp2_with fail
        (with_reducible refine (Qy8 gl _ x1 S hx hok _ hb7).mono ?_);rintro e w5 ⟨rfl,hb8,ho8⟩
        go_wp2_with fail
        go_roundw
        case rel=>exact⟨k,by omega,by rw[QfR],hb0.only ho8 hgl0,hb2.only ho8 hgl2,by rw[HST.out];exact hb8,L0.only ho8 hgl3⟩
        case measure=>simp[intOf]
      | true=>
        rw[hb]at hkb HST
        have hd:=hkb.symm
        clear hkb
        go_wp2_with fail
        (with_reducible refine (QkR gl _ x1 S _ hb7).mono ?_);rintro e w5 ⟨rfl,hb8,ho8⟩
        go_wp2_with fail
        (with_reducible refine (Qy8 gl _ x1 S.swap hx (Lad.swap_ok hok) _ hb8).mono ?_);rintro e w6 ⟨rfl,hb9,ho9⟩
        go_wp2_with fail
        (with_reducible refine (QkR gl _ x1 (S.swap.step x1) _ hb9).mono ?_);rintro e w7 ⟨rfl,hb10,ho10⟩
        go_wp2_with fail
        go_roundw
        case rel=>exact⟨k,by omega,by rw[QfR],((hb0.only ho8 hgl0).only ho9 hgl0).only ho10 hgl0,((hb2.only ho8 hgl2).only ho9 hgl2).only ho10 hgl2,by rw[HST.out];exact hb10,((L0.only ho8 hgl3).only ho9 hgl3).only ho10 hgl3⟩
        case measure=>simp[intOf]
  ·have eU:Qck us=2:=by rw[Qck,if_neg (by omega)]
   rw[eU]at cU
   have hMB:=hid (show QbB ks us=QGn 32 0 by rw[QbB,if_neg (by omega)])
   have hME:=hid (show Qbt ks us=2 by rw[Qbt,if_neg (by omega)])
   generalize QaZ ks=K at *
   generalize QcM us=x1 at *
   go_enter Tryz.func94,Tryz.ntmps94
   go_wp2_with fail
   generalize hW:w.alloc _=w0
   replace L0:Later w w0:=by rw[←hW];exact Qaa _ _
   replace hb0:Blk w0 w.heap.size 30 (QGn 32 (Value.int .u8 0)):=by rw[←hW];exact Blk.new w 30 (QGn 32 (Value.int .u8 0))
   clear hW
   (with_reducible refine (cK.out _ (hk.later L0)).mono ?_);rintro e w1 ⟨rfl,hl1⟩
   replace hb0:=hb0.later hl1
   replace L0:=L0.trans hl1
   go_wp2_with (first
    | (refine QaO rfl rfl _ _ rfl (Blk.new w1 _ (QGn 32 (.int .u8 0))) rfl rfl hcl rfl ?_;intro w2 hb2 ho2)
    | fail)
   replace hb0:=(hb0.later (Qaa w1 (.cells (QGn 32 (.int .u8 0)).toArray 30))).only ho2 (by have:=hb0.lt;omega)
   replace L0:=(L0.trans (Qaa w1 (.cells (QGn 32 (.int .u8 0)).toArray 30))).only ho2 (by have:=L0.size;omega)
   clear ho2 hl1
   (with_reducible refine (cU.out _ (hu.later L0)).mono ?_);rintro e w3 ⟨rfl,hl3⟩
   replace hb0:=hb0.later hl3
   replace L0:=L0.trans hl3
   go_wp2_with (first
    | (refine QaI rfl rfl _ _ rfl (Blk.new w3 _ (QGn 4 (.int .u64 0))) rfl rfl rfl ?_;intro w4 hb4 ho4
       have hb04:=(hb0.later (Qaa w3 (.cells (QGn 4 (.int .u64 0)).toArray 211))).only ho4 (by have:=hb0.lt;omega)
       have L04:=(L0.trans (Qaa w3 (.cells (QGn 4 (.int .u64 0)).toArray 211))).only ho4 (by have:=L0.size;omega))
    | (refine Qap rfl 30 _ rfl (QGn 32 (W8 0)) ?hb ?_;(case hb=>kernel_rfl))
    | (refine QaO (bs:=QGn 32 0) rfl rfl _ _ rfl hb04 rfl (by kernel_rfl) rfl rfl ?_;intro w9 hb9 ho9)
    | fail)
   exact bodyPost_ret (Qac rfl _ _ _ _ _ _ hb9 rfl Tryz.underlying30 rfl (by rw[QGr,QGA];exact Qbf)) rfl ⟨by rw[hMB.out,hME.out];rfl,L04.only ho9 (by omega)⟩
 ·have eK:Qck ks=2:=by rw[Qck,if_neg (by omega)]
  rw[eK]at cK
  have hMB:=hid (show QbB ks us=QGn 32 0 by rw[QbB,if_neg (by omega)])
  have hME:=hid (show Qbt ks us=2 by rw[Qbt,if_neg (by omega)])
  generalize QaZ ks=K at *
  go_enter Tryz.func94,Tryz.ntmps94
  go_wp2_with fail
  generalize hW:w.alloc _=w0
  replace L0:Later w w0:=by rw[←hW];exact Qaa _ _
  replace hb0:Blk w0 w.heap.size 30 (QGn 32 (Value.int .u8 0)):=by rw[←hW];exact Blk.new w 30 (QGn 32 (Value.int .u8 0))
  clear hW
  (with_reducible refine (cK.out _ (hk.later L0)).mono ?_);rintro e w1 ⟨rfl,hl1⟩
  replace hb0:=hb0.later hl1
  replace L0:=L0.trans hl1
  go_wp2_with (first
   | (refine QaO rfl rfl _ _ rfl (Blk.new w1 _ (QGn 32 (.int .u8 0))) rfl rfl hcl rfl ?_;intro w2 hb2 ho2
      have hb02:=(hb0.later (Qaa w1 (.cells (QGn 32 (.int .u8 0)).toArray 30))).only ho2 (by have:=hb0.lt;omega)
      have L02:=(L0.trans (Qaa w1 (.cells (QGn 32 (.int .u8 0)).toArray 30))).only ho2 (by have:=L0.size;omega))
   | (refine Qap rfl 30 _ rfl (QGn 32 (W8 0)) ?hb ?_;(case hb=>kernel_rfl))
   | (refine QaO (bs:=QGn 32 0) rfl rfl _ _ rfl hb02 rfl (by kernel_rfl) rfl rfl ?_;intro w9 hb9 ho9)
   | fail)
  exact bodyPost_ret (Qac rfl _ _ _ _ _ _ hb9 rfl Tryz.underlying30 rfl (by rw[QGr,QGA];exact Qbf)) rfl ⟨by rw[hMB.out,hME.out];rfl,L02.only ho9 (by omega)⟩
theorem Qm4 {ks us:List UInt8} (h:Qbt ks us=0):ks.length=32∧us.length=32:=by
 unfold Qbt at h
 split at h
 ·assumption
 ·cases h
end Go.Proofs.YtdhgpkdjdmlphaaGreat
