/-
  Lemmas for the last text of this claim (part 8 of 20).
-/
import Derived.ArgAppend
import Derived.BigQuiet
import Derived.BigRegion
import Derived.ChangeOld
import Derived.Deep.RegionWith
import Derived.DeepKeys4
import Derived.JoinedCond
import Derived.LaidMore
import Derived.Laws.CopyOwn
import Derived.Laws.Externs
import Derived.Laws.IdiomStrings
import Derived.Laws.Tables
import Derived.Lib.AppendStr
import Derived.Lib.AppendZerosOnto
import Derived.Lib.Mul64
import Derived.Lib.SlBytesConst
import Derived.LoopN
import Derived.Maps.OwnSet
import Derived.OpenShut
import Derived.OrdersHeld
import Derived.ProofKit
import Derived.Shelf.Spec.BitsCarry
import Derived.ShutString
import Derived.Test.YtdkpcdgckgaklaaGreatProg
import Derived.Test.YtdkpcdgckgaklaaGreatRows
import Derived.WalkKit
import Derived.WalkLawsBesides
import Derived.WalkSpells
import Derived.Test.YtdkpcdgckgaklaaGreatPB
import Derived.Test.YtdkpcdgckgaklaaGreatPC
import Derived.Test.YtdkpcdgckgaklaaGreatPG
open Bool renaming eq_iff_iff → QDb
open List renaming replicate → QCn, getElem?_cons_succ → QCo, getElem?_cons_zero → QCp, cons_append → QCr, nil_append → QCs, length_map → QCt, getD_eq_getElem?_getD → QCu, getElem?_eq_getElem → QCv, setIfInBounds_toArray → QCw, set_cons_zero → QCy, set_cons_succ → QCz, map_toArray → QCA, length_append → QCB, map_nil → QCC, getElem?_append_left → QCD, take_of_length_le → QCE, getElem?_append_right → QCF, getElem?_map → QCH, length_replicate → QCJ, getElem?_eq_some_iff → QCK, mem_cons → QCQ, map_cons → QCR, take_append_drop → QC3, map_append → QC6, mem_append → QDc, length_cons → QDj, map_set → QEy
open Nat renaming le_refl → QCx, zero_add → QCI, lt_of_lt_of_le → QCM, mod_eq_of_lt → QCO, mod_lt → QCU, le_trans → QC4, lt_trans → QDw, sub_self → QEB
open Option renaming toList_some → QCq, bind_some → QDF
open UInt64 renaming ofInt → QDy
open UInt8 renaming ofInt → QC9, toNat_inj → QDl
set_option linter.all false
namespace Go.Proofs.YtdkpcdgckgaklaaGreat
open Go.RowKit
theorem Qkz {w:World} {base:Nat} {e:TypeId} {A:Option Addr} {n c:Nat} {vs:List Value} (h:w.ownsRow base e 1 (.slice A n c) n vs):
 (A=none∧n=0)∨∃g rest,A=some ⟨g,0,none⟩∧base≤g∧Blk w g e (vs++rest)∧c=(vs++rest).length:=by
 rcases h.2 with ⟨hv,h0⟩|⟨g,cap,cur,hv,hb,hh,hnc,hm,hs,ht⟩
 ·cases hv
  exact .inl ⟨rfl,rfl⟩
 ·cases hv
  refine .inr ⟨g,cur.toList.drop n,rfl,hb,?_,?_⟩
  ·rw[show vs=cur.toList.take n by simpa using ht.symm,QC3]
   exact hh
  ·rw[show vs=cur.toList.take n by simpa using ht.symm,QC3]
   simpa using hs.symm
theorem QsX {w:World} {base g:Nat} {e:TypeId} {vs rest:List Value} (h:Blk w g e (vs++rest)) (hb:base≤g) (hm:(vs++rest).length≤maxLen):
 w.ownsRow base e 1 (.slice (some ⟨g,0,none⟩) vs.length (vs++rest).length) vs.length vs:=
 ⟨by simp,.inr ⟨g,(vs++rest).length,(vs++rest).toArray,rfl,hb,h,by simp,hm,by simp,by simp⟩⟩
theorem Qb9 {w w':World} {base k:Nat} {e:TypeId} {v:Value} {n:Nat} {vs:List Value} (h:w.ownsRow base e 1 v n vs) (ho:Only k w w') (hne:∀b,v.ownBlock=some b→b≠k):w'.ownsRow base e 1 v n vs:=by
 refine h.kept ho ?_
 cases hb:v.ownBlock with
 | none=>exact .inl rfl
 | some b=>exact .inr fun he=>hne b hb (by injection he)
theorem QgE {w w':World} {base g:Nat} {e t:TypeId} {v:Value} {n:Nat} {vs l:List Value} (hb:Blk w g t l) (h:w.ownsRow base e 1 v n vs) (hne:t≠e) (hg:w.grownBy w' v.ownBlock):Blk w' g t l:=by
 refine (hg.block g hb.lt ?_).trans hb
 rcases h.2 with ⟨rfl,_⟩|⟨g2,c2,cur2,rfl,_,hh2,_⟩
 ·simp[Value.ownBlock]
 ·intro he
  simp only[Value.ownBlock,Option.some.injEq]at he
  subst he
  exact hb.ne_type (l':=cur2.toList) (t':=e) hh2 hne rfl
theorem Qic {w:World} {base:Nat} {e:TypeId} {v:Value} {n:Nat} {vs:List Value} (h:w.ownsRow base e 1 v n vs):∀b,v.ownBlock=some b→b<w.heap.size:=fun b hb=>(h.lt b hb).2
theorem Qu1 {w:World} {base g:Nat} {A:Option Addr} {n c:Nat} {p:List UInt8} (h:OwnB w base A n c p) (hg:g<base):Part w (· =g) (.slice A n c) p:=
 ⟨A,n,c,rfl,h.cap,h.rd,fun _ ad hA hb=>by subst hA;have:=(h.lt ad.block rfl).1;omega⟩
theorem Qie {w:World} {bad:Nat→Prop} {A:Option Addr} {n:Nat} {vs:List Value} {ps:List (List UInt8)} (h:Rd w A n vs) (hv:Avoid bad A n) (hp:PartAll w bad vs ps):Parts w bad A n ps:=
 ⟨vs,h,hv,hp.at_.1,hp.at_.2⟩
theorem Qvn {bad:Nat→Prop} {b o n:Nat} (h: ¬bad b):Avoid bad (some ⟨b,o,none⟩) n:=fun _ ad hA hb=>by cases hA;exact h hb
abbrev Y32:={l:List UInt8 // l.length=32}
@[go_sem high] theorem Qx7 (x y:Y32) (w:World):(binOp .eql 79 (.agg (x.val.map W8).toArray) (.agg (y.val.map W8).toArray)).run Tryz.prog w= .ok (.bool (x.val==y.val)) w:=Qh8 _ _ x.2 y.2 w
@[go_sem high] theorem QxL (x y:Y32) (w:World):(binOp .neq 79 (.agg (x.val.map W8).toArray) (.agg (y.val.map W8).toArray)).run Tryz.prog w= .ok (.bool (x.val != y.val)) w:=Qif _ _ x.2 y.2 w
theorem QzA {G:List UInt8} (h:G.length=32):∃g:Y32,g.val=G:=⟨⟨G,h⟩,rfl⟩
theorem QyS {l:List UInt8} {i:Nat} {x:UInt8} (h:l[i]?=some x):(l.map W8)[i]?=some (W8 x):=by rw[QCH,h];rfl
theorem Qxc:(272:TypeId)≠5:=by decide
theorem HashAt.grown {w w':World} {g base:Nat} {rest:List Value} {bs:List UInt8} {v:Value} {n:Nat} {vs:List Value} (h:HashAt w g 272 rest bs) (hown:w.ownsRow base 5 1 v n vs) (hg:w.grownBy w' v.ownBlock):HashAt w' g 272 rest bs:=by
 obtain⟨st,op,h1,h2⟩:=h
 exact⟨st,op,h1,QgE h2 hown Qxc hg⟩
theorem Qcy (q:List UInt8):[q].flatten=q:=by simp
theorem QiM {w:World} {base:Nat} {A:Option Addr} {n m c:Nat} {bs xs ys:List UInt8} (h:w.ownsRow base 5 1 (.slice A n c) n (xs.map W8++ys.map W8)) (hb:xs++ys=bs) (hn:n=m):OwnB w base A m c bs:=by
 subst hb
 subst hn
 rw[←QC6]at h
 exact h
def strB (s:ByteArray):List UInt8:=s.data.toList
theorem Qf6 (s:ByteArray):(strB s).length=s.size:=by simp[strB]
section
variable {P:Program} {ops:Array Oper} {rest:List Oper} {o:Oper} {a:Act} {w:World} {Q:Exit→Act→World→Prop}
theorem Qea (hgd:o.guard=none) (src dst:TypeId) (x:Operand) (ho:o.op= .convert src dst x) (e:TypeId) (hs:P.underlying src=some .string) (hd:P.underlying dst=some (.slice e)) (he:P.underlying e=some (.int .u8))
 (s:ByteArray) (hx:a.eval x= .string s)
 (h:∀c w',Later w w'→RdB w' (some ⟨w.heap.size,0,none⟩) s.size (strB s)→s.size≤c→w.heap.size<w'.heap.size→wpList P ops Q rest (a.put o.dst (.slice (some ⟨w.heap.size,0,none⟩) s.size c)) w'):wpList P ops Q (o :: rest) a w:=
 wpList_plain hgd fun K hK=>by
  have hr:=run_bytes_of_string (P:=P) w src dst e s hs hd he
  unfold Oper.wp execOp
  simp only[ho,hx,Sem.run_bind,hr,Result.andThen_ok,Sem.run_pure]
  refine hK _ _ (h _ _ ((Qab w).alloc _) ⟨by simp[strB],fun _=>⟨_,_,rfl,by simp,fun j u hu=>?_⟩⟩ (grownCap_ge w s.size 0 e) (by simp))
  rw[QCI]
  have hu':(s.data.toList.map W8)[j]?=some u:=hu
  have hj:j<s.data.size:=by have:=(QCK.1 hu').1;simpa using this
  have hc:(bytesRow s (grownCap w s.size 0 e))[j]?=some u:=by
   unfold bytesRow
   rw[Array.getElem?_append_left (by simpa using hj),Array.getElem?_map]
   rw[QCH,Array.getElem?_toList]at hu'
   exact hu'
  generalize bytesRow s (grownCap w s.size 0 e)=C at *
  unfold World.cell?
  have hb:(w.drew.alloc (.cells C e (C.size,C.size+1))).heap[w.heap.size]?=some (.cells C e (C.size,C.size+1)):=by
   show (w.heap.push _)[w.heap.size]?=_
   simp
  rw[hb]
  exact hc
end
end Go.Proofs.YtdkpcdgckgaklaaGreat
namespace Go.Proofs.YtdkpcdgckgaklaaGreat
open Go.RowKit
open Go.BigFrame
def fadd (a b:Nat):Nat:=(a+b)%P25
def fsub (a b:Nat):Nat:=(a+(P25-b%P25))%P25
def fmul (a b:Nat):Nat:=a*b%P25
def L5 (a b c d e:Nat):List Value:=EL a++(EL b++(EL c++(EL d++EL e)))
theorem Qff (a b c d e:Nat):(L5 a b c d e).length=20:=by simp[L5,Qan]
theorem L5_0 (a b c d e j:Nat) (v:Value) (h:(EL a)[j]?=some v):(L5 a b c d e)[0+j]?=some v:=by
 have hj:j<4:=by have:=(QCK.1 h).1;rwa [Qan]at this
 rw[QCI,L5,QCD (by rw[Qan];exact hj)]
 exact h
theorem L5_1 (a b c d e j:Nat) (v:Value) (h:(EL b)[j]?=some v):(L5 a b c d e)[4+j]?=some v:=by
 have hj:j<4:=by have:=(QCK.1 h).1;rwa [Qan]at this
 rw[L5,QCF (by rw[Qan];omega),Qan,QCD (by rw[Qan];omega),show 4+j-4=j by omega]
 exact h
theorem L5_2 (a b c d e j:Nat) (v:Value) (h:(EL c)[j]?=some v):(L5 a b c d e)[8+j]?=some v:=by
 have hj:j<4:=by have:=(QCK.1 h).1;rwa [Qan]at this
 rw[L5,QCF (by rw[Qan];omega),Qan,QCF (by rw[Qan];omega),Qan,QCD (by rw[Qan];omega),show 8+j-4-4=j by omega]
 exact h
theorem L5_3 (a b c d e j:Nat) (v:Value) (h:(EL d)[j]?=some v):(L5 a b c d e)[12+j]?=some v:=by
 have hj:j<4:=by have:=(QCK.1 h).1;rwa [Qan]at this
 rw[L5,QCF (by rw[Qan];omega),Qan,QCF (by rw[Qan];omega),Qan,QCF (by rw[Qan];omega),Qan,QCD (by rw[Qan];omega),show 12+j-4-4-4=j by omega]
 exact h
theorem L5_4 (a b c d e j:Nat) (v:Value) (h:(EL e)[j]?=some v):(L5 a b c d e)[16+j]?=some v:=by
 rw[L5,QCF (by rw[Qan];omega),Qan,QCF (by rw[Qan];omega),Qan,QCF (by rw[Qan];omega),Qan,QCF (by rw[Qan];omega),Qan,show 16+j-4-4-4-4=j by omega]
 exact h
theorem Qw1 (a b c d e n:Nat):Qau (L5 a b c d e) 4 (EL n)=L5 a n c d e:=by
 simp only[L5,Qc7,Qau]
 rfl
theorem Qwz (a b c d e n:Nat):Qau (L5 a b c d e) 8 (EL n)=L5 a b n d e:=by
 simp only[L5,Qc7,Qau]
 rfl
theorem QwQ (a b c d e n:Nat):Qau (L5 a b c d e) 12 (EL n)=L5 a b c n e:=by
 simp only[L5,Qc7,Qau]
 rfl
theorem Qxr (a b c d e n:Nat):Qau (L5 a b c d e) 16 (EL n)=L5 a b c d n:=by
 simp only[L5,Qc7,Qau]
 rfl
section
variable {ops:Array Oper} {rest:List Oper} {o:Oper} {a:Act} {w:World} {Q:Exit→Act→World→Prop}
theorem QkE (hw:Region.wanted o (yielded ops a.tmps)=true) (x:Operand) (ho:o.op= .load 175 x) {g off:Nat} {t:TypeId} {l:List Value} {n:Nat} (hb:Blk w g t l) (hl:∀j v,(EL n)[j]?=some v→l[off+j]?=some v) (hx:a.eval x= .pointer (some ⟨g,off,none⟩))
 (h:wpList Tryz.prog ops Q rest (a.put o.dst (E n)) w):wpList Tryz.prog ops Q (o :: rest) a w:=
 wpList_want hw fun K hK=>by
  unfold Oper.wp
  simp only[execOp,ho,hx,Instr.loadAt,Instr.sureAddr,Sem.run_bind,Sem.run_pure,Result.andThen_ok,Qbi w g off 175 (EL n) _ (fun j v hv=>hb.cellD _ (hl j v hv)) Tryz.underlying175 rfl (by rw[Qan];exact Qhe)]
  exact hK _ _ h
theorem QhP (hgd:o.guard=none) (hd:o.dst=none) (x y:Operand) (ho:o.op= .store 175 x y) {g off:Nat} {t:TypeId} {l:List Value} {n:Nat} (hg:Blk w g t l) (hx:a.eval x= .pointer (some ⟨g,off,none⟩)) (hy:a.eval y=E n) (hl:off+4≤l.length)
 (h:∀w',Blk w' g t (Qau l off (EL n))→Only g w w'→wpList Tryz.prog ops Q rest a w'):wpList Tryz.prog ops Q (o :: rest) a w:=
 Qaj hgd hd _ x y ho g off t l _ hg hx hy (by rw[Qan];exact Qhe) (by rw[Qan];exact hl) (Qoa n) h
theorem QeA {K:Act→Prop} (x:Operand) (ho:o.op= .load 175 x) {w0:World} {g off:Nat} {t:TypeId} {l:List Value} {n:Nat} (hb:Blk w0 g t l) (hl:∀j v,(EL n)[j]?=some v→l[off+j]?=some v) (hx:a.eval x= .pointer (some ⟨g,off,none⟩)) (h:K (a.put o.dst (E n))):
 o.quiet Tryz.prog a (fun w'=>∃x,w'=grow w0 x) K:=
 QaN _ x ho g off (EL n) (fun w' hw j v hv=>by obtain⟨y,rfl⟩:=hw;exact (hb.later ⟨y,rfl⟩).cellD _ (hl j v hv)) hx _ Tryz.underlying175 rfl (by rw[Qan];exact Qhe) h
end
end Go.Proofs.YtdkpcdgckgaklaaGreat
namespace Go.Proofs.YtdkpcdgckgaklaaGreat
open Go.RowKit
set_option maxRecDepth 100000 in
set_option maxHeartbeats 8000000 in
theorem Qmi (g:Nat) (t:TypeId) (x1 x2 z2 x3 z3:Nat) (w:World) (hb:Blk w g t (L5 x1 x2 z2 x3 z3)):
 Calls Tryz.prog 72 #[.pointer (some ⟨g,0,none⟩)] w fun e w'=>e= .returned (.tuple #[])∧Blk w' g t (L5 x1 x3 z3 x2 z2)∧Only g w w':=by
 have e0:L5 x1 x2 z2 x3 z3=[n64 (lim x1 0),n64 (lim x1 1),n64 (lim x1 2),n64 (lim x1 3),n64 (lim x2 0),n64 (lim x2 1),n64 (lim x2 2),n64 (lim x2 3),n64 (lim z2 0),n64 (lim z2 1),n64 (lim z2 2),n64 (lim z2 3),n64 (lim x3 0),n64 (lim x3 1),n64 (lim x3 2),n64 (lim x3 3),n64 (lim z3 0),n64 (lim z3 1),n64 (lim z3 2),n64 (lim z3 3)]:=by simp only[L5,Qc7];rfl
 have hb':=hb
 rw[e0]at hb'
 have HB:=hid hb'
 clear e0 hb
 have c4:=hb'.cellD 4 rfl;have c5:=hb'.cellD 5 rfl;have c6:=hb'.cellD 6 rfl;have c7:=hb'.cellD 7 rfl
 have c8:=hb'.cellD 8 rfl;have c9:=hb'.cellD 9 rfl;have c10:=hb'.cellD 10 rfl;have c11:=hb'.cellD 11 rfl
 have c12:=hb'.cellD 12 rfl;have c13:=hb'.cellD 13 rfl;have c14:=hb'.cellD 14 rfl;have c15:=hb'.cellD 15 rfl
 have c16:=hb'.cellD 16 rfl;have c17:=hb'.cellD 17 rfl;have c18:=hb'.cellD 18 rfl;have c19:=hb'.cellD 19 rfl
 have f4:=hb'.frozen 4;have f5:=hb'.frozen 5;have f6:=hb'.frozen 6;have f7:=hb'.frozen 7
 have f8:=hb'.frozen 8;have f9:=hb'.frozen 9;have f10:=hb'.frozen 10;have f11:=hb'.frozen 11
 have f12:=hb'.frozen 12;have f13:=hb'.frozen 13;have f14:=hb'.frozen 14;have f15:=hb'.frozen 15
 have f16:=hb'.frozen 16;have f17:=hb'.frozen 17;have f18:=hb'.frozen 18;have f19:=hb'.frozen 19
 clear hb'
 go_enter Tryz.func72,Tryz.ntmps72
 go_wp2_with fail
 go_region
 have hfin:=((((((((((((((((HB.out.set_ 4 (n64 (lim x3 0))).set_ 5 (n64 (lim x3 1))).set_ 6 (n64 (lim x3 2))).set_ 7 (n64 (lim x3 3))).set_ 8 (n64 (lim z3 0))).set_ 9 (n64 (lim z3 1))).set_ 10 (n64 (lim z3 2))).set_ 11 (n64 (lim z3 3))).set_ 12 (n64 (lim x2 0))).set_ 13 (n64 (lim x2 1))).set_ 14 (n64 (lim x2 2))).set_ 15 (n64 (lim x2 3))).set_ 16 (n64 (lim z2 0))).set_ 17 (n64 (lim z2 1))).set_ 18 (n64 (lim z2 2))).set_ 19 (n64 (lim z2 3))).drew
 have hon:=Only.later (c:=World.drew _) (((((((((((((((((World.grownBy.refl w _).trans (QaL _ g 4 (n64 (lim x3 0)))).trans (QaL _ g 5 (n64 (lim x3 1)))).trans (QaL _ g 6 (n64 (lim x3 2)))).trans (QaL _ g 7 (n64 (lim x3 3)))).trans (QaL _ g 8 (n64 (lim z3 0)))).trans (QaL _ g 9 (n64 (lim z3 1)))).trans (QaL _ g 10 (n64 (lim z3 2)))).trans (QaL _ g 11 (n64 (lim z3 3)))).trans (QaL _ g 12 (n64 (lim x2 0)))).trans (QaL _ g 13 (n64 (lim x2 1)))).trans (QaL _ g 14 (n64 (lim x2 2)))).trans (QaL _ g 15 (n64 (lim x2 3)))).trans (QaL _ g 16 (n64 (lim z2 0)))).trans (QaL _ g 17 (n64 (lim z2 1)))).trans (QaL _ g 18 (n64 (lim z2 2)))).trans (QaL _ g 19 (n64 (lim z2 3)))) (Qab _)
 have e1:L5 x1 x3 z3 x2 z2=[n64 (lim x1 0),n64 (lim x1 1),n64 (lim x1 2),n64 (lim x1 3),n64 (lim x3 0),n64 (lim x3 1),n64 (lim x3 2),n64 (lim x3 3),n64 (lim z3 0),n64 (lim z3 1),n64 (lim z3 2),n64 (lim z3 3),n64 (lim x2 0),n64 (lim x2 1),n64 (lim x2 2),n64 (lim x2 3),n64 (lim z2 0),n64 (lim z2 1),n64 (lim z2 2),n64 (lim z2 3)]:=by simp only[L5,Qc7];rfl
 clear HB c4 c5 c6 c7 c8 c9 c10 c11 c12 c13 c14 c15 c16 c17 c18 c19 f4 f5 f6 f7 f8 f9 f10 f11 f12 f13 f14 f15 f16 f17 f18 f19
 refine bodyPost_end (results_none rfl _ _ _) rfl ⟨rfl,?_,hon⟩
 rw[e1]
 exact hfin
end Go.Proofs.YtdkpcdgckgaklaaGreat
namespace Go.Proofs.YtdkpcdgckgaklaaGreat
open Go.RowKit
open Go.BigFrame
theorem Only.past {g j:Nat} {a b c:World} (h:Only g a b) (k:Only j b c) (hj:a.heap.size≤j):Only g a c:=
 World.grownBy.andThen h k (fun i e=>.inl (by injection e with e;omega))
theorem QeT (a b:Nat):fadd a b<T256:=QDw (QCU _ QbC) (by decide)
theorem QeV (a b:Nat):fsub a b<T256:=QDw (QCU _ QbC) (by decide)
theorem QbO (a b:Nat):fmul a b<T256:=QDw (QCU _ QbC) (by decide)
theorem sum2 (x y:Nat) (hx:x<T256) (hy:y<T256) (w:World) (g:Nat) (hb:Blk w g 175 (EL x++EL y)):
 Calls Tryz.prog 98 #[.slice (some ⟨g,0,none⟩) 2 2] w fun e w'=>e= .returned (E (fadd x y))∧Later w w':=by
 have:=QxD (some ⟨g,0,none⟩) 2 2 [x,y] w (Qrr [x,y] 2 hb (by simp) rfl) (by intro z hz;simp at hz;rcases hz with rfl|rfl;exact hx;exact hy) (by omega)
 rwa [show [x,y].sum=x+y by simp]at this
theorem QfA (x y:Nat) (hx:x<T256) (hy:y<T256) (w:World) (g:Nat) (hb:Blk w g 175 (EL x++EL y)):
 Calls Tryz.prog 101 #[.slice (some ⟨g,0,none⟩) 2 2] w fun e w'=>e= .returned (E (fmul x y))∧Later w w':=by
 have:=Qnk (some ⟨g,0,none⟩) 2 2 [x,y] w (Qrr [x,y] 2 hb (by simp) rfl) (by intro z hz;simp at hz;rcases hz with rfl|rfl;exact hx;exact hy) (by omega) (by omega)
 rwa [show QeZ [x,y]=x*y by simp[QeZ]]at this
theorem Qkp (x:Nat) (hx:x<T256) (w:World):
 Calls Tryz.prog 100 #[E x] w fun e w'=>e= .returned (E (fmul x x))∧Later w w':=QgT x hx w
theorem sub2 (x y:Nat) (hx:x<T256) (hy:y<T256) (w:World):
 Calls Tryz.prog 99 #[E x,E y] w fun e w'=>e= .returned (E (fsub x y))∧Later w w':=Que x y hx hy w
section
variable {ops:Array Oper} {o:Oper} {a:Act}
theorem QfI (hw:Region.wanted o (yielded ops a.tmps)=true) (x y:Operand) (ho:o.op= .buildSlice 236 2 #[(0,x),(1,y)]) (n m:Nat) (hx:a.eval x=E n) (hy:a.eval y=E m):
 Makes Tryz.prog ops o (fun g=>.slice (some ⟨g,0,none⟩) 2 2) (.cells (EL n++EL m).toArray 175) a:=
 ⟨hw,fun w=>by
   have hr:=QjT n m w
   simp only[execOp,ho,QCA,QCR,QCC,hx,hy,Sem.run_bind,hr,Result.andThen_ok,Sem.run_pure]⟩
theorem Qda (hw:Region.wanted o (yielded ops a.tmps)=true) (ho:o.op= .alloc 175):
 Makes Tryz.prog ops o (fun g=>.pointer (some ⟨g,0,none⟩)) (.cells (QCn 4 (.int .u64 0)).toArray 175) a:=
 ⟨hw,fun w=>by
   unfold execOp
   rw[ho]
   simp[go_sem]⟩
end
structure St (w0 wk:World) (g:Nat) (t:TypeId) (l:List Value) (ls:List (Nat×Nat)):Prop where
 only:Only g w0 wk
 blk:Blk wk g t l
 loc:∀p∈ls,Blk wk p.1 175 (EL p.2)∧w0.heap.size≤p.1
 gl:g<w0.heap.size
section
variable {w0 wk v:World} {g:Nat} {t:TypeId} {l:List Value} {ls:List (Nat×Nat)}
theorem St.nth (h:St w0 wk g t l ls) (i:Nat) {k n:Nat} (hi:ls[i]?=some (k,n)):Blk wk k 175 (EL n):=(h.loc (k,n) (List.mem_of_getElem? hi)).1
theorem St.later (h:St w0 wk g t l ls) (k:Later wk v):St w0 v g t l ls:=
 ⟨h.only.later k,h.blk.later k,fun p hp=>⟨(h.loc p hp).1.later k,(h.loc p hp).2⟩,h.gl⟩
theorem St.drew (h:St w0 wk g t l ls):St w0 wk.drew g t l ls:=h.later (Qab _)
theorem St.write {l':List Value} (h:St w0 wk g t l ls) (k:Only g wk v) (hb:Blk v g t l'):St w0 v g t l' ls:=
 ⟨h.only.trans k,hb,fun p hp=>⟨(h.loc p hp).1.only k (by have:=(h.loc p hp).2;have:=h.gl;omega),(h.loc p hp).2⟩,h.gl⟩
theorem St.one {v1:World} {k n:Nat} (h:St w0 wk g t l ls) (j:Later wk v) (hk:wk.heap.size≤k) (o:Only k v v1) (hb:Blk v1 k 175 (EL n)):St w0 v1 g t l ((k,n) :: ls):=by
 have h1:=h.later j
 have hs:=h.only.size
 refine⟨h1.only.past o (by omega),h1.blk.only o (by have:=h.blk.lt;omega),?_,h.gl⟩
 intro p hp
 rcases QCQ.1 hp with rfl|hp
 ·exact⟨hb,by show w0.heap.size≤k;omega⟩
 ·exact⟨(h1.loc p hp).1.only o (by have:=(h.loc p hp).1.lt;omega),(h.loc p hp).2⟩
theorem St.two {v1 v2:World} {k1 k2 n1 n2:Nat} (h:St w0 wk g t l ls) (j:Later wk v) (hk1:wk.heap.size≤k1) (hk2:wk.heap.size≤k2) (hne:k1≠k2) (o1:Only k1 v v1) (hb1:Blk v1 k1 175 (EL n1)) (o2:Only k2 v1 v2) (hb2:Blk v2 k2 175 (EL n2)):St w0 v2 g t l ((k1,n1) :: (k2,n2) :: ls):=by
 have h1:=h.later j
 have hs:=h.only.size
 refine⟨(h1.only.past o1 (by omega)).past o2 (by omega),(h1.blk.only o1 (by have:=h.blk.lt;omega)).only o2 (by have:=h.blk.lt;omega),?_,h.gl⟩
 intro p hp
 rcases QCQ.1 hp with rfl|hp
 ·exact⟨hb1.only o2 hne,by show w0.heap.size≤k1;omega⟩
 rcases QCQ.1 hp with rfl|hp
 ·exact⟨hb2,by show w0.heap.size≤k2;omega⟩
 ·exact⟨((h1.loc p hp).1.only o1 (by have:=(h.loc p hp).1.lt;omega)).only o2 (by have:=(h.loc p hp).1.lt;omega),(h.loc p hp).2⟩
end
set_option maxRecDepth 100000 in
set_option maxHeartbeats 8000000 in
theorem Qm3 (g:Nat) (t:TypeId) (x1 x2 z2 x3 z3:Nat) (k1:x1<T256) (k2:x2<T256) (k3:z2<T256) (k4:x3<T256) (k5:z3<T256) (w:World) (hb:Blk w g t (L5 x1 x2 z2 x3 z3)):
 Calls Tryz.prog 73 #[.pointer (some ⟨g,0,none⟩)] w fun e w'=>e= .returned (.tuple #[])∧Blk w' g t (L5 x1
  (fmul (fmul (fadd x2 z2) (fadd x2 z2)) (fmul (fsub x2 z2) (fsub x2 z2)))
  (fmul (fsub (fmul (fadd x2 z2) (fadd x2 z2)) (fmul (fsub x2 z2) (fsub x2 z2))) (fadd (fmul (fadd x2 z2) (fadd x2 z2)) (fmul 121665 (fsub (fmul (fadd x2 z2) (fadd x2 z2)) (fmul (fsub x2 z2) (fsub x2 z2))))))
  (fmul (fadd (fmul (fsub x3 z3) (fadd x2 z2)) (fmul (fadd x3 z3) (fsub x2 z2))) (fadd (fmul (fsub x3 z3) (fadd x2 z2)) (fmul (fadd x3 z3) (fsub x2 z2))))
  (fmul x1 (fmul (fsub (fmul (fsub x3 z3) (fadd x2 z2)) (fmul (fadd x3 z3) (fsub x2 z2))) (fsub (fmul (fsub x3 z3) (fadd x2 z2)) (fmul (fadd x3 z3) (fsub x2 z2))))))∧Only g w w':=by
 have cA:=hid (sum2 x2 z2 k2 k3)
 have cB:=hid (sub2 x2 z2 k2 k3)
 have cC:=hid (sum2 x3 z3 k4 k5)
 have cD:=hid (sub2 x3 z3 k4 k5)
 have tA:=QeT x2 z2
 have tB:=QeV x2 z2
 have tC:=QeT x3 z3
 have tD:=QeV x3 z3
 generalize fadd x2 z2=A at *
 generalize fsub x2 z2=B at *
 generalize fadd x3 z3=C at *
 generalize fsub x3 z3=D at *
 have cAA:=hid (Qkp A tA)
 have cBB:=hid (Qkp B tB)
 have cDA:=hid (QfA D A tD tA)
 have cCB:=hid (QfA C B tC tB)
 have tAA:=QbO A A
 have tBB:=QbO B B
 have tDA:=QbO D A
 have tCB:=QbO C B
 generalize fmul A A=AA at *
 generalize fmul B B=BB at *
 generalize fmul D A=DA at *
 generalize fmul C B=CB at *
 have cF:=hid (sub2 AA BB tAA tBB)
 have tF:=QeV AA BB
 have cS:=hid (sum2 DA CB tDA tCB)
 have tS:=QeT DA CB
 have cG:=hid (sub2 DA CB tDA tCB)
 have tG:=QeV DA CB
 have cX2:=hid (QfA AA BB tAA tBB)
 generalize fsub AA BB=F at *
 generalize fadd DA CB=S at *
 generalize fsub DA CB=G at *
 generalize fmul AA BB=X2 at *
 have cSS:=hid (Qkp S tS)
 have cGG:=hid (Qkp G tG)
 have tGG:=QbO G G
 have cM:=hid (QfA 121665 F (by decide) tF)
 have tM:=QbO 121665 F
 generalize fmul S S=X3 at *
 generalize fmul G G=GG at *
 generalize fmul 121665 F=M at *
 have cZ3:=hid (QfA x1 GG k1 tGG)
 have cN:=hid (sum2 AA M tAA tM)
 have tN:=QeT AA M
 generalize fmul x1 GG=Z3 at *
 generalize fadd AA M=N at *
 have cZ2:=hid (QfA F N tF tN)
 generalize fmul F N=Z2 at *
 have cOf:Hid (∀ w,Calls Tryz.prog 71 #[.int .u64 121665] w fun e w'=>e= .returned (E 121665)∧Later w w'):=hid (Qwc 121665 (by decide))
 clear tA tB tC tD tAA tBB tDA tCB tF tS tG tGG tM tN k1 k2 k3 k4 k5
 have S0:St w w g t (L5 x1 x2 z2 x3 z3) []:=⟨World.grownBy.refl w _,hb,by simp,hb.lt⟩
 go_enter Tryz.func73,Tryz.ntmps73
 go_wp2_with fail
 refine QaG [0,1,2,3,4,5,6,7,10,11,12,13,14,15,16,17] [([],2,8),([],1,9),([],1,18),([],2,19),([],2,20)] [] [21,22] [8,19,20] (fun i=>if i=8 then (fun g=>.slice (some ⟨g,0,none⟩) 2 2,.cells (EL x2++EL z2).toArray 175) else (fun g=>.pointer (some ⟨g,0,none⟩),.cells (QCn 4 (Value.int .u64 0)).toArray 175)) (by as_aux_lemma=>kernel_rfl) (by as_aux_lemma=>kernel_rfl) (by intro _ _ d _ _ h;cases d<;>exact h) (by intro _ _ d _ _ h;cases d<;>exact h) ?_
 simp only[pick,QCo,QCp,QCq,QCr,QCs]
 repeat (first|go_big_quiet_skip|(go_big_quiet_want;(first|refine QeA _ rfl S0.drew.blk (fun j v hv=>L5_1 _ _ _ _ _ j v hv) rfl ?_|refine QeA _ rfl S0.drew.blk (fun j v hv=>L5_2 _ _ _ _ _ j v hv) rfl ?_);simp only[Act.put,QCw,QCz,QCy];go_big_quiet_on)|(go_big_quiet_step (fail)))
 refine wpQuiet_nil ?_
 refine⟨?mk,?_⟩
 case mk=>
  refine⟨fun o ho=>?_,fun o ho=>?_,fun o ho=>?_,trivial⟩
  all_goals
   simp only[QCo,QCp,Option.some.injEq]at ho
   subst ho
  ·exact QfI rfl _ _ rfl x2 z2 rfl rfl
  ·exact Qda rfl rfl
  ·exact Qda rfl rfl
 simp only[Qbp,pick,QCo,QCp,QCq,QCr,QCs,reduceIte,QDF]
 refine wpQuiet_nil ?_
 intro aa gx j1 _ _ hx1
 have hx2:Blk aa gx 175 (EL x2++EL z2):=hx1
 refine wpQuiet_nil ?_
 intro ab j2
 go_wp2_with fail
 (with_reducible refine (cA.out _ gx (hx2.later j2)).mono ?_);rintro e ac ⟨rfl,j3⟩
 go_wp2_with fail
 try refine⟨by first|assumption|exact Qab _|exact Qaa _ _|exact Later.refl _,?_⟩
 try simp only[Qai,pick,QCo,QCp,QCq,QCr,QCs]
 repeat (go_big_quiet_step (fail))
 refine wpQuiet_nil ?_
 intro ad j4
 go_wp2_with fail
 (with_reducible refine (cB.out _).mono ?_);rintro e ae ⟨rfl,j5⟩
 go_wp2_with fail
 try refine⟨by first|assumption|exact Qab _|exact Qaa _ _|exact Later.refl _,?_⟩
 try simp only[Qai,pick,QCo,QCp,QCq,QCr,QCs]
 repeat (go_big_quiet_step (fail))
 refine wpQuiet_nil ?_
 have j0:=((((Qab _).trans j1).trans j2).trans j3).trans (j4.trans j5)
 clear j1 j2 j3 j4 j5 hx1 hx2
 intro a1 gA i1 hg1 _ hb1
 refine wpQuiet_nil ?_
 intro a2 gB i2 hg2 hn2 hb2
 refine wpQuiet_nil ?_
 intro a3 i3
 have hne:gA≠gB:=fun e=>hn2 (.inl e.symm)
 have hX:Blk a3 gA 175 (QCn 4 (Value.int .u64 0)):=Blk.later (show Blk a1 gA _ _ from hb1) (i2.trans i3)
 have hY:Blk a3 gB 175 (QCn 4 (Value.int .u64 0)):=Blk.later (show Blk a2 gB _ _ from hb2) i3
 have jj:=j0.trans (i1.trans (i2.trans i3))
 clear hb1 hb2 i1 i2 i3 hn2
 simp only[Act.put,QCw,QCz,QCy]
 go_wp2_with (first
  | (refine QaM rfl rfl _ _ rfl hX rfl rfl rfl ?_;intro a4 hb3 ho3
     have hY3:=hY.only ho3 (fun e=>hne e.symm))
  | (refine QaM rfl rfl _ _ rfl hY3 rfl rfl rfl ?_;intro a5 hb4 ho4
     have S1:=S0.two jj hg1 hg2 hne ho3 hb3 ho4 hb4)
  | fail)
 clear jj hX hY hY3 hg1 hg2 hne ho3 hb3 ho4 hb4 S0
 clear j0 cA cB
 go_wp2_with fail
 refine QaG [0,1,2,3,4,5,6,7,10,11,12,13,14,15,16,17] [([],2,8),([],1,9),([],1,18),([],2,19),([],2,20)] [] [21,22] [8,19,20] (fun i=>if i=8 then (fun g=>.slice (some ⟨g,0,none⟩) 2 2,.cells (EL x3++EL z3).toArray 175) else (fun g=>.pointer (some ⟨g,0,none⟩),.cells (QCn 4 (Value.int .u64 0)).toArray 175)) (by as_aux_lemma=>kernel_rfl) (by as_aux_lemma=>kernel_rfl) (by intro _ _ d _ _ h;cases d<;>exact h) (by intro _ _ d _ _ h;cases d<;>exact h) ?_
 simp only[pick,QCo,QCp,QCq,QCr,QCs]
 repeat (first|go_big_quiet_skip|(go_big_quiet_want;(first|refine QeA _ rfl S1.drew.blk (fun j v hv=>L5_3 _ _ _ _ _ j v hv) rfl ?_|refine QeA _ rfl S1.drew.blk (fun j v hv=>L5_4 _ _ _ _ _ j v hv) rfl ?_);simp only[Act.put,QCw,QCz,QCy];go_big_quiet_on)|(go_big_quiet_step (fail)))
 refine wpQuiet_nil ?_
 refine⟨?mk,?_⟩
 case mk=>
  refine⟨fun o ho=>?_,fun o ho=>?_,fun o ho=>?_,trivial⟩
  all_goals
   simp only[QCo,QCp,Option.some.injEq]at ho
   subst ho
  ·exact QfI rfl _ _ rfl x3 z3 rfl rfl
  ·exact Qda rfl rfl
  ·exact Qda rfl rfl
 simp only[Qbp,pick,QCo,QCp,QCq,QCr,QCs,reduceIte,QDF]
 refine wpQuiet_nil ?_
 intro ba gx j1 _ _ hx1
 have hx2:Blk ba gx 175 (EL x3++EL z3):=hx1
 refine wpQuiet_nil ?_
 intro bb j2
 go_wp2_with fail
 (with_reducible refine (cC.out _ gx (hx2.later j2)).mono ?_);rintro e bc ⟨rfl,j3⟩
 go_wp2_with fail
 try refine⟨by first|assumption|exact Qab _|exact Qaa _ _|exact Later.refl _,?_⟩
 try simp only[Qai,pick,QCo,QCp,QCq,QCr,QCs]
 repeat (go_big_quiet_step (fail))
 refine wpQuiet_nil ?_
 intro bd j4
 go_wp2_with fail
 (with_reducible refine (cD.out _).mono ?_);rintro e be ⟨rfl,j5⟩
 go_wp2_with fail
 try refine⟨by first|assumption|exact Qab _|exact Qaa _ _|exact Later.refl _,?_⟩
 try simp only[Qai,pick,QCo,QCp,QCq,QCr,QCs]
 repeat (go_big_quiet_step (fail))
 refine wpQuiet_nil ?_
 have j0:=((((Qab _).trans j1).trans j2).trans j3).trans (j4.trans j5)
 clear j1 j2 j3 j4 j5 hx1 hx2
 intro b1 gC i1 hg1 _ hb1
 refine wpQuiet_nil ?_
 intro b2 gD i2 hg2 hn2 hb2
 refine wpQuiet_nil ?_
 intro b3 i3
 have hne:gC≠gD:=fun e=>hn2 (.inl e.symm)
 have hX:Blk b3 gC 175 (QCn 4 (Value.int .u64 0)):=Blk.later (show Blk b1 gC _ _ from hb1) (i2.trans i3)
 have hY:Blk b3 gD 175 (QCn 4 (Value.int .u64 0)):=Blk.later (show Blk b2 gD _ _ from hb2) i3
 have jj:=j0.trans (i1.trans (i2.trans i3))
 clear hb1 hb2 i1 i2 i3 hn2
 simp only[Act.put,QCw,QCz,QCy]
 go_wp2_with (first
  | (refine QaM rfl rfl _ _ rfl hX rfl rfl rfl ?_;intro b4 hb3 ho3
     have hY3:=hY.only ho3 (fun e=>hne e.symm))
  | (refine QaM rfl rfl _ _ rfl hY3 rfl rfl rfl ?_;intro b5 hb4 ho4
     have S2:=S1.two jj hg1 hg2 hne ho3 hb3 ho4 hb4)
  | fail)
 clear jj hX hY hY3 hg1 hg2 hne ho3 hb3 ho4 hb4 S1
 clear j0 cC cD
 go_wp2_with fail
 refine QaG [0,2] [([],1,1),([],1,3),([],2,4),([],2,5)] [] [6,7] [4,5] (fun _=>(fun g=>.pointer (some ⟨g,0,none⟩),.cells (QCn 4 (Value.int .u64 0)).toArray 175)) (by as_aux_lemma=>kernel_rfl) (by as_aux_lemma=>kernel_rfl) (by intro _ _ d _ _ h;cases d<;>exact h) (by intro _ _ d _ _ h;cases d<;>exact h) ?_
 simp only[pick,QCo,QCp,QCq,QCr,QCs]
 repeat (first|go_big_quiet_skip|(go_big_quiet_want;(first|refine QcJ _ rfl (S2.drew.nth 2 rfl) rfl ?_|refine QcJ _ rfl (S2.drew.nth 3 rfl) rfl ?_);simp only[Act.put,QCw,QCz,QCy];go_big_quiet_on)|(go_big_quiet_step (fail)))
 refine wpQuiet_nil ?_
 refine⟨?mk,?_⟩
 case mk=>
  refine⟨fun o ho=>?_,fun o ho=>?_,trivial⟩
  all_goals
   simp only[QCo,QCp,Option.some.injEq]at ho
   subst ho
   exact Qda rfl rfl
 simp only[Qbp,pick,QCo,QCp,QCq,QCr,QCs,QDF]
 refine wpQuiet_nil ?_
 intro ca j1
 go_wp2_with fail
 (with_reducible refine (cAA.out _).mono ?_);rintro e cb ⟨rfl,j2⟩
 go_wp2_with fail
 try refine⟨by first|assumption|exact Qab _|exact Qaa _ _|exact Later.refl _,?_⟩
 try simp only[Qai,pick,QCo,QCp,QCq,QCr,QCs]
 repeat (go_big_quiet_step (fail))
 refine wpQuiet_nil ?_
 intro cc j3
 go_wp2_with fail
 (with_reducible refine (cBB.out _).mono ?_);rintro e cd ⟨rfl,j4⟩
 go_wp2_with fail
 try refine⟨by first|assumption|exact Qab _|exact Qaa _ _|exact Later.refl _,?_⟩
 try simp only[Qai,pick,QCo,QCp,QCq,QCr,QCs]
 repeat (go_big_quiet_step (fail))
 refine wpQuiet_nil ?_
 have j0:=(((Qab _).trans j1).trans j2).trans (j3.trans j4)
 clear j1 j2 j3 j4
 intro c1 gAA i1 hg1 _ hb1
 refine wpQuiet_nil ?_
 intro c2 gBB i2 hg2 hn2 hb2
 refine wpQuiet_nil ?_
 intro c3 i3
 have hne:gAA≠gBB:=fun e=>hn2 (.inl e.symm)
 have hX:Blk c3 gAA 175 (QCn 4 (Value.int .u64 0)):=Blk.later (show Blk c1 gAA _ _ from hb1) (i2.trans i3)
 have hY:Blk c3 gBB 175 (QCn 4 (Value.int .u64 0)):=Blk.later (show Blk c2 gBB _ _ from hb2) i3
 have jj:=j0.trans (i1.trans (i2.trans i3))
 clear hb1 hb2 i1 i2 i3 hn2
 simp only[Act.put,QCw,QCz,QCy]
 go_wp2_with (first
  | (refine QaM rfl rfl _ _ rfl hX rfl rfl rfl ?_;intro c4 hb3 ho3
     have hY3:=hY.only ho3 (fun e=>hne e.symm))
  | (refine QaM rfl rfl _ _ rfl hY3 rfl rfl rfl ?_;intro c5 hb4 ho4
     have S3:=S2.two jj hg1 hg2 hne ho3 hb3 ho4 hb4
     have q0:=S3.nth 0 rfl
     have q1:=S3.nth 1 rfl)
  | (refine QbP rfl _ rfl q0 rfl ?_)
  | (refine QbP rfl _ rfl q1 rfl ?_)
  | fail)
 clear jj hX hY hY3 hg1 hg2 hne ho3 hb3 ho4 hb4 S2
 clear j0 cAA cBB
 (with_reducible refine (cF.out _).mono ?_);rintro e d1 ⟨rfl,j1⟩
 go_wp2_with (first
  | (refine QaM rfl rfl _ _ rfl (Blk.new d1 _ (QCn 4 (.int .u64 0))) rfl rfl rfl ?_;intro d2 hb3 ho3)
  | fail)
 have S4:=S3.one (j1.trans (Qaa d1 _)) j1.size ho3 hb3
 clear j1 hb3 ho3 S3 cF q0 q1
 generalize hgF:d1.heap.size=gF at *
 clear hgF
 refine QaG [0,1,4,5] [([],2,2),([],1,3),([],2,6),([],1,7),([],2,8),([],2,9)] [] [10,11] [2,6,8,9] (fun i=>if i=2 then (fun g=>.slice (some ⟨g,0,none⟩) 2 2,.cells (EL D++EL A).toArray 175) else if i=6 then (fun g=>.slice (some ⟨g,0,none⟩) 2 2,.cells (EL C++EL B).toArray 175) else (fun g=>.pointer (some ⟨g,0,none⟩),.cells (QCn 4 (Value.int .u64 0)).toArray 175)) (by as_aux_lemma=>kernel_rfl) (by as_aux_lemma=>kernel_rfl) (by intro _ _ d _ _ h;cases d<;>exact h) (by intro _ _ d _ _ h;cases d<;>exact h) ?_
 simp only[pick,QCo,QCp,QCq,QCr,QCs]
 repeat (first|go_big_quiet_skip|(go_big_quiet_want;(first|refine QcJ _ rfl (S4.drew.nth 3 rfl) rfl ?_|refine QcJ _ rfl (S4.drew.nth 4 rfl) rfl ?_|refine QcJ _ rfl (S4.drew.nth 5 rfl) rfl ?_|refine QcJ _ rfl (S4.drew.nth 6 rfl) rfl ?_);simp only[Act.put,QCw,QCz,QCy];go_big_quiet_on)|(go_big_quiet_step (fail)))
 refine wpQuiet_nil ?_
 refine⟨?mk,?_⟩
 case mk=>
  refine⟨fun o ho=>?_,fun o ho=>?_,fun o ho=>?_,fun o ho=>?_,trivial⟩
  all_goals
   simp only[QCo,QCp,Option.some.injEq]at ho
   subst ho
  ·exact QfI rfl _ _ rfl D A rfl rfl
  ·exact QfI rfl _ _ rfl C B rfl rfl
  ·exact Qda rfl rfl
  ·exact Qda rfl rfl
 simp only[Qbp,pick,QCo,QCp,QCq,QCr,QCs,reduceIte,QDF]
 refine wpQuiet_nil ?_
 intro e1 gx j1 _ _ hx1
 have hx2:Blk e1 gx 175 (EL D++EL A):=hx1
 refine wpQuiet_nil ?_
 intro e2 j2
 go_wp2_with fail
 (with_reducible refine (cDA.out _ gx (hx2.later j2)).mono ?_);rintro e e3 ⟨rfl,j3⟩
 go_wp2_with fail
 try refine⟨by first|assumption|exact Qab _|exact Qaa _ _|exact Later.refl _,?_⟩
 try simp only[Qai,pick,QCo,QCp,QCq,QCr,QCs]
 repeat (go_big_quiet_step (fail))
 refine wpQuiet_nil ?_
 intro e4 gy j4 _ _ hy1
 have hy2:Blk e4 gy 175 (EL C++EL B):=hy1
 refine wpQuiet_nil ?_
 intro e5 j5
 go_wp2_with fail
 (with_reducible refine (cCB.out _ gy (hy2.later j5)).mono ?_);rintro e e6 ⟨rfl,j6⟩
 go_wp2_with fail
 try refine⟨by first|assumption|exact Qab _|exact Qaa _ _|exact Later.refl _,?_⟩
 try simp only[Qai,pick,QCo,QCp,QCq,QCr,QCs]
 repeat (go_big_quiet_step (fail))
 refine wpQuiet_nil ?_
 have j0:=(((Qab _).trans j1).trans (j2.trans j3)).trans ((j4.trans j5).trans j6)
 clear j1 j2 j3 j4 j5 j6 hx1 hx2 hy1 hy2
 intro f1 gDA i1 hg1 _ hb1
 refine wpQuiet_nil ?_
 intro f2 gCB i2 hg2 hn2 hb2
 refine wpQuiet_nil ?_
 intro f3 i3
 have hne:gDA≠gCB:=fun e=>hn2 (.inl e.symm)
 have hX:Blk f3 gDA 175 (QCn 4 (Value.int .u64 0)):=Blk.later (show Blk f1 gDA _ _ from hb1) (i2.trans i3)
 have hY:Blk f3 gCB 175 (QCn 4 (Value.int .u64 0)):=Blk.later (show Blk f2 gCB _ _ from hb2) i3
 have jj:=j0.trans (i1.trans (i2.trans i3))
 clear hb1 hb2 i1 i2 i3 hn2
 simp only[Act.put,QCw,QCz,QCy]
 go_wp2_with (first
  | (refine QaM rfl rfl _ _ rfl hX rfl rfl rfl ?_;intro f4 hb3 ho3
     have hY3:=hY.only ho3 (fun e=>hne e.symm))
  | (refine QaM rfl rfl _ _ rfl hY3 rfl rfl rfl ?_;intro f5 hb4 ho4
     have S5:=S4.two jj hg1 hg2 hne ho3 hb3 ho4 hb4
     have q0:=S5.nth 0 rfl
     have q1:=S5.nth 1 rfl)
  | (refine QbP rfl _ rfl q0 rfl ?_)
  | (refine QbP rfl _ rfl q1 rfl ?_)
  | (refine QdI rfl _ _ rfl DA CB rfl rfl ?_)
  | fail)
 clear jj hX hY hY3 hg1 hg2 hne ho3 hb3 ho4 hb4 S4
 clear j0 cDA cCB
 (with_reducible refine (cS.out _ _ (Blk.new f5 _ (EL DA++EL CB))).mono ?_);rintro e h1 ⟨rfl,j1⟩
 go_wp2_with fail
 (with_reducible refine (cSS.out _).mono ?_);rintro e h2 ⟨rfl,j2⟩
 replace S5:=(S5.later (Qaa f5 _)).later (j1.trans j2)
 go_wp2_with (first
  | (refine QhP rfl rfl _ _ rfl S5.blk rfl rfl (by rw[Qff];omega) ?_;intro h3 hb3 ho3)
  | fail)
 rw[QwQ]at hb3
 have S6:=S5.write ho3 hb3
 clear j1 j2 hb3 ho3 S5 cS cSS q0 q1
 go_wp2_with fail
 refine Qad [([0,1,2,3,4,5,6],7),([],8),([],9),([],10)] [11,12] [13] (by as_aux_lemma=>kernel_rfl) (by as_aux_lemma=>kernel_rfl) (by intro _ _ d _ _ h;cases d<;>exact h) ?_
 simp only[Qai,pick,QCo,QCp,QCq,QCr,QCs]
 repeat (first|go_big_quiet_skip|(go_big_quiet_want;(first|refine QcJ _ rfl (S6.drew.nth 0 rfl) rfl ?_|refine QcJ _ rfl (S6.drew.nth 1 rfl) rfl ?_|refine QeA _ rfl S6.drew.blk (fun j v hv=>L5_0 _ _ _ _ _ j v hv) rfl ?_);simp only[Act.put,QCw,QCz,QCy];go_big_quiet_on)|(go_big_quiet_step (fail)))
 refine wpQuiet_nil ?_
 go_wp2_with fail
 (with_reducible refine (cG.out _).mono ?_);rintro e p1 ⟨rfl,j1⟩
 go_wp2_with fail
 try refine⟨by first|assumption|exact Qab _|exact Qaa _ _|exact Later.refl _,?_⟩
 try simp only[Qai,pick,QCo,QCp,QCq,QCr,QCs]
 repeat (go_big_quiet_step (fail))
 refine wpQuiet_nil ?_
 go_wp2_with fail
 (with_reducible refine (cGG.out _).mono ?_);rintro e p2 ⟨rfl,j2⟩
 go_wp2_with fail
 try refine⟨by first|assumption|exact Qab _|exact Qaa _ _|exact Later.refl _,?_⟩
 try simp only[Qai,pick,QCo,QCp,QCq,QCr,QCs]
 repeat (go_big_quiet_step (fail))
 refine wpQuiet_nil ?_
 go_wp2_with (first
  | (refine QdI rfl _ _ rfl x1 GG rfl rfl ?_)
  | fail)
 refine⟨Qaa _ _,?_⟩
 simp only[Act.put,QCw,QCz,QCy]
 refine wpQuiet_nil ?_
 go_wp2_with fail
 (with_reducible refine (cZ3.out _ _ (Blk.new p2 _ (EL x1++EL GG))).mono ?_);rintro e p3 ⟨rfl,j3⟩
 replace S6:=S6.later ((((Qab _).trans j1).trans j2).trans ((Qaa p2 _).trans j3))
 go_wp2_with fail
 try refine⟨by first|assumption|exact Qab _|exact Qaa _ _|exact Later.refl _,?_⟩
 try simp only[Qai,pick,QCo,QCp,QCq,QCr,QCs]
 repeat (go_big_quiet_step (fail))
 refine wpQuiet_nil ?_
 go_wp2_with (first
  | (refine QhP rfl rfl _ _ rfl S6.blk rfl rfl (by rw[Qff];omega) ?_;intro p4 hb3 ho3
     rw[Qxr]at hb3
     have S7:=S6.write ho3 hb3
     have q3:=S7.nth 3 rfl
     have q4:=S7.nth 4 rfl)
  | (refine QbP rfl _ rfl q3 rfl ?_)
  | (refine QbP rfl _ rfl q4 rfl ?_)
  | (refine QdI rfl _ _ rfl AA BB rfl rfl ?_)
  | fail)
 clear j1 j2 j3 hb3 ho3 S6 q3 q4 cG cGG cZ3
 (with_reducible refine (cX2.out _ _ (Blk.new p4 _ (EL AA++EL BB))).mono ?_);rintro e r1 ⟨rfl,j1⟩
 replace S7:=S7.later ((Qaa p4 _).trans j1)
 go_wp2_with (first
  | (refine QhP rfl rfl _ _ rfl S7.blk rfl rfl (by rw[Qff];omega) ?_;intro r2 hb3 ho3
     rw[Qw1]at hb3
     have S8:=S7.write ho3 hb3)
  | fail)
 clear j1 hb3 ho3 S7 cX2
 refine Qad [([0,1,2,4],3),([],5),([],6),([],7),([],8),([],9),([],10)] [11,12] [13] (by as_aux_lemma=>kernel_rfl) (by as_aux_lemma=>kernel_rfl) (by intro _ _ d _ _ h;cases d<;>exact h) ?_
 simp only[Qai,pick,QCo,QCp,QCq,QCr,QCs]
 repeat (first|go_big_quiet_skip|(go_big_quiet_want;(first|refine QcJ _ rfl (S8.drew.nth 2 rfl) rfl ?_|refine QcJ _ rfl (S8.drew.nth 3 rfl) rfl ?_);simp only[Act.put,QCw,QCz,QCy];go_big_quiet_on)|(go_big_quiet_step (fail)))
 refine wpQuiet_nil ?_
 go_wp2_with fail
 (with_reducible refine (cOf.out _).mono ?_);rintro e u1 ⟨rfl,j1⟩
 go_wp2_with fail
 try refine⟨by first|assumption|exact Qab _|exact Qaa _ _|exact Later.refl _,?_⟩
 try simp only[Qai,pick,QCo,QCp,QCq,QCr,QCs]
 repeat (go_big_quiet_step (fail))
 refine wpQuiet_nil ?_
 go_wp2_with (first
  | (refine QdI rfl _ _ rfl 121665 F rfl rfl ?_)
  | fail)
 refine⟨Qaa _ _,?_⟩
 simp only[Act.put,QCw,QCz,QCy]
 refine wpQuiet_nil ?_
 go_wp2_with fail
 (with_reducible refine (cM.out _ _ (Blk.new u1 _ (EL 121665++EL F))).mono ?_);rintro e u2 ⟨rfl,j2⟩
 go_wp2_with fail
 try refine⟨by first|assumption|exact Qab _|exact Qaa _ _|exact Later.refl _,?_⟩
 try simp only[Qai,pick,QCo,QCp,QCq,QCr,QCs]
 repeat (go_big_quiet_step (fail))
 refine wpQuiet_nil ?_
 go_wp2_with (first
  | (refine QdI rfl _ _ rfl AA M rfl rfl ?_)
  | fail)
 refine⟨Qaa _ _,?_⟩
 simp only[Act.put,QCw,QCz,QCy]
 refine wpQuiet_nil ?_
 go_wp2_with fail
 (with_reducible refine (cN.out _ _ (Blk.new u2 _ (EL AA++EL M))).mono ?_);rintro e u3 ⟨rfl,j3⟩
 go_wp2_with fail
 try refine⟨by first|assumption|exact Qab _|exact Qaa _ _|exact Later.refl _,?_⟩
 try simp only[Qai,pick,QCo,QCp,QCq,QCr,QCs]
 repeat (go_big_quiet_step (fail))
 refine wpQuiet_nil ?_
 go_wp2_with (first
  | (refine QdI rfl _ _ rfl F N rfl rfl ?_)
  | fail)
 refine⟨Qaa _ _,?_⟩
 simp only[Act.put,QCw,QCz,QCy]
 refine wpQuiet_nil ?_
 go_wp2_with fail
 (with_reducible refine (cZ2.out _ _ (Blk.new u3 _ (EL F++EL N))).mono ?_);rintro e u4 ⟨rfl,j4⟩
 replace S8:=S8.later ((((Qab _).trans j1).trans ((Qaa u1 _).trans j2)).trans (((Qaa u2 _).trans j3).trans ((Qaa u3 _).trans j4)))
 go_wp2_with fail
 try refine⟨by first|assumption|exact Qab _|exact Qaa _ _|exact Later.refl _,?_⟩
 try simp only[Qai,pick,QCo,QCp,QCq,QCr,QCs]
 repeat (go_big_quiet_step (fail))
 refine wpQuiet_nil ?_
 go_wp2_with (first
  | (refine QhP rfl rfl _ _ rfl S8.blk rfl rfl (by rw[Qff];omega) ?_;intro u5 hb3 ho3
     rw[Qwz]at hb3
     have S9:=S8.write ho3 hb3)
  | fail)
 exact bodyPost_end (results_none rfl _ _ _) rfl ⟨rfl,S9.blk,S9.only⟩
def Qb4 (bs:List UInt8):List UInt8:=if bs.length=32 then (bs.set 0 (bs.getD 0 0 &&& 248)).set 31 (((bs.getD 31 0) &&& 127) ||| 64) else QCn 32 0
theorem QdG (bs:List UInt8):(Qb4 bs).length=32:=by
 unfold Qb4
 split
 ·simp;assumption
 ·simp
set_option maxRecDepth 100000 in
set_option maxHeartbeats 2000000 in
theorem Qrx (A:Option Addr) (n c:Nat) (bs:List UInt8) (w:World) (hr:RdB w A n bs) (hn:n≤140737488355328):
 Calls Tryz.prog 69 #[.slice A n c] w fun e w'=>e= .returned (.tuple #[.agg ((Qb4 bs).map W8).toArray,.int .i64 (Qcq bs:Nat)])∧Later w w':=by
 have hbl:=hr.len
 have hb0:=Blk.new w 79 (QCn 32 (Value.int .u8 0))
 by_cases h32:n=32
 ·subst h32
  have hRN:=hid (show (Qb4 bs)=(bs.set 0 (bs.getD 0 0 &&& 248)).set 31 (((bs.getD 31 0) &&& 127) ||| 64) by rw[Qb4,if_pos hbl])
  have hRE:=hid (show Qcq bs=0 by rw[Qcq,if_pos hbl])
  have L0:Later w ((w.alloc (.cells (QCn 32 (Value.int .u8 0)).toArray 79)).alloc (.cells (QCn 32 (Value.int .u8 0)).toArray 79)):=(Qaa _ _).trans (Qaa _ _)
  go_enter Tryz.func69,Tryz.ntmps69
  have hcl:=QdG bs
  have hx0:(bs.map W8)[0]?=some (W8 (bs.getD 0 0)):=by rw[QCH,QCu,QCv (by omega)];rfl
  have hy0:(bs.map W8)[31]?=some (W8 (bs.getD 31 0)):=by rw[QCH,QCu,QCv (by omega)];rfl
  generalize bs.getD 0 0=x at *
  generalize bs.getD 31 0=y at *
  go_wp2_with (first
   | (refine Qax rfl _ _ _ _ rfl 5 Tryz.underlying32 QbR (w.heap.size+1) 0 32 32 79 (QCn 32 (W8 0)) (Blk.new' _ _ _ (by simp)) A 32 c (bs.map W8) (RdB.later hr L0) (QaE _) rfl rfl (by simp) ?_;intro w4 hb4 ho4
      rw[QCE (by simp;omega),Qao _ _ (by simp;omega)]at hb4
      have L4:=L0.only ho4 (by omega)
      have h04:=(hb0.later (Qaa _ _)).only ho4 (by omega)
      have d0:=hb4.cellD 0 hx0
      clear ho4)
   | (refine Qac rfl rfl _ _ _ rfl _ _ _ _ hb4 rfl ?hl rfl (by kernel_rfl) ?_;(case hl=>simp;omega);intro v w5 hv hb5 ho5;simp[go_sem]at hv;subst hv
      have L5:=L4.only ho5 (by omega)
      have h05:=h04.only ho5 (by omega)
      have d31:=hb5.cellD 31 (u:=W8 y) (by rw[List.getElem?_set_ne (by omega)];exact hy0)
      clear ho5 d0 hb4)
   | (refine Qac rfl rfl _ _ _ rfl _ _ _ _ hb5 rfl ?hl rfl (by kernel_rfl) ?_;(case hl=>simp;omega);intro v w6 hv hb6 ho6;simp[go_sem]at hv;subst hv
      have L6:=L5.only ho6 (by omega)
      have h06:=h05.only ho6 (by omega)
      have d31':=hb6.cellD 31 (List.getElem?_set_self (by simp;omega))
      clear ho6 d31 hb5)
   | (refine Qac rfl rfl _ _ _ rfl _ _ _ _ hb6 rfl ?hl rfl (by kernel_rfl) ?_;(case hl=>simp;omega);intro v w7 hv hb7 ho7;simp[go_sem]at hv;subst hv
      rw[List.set_set,←QEy,←QEy,←hRN.out]at hb7
      have L7:=L6.only ho7 (by omega)
      have h07:=h06.only ho7 (by omega)
      clear ho7 d31' hb6)
   | (refine QfX rfl _ rfl hb7 hcl rfl ?_)
   | (refine Qa5 rfl rfl _ _ rfl h07 rfl rfl hcl rfl ?_;intro w8 hb8 ho8)
   | fail)
  exact bodyPost_ret (Qae rfl _ _ _ _ _ _ hb8 rfl Tryz.underlying79 rfl (by rw[QCt,hcl];exact Qbn)) rfl ⟨by rw[hRE.out];rfl,L7.only ho8 (by omega)⟩
 ·have hne:((n:Int) != 32)=true:=by simp;omega
  have hRN:=hid (show Qb4 bs=QCn 32 0 by rw[Qb4,if_neg (by omega)])
  have hRE:=hid (show Qcq bs=2 by rw[Qcq,if_neg (by omega)])
  go_enter Tryz.func69,Tryz.ntmps69
  go_wp2_with (first
   | (refine Qaq rfl 79 _ rfl (QCn 32 (W8 0)) ?hb ?_;(case hb=>kernel_rfl))
   | (refine Qa5 (bs:=QCn 32 0) rfl rfl _ _ rfl hb0 rfl (by kernel_rfl) rfl rfl ?_;intro w9 hb9 ho9)
   | fail)
  exact bodyPost_ret (Qae rfl _ _ _ _ _ _ hb9 rfl Tryz.underlying79 rfl (by rw[QCt,QCJ];exact Qbn)) rfl ⟨by rw[hRN.out,hRE.out];rfl,(Qaa _ _).only ho9 (by omega)⟩
theorem QnX:∀x:Fin 256,x.1 &&& 248=x.1/8*8∧(x.1 &&& 127) ||| 64=x.1%64+64:=by decide +kernel
theorem Qys (x:UInt8):x &&& 248=x/8*8:=by
 apply QDl.1
 have h:=x.toNat_lt
 have:=(QnX ⟨x.toNat,h⟩).1
 rw[UInt8.toNat_and,UInt8.toNat_mul,UInt8.toNat_div]
 show x.toNat &&& 248=x.toNat/8*8%256
 simp only at this
 omega
theorem Qyo (x:UInt8):(x &&& 127) ||| 64=x%64+64:=by
 apply QDl.1
 have h:=x.toNat_lt
 have:=(QnX ⟨x.toNat,h⟩).2
 rw[UInt8.toNat_or,UInt8.toNat_and,UInt8.toNat_add,UInt8.toNat_mod]
 show (x.toNat &&& 127) ||| 64=(x.toNat%64+64)%256
 simp only at this
 omega
set_option maxRecDepth 100000 in
set_option maxHeartbeats 2000000 in
theorem QqL (A:Option Addr) (n c:Nat) (bs:List UInt8) (w:World) (hr:RdB w A n bs) (hn:n≤140737488355328):
 Calls Tryz.prog 83 #[.slice A n c] w fun e w'=>e= .returned (.tuple #[.agg ((Qb4 bs).map W8).toArray,.int .i64 (Qcq bs:Nat)])∧Later w w':=by
 have hbl:=hr.len
 have hb0:=Blk.new w 79 (QCn 32 (Value.int .u8 0))
 by_cases h32:n=32
 ·subst h32
  have hRN:=hid (show (Qb4 bs)=(bs.set 0 (bs.getD 0 0 &&& 248)).set 31 (((bs.getD 31 0) &&& 127) ||| 64) by rw[Qb4,if_pos hbl])
  have hRE:=hid (show Qcq bs=0 by rw[Qcq,if_pos hbl])
  have L0:Later w ((w.alloc (.cells (QCn 32 (Value.int .u8 0)).toArray 79)).alloc (.cells (QCn 32 (Value.int .u8 0)).toArray 79)):=(Qaa _ _).trans (Qaa _ _)
  go_enter Tryz.func83,Tryz.ntmps83
  have hX:=hid (Qys (bs.getD 0 0))
  have hY:=hid (Qyo (bs.getD 31 0))
  have hcl:=QdG bs
  have hx0:(bs.map W8)[0]?=some (W8 (bs.getD 0 0)):=by rw[QCH,QCu,QCv (by omega)];rfl
  have hy0:(bs.map W8)[31]?=some (W8 (bs.getD 31 0)):=by rw[QCH,QCu,QCv (by omega)];rfl
  generalize bs.getD 0 0=x at *
  generalize bs.getD 31 0=y at *
  go_wp2_with (first
   | (refine Qax rfl _ _ _ _ rfl 5 Tryz.underlying32 QbR (w.heap.size+1) 0 32 32 79 (QCn 32 (W8 0)) (Blk.new' _ _ _ (by simp)) A 32 c (bs.map W8) (RdB.later hr L0) (QaE _) rfl rfl (by simp) ?_;intro w4 hb4 ho4
      rw[QCE (by simp;omega),Qao _ _ (by simp;omega)]at hb4
      have L4:=L0.only ho4 (by omega)
      have h04:=(hb0.later (Qaa _ _)).only ho4 (by omega)
      have d0:=hb4.cellD 0 hx0
      clear ho4)
   | (refine Qac rfl rfl _ _ _ rfl _ _ _ _ hb4 rfl ?hl rfl (by kernel_rfl) ?_;(case hl=>simp;omega);intro v w5 hv hb5 ho5;simp[go_sem]at hv;subst hv
      have L5:=L4.only ho5 (by omega)
      have h05:=h04.only ho5 (by omega)
      have d31:=hb5.cellD 31 (u:=W8 y) (by rw[List.getElem?_set_ne (by omega)];exact hy0)
      clear ho5 d0 hb4)
   | (refine Qac rfl rfl _ _ _ rfl _ _ _ _ hb5 rfl ?hl rfl (by kernel_rfl) ?_;(case hl=>simp;omega);intro v w6 hv hb6 ho6;simp[go_sem]at hv;subst hv
      have L6:=L5.only ho6 (by omega)
      have h06:=h05.only ho6 (by omega)
      rw[←hX.out,←hY.out,←QEy,←QEy,←hRN.out]at hb6
      clear ho6 d31 hb5)
   | (refine QfX rfl _ rfl hb6 hcl rfl ?_)
   | (refine Qa5 rfl rfl _ _ rfl h06 rfl rfl hcl rfl ?_;intro w8 hb8 ho8)
   | fail)
  exact bodyPost_ret (Qae rfl _ _ _ _ _ _ hb8 rfl Tryz.underlying79 rfl (by rw[QCt,hcl];exact Qbn)) rfl ⟨by rw[hRE.out];rfl,L6.only ho8 (by omega)⟩
 ·have hne:((n:Int) != 32)=true:=by simp;omega
  have hRN:=hid (show Qb4 bs=QCn 32 0 by rw[Qb4,if_neg (by omega)])
  have hRE:=hid (show Qcq bs=2 by rw[Qcq,if_neg (by omega)])
  have h0a:=hb0.later (Qaa _ (.cells (QCn 32 (Value.int .u8 0)).toArray 79))
  go_enter Tryz.func83,Tryz.ntmps83
  go_wp2_with (first
   | (refine QfX (bs:=QCn 32 0) rfl _ rfl (Blk.new' _ _ _ (by simp)) rfl rfl ?_)
   | (refine Qa5 (bs:=QCn 32 0) rfl rfl _ _ rfl h0a rfl rfl rfl rfl ?_;intro w9 hb9 ho9)
   | fail)
  exact bodyPost_ret (Qae rfl _ _ _ _ _ _ hb9 rfl Tryz.underlying79 rfl (by rw[QCt,QCJ];exact Qbn)) rfl ⟨by rw[hRN.out,hRE.out];rfl,((Qaa _ _).trans (Qaa _ _)).only ho9 (by omega)⟩
theorem L2_0 (a b j:Nat) (v:Value) (h:(EL a)[j]?=some v):(EL a++EL b)[0+j]?=some v:=by
 have hj:j<4:=by have:=(QCK.1 h).1;rwa [Qan]at this
 rw[QCI,QCD (by rw[Qan];exact hj)]
 exact h
theorem L2_1 (a b j:Nat) (v:Value) (h:(EL b)[j]?=some v):(EL a++EL b)[4+j]?=some v:=by
 rw[QCF (by rw[Qan];omega),Qan,show 4+j-4=j by omega]
 exact h
set_option maxRecDepth 100000 in
set_option maxHeartbeats 2000000 in
theorem Qtu (u v:Nat) (hu:u<T256) (hv:v<T256) (w:World):
 Calls Tryz.prog 75 #[.agg (EL u++EL v).toArray] w fun e w'=>e= .returned (E (fmul u (pinv v)))∧Later w w':=by
 have h1:Blk ((w.alloc (.cells (EL u++EL v).toArray 183)).alloc (.cells (QCn 4 (.int .u64 0)).toArray 175)) w.heap.size 183 (EL u++EL v):=(Blk.new _ _ _).later (Qaa _ _)
 have h2:Blk ((w.alloc (.cells (EL u++EL v).toArray 183)).alloc (.cells (QCn 4 (.int .u64 0)).toArray 175)) (w.heap.size+1) 175 (QCn 4 (.int .u64 0)):=Blk.new' _ _ _ (by simp)
 have L0:Later w ((w.alloc (.cells (EL u++EL v).toArray 183)).alloc (.cells (QCn 4 (.int .u64 0)).toArray 175)):=(Qaa _ _).trans (Qaa _ _)
 have hI:=hid (Qyi v hv)
 have hM:Hid (∀ w,Calls Tryz.prog 102 #[E u,E (pinv v)] w fun e w'=>e= .returned (E (fmul u (pinv v)))∧Later w w'):=hid (QdX u (pinv v) hu (Qsb v))
 generalize fmul u (pinv v)=q at *
 generalize pinv v=i at *
 go_enter Tryz.func75,Tryz.ntmps75
 go_wp2_with fail
 refine Qad [([0,1,2,3],4)] [] [5,6] (by as_aux_lemma=>kernel_rfl) (by as_aux_lemma=>kernel_rfl) (by intro _ _ d _ _ h;cases d<;>exact h) ?_
 simp only[Qai,pick,QCo,QCp,QCq,QCr,QCs]
 repeat (first|go_big_quiet_skip|(go_big_quiet_want;(first|refine QeA _ rfl h1.drew (fun j v hv=>L2_0 _ _ j v hv) rfl ?_|refine QeA _ rfl h1.drew (fun j v hv=>L2_1 _ _ j v hv) rfl ?_);simp only[Act.put,QCw,QCz,QCy];go_big_quiet_on)|(go_big_quiet_step (fail)))
 refine wpQuiet_nil ?_
 go_wp2_with fail
 (with_reducible refine (hI.out _).mono ?_);rintro e w2 ⟨rfl,hl2⟩
 replace hl2:=(Qab _).trans hl2
 go_wp2_with fail
 try refine⟨by first|assumption|exact Qab _|exact Qaa _ _|exact Later.refl _,?_⟩
 try simp only[Qai,pick,QCo,QCp,QCq,QCr,QCs]
 repeat (go_big_quiet_step (fail))
 refine wpQuiet_nil ?_
 go_wp2_with fail
 (with_reducible refine (hM.out _).mono ?_);rintro e w3 ⟨rfl,hl3⟩
 replace hl3:=hl2.trans hl3
 go_wp2_with (first
  | (refine QaM rfl rfl _ _ rfl (h2.later hl3) rfl rfl rfl ?_;intro w9 hb9 ho9)
  | fail)
 exact bodyPost_ret (QgY rfl hb9 rfl) rfl ⟨rfl,(L0.trans hl3).only ho9 (by omega)⟩
structure Lad where
 x2:Nat
 z2:Nat
 x3:Nat
 z3:Nat
def LL (x1:Nat) (s:Lad):List Value:=L5 x1 s.x2 s.z2 s.x3 s.z3
def Lad.Ok (s:Lad):Prop:=s.x2<T256∧s.z2<T256∧s.x3<T256∧s.z3<T256
def Lad.swap (s:Lad):Lad:=⟨s.x3,s.z3,s.x2,s.z2⟩
def Lad.step (x1:Nat) (s:Lad):Lad:=
 ⟨fmul (fmul (fadd s.x2 s.z2) (fadd s.x2 s.z2)) (fmul (fsub s.x2 s.z2) (fsub s.x2 s.z2)),
  fmul (fsub (fmul (fadd s.x2 s.z2) (fadd s.x2 s.z2)) (fmul (fsub s.x2 s.z2) (fsub s.x2 s.z2))) (fadd (fmul (fadd s.x2 s.z2) (fadd s.x2 s.z2)) (fmul 121665 (fsub (fmul (fadd s.x2 s.z2) (fadd s.x2 s.z2)) (fmul (fsub s.x2 s.z2) (fsub s.x2 s.z2))))),
  fmul (fadd (fmul (fsub s.x3 s.z3) (fadd s.x2 s.z2)) (fmul (fadd s.x3 s.z3) (fsub s.x2 s.z2))) (fadd (fmul (fsub s.x3 s.z3) (fadd s.x2 s.z2)) (fmul (fadd s.x3 s.z3) (fsub s.x2 s.z2))),
  fmul x1 (fmul (fsub (fmul (fsub s.x3 s.z3) (fadd s.x2 s.z2)) (fmul (fadd s.x3 s.z3) (fsub s.x2 s.z2))) (fsub (fmul (fsub s.x3 s.z3) (fadd s.x2 s.z2)) (fmul (fadd s.x3 s.z3) (fsub s.x2 s.z2))))⟩
theorem Lad.swap_ok {s:Lad} (h:s.Ok):s.swap.Ok:=⟨h.2.2.1,h.2.2.2,h.1,h.2.1⟩
theorem Lad.step_ok (x1:Nat) (s:Lad):(s.step x1).Ok:=⟨QbO _ _,QbO _ _,QbO _ _,QbO _ _⟩
def Lad.round (x1:Nat) (b:Bool) (s:Lad):Lad:=if b then (s.swap.step x1).swap else s.step x1
theorem Lad.round_ok (x1:Nat) (b:Bool) (s:Lad):(s.round x1 b).Ok:=by
 unfold Lad.round
 split
 ·exact Lad.swap_ok (Lad.step_ok _ _)
 ·exact Lad.step_ok _ _
def kbit (K:List UInt8) (t:Nat):Bool:=decide ((K.getD (t/8) 0).toNat/2^(t%8)%2=1)
def Lad.at (x1:Nat) (K:List UInt8):Nat→Lad
 | 0=>⟨1,0,x1,1⟩
 | k+1=>(Lad.at x1 K k).round x1 (kbit K (254-k))
theorem Lad.at_ok (x1:Nat) (K:List UInt8) (h:x1<T256):∀k,(Lad.at x1 K k).Ok
 | 0=>⟨show (1:Nat)<T256 by decide,show (0:Nat)<T256 by decide,h,show (1:Nat)<T256 by decide⟩
 | _+1=>Lad.round_ok _ _ _
def Qld (ks us:List UInt8):Nat:=fmul (Lad.at (QdV us) (Qb4 ks) 255).x2 (pinv (Lad.at (QdV us) (Qb4 ks) 255).z2)
def Qbt (ks us:List UInt8):Nat:=if ks.length=32∧us.length=32 then (if Qld ks us=0 then 5 else 0) else 2
def QcQ (ks us:List UInt8):List UInt8:=if ks.length=32∧us.length=32 then nb (Qld ks us) else QCn 32 0
theorem QbF (ks us:List UInt8):(QcQ ks us).length=32:=by
 unfold QcQ
 split
 ·exact Qfb _
 ·simp
theorem Qjn (g:Nat) (t:TypeId) (x1:Nat) (s:Lad) (w:World) (hb:Blk w g t (LL x1 s)):
 Calls Tryz.prog 72 #[.pointer (some ⟨g,0,none⟩)] w fun e w'=>e= .returned (.tuple #[])∧Blk w' g t (LL x1 s.swap)∧Only g w w':=
 Qmi g t x1 s.x2 s.z2 s.x3 s.z3 w hb
theorem QvN (g:Nat) (t:TypeId) (x1:Nat) (s:Lad) (h1:x1<T256) (hs:s.Ok) (w:World) (hb:Blk w g t (LL x1 s)):
 Calls Tryz.prog 73 #[.pointer (some ⟨g,0,none⟩)] w fun e w'=>e= .returned (.tuple #[])∧Blk w' g t (LL x1 (s.step x1))∧Only g w w':=
 Qm3 g t x1 s.x2 s.z2 s.x3 s.z3 h1 hs.1 hs.2.1 hs.2.2.1 hs.2.2.2 w hb
theorem Qb0 {P:Program} {C:World→Prop} {a:Act} {o:Oper} {K:Act→Prop} (t:TypeId) (parts:Array (Nat×Operand)) (ho:o.op= .build t parts) (vs:List Value) (hb:P.built t (parts.map fun (i,x)=>(i,a.eval x)).toList=some vs.toArray)
 (h:K (a.put o.dst (.agg vs.toArray))):o.quiet P a C K:=
 ⟨.agg vs.toArray,fun w hw=>by
   unfold Oper.quietAt execOp
   simp only[ho,Sem.run_bind,run_build w t _ _ hb,Result.andThen_ok]
   exact⟨rfl,rfl⟩,h⟩
theorem QhE (a0 a1 a2 a3 b0 b1 b2 b3 c0 c1 c2 c3 d0 d1 d2 d3:Value):
 Program.built Tryz.prog 180 [(0,.agg #[a0,a1,a2,a3]),(1,.agg #[b0,b1,b2,b3]),(3,.agg #[c0,c1,c2,c3]),(4,.agg #[d0,d1,d2,d3])]=some #[a0,a1,a2,a3,b0,b1,b2,b3,.int .u64 0,.int .u64 0,.int .u64 0,.int .u64 0,c0,c1,c2,c3,d0,d1,d2,d3]:=by kernel_rfl
theorem QlN (x1:Nat):Program.built Tryz.prog 180 [(0,E x1),(1,E 1),(3,E x1),(4,E 1)]=some (LL x1 ⟨1,0,x1,1⟩).toArray:=by
 show _=some (EL x1++(EL 1++(EL 0++(EL x1++EL 1)))).toArray
 rw[E,E,Qc7 x1,Qc7 1,Qc7 0]
 exact QhE ..
theorem Qs2 (us:List UInt8):QdV us<T256:=by
 unfold QdV
 split
 ·exact QDw (QCU _ QbC) (show P25<T256 by decide)
 ·exact show 0<T256 by decide
theorem QrE:num (QCn 32 0)=0:=by decide +kernel
theorem Qkb:nb 0=QCn 32 0:=by decide +kernel
theorem Qpd (q:Nat) (h:q<T256):(nb q==QCn 32 0)=decide (q=0):=by
 rw[QDb,beq_iff_eq,decide_eq_true_eq]
 constructor
 ·intro e
  rw[←QzC q h,e,QrE]
 ·rintro rfl
  exact Qkb
theorem Qh6 (a0 a1 a2 a3 b0 b1 b2 b3:Value):
 Program.built Tryz.prog 183 [(0,.agg #[a0,a1,a2,a3]),(1,.agg #[b0,b1,b2,b3])]=some #[a0,a1,a2,a3,b0,b1,b2,b3]:=by kernel_rfl
theorem QiH (a b:Nat):Program.built Tryz.prog 183 [(0,E a),(1,E b)]=some (EL a++EL b).toArray:=by
 rw[E,E,Qc7 a,Qc7 b]
 exact Qh6 ..
theorem Qil (x1:Nat) (s:Lad):(LL x1 s).length=20:=Qff ..
theorem Qzl (x1:Nat) (s:Lad):∀v∈LL x1 s,v.oneCell'=true:=by
 intro v hv
 simp only[LL,L5,QDc]at hv
 rcases hv with h|h|h|h|h<;>exact Qoa _ v h
set_option maxRecDepth 100000 in
set_option maxHeartbeats 4000000 in
theorem QoA (A B:Option Addr) (n c m d:Nat) (ks us:List UInt8) (w:World) (hk:RdB w A n ks) (hu:RdB w B m us) (hn:n≤140737488355328) (hm:m≤140737488355328):
 Calls Tryz.prog 55 #[.slice A n c,.slice B m d] w fun e w'=>e= .returned (.tuple #[.agg ((QcQ ks us).map W8).toArray,.int .i64 (Qbt ks us:Nat)])∧Later w w':=by
 have hkl:=hk.len
 have hul:=hu.len
 have hb0:=Blk.new w 79 (QCn 32 (Value.int .u8 0))
 have L0:=Qaa w (.cells (QCn 32 (Value.int .u8 0)).toArray 79)
 have hcl:=QdG ks
 have cK:=hid (fun w h=>Qrx A n c ks w h hn)
 have cU:=hid (fun w h=>Qt6 B m d us w h hm)
 by_cases hn32:n=32
 ·subst hn32
  have eK:Qcq ks=0:=by rw[Qcq,if_pos (by omega)]
  rw[eK]at cK
  have hK:=hid (show Qb4 ks=Qb4 ks from rfl)
  by_cases hm32:m=32
  ·subst hm32
   have eU:Qcq us=0:=by rw[Qcq,if_pos (by omega)]
   rw[eU]at cU
   have hx:=Qs2 us
   have hQ:=hid (show Qld ks us=fmul (Lad.at (QdV us) (Qb4 ks) 255).x2 (pinv (Lad.at (QdV us) (Qb4 ks) 255).z2) from rfl)
   generalize Qb4 ks=K at *
   generalize QdV us=x1 at *
   go_enter Tryz.func55,Tryz.ntmps55
   go_wp2_with fail
   generalize hW:w.alloc _=w0
   replace L0:Later w w0:=by rw[←hW];exact Qaa _ _
   replace hb0:Blk w0 w.heap.size 79 (QCn 32 (Value.int .u8 0)):=by rw[←hW];exact Blk.new w 79 (QCn 32 (Value.int .u8 0))
   have hs0:w.heap.size<w0.heap.size:=hb0.lt
   clear hW
   (with_reducible refine (cK.out _ (hk.later L0)).mono ?_);rintro e w1 ⟨rfl,hl1⟩
   replace hb0:=hb0.later hl1
   replace L0:=L0.trans hl1
   go_wp2_with (first
    | (refine Qa5 rfl rfl _ _ rfl (Blk.new w1 _ (QCn 32 (.int .u8 0))) rfl rfl hcl rfl ?_;intro w2 hb2 ho2)
    | fail)
   replace hb0:=(hb0.later (Qaa w1 (.cells (QCn 32 (.int .u8 0)).toArray 79))).only ho2 (by have:=hb0.lt;omega)
   replace L0:=(L0.trans (Qaa w1 (.cells (QCn 32 (.int .u8 0)).toArray 79))).only ho2 (by have:=L0.size;omega)
   have hg6:w.heap.size≠w1.heap.size:=by have:=hl1.size;omega
   clear ho2 hl1
   (with_reducible refine (cU.out _ (hu.later L0)).mono ?_);rintro e w3 ⟨rfl,hl3⟩
   replace hb0:=hb0.later hl3
   replace hb2:=hb2.later hl3
   replace L0:=L0.trans hl3
   go_wp2_with (first
    | (refine QaM rfl rfl _ _ rfl (Blk.new w3 _ (QCn 4 (.int .u64 0))) rfl rfl rfl ?_;intro w4 hb4 ho4)
    | fail)
   replace hb0:=(hb0.later (Qaa w3 (.cells (QCn 4 (.int .u64 0)).toArray 175))).only ho4 (by have:=hb0.lt;omega)
   replace hb2:=(hb2.later (Qaa w3 (.cells (QCn 4 (.int .u64 0)).toArray 175))).only ho4 (by have:=hb2.lt;omega)
   replace L0:=(L0.trans (Qaa w3 (.cells (QCn 4 (.int .u64 0)).toArray 175))).only ho4 (by have:=L0.size;omega)
   clear ho4 hl3
   refine QaG [0,2] [([],1,1),([],1,3),([4],2,5)] [] [6] [5] (fun _=>(fun g=>.pointer (some ⟨g,0,none⟩),.cells (QCn 20 (Value.int .u64 0)).toArray 180)) (by as_aux_lemma=>kernel_rfl) (by as_aux_lemma=>kernel_rfl) (by intro _ _ d _ _ h;cases d<;>exact h) (by intro _ _ d _ _ h;cases d<;>exact h) ?_
   simp only[pick,QCo,QCp,QCq,QCr,QCs]
   repeat (first|go_big_quiet_skip|(go_big_quiet_want;(refine QcJ _ rfl hb4.drew rfl ?_);simp only[Act.put,QCw,QCz,QCy];go_big_quiet_on)|(go_big_quiet_step (fail)))
   refine wpQuiet_nil ?_
   refine⟨?mk,?_⟩
   case mk=>
    refine⟨fun o ho=>?_,trivial⟩
    simp only[QCo,QCp,Option.some.injEq]at ho
    subst ho
    refine⟨rfl,fun W=>?_⟩
    unfold execOp
    simp[go_sem]
   simp only[Qbp,pick,QCo,QCp,QCq,QCr,QCs]
   refine wpQuiet_nil ?_
   intro v1 j1
   go_wp2_with fail
   (with_reducible refine (of_1 _).mono ?_);rintro e v2 ⟨rfl,j2⟩
   go_wp2_with fail
   try refine⟨by first|assumption|exact Qab _|exact Qaa _ _|exact Later.refl _,?_⟩
   try simp only[Qai,pick,QCo,QCp,QCq,QCr,QCs]
   repeat (go_big_quiet_step (fail))
   refine wpQuiet_nil ?_
   intro v3 j3
   go_wp2_with fail
   (with_reducible refine (of_1 _).mono ?_);rintro e v4 ⟨rfl,j4⟩
   go_wp2_with fail
   try refine⟨by first|assumption|exact Qab _|exact Qaa _ _|exact Later.refl _,?_⟩
   try simp only[Qbp,pick,QCo,QCp,QCq,QCr,QCs]
   go_big_quiet_want
   refine Qb0 _ _ rfl (LL x1 ⟨1,0,x1,1⟩) (by simp only[QCA,QCR,QCC];exact QlN x1) ?_
   simp only[Act.put,QCw,QCz,QCy]
   go_big_quiet_on
   refine wpQuiet_nil ?_
   intro v5 gl j5 hgl _ hb5
   simp only[QDF,Act.put,QCw,QCz,QCy]
   refine wpQuiet_nil ?_
   intro v6 j6
   replace hb5:Blk v5 gl 180 (QCn 20 (Value.int .u64 0)):=hb5
   refine Qaj rfl rfl _ _ _ rfl gl 0 _ _ (LL x1 ⟨1,0,x1,1⟩) (hb5.later j6) rfl rfl (by rw[Qil];kernel_rfl) (by simp[Qil]) (Qzl _ _) ?_
   intro v7 hb7 ho7
   rw[Qao _ _ (by simp[Qil])]at hb7
   have j:=(((((Qab w4).trans j1).trans j2).trans j3).trans j4).trans (j5.trans j6)
   have hlt0:=hb0.lt
   have hlt2:=hb2.lt
   have hw:=L0.size
   replace hb0:=(hb0.later j).only ho7 (by omega)
   replace hb2:=(hb2.later j).only ho7 (by omega)
   replace L0:=(L0.trans j).only ho7 (by omega)
   have hgl0:w.heap.size≠gl:=by omega
   have hgl2:w1.heap.size≠gl:=by omega
   have hgl3:w.heap.size≤gl:=by omega
   generalize w1.heap.size=g6 at *
   clear ho7 j j1 j2 j3 j4 j5 j6 hb5 hgl hb4 hlt0 hlt2 hw cK cU hs0
   go_wp2_with fail
   go_loopw [10] (fun i wr=>∃k:Nat,k≤255∧i= .int .i64 (dn k)∧Blk wr w.heap.size 79 (QCn 32 (Value.int .u8 0))∧Blk wr g6 79 (K.map W8)∧Blk wr gl 180 (LL x1 (Lad.at x1 K (255-k)))∧Later w wr) (fun i _=>(intOf i+1).toNat)
   case atStart=>exact⟨255,by omega,rfl,hb0,hb2,hb7,L0⟩
   case round=>
    clear hb0 hb2 hb7 L0
    obtain⟨k,hk,rfl,hb0,hb2,hb7,L0⟩:=hrel
    cases k with
    | zero=>
      simp only[Qkw]
      have hok:=Lad.at_ok x1 K hx 255
      rw[show 255-0=255 from rfl]at hb7
      have hMB:=hid (show QcQ ks us=nb (Qld ks us) by rw[QcQ,if_pos ⟨hkl,hul⟩])
      have hME:=hid (show Qbt ks us=if Qld ks us=0 then 5 else 0 by rw[Qbt,if_pos ⟨hkl,hul⟩])
      rw[hQ.out]at hMB hME
      generalize Lad.at x1 K 255=S at *
      have hQP:fmul S.x2 (pinv S.z2)<P25:=QCU _ QbC
      have hv:=hid (Qtu S.x2 S.z2 hok.1 hok.2.1)
      generalize fmul S.x2 (pinv S.z2)=Q at *
      have hQT:Q<T256:=QDw hQP (by decide)
      obtain⟨y,hy⟩:=QzA (Qfb Q)
      obtain⟨z,hz⟩:=QzA (show (QCn 32 (0:UInt8)).length=32 by simp)
      have hBy:Hid (∀ w,Calls Tryz.prog 74 #[E Q] w fun e w'=>e= .returned (.agg (y.val.map W8).toArray)∧Later w w'):=hid (by
       intro w
       have:=QsP Q hQT w
       rwa [QCO hQP,BB,←hy]at this)
      have hcmp:(y.val==z.val)=decide (Q=0):=by rw[hy,hz];exact Qpd Q hQT
      have hyl:=y.2
      have hzl:=z.2
      rw[←hy]at hMB
      have hQ0:=hid (show Q=0→y.val=z.val by rintro rfl;rw[hy,hz];exact Qkb)
      have hZ:=hid hz
      clear hy hz hQ
      by_cases hq:Q=0
      ·have hd:(y.val==z.val)=true:=by rw[hcmp,hq];rfl
       have hyz:=hid (hQ0.out hq)
       rw[hq]at hME
       clear hcmp hq hQ0
       go_wp2_with (first
        | (refine QkE rfl _ rfl hb7 (fun j v hv=>L5_1 _ _ _ _ _ j v hv) rfl ?_)
        | (refine QkE rfl _ rfl hb7 (fun j v hv=>L5_2 _ _ _ _ _ j v hv) rfl ?_)
        | (refine Qaq rfl 183 _ rfl (EL S.x2++EL S.z2) ?hb ?_;(case hb=>simp only[QCA,QCR,QCC];exact QiH S.x2 S.z2))
        | (go_at_call 75;(with_reducible refine (hv.out _).mono ?_);rintro e w5 ⟨rfl,hl5⟩)
        | (go_at_call 74;(with_reducible refine (hBy.out _).mono ?_);rintro e w6 ⟨rfl,hl6⟩)
        | (refine Qa5 rfl rfl _ _ rfl (Blk.new w6 _ (QCn 32 (.int .u8 0))) rfl rfl hyl rfl ?_;intro w7 hb8 ho8)
        | (refine QfX rfl _ rfl hb8 hyl rfl ?_)
        | (refine Qaq rfl 79 _ rfl (z.val.map W8) ?hb ?_;(case hb=>rw[hZ.out];kernel_rfl))
        | (refine Qa5 rfl rfl _ _ rfl (((hb0.later (hl5.trans hl6)).later (Qaa w6 (.cells (QCn 32 (.int .u8 0)).toArray 79))).only ho8 (by have:=(hb0.later (hl5.trans hl6)).lt;omega)) rfl rfl hzl rfl ?_;intro w9 hb9 ho9)
        | fail)
       exact bodyPost_ret (Qae rfl _ _ _ _ _ _ hb9 rfl Tryz.underlying79 rfl (by rw[QCt,hzl];exact Qbn)) rfl ⟨by rw[hMB.out,hME.out,hyz.out];rfl,(((L0.trans (hl5.trans hl6)).alloc (.cells (QCn 32 (.int .u8 0)).toArray 79)).only ho8 (by have:=(L0.trans (hl5.trans hl6)).size;omega)).only ho9 (by omega)⟩
      ·have hd:(y.val==z.val)=false:=by rw[hcmp];simp[hq]
       rw[if_neg hq]at hME
       clear hcmp
       go_wp2_with (first
        | (refine QkE rfl _ rfl hb7 (fun j v hv=>L5_1 _ _ _ _ _ j v hv) rfl ?_)
        | (refine QkE rfl _ rfl hb7 (fun j v hv=>L5_2 _ _ _ _ _ j v hv) rfl ?_)
        | (refine Qaq rfl 183 _ rfl (EL S.x2++EL S.z2) ?hb ?_;(case hb=>simp only[QCA,QCR,QCC];exact QiH S.x2 S.z2))
        | (go_at_call 75;(with_reducible refine (hv.out _).mono ?_);rintro e w5 ⟨rfl,hl5⟩)
        | (go_at_call 74;(with_reducible refine (hBy.out _).mono ?_);rintro e w6 ⟨rfl,hl6⟩)
        | (refine Qa5 rfl rfl _ _ rfl (Blk.new w6 _ (QCn 32 (.int .u8 0))) rfl rfl hyl rfl ?_;intro w7 hb8 ho8)
        | (refine QfX rfl _ rfl hb8 hyl rfl ?_)
        | (refine Qaq rfl 79 _ rfl (z.val.map W8) ?hb ?_;(case hb=>rw[hZ.out];kernel_rfl))
        | (refine Qa5 rfl rfl _ _ rfl (((hb0.later (hl5.trans hl6)).later (Qaa w6 (.cells (QCn 32 (.int .u8 0)).toArray 79))).only ho8 (by have:=(hb0.later (hl5.trans hl6)).lt;omega)) rfl rfl hyl rfl ?_;intro w9 hb9 ho9)
        | fail)
       exact bodyPost_ret (Qae rfl _ _ _ _ _ _ hb9 rfl Tryz.underlying79 rfl (by rw[QCt,hyl];exact Qbn)) rfl ⟨by rw[hMB.out,hME.out];rfl,(((L0.trans (hl5.trans hl6)).alloc (.cells (QCn 32 (.int .u8 0)).toArray 79)).only ho8 (by have:=(L0.trans (hl5.trans hl6)).size;omega)).only ho9 (by omega)⟩
    | succ k=>
      have d0:=hb2.cellD (k/8) (u:=W8 (K.getD (k/8) 0)) (by rw[QCH,QCu,QCv (by omega)];rfl)
      have hcnt:cnt (QDy ((k:Int)%8))=k%8:=by
       rw[show ((k:Int)%8)=((k%8:Nat):Int) by omega,QdW,cnt,tn64 (by unfold B64;omega)]
      have hbe:=QqZ (K.getD (k/8) 0) (k%8)
      have hst:Lad.at x1 K (255-k)=(Lad.at x1 K (254-k)).round x1 (kbit K k):=by
       rw[show 255-k=(254-k)+1 by omega,Lad.at,show 254-(254-k)=k by omega]
      have hkb:kbit K k=(shr8 (K.getD (k/8) 0) (k%8) &&& 1==1):=by rw[hbe];rfl
      generalize K.getD (k/8) 0=kb at *
      have hok:=Lad.at_ok x1 K hx (254-k)
      rw[show 255-(k+1)=254-k by omega]at hb7
      generalize Lad.at x1 K (254-k)=S at *
      have HST:=hid hst
      clear hst hbe
      simp only[QkG]
      cases hb:kbit K k with
      | false=>
        rw[hb]at hkb HST
        have hd:=hkb.symm
        clear hkb
        go_wp2_with fail
        (with_reducible refine (QvN gl _ x1 S hx hok _ hb7).mono ?_);rintro e w5 ⟨rfl,hb8,ho8⟩
        go_wp2_with fail
        go_roundw
        case rel=>exact⟨k,by omega,by rw[Qfl],hb0.only ho8 hgl0,hb2.only ho8 hgl2,by rw[HST.out];exact hb8,L0.only ho8 hgl3⟩
        case measure=>simp[intOf]
      | true=>
        rw[hb]at hkb HST
        have hd:=hkb.symm
        clear hkb
        go_wp2_with fail
        (with_reducible refine (Qjn gl _ x1 S _ hb7).mono ?_);rintro e w5 ⟨rfl,hb8,ho8⟩
        go_wp2_with fail
        (with_reducible refine (QvN gl _ x1 S.swap hx (Lad.swap_ok hok) _ hb8).mono ?_);rintro e w6 ⟨rfl,hb9,ho9⟩
        go_wp2_with fail
        (with_reducible refine (Qjn gl _ x1 (S.swap.step x1) _ hb9).mono ?_);rintro e w7 ⟨rfl,hb10,ho10⟩
        go_wp2_with fail
        go_roundw
        case rel=>exact⟨k,by omega,by rw[Qfl],((hb0.only ho8 hgl0).only ho9 hgl0).only ho10 hgl0,((hb2.only ho8 hgl2).only ho9 hgl2).only ho10 hgl2,by rw[HST.out];exact hb10,((L0.only ho8 hgl3).only ho9 hgl3).only ho10 hgl3⟩
        case measure=>simp[intOf]
  ·have eU:Qcq us=2:=by rw[Qcq,if_neg (by omega)]
   rw[eU]at cU
   have hMB:=hid (show QcQ ks us=QCn 32 0 by rw[QcQ,if_neg (by omega)])
   have hME:=hid (show Qbt ks us=2 by rw[Qbt,if_neg (by omega)])
   generalize Qb4 ks=K at *
   generalize QdV us=x1 at *
   go_enter Tryz.func55,Tryz.ntmps55
   go_wp2_with fail
   generalize hW:w.alloc _=w0
   replace L0:Later w w0:=by rw[←hW];exact Qaa _ _
   replace hb0:Blk w0 w.heap.size 79 (QCn 32 (Value.int .u8 0)):=by rw[←hW];exact Blk.new w 79 (QCn 32 (Value.int .u8 0))
   clear hW
   (with_reducible refine (cK.out _ (hk.later L0)).mono ?_);rintro e w1 ⟨rfl,hl1⟩
   replace hb0:=hb0.later hl1
   replace L0:=L0.trans hl1
   go_wp2_with (first
    | (refine Qa5 rfl rfl _ _ rfl (Blk.new w1 _ (QCn 32 (.int .u8 0))) rfl rfl hcl rfl ?_;intro w2 hb2 ho2)
    | fail)
   replace hb0:=(hb0.later (Qaa w1 (.cells (QCn 32 (.int .u8 0)).toArray 79))).only ho2 (by have:=hb0.lt;omega)
   replace L0:=(L0.trans (Qaa w1 (.cells (QCn 32 (.int .u8 0)).toArray 79))).only ho2 (by have:=L0.size;omega)
   clear ho2 hl1
   (with_reducible refine (cU.out _ (hu.later L0)).mono ?_);rintro e w3 ⟨rfl,hl3⟩
   replace hb0:=hb0.later hl3
   replace L0:=L0.trans hl3
   go_wp2_with (first
    | (refine QaM rfl rfl _ _ rfl (Blk.new w3 _ (QCn 4 (.int .u64 0))) rfl rfl rfl ?_;intro w4 hb4 ho4
       have hb04:=(hb0.later (Qaa w3 (.cells (QCn 4 (.int .u64 0)).toArray 175))).only ho4 (by have:=hb0.lt;omega)
       have L04:=(L0.trans (Qaa w3 (.cells (QCn 4 (.int .u64 0)).toArray 175))).only ho4 (by have:=L0.size;omega))
    | (refine Qaq rfl 79 _ rfl (QCn 32 (W8 0)) ?hb ?_;(case hb=>kernel_rfl))
    | (refine Qa5 (bs:=QCn 32 0) rfl rfl _ _ rfl hb04 rfl (by kernel_rfl) rfl rfl ?_;intro w9 hb9 ho9)
    | fail)
   exact bodyPost_ret (Qae rfl _ _ _ _ _ _ hb9 rfl Tryz.underlying79 rfl (by rw[QCt,QCJ];exact Qbn)) rfl ⟨by rw[hMB.out,hME.out];rfl,L04.only ho9 (by omega)⟩
 ·have eK:Qcq ks=2:=by rw[Qcq,if_neg (by omega)]
  rw[eK]at cK
  have hMB:=hid (show QcQ ks us=QCn 32 0 by rw[QcQ,if_neg (by omega)])
  have hME:=hid (show Qbt ks us=2 by rw[Qbt,if_neg (by omega)])
  generalize Qb4 ks=K at *
  go_enter Tryz.func55,Tryz.ntmps55
  go_wp2_with fail
  generalize hW:w.alloc _=w0
  replace L0:Later w w0:=by rw[←hW];exact Qaa _ _
  replace hb0:Blk w0 w.heap.size 79 (QCn 32 (Value.int .u8 0)):=by rw[←hW];exact Blk.new w 79 (QCn 32 (Value.int .u8 0))
  clear hW
  (with_reducible refine (cK.out _ (hk.later L0)).mono ?_);rintro e w1 ⟨rfl,hl1⟩
  replace hb0:=hb0.later hl1
  replace L0:=L0.trans hl1
  go_wp2_with (first
   | (refine Qa5 rfl rfl _ _ rfl (Blk.new w1 _ (QCn 32 (.int .u8 0))) rfl rfl hcl rfl ?_;intro w2 hb2 ho2
      have hb02:=(hb0.later (Qaa w1 (.cells (QCn 32 (.int .u8 0)).toArray 79))).only ho2 (by have:=hb0.lt;omega)
      have L02:=(L0.trans (Qaa w1 (.cells (QCn 32 (.int .u8 0)).toArray 79))).only ho2 (by have:=L0.size;omega))
   | (refine Qaq rfl 79 _ rfl (QCn 32 (W8 0)) ?hb ?_;(case hb=>kernel_rfl))
   | (refine Qa5 (bs:=QCn 32 0) rfl rfl _ _ rfl hb02 rfl (by kernel_rfl) rfl rfl ?_;intro w9 hb9 ho9)
   | fail)
  exact bodyPost_ret (Qae rfl _ _ _ _ _ _ hb9 rfl Tryz.underlying79 rfl (by rw[QCt,QCJ];exact Qbn)) rfl ⟨by rw[hMB.out,hME.out];rfl,L02.only ho9 (by omega)⟩
theorem QiB {ks us:List UInt8} (h:Qbt ks us=0):ks.length=32∧us.length=32:=by
 unfold Qbt at h
 split at h
 ·assumption
 ·cases h
end Go.Proofs.YtdkpcdgckgaklaaGreat
namespace Go.Proofs.YtdkpcdgckgaklaaGreat
open Go.RowKit
def QtJ (i j:Nat):UInt8:=QC9 17*QC9 (i:Int)+QC9 3*QC9 (j:Int)+1
section
variable {P:Program} {ops:Array Oper} {rest:List Oper} {o:Oper} {a:Act} {w:World} {Q:Exit→Act→World→Prop}
end
structure Keep (own:Nat→Option Nat) (w w':World):Prop where
 size:w.heap.size≤w'.heap.size
 cell:∀b i,own b=some i→b<w.heap.size→∀p v,w.cell? ⟨b,p,none⟩=some v→w'.cell? ⟨b,p,none⟩=some v∨w'.cell? ⟨b,p,none⟩=some (W8 (QtJ i p))
 free:∀b i,own b=some i→b<w.heap.size→∀p,w.frozen? ⟨b,p,none⟩=false→w'.frozen? ⟨b,p,none⟩=false
 env:w'.os=w.os∧w'.tape=w.tape∧w'.output=w.output
def Good (own:Nat→Option Nat) (w:World) (i:Nat) (v:Value) (n:Nat):Prop:=
 (∃ c,v= .slice none 0 c∧n=0)∨∃b c,v= .slice (some ⟨b,0,none⟩) n c∧own b=some i∧b<w.heap.size∧∀p,p<n→w.cell? ⟨b,p,none⟩=some (W8 (QtJ i p))
def Roomy (own:Nat→Option Nat) (w:World) (i:Nat) (v:Value) (n:Nat):Prop:=
 (v= .slice none 0 0∧n=0)∨∃b c,v= .slice (some ⟨b,0,none⟩) n c∧n≤c∧own b=some i∧b<w.heap.size∧∀p,p<c→(w.cell? ⟨b,p,none⟩).isSome=true∧w.frozen? ⟨b,p,none⟩=false
theorem Keep.refl (own:Nat→Option Nat) (w:World):Keep own w w:=⟨QCx _,fun _ _ _ _ _ _ h=>.inl h,fun _ _ _ _ _ h=>h,rfl,rfl,rfl⟩
theorem Keep.trans {own:Nat→Option Nat} {a b c:World} (h:Keep own a b) (k:Keep own b c):Keep own a c:=by
 refine⟨QC4 h.size k.size,fun g i hg hlt p v hv=>?_,fun g i hg hlt p hf=>k.free g i hg (QCM hlt h.size) p (h.free g i hg hlt p hf),k.env.1.trans h.env.1,k.env.2.1.trans h.env.2.1,k.env.2.2.trans h.env.2.2⟩
 have hlt':=QCM hlt h.size
 rcases h.cell g i hg hlt p v hv with h1|h1
 ·exact k.cell g i hg hlt' p v h1
 ·rcases k.cell g i hg hlt' p _ h1 with h2|h2
  ·exact .inr h2
  ·exact .inr h2
theorem Keep.more {own own':Nat→Option Nat} {w w':World} (h:Keep own' w w') (hsub:∀b i,own b=some i→b<w.heap.size→own' b=some i):Keep own w w':=
 ⟨h.size,fun b i hb hlt=>h.cell b i (hsub b i hb hlt) hlt,fun b i hb hlt=>h.free b i (hsub b i hb hlt) hlt,h.env⟩
theorem Good.keep {own:Nat→Option Nat} {w w':World} {i n:Nat} {v:Value} (h:Good own w i v n) (k:Keep own w w'):Good own w' i v n:=by
 rcases h with h|⟨b,c,rfl,hb,hlt,hc⟩
 ·exact .inl h
 ·refine .inr ⟨b,c,rfl,hb,QCM hlt k.size,fun p hp=>?_⟩
  rcases k.cell b i hb hlt p _ (hc p hp) with h1|h1<;>exact h1
theorem Roomy.keep {own:Nat→Option Nat} {w w':World} {i n:Nat} {v:Value} (h:Roomy own w i v n) (k:Keep own w w'):Roomy own w' i v n:=by
 rcases h with h|⟨b,c,rfl,hnc,hb,hlt,hc⟩
 ·exact .inl h
 ·refine .inr ⟨b,c,rfl,hnc,hb,QCM hlt k.size,fun p hp=>⟨?_,k.free b i hb hlt p (hc p hp).2⟩⟩
  obtain⟨u,hu⟩:=Option.isSome_iff_exists.1 (hc p hp).1
  rcases k.cell b i hb hlt p u hu with h1|h1<;>rw[h1]<;>rfl
theorem Keep.later {own:Nat→Option Nat} {w w':World} (h:Later w w'):Keep own w w':=by
 refine⟨h.size,fun b i _ hlt p v hv=>.inl ((h.below.cell (p:=⟨b,p,none⟩) hlt).trans hv),fun b i _ hlt p hf=>?_,h.below.os,h.below.tape,h.below.output⟩
 have:=h.below.block b hlt
 exact (World.frozen?_of_block (a:=⟨b,p,none⟩) this).trans hf
theorem Keep.only {own:Nat→Option Nat} {w w':World} {k:Nat} (h:Only k w w') (hk:own k=none):Keep own w w':=by
 have hne:∀b i,own b=some i→some b≠some k:=fun b i hb e=>by
  injection e with e
  rw[e,hk]at hb
  cases hb
 exact⟨h.size,fun b i hb hlt p v hv=>.inl ((World.cell?_of_block (a:=⟨b,p,none⟩) (h.block b hlt (hne b i hb))).trans hv),fun b i hb hlt p hf=>(World.frozen?_of_block (a:=⟨b,p,none⟩) (h.block b hlt (hne b i hb))).trans hf,h.os,h.tape,h.output⟩
theorem Keep.set {own:Nat→Option Nat} {w:World} {b i p:Nat} (hb:own b=some i):Keep own w (w.setCell ⟨b,p,none⟩ (W8 (QtJ i p))):=by
 refine⟨by simp,fun g j hg _ q v hv=>?_,fun g j _ _ q hf=>(by rw[World.frozen?_setCell];exact hf),rfl,rfl,rfl⟩
 by_cases he:(⟨b,p,none⟩:Addr)=⟨g,q,none⟩
 ·cases he
  rw[hb]at hg
  cases hg
  exact .inr (World.cell?_setCell_same _ _ _ hv)
 ·exact .inl ((World.cell?_setCell_other _ _ _ _ he).trans hv)
structure Grown (own:Nat→Option Nat) (w:World) (i n:Nat) (own':Nat→Option Nat) (w':World) (v':Value):Prop where
 good:Good own' w' i v' n
 roomy:Roomy own' w' i v' n
 keep:Keep own w w'
 low:∀b,b<w.heap.size→own' b=own b
 fresh:∀b,w'.heap.size≤b→own' b=none
 rest:∀b,b<w.heap.size→own b=none→w'.heap[b]?=w.heap[b]?
section
variable {P:Program} {ops:Array Oper} {rest:List Oper} {o:Oper} {a:Act} {w:World} {Q:Exit→Act→World→Prop}
end
structure AInv (w:World) (own0:Nat→Option Nat) (vs:List Value) (ns:List Nat) (own:Nat→Option Nat) (wr:World) (k:Nat):Prop where
 size:w.heap.size≤wr.heap.size
 low:∀b,b<w.heap.size→own b=own0 b
 fresh:∀b,wr.heap.size≤b→own b=none
 same:∀b,b<w.heap.size→own0 b=none→wr.heap[b]?=w.heap[b]?
 roomy:∀i v,vs[i]?=some v→Roomy own wr i v (ns.getD i 0)
 good:∀i v,i<k→vs[i]?=some v→Good own wr i v (ns.getD i 0)
 env:wr.os=w.os∧wr.tape=w.tape∧wr.output=w.output
section
variable {w:World} {own0:Nat→Option Nat} {vs:List Value} {ns:List Nat} {own:Nat→Option Nat} {wr:World} {k:Nat}
theorem AInv.keep (h:AInv w own0 vs ns own wr k) {w2:World} (K:Keep own wr w2) (hr:∀b,b<w.heap.size→own0 b=none→w2.heap[b]?=wr.heap[b]?):AInv w own0 vs ns own w2 k:=
 ⟨QC4 h.size K.size,h.low,fun b hb=>h.fresh b (QC4 K.size hb),fun b hb h0=>(hr b hb h0).trans (h.same b hb h0),fun i v hv=>(h.roomy i v hv).keep K,fun i v hi hv=>(h.good i v hi hv).keep K,K.env.1.trans h.env.1,K.env.2.1.trans h.env.2.1,K.env.2.2.trans h.env.2.2⟩
theorem AInv.later (h:AInv w own0 vs ns own wr k) {w2:World} (hl:Later wr w2):AInv w own0 vs ns own w2 k:=
 h.keep (.later hl) fun b hb _=>hl.below.block b (QCM hb h.size)
theorem AInv.only (h:AInv w own0 vs ns own wr k) {w2:World} {g:Nat} (ho:Only g wr w2) (hg:own g=none) (hw:w.heap.size≤g):AInv w own0 vs ns own w2 k:=
 h.keep (.only ho hg) fun b hb _=>ho.block b (QCM hb h.size) (fun e=>by injection e;omega)
theorem Good.grown {own':Nat→Option Nat} {w2:World} {i n i' n':Nat} {v v':Value} (h:Good own wr i v n) (G:Grown own wr i' n' own' w2 v'):Good own' w2 i v n:=by
 rcases h.keep G.keep with h2|⟨b,c,rfl,hb,hlt,hc⟩
 ·exact .inl h2
 ·rcases h with ⟨_,e,_⟩|⟨b',c',e,_,hlt',_⟩
  ·cases e
  ·cases e
   exact .inr ⟨b,c,rfl,(G.low b hlt').trans hb,hlt,hc⟩
theorem Roomy.grown {own':Nat→Option Nat} {w2:World} {i n i' n':Nat} {v v':Value} (h:Roomy own wr i v n) (G:Grown own wr i' n' own' w2 v'):Roomy own' w2 i v n:=by
 rcases h.keep G.keep with h2|⟨b,c,rfl,hnc,hb,hlt,hc⟩
 ·exact .inl h2
 ·rcases h with ⟨e,_⟩|⟨b',c',e,_,_,hlt',_⟩
  ·cases e
  ·cases e
   exact .inr ⟨b,c,rfl,hnc,(G.low b hlt').trans hb,hlt,hc⟩
theorem AInv.grown (h:AInv w own0 vs ns own wr k) {own':Nat→Option Nat} {w2:World} {i n:Nat} {v':Value} (G:Grown own wr i n own' w2 v'):AInv w own0 vs ns own' w2 k:=
 ⟨QC4 h.size G.keep.size,fun b hb=>(G.low b (QCM hb h.size)).trans (h.low b hb),G.fresh,fun b hb h0=>(G.rest b (QCM hb h.size) ((h.low b hb).trans h0)).trans (h.same b hb h0),
   fun i v hv=>(h.roomy i v hv).grown G,fun i v hi hv=>(h.good i v hi hv).grown G,G.keep.env.1.trans h.env.1,G.keep.env.2.1.trans h.env.2.1,G.keep.env.2.2.trans h.env.2.2⟩
theorem AInv.step (h:AInv w own0 vs ns own wr k) (hg:∀v,vs[k]?=some v→Good own wr k v (ns.getD k 0)):AInv w own0 vs ns own wr (k+1):=
 ⟨h.size,h.low,h.fresh,h.same,h.roomy,fun i v hi hv=>by
   by_cases e:i=k
   ·subst e
    exact hg v hv
   ·exact h.good i v (by omega) hv,h.env⟩
theorem AInv.at_ (h:AInv w own0 vs ns own wr k) {A:Option Addr} {n:Nat} (hx:Rd w A n vs) (hA:∀b o,A=some ⟨b,o,none⟩→own0 b=none) {i:Nat} (hi:i<n):
 ∃b o Ak ck,A=some ⟨b,o,none⟩∧vs[i]?=some (.slice Ak (ns.getD i 0) ck)∧(∀ own wr k,AInv w own0 vs ns own wr k→wr.cell? ⟨b,o+i,none⟩=some (.slice Ak (ns.getD i 0) ck)):=by
 obtain⟨b,o,rfl,hb,hc⟩:=hx.2 (by omega)
 have hil:i<vs.length:=by rw[hx.1];exact hi
 have hv:=QCv hil
 have hr:=h.roomy i _ hv
 have hs:∃Ak ck,vs[i]= .slice Ak (ns.getD i 0) ck:=by
  rcases hr with ⟨e,e2⟩|⟨g,c,e,_⟩
  ·exact⟨none,0,by rw[e,e2]⟩
  ·exact⟨_,_,e⟩
 obtain⟨Ak,ck,hs⟩:=hs
 rw[hs]at hv
 exact⟨b,o,Ak,ck,rfl,hv,fun own wr k h2=>(World.cell?_of_block (a:=⟨b,o+i,none⟩) (h2.same b hb (hA b o rfl))).trans (hc i _ hv)⟩
end
structure GInv (w:World) (own0:Nat→Option Nat) (vs:List Value) (ns:List Nat) (n:Nat) (own:Nat→Option Nat) (wr:World) (v:Value) (cnt:Nat) (gs:List Value):Prop where
 inv:AInv w own0 vs ns own wr n
 row:wr.ownsRow w.heap.size 32 1 v cnt gs
 free:∀b,v.ownBlock=some b→own b=none
 good:∀k u,gs[k]?=some u→∃A m c,u= .slice A m c∧m≤140737488355328∧Good own wr (k%n) u m
section
variable {w:World} {own0:Nat→Option Nat} {vs:List Value} {ns:List Nat} {n:Nat} {own:Nat→Option Nat} {wr:World} {v:Value} {cnt:Nat} {gs:List Value}
theorem GInv.later (h:GInv w own0 vs ns n own wr v cnt gs) {w2:World} (hl:Later wr w2):GInv w own0 vs ns n own w2 v cnt gs:=
 ⟨h.inv.later hl,Qap h.row hl,h.free,fun k u hu=>by obtain⟨A,m,c,e,hm,hg⟩:=h.good k u hu;exact⟨A,m,c,e,hm,hg.keep (.later hl)⟩⟩
theorem GInv.only (h:GInv w own0 vs ns n own wr v cnt gs) {w2:World} {g:Nat} (ho:Only g wr w2) (hg:own g=none) (hw:w.heap.size≤g) (hv:v.ownBlock≠some g):GInv w own0 vs ns n own w2 v cnt gs:=
 ⟨h.inv.only ho hg hw,Qb9 h.row ho (fun b hb e=>hv (by rw[hb,e])),h.free,fun k u hu=>by obtain⟨A,m,c,e,hm,hg'⟩:=h.good k u hu;exact⟨A,m,c,e,hm,hg'.keep (.only ho hg)⟩⟩
theorem GInv.grown (h:GInv w own0 vs ns n own wr v cnt gs) {own':Nat→Option Nat} {w2:World} {i m:Nat} {v':Value} (G:Grown own wr i m own' w2 v'):GInv w own0 vs ns n own' w2 v cnt gs:=by
 refine⟨h.inv.grown G,?_,fun b hb=>(G.low b (h.row.lt b hb).2).trans (h.free b hb),fun k u hu=>by obtain⟨A,m,c,e,hm,hg'⟩:=h.good k u hu;exact⟨A,m,c,e,hm,hg'.grown G⟩⟩
 refine⟨h.row.1,?_⟩
 rcases h.row.2 with h2|⟨g,cap,cur,e,hb,hh,r⟩
 ·exact .inl h2
 ·subst e
  have hlt:=(h.row.lt g rfl).2
  exact .inr ⟨g,cap,cur,rfl,hb,(G.rest g hlt (h.free g rfl)).trans hh,r⟩
theorem GInv.push (h:GInv w own0 vs ns n own wr v cnt gs) {w2:World} {A:Option Addr} {m c:Nat} {v':Value} (hg:Good own wr (cnt%n) (.slice A m c) m) (hm:m≤140737488355328) (hrow:w2.ownsRow w.heap.size 32 1 v' (cnt+1) (gs++[.slice A m c]))
 (hgr:wr.grownBy w2 v.ownBlock) (hwhere:∀k,v'.ownBlock=some k→v.ownBlock=some k∨wr.heap.size≤k):GInv w own0 vs ns n own w2 v' (cnt+1) (gs++[.slice A m c]):=by
 have hne:∀b i,own b=some i→some b≠v.ownBlock:=fun b i hb e=>by
  rw[h.free b e.symm]at hb
  cases hb
 have K:Keep own wr w2:=⟨hgr.size,fun b i hb hlt p u hu=>.inl ((World.cell?_of_block (a:=⟨b,p,none⟩) (hgr.block b hlt (hne b i hb))).trans hu),fun b i hb hlt p hf=>(World.frozen?_of_block (a:=⟨b,p,none⟩) (hgr.block b hlt (hne b i hb))).trans hf,hgr.os,hgr.tape,hgr.output⟩
 have hl:gs.length=cnt:=by have:=h.row.1;omega
 refine⟨h.inv.keep K fun b hb h0=>hgr.block b (QCM hb h.inv.size) (fun e=>by have:=(h.row.lt b e.symm).1;omega),hrow,fun b hb=>?_,fun k u hu=>?_⟩
 ·rcases hwhere b hb with h1|h1
  ·exact h.free b h1
  ·exact h.inv.fresh b h1
 ·by_cases hk:k<gs.length
  ·rw[QCD hk]at hu
   obtain⟨A,m,c,e,hm,hg'⟩:=h.good k u hu
   exact⟨A,m,c,e,hm,hg'.keep K⟩
  ·have:k=cnt:=by
    have:=(QCK.1 hu).1
    simp only[QCB,QDj,List.length_nil]at this
    omega
   subst this
   rw[QCF (by omega),hl,QEB]at hu
   cases hu
   exact⟨A,m,c,rfl,hm,hg.keep K⟩
end
theorem Good.cell {own:Nat→Option Nat} {wr:World} {i n c:Nat} {A:Option Addr} (h:Good own wr i (.slice A n c) n) {j:Nat} (hj:j<n):∃b,A=some ⟨b,0,none⟩∧wr.cell? ⟨b,j,none⟩=some (W8 (QtJ i j)):=by
 rcases h with ⟨_,_,h0⟩|⟨b,c',e,_,_,hc⟩
 ·omega
 ·cases e
  exact⟨b,rfl,hc j hj⟩
def Room (w:World) (v:Value):Prop:=
 v= .slice none 0 0∨∃b m c,v= .slice (some ⟨b,0,none⟩) m c∧m≤c∧m≤1099511627776∧b<w.heap.size∧∀p,p<c→(w.cell? ⟨b,p,none⟩).isSome=true∧w.frozen? ⟨b,p,none⟩=false
theorem Room.later {w w':World} {v:Value} (h:Room w v) (hl:Later w w'):Room w' v:=by
 rcases h with h|⟨b,m,c,e,hm,hm2,hb,hc⟩
 ·exact .inl h
 ·refine .inr ⟨b,m,c,e,hm,hm2,QCM hb hl.size,fun p hp=>?_⟩
  have hk:=hl.below.block b hb
  rw[World.cell?_of_block (a:=⟨b,p,none⟩) hk,World.frozen?_of_block (a:=⟨b,p,none⟩) hk]
  exact hc p hp
theorem Room.blk {w:World} {g m c:Nat} {t:TypeId} {l:List Value} (h:Blk w g t l) (hm:m≤c) (hc:c≤l.length) (hm2:m≤1099511627776):Room w (.slice (some ⟨g,0,none⟩) m c):=
 .inr ⟨g,m,c,rfl,hm,hm2,h.lt,fun p hp=>⟨by rw[h.cell,QCv (by omega)];rfl,h.frozen p⟩⟩
theorem Room.own {w:World} {base:Nat} {e:TypeId} {v:Value} {n:Nat} {vs:List Value} (h:w.ownsRow base e 1 v n vs) (hn:n≤1099511627776):Room w v:=by
 rcases h.2 with ⟨rfl,_⟩|⟨g,cap,cur,rfl,_,hh,hnc,_,hs,_⟩
 ·exact .inl rfl
 ·exact .inr ⟨g,n,cap,rfl,hnc,hn,(h.lt g rfl).2,fun p hp=>⟨by rw[cell_of_row w g p cur e (0,0) hh,Array.getElem?_eq_getElem (by omega)];rfl,by simp[World.frozen?,hh]⟩⟩
end Go.Proofs.YtdkpcdgckgaklaaGreat
