/-
  Lemmas for the last text of this claim (part 17 of 20).
-/
import Derived.ArgAppend
import Derived.BigQuiet
import Derived.BigRegion
import Derived.ChangeOld
import Derived.Deep.RegionWith
import Derived.DeepKeys4
import Derived.JoinedCond
import Derived.LaidMore
import Derived.Laws.Append
import Derived.Laws.BytesArg
import Derived.Laws.CopyOwn
import Derived.Laws.Externs
import Derived.Laws.IdiomStrings
import Derived.Laws.Tables
import Derived.Lib.AppendStr
import Derived.Lib.AppendZerosOnto
import Derived.Lib.Mul64
import Derived.Lib.SlBytesConst
import Derived.LoopN
import Derived.Maps.OwnSet
import Derived.OpenShut
import Derived.OrdersHeld
import Derived.ProofKit
import Derived.Shelf.Spec.BitsCarry
import Derived.ShutString
import Derived.Test.YticcbmhcgmhohaaGreatProg
import Derived.Test.YticcbmhcgmhohaaGreatRows
import Derived.WalkKit
import Derived.WalkLawsBesides
import Derived.WalkSpells
import Derived.Test.YticcbmhcgmhohaaGreatPB
import Derived.Test.YticcbmhcgmhohaaGreatPC
import Derived.Test.YticcbmhcgmhohaaGreatPL
import Derived.Test.YticcbmhcgmhohaaGreatPM
import Derived.Test.YticcbmhcgmhohaaGreatPN
import Derived.Test.YticcbmhcgmhohaaGreatPO
import Derived.Test.YticcbmhcgmhohaaGreatPP
open BitVec renaming toNat_ushiftRight → QDz
open List renaming replicate → QCC, getElem?_cons_succ → QCD, getElem?_cons_zero → QCE, length_map → QCF, nil_append → QCH, cons_append → QCI, getElem?_eq_getElem → QCJ, getD_eq_getElem?_getD → QCK, setIfInBounds_toArray → QCL, length_append → QCM, set_cons_zero → QCN, set_cons_succ → QCO, take_of_length_le → QCQ, getElem?_append_right → QCR, length_replicate → QCS, map_toArray → QCT, append_assoc → QCU, getElem?_eq_some_iff → QCV, getElem?_append_left → QCW, getElem?_map → QCY, map_nil → QC3, length_take → QC5, length_drop → QC6, map_cons → QC9, take_append_drop → QDa, set_append_right → QDc, take_succ_eq_append_getElem → QDd, append_nil → QDf, map_replicate → QDi, drop_left' → QDj, eq_nil_of_length_eq_zero → QDk, length_set → QDl, take_append_of_le_length → QDo, length_cons → QDp, map_append → QDq, take_left' → QDx, getElem?_drop → QDE, drop_append_of_le_length → QDN, drop_eq_getElem_cons → QDP, replicate_append_replicate → QDQ, getElem?_set_ne → QDS, flatten_cons → QDU, replicate_succ → QDW, getElem_mem → QD0, drop_zero → QD7, drop_eq_nil_of_le → QEc, flatMap_cons → QEi, getElem?_take → QEm, getElem?_set_self → QEn, getElem_of_mem → QEQ, map_congr_left → QES, flatten_nil → QEV
open Nat renaming le_refl → QCP, lt_of_lt_of_le → QCX, zero_add → QC4, le_trans → QDm, div_div_eq_div_mul → QDt, shiftRight_eq_div_pow → QDv, div_eq_of_lt → QDy, mul_comm → QDD, pow_succ → QDF, lt_or_ge → QDJ, sub_self → QDL, mod_mod → QD4, add_zero → QD8, pow_mul → QEf, add_sub_cancel_left → QEk, add_comm → QEB, pow_zero → QEW, sub_zero → QE0, le_of_eq → QE1
open Option renaming toList_some → QCG
open UInt64 renaming ofInt → QDC, toNat_inj → QEz, toNat_toUInt8 → QEN
open UInt8 renaming ofNat → QDe, ofInt → QDh, toNat_inj → QDr, toNat_ofNat' → QDB
set_option linter.all false
namespace Go.Proofs.YticcbmhcgmhohaaGreat
open Go.RowKit
open Go.BigFrame
def fr3 (p:Prt):List UInt8:=QCC 16 0++([p.kd,QDh p.ix,QDh p.ct,0]++QCC 460 0)
def frK (p:Prt) (k:Nat):List UInt8:=putB (fr3 p) 20 ((bigB 8 p.id.toNat).take k)
theorem Qfl (n:Nat):QDh (n:Int)=QDe n:=by
 apply QDr.1
 rw[QDB]
 show ((n:Int)%(2:Int)^8).toNat%2^8=n%2^8
 omega
theorem Qvj (p:Prt):(((QCC 480 (0:UInt8)).set 16 p.kd).set 17 (QDh p.ix)).set 18 (QDh p.ct)=fr3 p:=by
 rw[show QCC 480 (0:UInt8)=QCC 16 0++([0,0,0,0]++QCC 460 0) by rw[show ([0,0,0,0]:List UInt8)=QCC 4 0 from rfl,QDQ,QDQ]]
 rw[QDc _ _ (by simp),QDc _ _ (by simp),QDc _ _ (by simp),QCS]
 rfl
theorem QgO (p:Prt):(fr3 p).length=480:=by
 rw[fr3,QCM,QCM,QCS,QCS]
 show 16+(4+460)=480
 omega
theorem Qj7:∀(w n k:Nat),k<w→(bigB w n)[k]?=some (QDe (n/256^(w-1-k)))
 | 0,_,_,h=>by omega
 | w+1,n,k,h=>by
   rw[bigB]
   by_cases hk:k<w
   ·rw[QCW (by rw[Qap];exact hk),Qj7 w _ k hk,QDt,show w+1-1-k=(w-1-k)+1 by omega,QDF,QDD]
   ·obtain rfl:k=w:=by omega
    rw[QCR (by rw[Qap];omega),Qap,QDL,show k+1-1-k=0 by omega,QEW,Nat.div_one]
    rfl
theorem QuC (x:UInt64) (k:Nat) (h:k<8):(QeY x (56-8*k)).toUInt8=QDe (x.toNat/256^(8-1-k)):=by
 apply QDr.1
 have e:(QeY x (56-8*k)).toNat=x.toNat/2^(56-8*k):=by
  show (x.toBitVec >>> (56-8*k)).toNat=_
  rw[QDz,QDv]
  rfl
 rw[QEN,e,QDB,show (2:Nat)^(56-8*k)=256^(8-1-k) by rw[show (256:Nat)=2^8 from rfl,←QEf];congr 1;omega]
theorem Qob (p:Prt):frK p 0=fr3 p:=by simp[frK,putB]
theorem Qo8 (p:Prt) (k:Nat):(frK p k).length=480:=by
 rw[frK,Qbp (by rw[QgO,QC5,Qap];omega),QgO]
theorem QxE (p:Prt) (h:p.da.length≤450):putB (((frK p 8).set 28 (QDh ((p.da.length:Int)/256))).set 29 (QDh ((p.da.length:Int)%256))) 30 p.da=Qbr p:=by
 have h8:(bigB 8 p.id.toNat).take 8=bigB 8 p.id.toNat:=QCQ (by rw[Qap];omega)
 have e1:QDh ((p.da.length:Int)/256)=QDe (p.da.length/256):=by
  rw[show ((p.da.length:Int)/256)=((p.da.length/256:Nat):Int) by omega,Qfl]
 have e2:QDh ((p.da.length:Int)%256)=QDe p.da.length:=by
  rw[show ((p.da.length:Int)%256)=((p.da.length%256:Nat):Int) by omega,Qfl]
  apply QDr.1
  rw[QDB,QDB,QD4]
 have hb2:bigB 2 p.da.length=[QDe (p.da.length/256),QDe p.da.length]:=rfl
 rw[e1,e2,frK,h8,Qbr,hb2,fr3]
 generalize QDe (p.da.length/256)=x
 generalize QDe p.da.length=y
 have hI:=Qap 8 p.id.toNat
 generalize bigB 8 p.id.toNat=I at *
 have hH:(QCC 16 0++[p.kd,QDh p.ix,QDh p.ct,0]:List UInt8).length=20:=by simp
 rw[←QCU,←QCU]
 generalize (QCC 16 0++[p.kd,QDh p.ix,QDh p.ct,0]:List UInt8)=H at *
 rw[show QCC 460 (0:UInt8)=QCC 8 0++([0,0]++(QCC p.da.length 0++QCC (450-p.da.length) 0)) by
  rw[show ([0,0]:List UInt8)=QCC 2 0 from rfl,QDQ,QDQ,QDQ]
  congr 1
  omega,Qca _ _ _ _ 20 hH (by rw[hI,QCS])]
 rw[←QCU,QDc _ _ (by simp;omega),QDc _ _ (by simp;omega),QCM,hH,hI]
 show putB ((H++I)++([x,y]++(QCC p.da.length 0++QCC (450-p.da.length) 0))) 30 p.da=_
 rw[←QCU,Qca _ _ _ _ 30 (by simp;omega) (by rw[QCS])]
 simp only[QCU]
def frmR (p:Prt):List UInt8:=if prtE p=0 then Qbr p else []
theorem QtN (p:Prt):(((QCC 480 (Value.int .u8 0)).set 16 (W8 p.kd)).set 17 (W8 (QDh p.ix))).set 18 (W8 (QDh p.ct))=(frK p 0).map W8:=by
 rw[Qob,←Qvj,←Qci,←Qci,←Qci,QDi]
 rfl
theorem Qxk (x:UInt64) (j:Nat) (h:j<8):(bigB 8 x.toNat).take (j+1)=(bigB 8 x.toNat).take j++[(QeY x (8*(7-j))).toUInt8]:=by
 rw[List.take_add_one,Qj7 8 _ j h,show 8*(7-j)=56-8*j by omega,QuC x j h]
 rfl
section
variable {ops:Array Oper} {rest:List Oper} {o:Oper} {a:Act}
end
structure Pel where
 c:Cmd
 P:Y768
 B:List UInt8
def QyJ:Y768:=⟨z768,QaJ⟩
def pel0:Pel:=⟨cmd0,QyJ,[]⟩
section
variable {ks:List (List UInt8)} {k:Nat} {q:Y768}
end
structure PelV where
 c:Cmd
 P:Y768
 A:Option Addr
 n:Nat
 cp:Nat
def QCt:PelV:=⟨cmd0,QyJ,none,0,0⟩
def Qyw (w:World) (base:Nat) (x:PelV) (y:Pel):Prop:=x.c=y.c∧x.P=y.P∧x.n=y.B.length∧OwnB w base x.A x.n x.cp y.B
def PelRow (w:World) (base:Nat):List PelV→List Pel→Prop
 | [],[]=>True
 | x :: xs,y :: ys=>Qyw w base x y∧PelRow w base xs ys
 | _,_=>False
theorem PelRow.len {w:World} {base:Nat}:∀ {xs:List PelV} {ys:List Pel},PelRow w base xs ys→xs.length=ys.length
 | [],[],_=>rfl
 | x :: xs,y :: ys,h=>by rw[QDp,QDp,PelRow.len h.2]
theorem PelRow.snoc {w:World} {base:Nat} {x:PelV} {y:Pel}:∀ {xs:List PelV} {ys:List Pel},PelRow w base xs ys→Qyw w base x y→PelRow w base (xs++[x]) (ys++[y])
 | [],[],_,h=>⟨h,trivial⟩
 | _ :: _,_ :: _,h,h'=>⟨h.1,PelRow.snoc h.2 h'⟩
theorem PelRow.mono {w w':World} {base:Nat} (hw:∀A n c B,OwnB w base A n c B→OwnB w' base A n c B):∀ {xs:List PelV} {ys:List Pel},PelRow w base xs ys→PelRow w' base xs ys
 | [],[],_=>trivial
 | _ :: _,_ :: _,h=>⟨⟨h.1.1,h.1.2.1,h.1.2.2.1,hw _ _ _ _ h.1.2.2.2⟩,PelRow.mono hw h.2⟩
theorem PelRow.at_ {w:World} {base:Nat}:∀ {xs:List PelV} {ys:List Pel} (i:Nat),PelRow w base xs ys→i<ys.length→Qyw w base (xs.getD i QCt) (ys.getD i pel0)
 | [],[],i,_,h=>absurd h (by simp)
 | _ :: _,_ :: _,0,h,_=>h.1
 | _ :: _,_ :: _,i+1,h,hi=>by
   have:=PelRow.at_ i h.2 (by simpa using hi)
   simpa using this
theorem PelRow.later {w w':World} {base:Nat} {xs:List PelV} {ys:List Pel} (h:PelRow w base xs ys) (hl:Later w w'):PelRow w' base xs ys:=h.mono fun _ _ _ _ h=>Qa5 h hl
theorem QcT {w w':World} {base k sz:Nat} {e:TypeId} {v:Value} {n:Nat} {vs:List Value} (h:w.ownsRow base e sz v n vs) (ho:Only k w w') (hne:∀b,v.ownBlock=some b→b≠k):w'.ownsRow base e sz v n vs:=by
 refine h.kept ho ?_
 cases hb:v.ownBlock with
 | none=>exact .inl rfl
 | some b=>exact .inr fun he=>hne b hb (by injection he)
def All2 {α β:Type} (R:α→β→Prop):List α→List β→Prop
 | [],[]=>True
 | x :: xs,y :: ys=>R x y∧All2 R xs ys
 | _,_=>False
section
variable {α β:Type} {R R':α→β→Prop}
theorem All2.len:∀ {xs:List α} {ys:List β},All2 R xs ys→xs.length=ys.length
 | [],[],_=>rfl
 | x :: xs,y :: ys,h=>by rw[QDp,QDp,All2.len h.2]
theorem All2.snoc {x:α} {y:β}:∀ {xs:List α} {ys:List β},All2 R xs ys→R x y→All2 R (xs++[x]) (ys++[y])
 | [],[],_,h=>⟨h,trivial⟩
 | _ :: _,_ :: _,h,h'=>⟨h.1,All2.snoc h.2 h'⟩
theorem All2.mono (hR:∀x y,R x y→R' x y):∀ {xs:List α} {ys:List β},All2 R xs ys→All2 R' xs ys
 | [],[],_=>trivial
 | _ :: _,_ :: _,h=>⟨hR _ _ h.1,All2.mono hR h.2⟩
theorem All2.at_ (d:α) (e:β):∀ {xs:List α} {ys:List β} (i:Nat),All2 R xs ys→i<ys.length→R (xs.getD i d) (ys.getD i e)
 | [],[],i,_,h=>absurd h (by simp)
 | _ :: _,_ :: _,0,h,_=>h.1
 | _ :: _,_ :: _,i+1,h,hi=>by
   have:=All2.at_ d e i h.2 (by simpa using hi)
   simpa using this
end
structure RefV where
 c:Cmd
 Q:Option Addr
 nq:Nat
 cq:Nat
 A:Option Addr
 n:Nat
 cp:Nat
theorem Qoa {hs:List Hp} {p:Hp→Bool} {k:Nat} (hk:k<hs.length) (h:p (hs.getD k hp0)=true):hs.any p=true:=by
 rw[List.any_eq_true]
 refine⟨_,QD0 hk,?_⟩
 rw[QCK,QCJ hk]at h
 exact h
theorem QqS {hs:List Hp} {p:Hp→Bool} (h:∀k,k<hs.length→p (hs.getD k hp0)=false):hs.any p=false:=by
 rw[List.any_eq_false]
 intro x hx
 obtain⟨k,hk,rfl⟩:=QEQ hx
 have:=h k hk
 rw[QCK,QCJ hk]at this
 simpa using this
theorem QjB (hs:List Hp) (k:Nat):(hs.drop 1).getD k hp0=hs.getD (k+1) hp0:=by
 rw[QCK,QDE,QEB 1 k,QCK]
theorem Qr7 {hs:List Hp} {p:Hp→Bool} {k:Nat} (hk:k+1<hs.length) (h:p (hs.getD (k+1) hp0)=true):(hs.drop 1).any p=true:=
 Qoa (k:=k) (by rw[QC6];omega) (by rw[QjB];exact h)
theorem QuR {hs:List Hp} {p:Hp→Bool} (h:∀k,k+1<hs.length→p (hs.getD (k+1) hp0)=false):(hs.drop 1).any p=false:=
 QqS (fun k hk=>by rw[QC6]at hk;rw[QjB];exact h k (by omega))
theorem Qz7:(Tryz.prog.info? 62).map (fun i=>(i.zero,i.size,i.bytes))=some (some (.agg (CC cmd0).toArray),20,32):=by kernel_rfl
theorem QsH:(Tryz.prog.info? 24).map (·.size)=some 16:=by kernel_rfl
theorem Qq1 (x:Hp):(HC x)[1]?=some (W64 x.nod.id):=QjF x rfl
theorem QtQ {w:World} {base g sz N:Nat} {e:TypeId} {l:List Value} (h:Blk w g e l) (hb:base≤g) (hl:l.length=N*sz) (hm:N≤maxLen):w.ownsRow base e sz (.slice (some ⟨g,0,none⟩) N N) N l:=
 ⟨hl,.inr ⟨g,N,l.toArray,rfl,hb,h,QCP _,hm,by simp[hl],by simp[←hl]⟩⟩
theorem Que {w:World} {base sz n c:Nat} {e:TypeId} {A:Option Addr} {vs:List Value} (h:w.ownsRow base e sz (.slice A n c) n vs) (hn:0<n):
 ∃g rest,A=some ⟨g,0,none⟩∧base≤g∧Blk w g e (vs++rest)∧n≤c∧c≤maxLen∧(vs++rest).length=c*sz:=by
 rcases h.2 with ⟨hv,h0⟩|⟨g,cap,cur,hv,hb,hh,hnc,hm,hs,ht⟩
 ·omega
 ·cases hv
  have e:vs++cur.toList.drop (n*sz)=cur.toList:=by rw[←ht,QDa]
  refine⟨g,cur.toList.drop (n*sz),rfl,hb,?_,hnc,hm,?_⟩
  ·rw[e]
   exact hh
  ·rw[e,Array.length_toList,hs]
theorem Qq6 {w:World} {base g sz n c:Nat} {e:TypeId} {vs rest:List Value} (h:Blk w g e (vs++rest)) (hb:base≤g) (hl:vs.length=n*sz) (hc:(vs++rest).length=c*sz) (hn:n≤c) (hm:c≤maxLen):w.ownsRow base e sz (.slice (some ⟨g,0,none⟩) n c) n vs:=
 ⟨hl,.inr ⟨g,c,(vs++rest).toArray,rfl,hb,h,hn,hm,by simp only[List.size_toArray];exact hc,by show (vs++rest).take _=vs;rw[←hl,List.take_left]⟩⟩
theorem Qlb (l r vs:List Value) (o:Nat) (h:o+vs.length≤l.length):Qao (l++r) o vs=Qao l o vs++r:=by
 rw[Qao,Qao,QDo (by omega),QDN (by omega),QCU,QCU,QCU]
section
variable {P:Program} {ops:Array Oper} {rest:List Oper} {o:Oper} {a:Act} {w:World} {Q:Exit→Act→World→Prop} {α:Type} {F:α→List Value} {sz:Nat}
theorem Qea (hF:∀x,(F x).length=sz) (hF1:∀x,∀u∈F x,u.oneCell'=true) (d:α) (hgd:o.guard=none) (hd:o.dst=none) (ty:TypeId) (x y:Operand) (ho:o.op= .store ty x y) {base g n c:Nat} {e:TypeId} {xs:List α}
 (hown:w.ownsRow base e sz (.slice (some ⟨g,0,none⟩) n c) n (xs.flatMap F)) (hn:xs.length=n) (j:Nat) (hj:j<n) (v:α) (hx:a.eval x= .pointer (some ⟨g,j*sz,none⟩)) (hy:a.eval y= .agg (F v).toArray) (hi:(P.info? ty).map (·.size)=some sz)
 (h:∀w',w'.ownsRow base e sz (.slice (some ⟨g,0,none⟩) n c) n ((xs.set j v).flatMap F)→Only g w w'→wpList P ops Q rest a w'):wpList P ops Q (o :: rest) a w:=by
 obtain⟨g',r,hg,hb,hB,hnc,hm,hl⟩:=Que hown (by omega)
 obtain rfl:g=g':=by simpa using hg
 have hfl:=Qbk hF xs
 rw[hn]at hfl
 have hjn:j*sz+sz≤n*sz:=by
  rw[←Nat.succ_mul]
  exact Nat.mul_le_mul_right _ hj
 refine Qaf hgd hd ty x y ho g (j*sz) e _ (F v) hB hx hy (by rw[hF];exact hi) (by rw[QCM,hF];omega) (hF1 v) ?_
 intro w' hb' ho'
 have e1:Qao (xs.flatMap F) (j*sz) (F v)=(xs.set j v).flatMap F:=by
  have:=Qio hF d (off:=0) (vs:=F v) (y:=v) xs j (by omega) (by rw[hF];omega) (by rw[Qak _ _ (by rw[hF,hF])])
  rwa [QD8]at this
 have e2:((xs.set j v).flatMap F).length=n*sz:=by rw[Qbk hF,QDl,hn]
 rw[Qlb _ _ _ _ (by rw[hF];omega),e1]at hb'
 exact h w' (Qq6 hb' hb e2 (by rw[QCM]at hl ⊢;omega) hnc hm) ho'
end
end Go.Proofs.YticcbmhcgmhohaaGreat
namespace Go.Proofs.YticcbmhcgmhohaaGreat
open Go.RowKit
section
variable {vs:List Vst} {b:List UInt8} (tk:Int)
end
structure Car where
 vs:List Vst
 bd:List UInt8
 tk:Int
 er:Nat
section
variable {xs:List Nod} {k:Nat} {id:UInt64} {tk:Int} {p:List UInt8} {vs:List Vst}
end
section
variable {P:Program} {ops:Array Oper} {rest:List Oper} {o:Oper} {a:Act} {w:World} {Q:Exit→Act→World→Prop} {t:TypeId}
theorem go_b {p:Array (Nat×Operand)} (_ho:o.op= .build t p) (h:wpList P ops Q (o :: rest) a w):wpList P ops Q (o :: rest) a w:=h
theorem go_a {s x:Operand} (_ho:o.op= .call { callee:=.builtin .append,args:= #[s,x],argTypes:= #[t,t] }) (h:wpList P ops Q (o :: rest) a w):wpList P ops Q (o :: rest) a w:=h
theorem go_l {x:Operand} (_ho:o.op= .load t x) (h:wpList P ops Q (o :: rest) a w):wpList P ops Q (o :: rest) a w:=h
theorem QaZ {x y:Operand} (_ho:o.op= .store t x y) (h:wpList P ops Q (o :: rest) a w):wpList P ops Q (o :: rest) a w:=h
end
end Go.Proofs.YticcbmhcgmhohaaGreat
namespace Go.Proofs.YticcbmhcgmhohaaGreat
open Go.RowKit
open Go.BigFrame
def leM (a e:Nat):Nat:=if e≠0∧(a=0∨e<a) then e else a
theorem Qna (es:List Nat) (k:Nat) (h:k<es.length):QbV (es.take (k+1))=leM (QbV (es.take k)) (es.getD k 0):=by
 rw[QbV,QbV,QDd h,List.foldl_append,QCK,QCJ h]
 rfl
def eVM (e:Nat):Value:=.int .i64 (e:Int)
set_option maxRecDepth 100000 in
theorem Qph (A:Option Addr) (n c:Nat) (es:List Nat) (w:World) (hr:Rd w A n (es.map eVM)) (hn:n≤1048576):
 Calls Tryz.prog 42 #[.slice A n c] w fun e w'=>e= .returned (.int .i64 (QbV es:Nat))∧Later w w':=by
 have hl:es.length=n:=by have:=hr.1;rwa [QCF]at this
 have hst:=hid (Qna es)
 have h0:Hid (QbV (es.take 0)=0):=hid rfl
 have hn':Hid (QbV (es.take n)=QbV es):=hid (by rw[QCQ (by omega)])
 go_enter Tryz.func42,Tryz.ntmps42
 go_wp2_with fail
 go_loopw [3,8] (fun s i wr=>∃k:Nat,k≤n∧i= .int .i64 k∧s= .int .i64 (QbV (es.take k):Nat)∧Later w wr) (fun _ i _=>n-(intOf i).toNat)
 case atStart=>exact⟨0,by omega,rfl,by rw[h0.out];rfl,Later.refl w⟩
 case round=>
  obtain⟨k,hk,rfl,rfl,L⟩:=hrel
  by_cases hlt:k<n
  ·obtain⟨b,o,rfl,hb,hc⟩:=(hr.later L).2 (by omega)
   have c1:wr.cell? ⟨b,o+k,none⟩=some (eVM (es.getD k 0)):=hc k _ (by rw[QCY,QCK,QCJ (by omega)];rfl)
   have hS:=hst.out k (by omega)
   rw[eVM]at c1
   clear hc
   generalize es.getD k 0=x at *
   generalize QbV (es.take k)=y at *
   replace hS:=hid hS
   by_cases e0:x=0
   ·have f1:((x:Int) != 0)=false:=by simp[e0]
    have hz:=hid (hS.out.trans (by rw[leM,if_neg (by simp[e0])]))
    clear e0
    go_wp2_with fail
    exact⟨⟨k+1,by omega,by go_num,by rw[hz.out],L⟩,by simp[intOf];omega⟩
   have f1:((x:Int) != 0)=true:=by simp[e0]
   by_cases e1:y=0
   ·have f2:((y:Int)==0)=true:=by simp[e1]
    have hz:=hid (hS.out.trans (by rw[leM,if_pos ⟨e0,.inl e1⟩]))
    clear e0 e1
    go_wp2_with fail
    exact⟨⟨k+1,by omega,by go_num,by rw[hz.out],L⟩,by simp[intOf];omega⟩
   have f2:((y:Int)==0)=false:=by simp[e1]
   by_cases e2:x<y
   ·have f3:decide ((x:Int)<(y:Int))=true:=decide_eq_true (by omega)
    have hz:=hid (hS.out.trans (by rw[leM,if_pos ⟨e0,.inr e2⟩]))
    clear e0 e1
    go_wp2_with fail
    exact⟨⟨k+1,by omega,by go_num,by rw[hz.out],L⟩,by simp[intOf];omega⟩
   ·have f3:decide ((x:Int)<(y:Int))=false:=decide_eq_false (by omega)
    have hz:=hid (hS.out.trans (by rw[leM,if_neg (fun h=>h.2.elim e1 e2)]))
    clear e0 e1
    go_wp2_with fail
    exact⟨⟨k+1,by omega,by go_num,by rw[hz.out],L⟩,by simp[intOf];omega⟩
  ·obtain rfl:k=n:=by omega
   rw[hn'.out]
   go_wp2_with fail
   go_ret
   exact⟨rfl,L⟩
theorem Qfh {P:Program} {C:World→Prop} {a:Act} {o:Oper} {K:Act→Prop} (t:TypeId) (parts:Array (Nat×Operand)) (ho:o.op= .build t parts) (vs:List Value) (hb:P.built t (parts.map fun (i,x)=>(i,a.eval x)).toList=some vs.toArray)
 (h:K (a.put o.dst (.agg vs.toArray))):o.quiet P a C K:=
 ⟨.agg vs.toArray,fun w hw=>by
   unfold Oper.quietAt execOp
   simp only[ho,Sem.run_bind,run_build w t _ _ hb,Result.andThen_ok]
   exact⟨rfl,rfl⟩,h⟩
theorem QjT {ops:Array Oper} {o:Oper} {a:Act} (hw:Region.wanted o (yielded ops a.tmps)=true) (ho:o.op= .alloc 66):
 Makes Tryz.prog ops o (fun g=>.pointer (some ⟨g,0,none⟩)) (.cells Tryz.zeroCells66 66) a:=
 ⟨hw,fun w=>by
   unfold execOp
   rw[ho]
   simp[go_sem]⟩
theorem QpF (k:UInt8):Tryz.prog.built 62 [(0,W8 k)]=some (CC ⟨k,0,0,0,Qa3⟩).toArray:=by kernel_rfl
def putL (k n j:Nat):List UInt8:=QCC (k-j) 0++(bigB k n).drop (k-j)
theorem Qrs (k n:Nat):putL k n 0=QCC k 0:=by
 rw[putL,QE0,QEc (by rw[Qap];omega),QDf]
theorem QuY (k n:Nat):putL k n k=bigB k n:=by rw[putL,QDL,List.replicate_zero,QCH,QD7]
theorem QnH (k n j:Nat) (h:j≤k):(putL k n j).length=k:=by
 rw[putL,QCM,QCS,QC6,Qap]
 omega
theorem Qr5 (k n j:Nat) (h:j<k):(putL k n j).set (k-1-j) (QDe (n/256^j))=putL k n (j+1):=by
 have hg:=Qj7 k n (k-1-j) (by omega)
 rw[show k-1-(k-1-j)=j by omega]at hg
 have hd:(bigB k n).drop (k-(j+1))=QDe (n/256^j) :: (bigB k n).drop (k-j):=by
  rw[show k-(j+1)=k-1-j by omega,QDP (by rw[Qap];omega),show k-1-j+1=k-j by omega]
  rw[QCJ (by rw[Qap];omega)]at hg
  rw[Option.some.inj hg]
 rw[putL,putL,hd,show k-j=(k-(j+1))+1 by omega,List.replicate_succ',QCU,QDc _ _ (by rw[QCS];omega),QCS,show k-1-j-(k-(j+1))=0 by omega]
 rfl
theorem QuU (n:UInt64) (j:Nat):(QeY n (8*j)).toUInt8=QDe (n.toNat/256^j):=by
 apply QDr.1
 have e:(QeY n (8*j)).toNat=n.toNat/2^(8*j):=by
  show (n.toBitVec >>> (8*j)).toNat=_
  rw[QDz,QDv]
  rfl
 rw[QEN,e,QDB,show (2:Nat)^(8*j)=256^j by rw[show (256:Nat)=2^8 from rfl,←QEf]]
theorem Qvy (n:UInt64) (k:Nat) (h:n.toNat<256^k):QeY n (8*k)=0:=by
 apply QEz.1
 show (n.toBitVec >>> (8*k)).toNat=_
 rw[QDz,QDv,show (2:Nat)^(8*k)=256^k by rw[show (256:Nat)=2^8 from rfl,←QEf]]
 exact QDy h
theorem cnt8 (k:Nat) (h:k≤8):cnt (8*QDC (k:Int))=8*k:=(by decide:∀k:Fin 9,cnt (8*QDC (k.val:Int))=8*k.val) ⟨k,by omega⟩
set_option maxRecDepth 100000 in
set_option maxHeartbeats 4000000 in
theorem QhD (k:Nat) (hk:1≤k) (h8:k≤8) (n:UInt64) (hn:k=8∨n.toNat<256^k) (w:World):
 Calls Tryz.prog 105 #[.int .i64 2,.int .i64 (k:Int),W64 n] w fun e w'=>∃g,e= .returned (.tuple #[.slice (some ⟨g,0,none⟩) k k,.int .i64 0])∧w.heap.size≤g∧Blk w' g 5 ((bigB k n.toNat).map W8)∧Later w w':=by
 have hv:=hid (Qi2 k hk h8)
 have hf:=hid (fun h=>Qvy n k h)
 have hst:=hid (Qr5 k n.toNat)
 have hpl:=hid (QnH k n.toNat)
 have hp0:=hid (Qrs k n.toNat)
 have hpk:=hid (QuY k n.toNat)
 have hpb:=hid (QuU n)
 go_enter Tryz.func105,Tryz.ntmps105
 go_wp2_with fail
 refine (hv.out w).mono ?_
 rintro e w1 ⟨rfl,j1⟩
 have hck:=cnt8 k h8
 have hT:Hid ((decide ((k:Int)<8)=false)∨(decide ((k:Int)<8)=true∧QeY n (8*k)=0)):=hid (by
  by_cases h:k=8
  ·exact .inl (decide_eq_false (by omega))
  ·exact .inr ⟨decide_eq_true (by omega),hf.out (hn.resolve_left h)⟩)
 clear hf hn
 rcases hT.out with hT1|⟨hT1,hT2⟩
 all_goals
  clear hT
  go_wp2_with (first
   | (refine QaF rfl _ _ _ rfl 5 _ 1 Tryz.underlying22 Qdo rfl _ _ _ _ k rfl rfl rfl rfl (by omega) (by omega) ?_;intro w2 hb2 hl2)
   | fail)
  replace hb2:Blk w2 w1.heap.size 5 ((putL k n.toNat 0).map W8):=by
   rw[hp0.out,QDi]
   exact hb2
  have L2:=j1.trans hl2
  have hg1:=j1.size
  clear hl2 hT1 hck
  generalize w1.heap.size=g at *
  go_loopw [29] (fun i wr=>∃j:Nat,j≤k∧i= .int .i64 j∧Blk wr g 5 ((putL k n.toNat j).map W8)∧Later w wr) (fun i _=>k-(intOf i).toNat)
  case atStart=>exact⟨0,by omega,rfl,hb2,L2⟩
  case round=>
   clear hb2 L2
   obtain⟨j,hj,rfl,hb,L⟩:=hrel
   by_cases hjk:j<k
   ·have hcj:=cnt8 j (by omega)
    have hby:=hid (hpb.out j)
    have hsj:=hid (hst.out j hjk)
    have hlj:=hpl.out j (by omega)
    have e1:((k:Int)-1-(j:Int)).toNat=k-1-j:=by omega
    have e0:(0:Int)≤(k:Int)-1-(j:Int)∧(k:Int)-1-(j:Int)<(k:Int):=by omega
    generalize putL k n.toNat j=PJ at *
    go_wp2_with (first
     | (refine QaZ rfl ?_;refine Qad rfl rfl _ _ _ rfl g (k-1-j) _ _ hb rfl (by rw[QCF,hlj];omega) rfl (by kernel_rfl) ?_;intro v4 w4 hv4 hb4 ho4;simp[go_sem]at hv4;subst hv4)
     | fail)
    rw[hby.out,Qci,hsj.out]at hb4
    exact⟨⟨j+1,by omega,by go_num,hb4,L.only ho4 hg1⟩,by simp[intOf];omega⟩
   ·obtain rfl:j=k:=by omega
    rw[hpk.out]at hb
    go_wp2_with fail
    go_ret2
    exact⟨g,rfl,hg1,hb,L⟩
theorem Qxa {L:List UInt8} {x y:UInt8} (k:Nat) (h:k+2≤L.length):putB L k [x,y]=(L.set k x).set (k+1) y:=by
 apply List.ext_getElem?
 intro i
 have hl:(L.take k).length=k:=by rw[QC5];omega
 rw[putB,QCU]
 by_cases h1:i<k
 ·rw[QCW (by omega),QEm,if_pos h1,QDS (by omega),QDS (by omega)]
 ·by_cases h2:i=k
  ·subst h2
   rw[QCR (by omega),hl,QDL,QDS (by omega),QEn (by omega)]
   rfl
  ·by_cases h3:i=k+1
   ·subst h3
    rw[QCR (by omega),hl,QEk,QEn (by rw[QDl];omega)]
    rfl
   ·rw[QCR (by omega),hl,QDS (by omega),QDS (by omega),QCR (by show 2≤_;omega),QDE]
    congr 1
    show k+2+(i-k-2)=i
    omega
theorem Qvi (p:Prt) (h:p.da.length≤450):putB (putB (putB (fr3 p) 20 (bigB 8 p.id.toNat)) 28 (bigB 2 p.da.length)) 30 p.da=Qbr p:=by
 have h8:(bigB 8 p.id.toNat).take 8=bigB 8 p.id.toNat:=QCQ (by rw[Qap];omega)
 have hb2:bigB 2 p.da.length=[QDe (p.da.length/256),QDe p.da.length]:=rfl
 have e1:QDh ((p.da.length:Int)/256)=QDe (p.da.length/256):=by
  rw[show ((p.da.length:Int)/256)=((p.da.length/256:Nat):Int) by omega,Qfl]
 have e2:QDh ((p.da.length:Int)%256)=QDe p.da.length:=by
  rw[show ((p.da.length:Int)%256)=((p.da.length%256:Nat):Int) by omega,Qfl]
  apply QDr.1
  rw[QDB,QDB,QD4]
 have hk:frK p 8=putB (fr3 p) 20 (bigB 8 p.id.toNat):=by rw[frK,h8]
 rw[←QxE p h,hk,hb2,e1,e2,Qxa 28 (by rw[←hk,Qo8];omega)]
theorem QyW (n:Nat) (h:n<65536):(QDC (n:Int)).toNat=n:=by
 show ((n:Int)%(2:Int)^64).toNat%2^64=n
 omega
set_option maxRecDepth 100000 in
set_option maxHeartbeats 4000000 in
theorem Qpz (p:Prt) (A:Option Addr) (n c:Nat) (w:World) (hr:RdB w A n p.da) (hn:n≤1048576):
 Calls Tryz.prog 50 #[.agg (PaC p (.slice A n c)).toArray] w fun e w'=>∃A' c',e= .returned (.tuple #[.slice A' (frmR p).length c',.int .i64 (prtE p:Nat)])∧OwnB w' w.heap.size A' (frmR p).length c' (frmR p)∧Later w w':=by
 have hl:=hr.len
 have hCk:=hid (fun w=>Qjk p A n c hl w)
 have hz:=hid (fun h=>Qlu (p:=p) h)
 have hR:Hid (frmR p=if prtE p=0 then Qbr p else []):=hid rfl
 have C1:=QaW w 110 (PaC p (.slice A n c))
 have hP8:=hid (fun w=>QhD 8 (by omega) (by omega) p.id (.inl rfl) w)
 generalize frmR p=R at *
 generalize prtE p=E at *
 go_enter Tryz.func50,Tryz.ntmps50
 go_wp2_with (first
  | (refine go_l rfl ?_;refine Qj6 rfl _ rfl (C1.nth 0 rfl) rfl ?_)
  | fail)
 (refine (hCk.out _).mono ?_);rintro e w2 ⟨rfl,j2⟩
 have C2:=C1.later j2
 clear C1 j2 hCk
 by_cases h0:E=0
 case neg=>
  have hne:((E:Int) != 0)=true:=by simp;omega
  have hR':=hid (hR.out.trans (if_neg h0))
  go_wp2_with fail
  go_ret2
  exact⟨none,0,by rw[hR'.out];rfl,by rw[hR'.out];exact Qcq _ _ _,C2.lat⟩
 subst h0
 have hz':=hid (hz.out (by trivial))
 have hR':=hid (hR.out.trans (if_pos (by trivial)))
 have hn450:n≤450:=by have:=hz'.out.2.1;omega
 have hend:=hid (Qvi p (by omega))
 have hlb:=Qe9 p (by omega)
 clear hz hR hz'
 obtain⟨c0,c1,c2,c3,c4⟩:=QcP (C2.nth 0 rfl)
 go_wp2_with fail
 refine (hP8.out _).mono ?_
 rintro e w3 ⟨g3,rfl,hg3,hb3,j3⟩
 have C3:=C2.later j3
 obtain⟨c0,c1,c2,c3,c4⟩:=QcP (C3.nth 0 rfl)
 go_wp2_with fail
 have hP2:=QhD 2 (by omega) (by omega) (QDC (n:Int)) (.inr (by rw[QyW n (by omega)];omega)) w3
 rw[QyW n (by omega)]at hP2
 refine hP2.mono ?_
 rintro e w4 ⟨g4,rfl,hg4,hb4,j4⟩
 clear hP2
 have C4:=C3.later j4
 have hb3':=hb3.later j4
 have hfs:=hid (QtN p)
 rw[Qob]at hfs
 have l0:(QCC 480 (Value.int .u8 0)).length=480:=by rw[QCS]
 have hf3:=QgO p
 obtain⟨c0,c1,c2,c3,c4⟩:=QcP (C4.nth 0 rfl)
 go_wp2_with (first
  | (refine QaF rfl _ _ _ rfl 5 _ 1 Tryz.underlying22 Qdo rfl _ _ _ _ 480 rfl rfl rfl rfl (by omega) (by omega) ?_;intro w5 hb5 hl5
     have C5:=C4.fresh hl5 (QCP _) hb5
     obtain⟨c0,c1,c2,c3,c4⟩:=QcP (C5.nth 1 rfl))
  | (refine QaZ rfl ?_;refine Qad rfl rfl _ _ _ rfl w4.heap.size 16 _ _ (C5.nth 0 rfl) rfl (by rw[l0];omega) rfl (by kernel_rfl) ?_;intro v6 w6 hv6 hb6 ho6;simp[go_sem]at hv6;subst hv6
     have C6:=C5.write 0 rfl ho6 hb6
     obtain⟨c0,c1,c2,c3,c4⟩:=QcP (C6.nth 1 rfl))
  | (refine QaZ rfl ?_;refine Qad rfl rfl _ _ _ rfl w4.heap.size 17 _ _ (C6.nth 0 rfl) rfl (by rw[QDl,l0];omega) rfl (by kernel_rfl) ?_;intro v7 w7 hv7 hb7 ho7;simp[go_sem]at hv7;subst hv7
     have C7:=C6.write 0 rfl ho7 hb7
     obtain⟨c0,c1,c2,c3,c4⟩:=QcP (C7.nth 1 rfl))
  | (refine QaZ rfl ?_;refine Qad rfl rfl _ _ _ rfl w4.heap.size 18 _ _ (C7.nth 0 rfl) rfl (by rw[QDl,QDl,l0];omega) rfl (by kernel_rfl) ?_;intro v8 w8 hv8 hb8 ho8;simp[go_sem]at hv8;subst hv8
     rw[hfs.out]at hb8
     have C8:=C7.write 0 rfl ho8 hb8
     have l8:=((hl5.only ho6 (QCP _)).only ho7 (QCP _)).only ho8 (QCP _))
  | (refine Qas rfl _ _ _ _ rfl 5 Tryz.underlying22 Qbt w4.heap.size 20 460 460 _ _ (C8.nth 0 rfl) (some ⟨g3,0,none⟩) 8 8 ((bigB 8 p.id.toNat).map W8) ((hb3'.later l8).rd (by rw[QCF,Qap])) (QaH _) rfl rfl (by rw[QCF,hf3];omega) ?_;intro w9 hb9 ho9
     rw[QCQ (by rw[QCF,Qap];omega),QcB]at hb9
     have C9:=C8.write 0 rfl ho9 hb9
     have l9:=l8.only ho9 (QCP _))
  | (refine Qas rfl _ _ _ _ rfl 5 Tryz.underlying22 Qbt w4.heap.size 28 452 452 _ _ (C9.nth 0 rfl) (some ⟨g4,0,none⟩) 2 2 ((bigB 2 n).map W8) ((hb4.later l9).rd (by rw[QCF,Qap])) (QaH _) rfl rfl (by rw[QCF,Qbp (by rw[hf3,Qap];omega),hf3];omega) ?_;intro wa hba hoa
     rw[QCQ (by rw[QCF,Qap];omega),QcB]at hba
     have Ca:=(C9.write 0 rfl hoa hba).drew
     obtain⟨c0,c1,c2,c3,c4⟩:=QcP (Ca.nth 1 rfl)
     have hlg:=(Ca.nth 1 rfl).lt)
  | fail)
 simp only[Act.put,QCL,QCO,QCN]
 refine Qag [] [0,1,2,3] [4] (by as_aux_lemma=>kernel_rfl) (by as_aux_lemma=>kernel_rfl) (by intro _ _ d _ _ h;cases d<;>exact h) ?_
 simp only[Qah,pick,QCD,QCE,QCG,QCI,QCH]
 repeat (go_big_quiet_step (fail))
 refine wpQuiet_nil ?_
 go_wp2_with (first
  | (refine Qas rfl _ _ _ _ rfl 5 Tryz.underlying22 Qbt w4.heap.size 30 450 450 _ _ (Ca.nth 0 rfl) A n c (p.da.map W8) (Rd.later hr Ca.lat) (QaH _) rfl rfl (by rw[QCF,Qbp (by rw[Qbp (by rw[hf3,Qap];omega),hf3,Qap];omega),Qbp (by rw[hf3,Qap];omega),hf3];omega) ?_;intro wb hbb hob
     have Cb:=Ca.write 0 rfl hob hbb)
  | fail)
 rw[←hl]at hbb
 rw[QCQ (by rw[QCF];omega),QcB,hend.out]at hbb
 go_ret2
 have ho:=Qdt hbb (Ca.at_low 0 rfl) (by rw[QCF,hlb];omega)
 rw[QCF,hlb]at ho
 exact⟨some ⟨w4.heap.size,0,none⟩,480,by rw[hR'.out,hlb];rfl,by rw[hR'.out,hlb];exact ho,Cb.lat⟩
theorem Qo3 {ops:Array Oper} {o:Oper} {a:Act} (hw:Region.wanted o (yielded ops a.tmps)=true) (x y:Operand) (ho:o.op= .buildSlice 22 2 #[(0,x),(1,y)]) {u v:UInt8} (hx:a.eval x=W8 u) (hy:a.eval y=W8 v):
 Makes Tryz.prog ops o (fun g=>.slice (some ⟨g,0,none⟩) 2 2) (.cells #[W8 u,W8 v] 5) a:=
 ⟨hw,fun w=>by
   unfold execOp
   rw[ho]
   simp only[QCT,QC9,QC3,hx,hy]
   simp[go_sem,W8]⟩
set_option maxRecDepth 100000 in
set_option maxHeartbeats 4000000 in
theorem QmV (c:Cmd) (h:cmdE c=0) (w:World):Calls Tryz.prog 100 #[.agg (CC c).toArray] w fun e w'=>∃A' c',e= .returned (.tuple #[.slice A' 32 c',.int .i64 0])∧OwnB w' w.heap.size A' 32 c' (encB c)∧Later w w':=by
 have C1:=QaW w 62 (CC c)
 have hCk:=hid (fun w=>Qg1 c w)
 rw[h]at hCk
 have hP4:=hid (fun w=>QhD 4 (by omega) (by omega) c.dl.toUInt64 (.inr (by have:=c.dl.toNat_lt;simpa using this)) w)
 have hP8:=hid (fun w=>QhD 8 (by omega) (by omega) c.nx (.inl rfl) w)
 go_enter Tryz.func100,Tryz.ntmps100
 go_wp2_with (first
  | (refine go_l rfl ?_;refine QcU rfl _ rfl (C1.nth 0 rfl) rfl ?_)
  | fail)
 refine (hCk.out _).mono ?_
 rintro e w2 ⟨rfl,j2⟩
 have C2:=C1.later j2
 obtain⟨k0,k1,k2,k3,k4⟩:=QeI (C2.nth 0 rfl)
 go_wp2_with fail
 refine (hP4.out w2).mono ?_
 rintro e w3 ⟨g3,rfl,hg3,hb3,j3⟩
 have C3:=C2.later j3
 obtain⟨k0,k1,k2,k3,k4⟩:=QeI (C3.nth 0 rfl)
 go_wp2_with fail
 refine (hP8.out w3).mono ?_
 rintro e w4 ⟨g4,rfl,hg4,hb4,j4⟩
 have C4:=(C3.later j4).drew
 have hB3:=(hb3.later j4).drew
 have hB4:=hb4.drew
 obtain⟨k0,k1,k2,k3,k4⟩:=QeI (C4.nth 0 rfl)
 have hlw:=(C4.nth 0 rfl).lt
 have r16:RdB w4.drew (some ⟨w.heap.size,4,none⟩) 16 c.ma.val:=Qdf hlw (fun j v hv=>k4 j v hv) c.ma.2
 go_wp2_with fail
 refine Qay [0,1,2,3,5,6,7,8] [([],1,9),([],2,4),([],1,10),([],1,11)] [12,13] [] [4] (fun _=>(fun g=>.slice (some ⟨g,0,none⟩) 2 2,.cells #[W8 c.kd,W8 c.fl] 5)) (by as_aux_lemma=>kernel_rfl) (by as_aux_lemma=>kernel_rfl) (by intro _ _ d _ _ h;cases d<;>exact h) (by intro _ _ d _ _ h;cases d<;>exact h) ?_
 simp only[pick,QCD,QCE,QCG,QCI,QCH]
 repeat (go_big_quiet_step (fail))
 refine wpQuiet_nil ?_
 refine⟨?mk,?_⟩
 case mk=>
  refine⟨fun o ho=>?_,trivial⟩
  simp only[QCD,QCE,Option.some.injEq]at ho
  subst ho
  exact Qo3 rfl _ _ rfl rfl rfl
 simp only[Qbi,pick,QCD,QCE,QCG,QCI,QCH]
 refine wpQuiet_nil ?_
 intro p1 q1
 go_wp2_with (first
  | (refine QaF rfl _ _ _ rfl 5 _ 1 Tryz.underlying22 Qdo rfl _ _ _ _ 2 rfl rfl rfl rfl (by omega) (by omega) ?_;intro p2 hz2 q2)
  | fail)
 try refine⟨by first|assumption|exact Qab _|exact Qaa _ _|exact Later.refl _,?_⟩
 try simp only[Qah,pick,QCD,QCE,QCG,QCI,QCH]
 repeat (go_big_quiet_step (fail))
 refine wpQuiet_nil ?_
 intro p3 g5 q3 hg5 _ hb5
 refine wpQuiet_nil ?_
 intro p4 q4
 go_wp2_with fail
 have q5:=Qaa p4 (.cells #[.slice (some ⟨g5,0,none⟩) 2 2,.slice (some ⟨g3,0,none⟩) 4 4,.slice (some ⟨g4,0,none⟩) 8 8,.slice (some ⟨w.heap.size,4,none⟩) 16 16,.slice (some ⟨p1.heap.size,0,none⟩) 2 2] 22)
 try refine⟨by first|assumption|exact Qab _|exact Qaa _ _|exact Later.refl _,?_⟩
 try simp only[Qah,pick,QCD,QCE,QCG,QCI,QCH]
 repeat (go_big_quiet_step (fail))
 refine wpQuiet_nil ?_
 intro p6 q6
 go_wp2_with fail
 have L6:=q1.trans (q2.trans (q3.trans (q4.trans (q5.trans q6))))
 have h4:(bigB 4 c.dl.toUInt64.toNat).length=4:=Qap _ _
 have h8:(bigB 8 c.nx.toNat).length=8:=Qap _ _
 have hz:Blk p6 p1.heap.size 5 (([0,0]:List UInt8).map W8):=Blk.later (show Blk p2 p1.heap.size 5 (([0,0]:List UInt8).map W8) from hz2) (q3.trans (q4.trans (q5.trans q6)))
 have hP:=QdM (((Blk.new p4 22 [.slice (some ⟨g5,0,none⟩) 2 2,.slice (some ⟨g3,0,none⟩) 4 4,.slice (some ⟨g4,0,none⟩) 8 8,.slice (some ⟨w.heap.size,4,none⟩) 16 16,.slice (some ⟨p1.heap.size,0,none⟩) 2 2]).later q6).rd rfl) (ps:=[[c.kd,c.fl],bigB 4 c.dl.toUInt64.toNat,bigB 8 c.nx.toNat,c.ma.val,[0,0]])
  ⟨QaM (Qcr (Blk.later (show Blk p3 g5 5 (([c.kd,c.fl]:List UInt8).map W8) from hb5) (q4.trans (q5.trans q6))) rfl) (QCP _),QaM (Qcr (hB3.later L6) h4) (QCP _),QaM (Qcr (hB4.later L6) h8) (QCP _),QaM (r16.later L6) (QCP _),QaM (Qcr hz rfl) (QCP _),trivial⟩
 have hfl:([[c.kd,c.fl],bigB 4 c.dl.toUInt64.toNat,bigB 8 c.nx.toNat,c.ma.val,[0,0]]:List (List UInt8)).flatten=encB c:=by
  simp only[QDU,QEV,QDf]
  rfl
 have hJ:=Qcy (some ⟨p4.heap.size,0,none⟩) 5 5 _ p6 hP (by omega) (by rw[hfl,QcE];omega)
 rw[hfl,QcE]at hJ
 refine hJ.mono ?_
 rintro e p7 ⟨A7,c7,rfl,o7,q7⟩
 clear hJ hP
 go_wp2_with fail
 try refine⟨by first|assumption|exact Qab _|exact Qaa _ _|exact Later.refl _,?_⟩
 try simp only[Qah,pick,QCD,QCE,QCG,QCI,QCH]
 repeat (go_big_quiet_step (fail))
 refine wpQuiet_nil ?_
 intro p8 q8
 go_wp2_with fail
 go_ret2
 exact⟨A7,c7,rfl,Qc3 (Qa5 o7 q8) (QDm C4.lat.size L6.size),C4.lat.trans (L6.trans (q7.trans q8))⟩
theorem Bag.cast {w wk:World} {ls ls':List (Nat×TypeId×List Value)} (h:Bag w wk ls) (e:ls=ls'):Bag w wk ls':=e ▸ h
theorem Qqy (g:Nat) (w:World):Calls Tryz.prog 161 #[.int .i64 0,.pointer (some ⟨g,0,none⟩)] w fun e w'=>e= .returned (.tuple #[])∧Later w w':=by
 go_enter Tryz.func161,Tryz.ntmps161
 go_wp2_with fail
 exact bodyPost_end (results_none rfl _ _ _) rfl ⟨rfl,Later.refl w⟩
set_option maxRecDepth 100000 in
set_option maxHeartbeats 4000000 in
theorem Qvp (A:Option Addr) (n c:Nat) (cs:List Cmd) (w:World) (hcr:RdF CC 20 cmd0 w A n cs) (h1:1≤n) (h5:n≤5) (hok:∀i,i<n→cmdE (cs.getD i cmd0)=0∧((cs.getD i cmd0).kd=1↔i+1<n)):
 Calls Tryz.prog 98 #[.slice A n c,.int .i64 (n:Int)] w fun e w'=>e= .returned (.int .i64 0)∧Later w w':=by
 have hmf:∀(fn:Fn) (first cap:Array Value) (w:World),(Instr.makeFunc fn first cap).run Tryz.prog w= .ok (.func fn first cap) w:=fun _ _ _ _=>rfl
 have hok':=hid hok
 clear hok
 have k1:decide ((n:Int)<1)=false:=decide_eq_false (by omega)
 have k5:decide ((5:Int)<(n:Int))=false:=decide_eq_false (by omega)
 have hNt:=hid Qqy
 go_enter Tryz.func98,Tryz.ntmps98
 go_wp2_with (first
  | (refine QaZ rfl ?_;refine Qad rfl rfl _ _ _ rfl w.heap.size 0 _ _ (Blk.new w _ [.int .i64 0]) rfl (by simp) rfl (by kernel_rfl) ?_;intro v1 w1 hv1 hb1 ho1;simp[go_sem]at hv1;subst hv1)
  | fail)
 have l1:Later w w1:=(Qaa w _).only ho1 (QCP _)
 go_loopw [13] (fun i wr=>∃k:Nat,k≤n∧i= .int .i64 k∧Later w1 wr) (fun i _=>n-(intOf i).toNat)
 case atStart=>exact⟨0,by omega,rfl,Later.refl _⟩
 case round=>
  obtain⟨k,hk,rfl,L⟩:=hrel
  by_cases hlt:k<n
  ·obtain⟨b,o,rfl,hb,hc⟩:=(hcr.later (l1.trans L)).at_ hlt
   obtain⟨hE0,hkd⟩:=hok'.out k hlt
   have hCk:=hid (fun w=>Qg1 (cs.getD k cmd0) w)
   rw[hE0]at hCk
   generalize cs.getD k cmd0=C at *
   obtain⟨lb,e1,e2⟩:∃lb:Bool,((k:Int)+1==(n:Int))=lb∧(C.kd==1)= !lb:=by
    by_cases hl:k+1=n
    ·exact⟨true,by simp;omega,by simp only[Bool.not_true,beq_eq_false_iff_ne];intro e;have:=hkd.1 e;omega⟩
    ·exact⟨false,by simp;omega,by simp only[Bool.not_false,beq_iff_eq];exact hkd.2 (by omega)⟩
   clear hkd hE0
   go_wp2_with (first
    | (refine go_l rfl ?_;refine Qan rfl 62 _ rfl b (o+k*20) (CC C) hc rfl _ Tryz.underlying62 rfl (by rw[Qar];exact Qed) ?_)
    | (refine QaZ rfl ?_;refine Qb1 rfl rfl _ _ rfl (Blk.new wr _ cz0) rfl rfl rfl ?_;intro w2 hb2 ho2
       have l2:Later wr w2:=(Qaa wr _).only ho2 (QCP _))
    | (refine go_l rfl ?_;refine QcU rfl _ rfl hb2 rfl ?_)
    | fail)
   refine (hCk.out w2).mono ?_
   rintro e w3 ⟨rfl,j3⟩
   go_wp2_with fail
   refine (hNt.out _ w3).mono ?_
   rintro e w4 ⟨rfl,j4⟩
   have c0:=(QeI (hb2.later (j3.trans j4))).1
   have hl4:=(hb2.later (j3.trans j4)).lt
   cases lb
   all_goals
    go_wp2_with fail
    exact⟨⟨k+1,by omega,by go_num,L.trans (l2.trans (j3.trans j4))⟩,by simp[intOf];omega⟩
  ·obtain rfl:k=n:=by omega
   have c0:=(hb1.later L).cellD 0 (u:=.int .i64 0) rfl
   have hlw:=(hb1.later L).lt
   go_wp2_with fail
   go_ret
   exact⟨rfl,l1.trans L⟩
theorem QwQ:Tryz.zeroCells170.toList.length=192:=by kernel_rfl
theorem Qok:(Tryz.prog.info? 170).map (·.size)=some 192:=by kernel_rfl
set_option maxRecDepth 100000 in
set_option maxHeartbeats 4000000 in
theorem Qni (A:Option Addr) (m d:Nat) (xs:List (List UInt8)) (st:Nat→List UInt8) (hstx:∀i,i<m→xs.getD i []=st i) (w:World) (hr:RdK 192 w A m xs) (hxl:∀x∈xs,x.length=192) (h1:1≤m) (h5:m≤5) (hmd:m≤d):
 Calls Tryz.prog 99 #[.slice A m d] w fun e w'=>∃A' c',e= .returned (.tuple #[.slice A' (48*(m-1)) c',.int .i64 0])∧OwnB w' w.heap.size A' (48*(m-1)) c' (QeS st (m-1))∧Later w w':=by
 have hxn:=hr.1
 have hst:=hid (fun k (h:k<m)=>hxl _ (QdC xs k (by omega)))
 have hfs:Hid (∀ k,k<m→QeS st (k+1)=xorB (QeS st k++QCC 48 0) ((chaS (subB (xs.getD k []) 32 32) 288).drop (288-48*(k+1)))):=hid (fun k hk=>by rw[hstx k hk];rfl)
 have hf0:Hid (QeS st 0=[]):=hid rfl
 have hfl:=hid (fun k h=>Qc9 st k h)
 have hchl:=hid (fun key=>Qaz key 288)
 generalize QeS st=FA at *
 clear hstx
 obtain⟨b,o,rfl,hb,hc⟩:∃b o,A=some ⟨b,o,none⟩∧b<w.heap.size∧∀k,k<m→∀(w':World),Later w w'→∀j v,((xs.getD k []).map W8)[j]?=some v→w'.cell? ⟨b,o+k*192+j,none⟩=some v:=by
  obtain⟨b,o,hA,hb,_⟩:=hr.sub (k:=0) (by omega)
  refine⟨b,o,hA,hb,fun k hk w' l j v hv=>?_⟩
  obtain⟨b',o',hA',_,h⟩:=hr.sub (k:=k) hk
  rw[hA]at hA'
  cases hA'
  have:=h w' l 0 192 (xs.getD k []) (by rw[subB,QD7,QCQ (by have:=hst.out k hk;omega)]) j v hv
  rwa [QD8]at this
 have k1:decide ((m:Int)<1)=false:=decide_eq_false (by omega)
 have k2:decide ((5:Int)<(m:Int))=false:=decide_eq_false (by omega)
 have hcut:∀W,(Instr.sliceAt 161 (.slice (some ⟨b,o,none⟩) m d) none (some (.int .i64 ((m:Int)-1))) none).run Tryz.prog W= .ok (.slice (some ⟨b,o,none⟩) (m-1) d) W:=fun W=>by
  simp[go_sem]
  omega
 replace hc:=hid hc
 clear hr
 go_enter Tryz.func99,Tryz.ntmps99
 go_wp2_with fail
 go_loopw [4,24] (fun v i wr=>∃(k:Nat) (A':Option Addr) (c':Nat),k≤m-1∧i= .int .i64 k∧v= .slice A' (48*k) c'∧OwnB wr w.heap.size A' (48*k) c' (FA k)∧Later w wr) (fun _ i _=>m-1-(intOf i).toNat)
 case atStart=>exact⟨0,none,0,by omega,rfl,rfl,by rw[hf0.out];exact Qcq _ _ _,Later.refl w⟩
 case round=>
  obtain⟨k,A1,c1,hk,rfl,rfl,hown,L⟩:=hrel
  by_cases hlt:k<m-1
  ·have hTl:=hst.out k (by omega)
   have hkl:(subB (xs.getD k []) 32 32).length=32:=Qaq (by omega)
   have hck:=hc.out k (by omega) wr L
   have hs:=hid (hfs.out k (by omega))
   have hbw:=QCX hb L.size
   have hcap1:=OwnB.cap hown
   have hFk:=hfl.out k (by omega)
   generalize hT:xs.getD k []=T at *
   clear hT
   have hS32:Hid (∀ {w':World} {g:Nat},Blk w' g 170 (T.map W8)→RdB w' (some ⟨g,32,none⟩) 32 (subB T 32 32)):=hid (fun h=>QbR h rfl hkl)
   generalize subB T 32 32=S at *
   generalize FA k=F at *
   go_wp2_with (first
    | (refine go_l rfl ?_;refine Qan rfl 170 _ rfl b (o+k*192) (T.map W8) hck rfl _ Tryz.underlying170 rfl (by rw[QCF,hTl];exact Qok) ?_)
    | (refine QaZ rfl ?_;refine QgT 192 rfl rfl _ _ rfl (Blk.new wr _ Tryz.zeroCells170.toList) rfl rfl Qok hTl QwQ ?_;intro w2 hb2 ho2
       have l2:Later wr w2:=(Qaa wr _).only ho2 (QCP _))
    | fail)
   refine (Qi6 (some ⟨wr.heap.size,32,none⟩) 32 288 S w2 (hS32.out hb2) (by omega)).mono ?_
   rintro e w3 ⟨A3,c3,rfl,o3,j3⟩
   have hcap3:=OwnB.cap o3
   go_wp2_with (first
    | (refine QaF rfl _ _ _ rfl 5 _ 1 Tryz.underlying22 Qdo rfl _ _ _ _ 48 rfl rfl rfl rfl (by omega) (by omega) ?_;intro w4 hb4 hl4)
    | fail)
   have hz48:QCC 48 (Value.int .u8 0)=(QCC 48 (0:UInt8)).map W8:=by rw[QDi];rfl
   rw[hz48]at hb4
   have J4:=(l2.trans j3).trans hl4
   have P4:=Qd7 (Blk.new w4 22 [.slice A1 (48*k) c1,.slice (some ⟨w3.heap.size,0,none⟩) 48 48]) (QaM (OwnB.rd (Qa5 hown (J4.trans (Qaa _ _)))) hcap1) (QaM (Qcr (hb4.later (Qaa _ _)) (by rw[QCS])) (QCP _))
   have hflat:([F,QCC 48 (0:UInt8)]:List (List UInt8)).flatten=F++QCC 48 0:=by simp
   have hFl2:(F++QCC 48 (0:UInt8)).length=48*k+48:=by rw[QCM,QCS,hFk]
   have hJn:=Qcy (some ⟨w4.heap.size,0,none⟩) 2 2 _ _ P4 (by omega) (by rw[hflat,hFl2];omega)
   rw[hflat,hFl2]at hJn
   refine hJn.mono ?_
   rintro e w5 ⟨A5,c5,rfl,o5,j5⟩
   have hcap5:=OwnB.cap o5
   clear hJn P4 hb4
   have hch:=hchl.out S
   obtain⟨DA,dc,hcut2,hbd,hdc⟩:∃(DA:Option Addr) (dc:Nat),(∀ W,(Instr.sliceAt 22 (.slice A3 288 c3) (some (.int .i64 ((288:Int)-(48*(k:Int)+48)))) none none).run Tryz.prog W= .ok (.slice DA (48*k+48) dc) W)∧RdB w5 DA (48*k+48) ((chaS S 288).drop (288-48*(k+1)))∧48*k+48≤dc:=by
    refine⟨cutA A3 (288-48*(k+1)) c3,c3-(288-48*(k+1)),fun W=>?_,?_,by omega⟩
    ·have:=QhW A3 288 c3 .i64 (288-48*(k+1)) (by omega) W
     rw[show (288:Int)-(48*(k:Int)+48)=((288-48*(k+1):Nat):Int) by omega,this,show 288-(288-48*(k+1))=48*k+48 by omega]
    ·have h:=RdB.cut ((OwnB.rd o3).later (hl4.trans ((Qaa _ _).trans j5))) (k:=288-48*(k+1)) (by omega) hcap3
     rwa [show 288-(288-48*(k+1))=48*k+48 by omega]at h
   have J5:=J4.trans ((Qaa _ _).trans j5)
   have P6:=Qd7 (Blk.new w5 22 [.slice A5 (48*k+48) c5,.slice DA (48*k+48) dc]) (QaM (OwnB.rd (Qa5 o5 (Qaa _ _))) hcap5) (QaM (RdB.later hbd (Qaa _ _)) hdc)
   have hX:=QkT (some ⟨w5.heap.size,0,none⟩) 2 (48*k+48) _ _ _ P6 hFl2 (by rw[QC6,hch];omega) (by omega)
   rw[←hs.out]at hX
   go_wp2_with fail
   refine hX.mono ?_
   rintro e w6 ⟨A6,c6,rfl,o6,j6⟩
   clear hX P6
   go_wp2_with fail
   exact⟨⟨k+1,A6,c6,by omega,by go_num,rfl,Qc3 o6 (L.trans (J5.trans (Qaa _ _))).size,L.trans (J5.trans ((Qaa _ _).trans j6))⟩,by simp[intOf];omega⟩
  ·obtain rfl:k=m-1:=by omega
   go_wp2_with fail
   go_ret2
   exact⟨A1,c1,rfl,hown,L⟩
def hdrS (n:Nat) (sl st:Nat→List UInt8):Nat→List UInt8
 | 0=>QCC 288 0
 | j+1=>hdrA n sl st j
theorem QBq {H al be:List UInt8} (hH:H.length=288) (ha:al.length=32) (hb:be.length=240):∃Y:List UInt8,Y.length=16∧putB (putB H 0 al) 48 be=al++(Y++be):=by
 obtain⟨X,Y,Z,rfl,hX,hY,hZ⟩:∃X Y Z:List UInt8,H=X++(Y++Z)∧X.length=32∧Y.length=16∧Z.length=240:=⟨H.take 32,(H.drop 32).take 16,(H.drop 32).drop 16,by rw[QDa,QDa],by rw[QC5];omega,by rw[QC5,QC6];omega,by rw[QC6,QC6];omega⟩
 have s1:putB (X++(Y++Z)) 0 al=al++(Y++Z):=by
  have:=Qca [] X (Y++Z) al 0 rfl (by omega)
  simpa using this
 have s2:putB (al++(Y++Z)) 48 be=al++(Y++be):=by
  have:=Qca (al++Y) Z [] be 48 (by rw[QCM];omega) (by omega)
  simpa using this
 exact⟨Y,hY,by rw[s1,s2]⟩
theorem QxO {al Y be:List UInt8} (ha:al.length=32) (hY:Y.length=16) (hb:be.length=240):subB (al++(Y++be)) 0 32=al∧subB (al++(Y++be)) 48 240=be:=by
 constructor
 ·rw[subB,QD7,QDx ha]
 ·rw[subB,←QCU,QDj (by rw[QCM];omega),QCQ (by omega)]
theorem QjC {w:World} {b p n:Nat} {r:List UInt8} (hb:b<w.heap.size) (hc:∀j v,(r.map W8)[j]?=some v→w.cell? ⟨b,p+j,none⟩=some v) (hn:r.length=n):RdB w (some ⟨b,p,none⟩) n r:=Qdf hb hc hn
set_option maxRecDepth 100000 in
set_option maxHeartbeats 8000000 in
theorem Qp7 (A B:Option Addr) (n c d:Nat) (cs:List Cmd) (xs:List (List UInt8)) (w:World) (hcr:RdF CC 20 cmd0 w A n cs) (hr:RdK 192 w B n xs) (hxl:∀x∈xs,x.length=192) (h1:1≤n) (h5:n≤5) (hnd:n≤d)
 (hok:∀i,i<n→cmdE (cs.getD i cmd0)=0∧((cs.getD i cmd0).kd=1↔i+1<n))
 (sl st:Nat→List UInt8) (hsa:∀k,(sl k).length=32) (hsl:∀i,i<n→encB (cs.getD i cmd0)=sl i) (hst:∀i,i<n→xs.getD i []=st i):
 Calls Tryz.prog 45 #[.slice A n c,.slice B n d] w fun e w'=>e= .returned (.tuple #[.agg ((hdrA n sl st (n-1)).map W8).toArray,.int .i64 0])∧Later w w':=by
 have hok':=hid hok
 obtain⟨F,hF⟩:∃F,F=48*(n-1):=⟨_,rfl⟩
 obtain⟨Z,hZ⟩:∃Z,Z=208-F:=⟨_,rfl⟩
 have hEr:=hid (fun w h=>Qvp A n c cs w h h1 h5 hok)
 have hFi:=hid (fun w h=>Qni B n d xs st hst w h hxl h1 h5 hnd)
 rw[←hF]at hFi
 have hb0:Hid (betA n sl st 0=xorB (sl (n-1)++QCC Z 0) (chaS (subB (st (n-1)) 32 32) (32+Z))++QeS st (n-1)):=hid (by
  rw[betA,←hF,←hZ,show 240-F=32+Z by omega]
  rfl)
 have hsll:=hid hsa
 have hstl:Hid (∀ i,i<n→(st i).length=192):=hid (fun i hi=>by rw[←hst i hi];exact hxl _ (QdC xs i (by have:=hr.1;omega)))
 obtain⟨bS,oS,rfl,hbS,hcS⟩:∃b o,B=some ⟨b,o,none⟩∧b<w.heap.size∧∀k,k<n→∀(w':World),Later w w'→∀(off q:Nat) (r:List UInt8),subB (st k) off q=r→∀j v,(r.map W8)[j]?=some v→w'.cell? ⟨b,o+k*192+off+j,none⟩=some v:=by
  obtain⟨b,o,hA,hb,_⟩:=hr.sub (k:=0) (by omega)
  refine⟨b,o,hA,hb,fun k hk=>?_⟩
  obtain⟨b',o',hA',_,h⟩:=hr.sub (k:=k) hk
  rw[hA]at hA'
  cases hA'
  rw[←hst k hk]
  exact h
 replace hcS:=hid hcS
 have hcM:Hid (∀ k,k<n→∀(w':World),Later w w'→∀j v,((subB (st k) 0 32).map W8)[j]?=some v→w'.cell? ⟨bS,oS+k*192+j,none⟩=some v):=hid (fun k hk w' h j v hv=>by
  have:=hcS.out k hk w' h 0 32 _ rfl j v hv
  rwa [QD8]at this)
 have hkl:Hid (∀ k off,k<n→off+32≤192→(subB (st k) off 32).length=32):=hid (fun k off hk ho=>Qaq (by rw[hstl.out k hk];omega))
 have hbl:=hid (fun j=>Qby (st:=st) h1 h5 hsa j)
 have hsl':=hid hsl
 have hZ1:(240:Int)-(F:Int)-32=(Z:Int):=by omega
 have hZF:32+Z+F=240:=by omega
 clear hst hsl hF hZ hok hxl
 have B0:Bag w (w.alloc (.cells Tryz.zeroCells39 39)) [(w.heap.size,39,(QCC 288 (0:UInt8)).map W8)]:=(Bag.none w).add (Qaa _ _) (by simp) (QCP _) ((Blk.new w _ Tryz.zeroCells39.toList).cast zcH)
 go_enter Tryz.func45,Tryz.ntmps45
 go_wp2_with fail
 refine (hEr.out _ (hcr.later B0.lat)).mono ?_
 rintro e w1 ⟨rfl,j1⟩
 have B1:=B0.later j1
 go_wp2_with fail
 refine (hFi.out w1 (hr.later B1.lat)).mono ?_
 rintro e w2 ⟨A2,c2,rfl,o2,j2⟩
 have B2:=B1.later j2
 have rF:=OwnB.rd o2
 have cF:=OwnB.cap o2
 clear hEr hFi B0 B1 o2
 have hB3:Blk (w2.alloc (.cells Tryz.zeroCells39 39)) w2.heap.size 39 ((hdrS n sl st 0).map W8):=(Blk.new w2 _ Tryz.zeroCells39.toList).cast zcH
 go_wp2_with fail
 have l3:Later w2 (w2.alloc (.cells Tryz.zeroCells39 39)):=Qaa _ _
 generalize w2.alloc (.cells Tryz.zeroCells39 39)=w3 at *
 generalize hgH:w2.heap.size=gH at *
 go_loopw [10] (fun iv wr=>∃j:Nat,j≤n∧iv= .int .i64 ((n:Int)-1-(j:Int))∧Blk wr gH 39 ((hdrS n sl st j).map W8)∧Later w2 wr) (fun iv _=>(intOf iv+1).toNat)
 case atStart=>exact⟨0,by omega,by simp,hB3,l3⟩
 case round=>
  clear hB3 l3
  obtain⟨j,hj,rfl,hB,L⟩:=hrel
  have hLw:=(B2.lat.trans L)
  by_cases hjn:j<n
  ·obtain⟨i,hi⟩:∃i,i=n-1-j:=⟨_,rfl⟩
   have hcast:(n:Int)-1-(j:Int)=(i:Int):=by omega
   rw[hcast]
   have hin:i<n:=by omega
   have hHl:(hdrS n sl st j).length=288:=by
    cases j with
    | zero=>exact QCS
    | succ j=>
      show (hdrA n sl st j).length=288
      rw[hdrA,QCM,QCM,Qc5 (hstl.out _ (by omega)),hbl.out,tagA,Qbw]
   obtain⟨b,o,rfl,hbb,hc⟩:=(hcr.later hLw).at_ hin
   obtain⟨hE0,_⟩:=hok'.out i hin
   have hEn:=hid (fun w=>QmV (cs.getD i cmd0) hE0 w)
   rw[hsl'.out i hin]at hEn
   have hml:=hkl.out i 0 hin (by omega)
   have hsl3:=hkl.out i 32 hin (by omega)
   have hal:=hkl.out i 128 hin (by omega)
   have hmM:=hid (fun w' h=>hcM.out i hin w' h)
   have hmS:=hid (fun w' h=>hcS.out i hin w' h 32 32 _ rfl)
   have hmA:=hid (fun w' h=>hcS.out i hin w' h 128 32 _ rfl)
   have hge:(0:Int)≤(i:Int):=by omega
   have hbr:=hbl.out j
   have hst':Hid (hdrS n sl st (j+1)=subB (st i) 128 32++(tagB (subB (st i) 0 32) (subB (st i) 128 32) (betA n sl st j)++betA n sl st j)):=hid (by
    show hdrA n sl st j=_
    rw[hdrA,tagA,←hi]
    rfl)
   have hbe:Hid (betA n sl st j=if j=0 then xorB (sl i++QCC Z 0) (chaS (subB (st i) 32 32) (32+Z))++QeS st (n-1) else xorB (sl i++(subB (hdrS n sl st j) 32 16++(subB (hdrS n sl st j) 48 240).take 192)) (chaS (subB (st i) 32 32) 240)):=hid (by
    cases j with
    | zero=>
      rw[if_pos rfl,hb0.out,show i=n-1 by omega]
    | succ j=>
      obtain⟨_,h2,h3⟩:=Qj9 h1 h5 hsll.out (st:=st) j (Qc5 (hstl.out _ (by omega)))
      rw[if_neg (by omega)]
      show _=xorB (sl i++(subB (hdrA n sl st j) 32 16++(subB (hdrA n sl st j) 48 240).take 192)) _
      rw[h2,h3,betA,show n-2-j=i by omega]
      rfl)
   generalize betA n sl st j=BJ at *
   generalize hdrS n sl st j=H at *
   generalize subB (st i) 0 32=M at *
   generalize subB (st i) 128 32=AL at *
   generalize subB (st i) 32 32=S at *
   have hslil:=hsll.out i
   replace hcast:=hid hcast
   replace hi:=hid hi
   generalize sl i=SL at *
   clear hE0
   go_wp2_with (first
    | (refine go_l rfl ?_;refine Qan rfl 62 _ rfl b (o+i*20) (CC (cs.getD i cmd0)) hc rfl _ Tryz.underlying62 rfl (by rw[Qar];exact Qed) ?_)
    | fail)
   refine (hEn.out wr).mono ?_
   rintro e w4 ⟨A4,c4,rfl,o4,j4⟩
   have r4:=OwnB.rd o4
   have cp4:=OwnB.cap o4
   clear o4 hEn
   have J4:=hLw.trans j4
   have hb4:=hB.later j4
   have hbS4:bS<w4.heap.size:=QCX hbS J4.size
   have rS4:=QjC hbS4 (hmS.out w4 J4) hsl3
   have rF4:=RdB.later rF (L.trans j4)
   by_cases hj0:j=0
   case' pos=>
    have e0:((i:Int)==(n:Int)-1)=true:=by have:=hi.out;simp;omega
    have hbe':=hid (hbe.out.trans (if_pos hj0))
    clear hbe
    go_wp2_with (first
     | (refine QaF rfl _ _ _ rfl 5 _ 1 Tryz.underlying22 Qdo rfl _ _ _ _ Z rfl rfl rfl rfl (by omega) (by omega) ?_;intro w5 hb5 hl5)
     | fail)
    have hzZ:QCC Z (Value.int .u8 0)=(QCC Z (0:UInt8)).map W8:=by rw[QDi];rfl
    rw[hzZ]at hb5
    have r4':=RdB.later r4 hl5
    have P5:=Qd7 (Blk.new w5 22 [.slice A4 32 c4,.slice (some ⟨w4.heap.size,0,none⟩) Z Z]) (QaM (RdB.later r4' (Qaa _ _)) cp4) (QaM (Qcr (hb5.later (Qaa _ _)) (by rw[QCS])) (QCP _))
    have hflt:([SL,QCC Z (0:UInt8)]:List (List UInt8)).flatten=SL++QCC Z 0:=by simp
    have hfll:(SL++QCC Z (0:UInt8)).length=32+Z:=by rw[QCM,QCS,hslil]
    have hTu:=QhL (some ⟨bS,oS+i*192+32,none⟩) 32 2 2 _ S _ _ (RdB.later rS4 (hl5.trans (Qaa _ _))) P5 (by omega) (by rw[hflt,hfll];omega)
    rw[hflt,hfll]at hTu
    clear hb5
    go_wp2_with fail
    refine hTu.mono ?_
    rintro e w6 ⟨A6,c6,rfl,o6,j6⟩
    clear hTu P5
    have J6:=hl5.trans ((Qaa w5 (.cells #[.slice A4 32 c4,.slice (some ⟨w4.heap.size,0,none⟩) Z Z] 22)).trans j6)
    have P7:=Qd7 (Blk.new w6 22 [.slice A6 (32+Z) c6,.slice A2 F c2]) (QaM (OwnB.rd (Qa5 o6 (Qaa _ _))) (OwnB.cap o6)) (QaM (RdB.later rF4 (J6.trans (Qaa _ _))) cF)
    have hfl7:([xorB (SL++QCC Z 0) (chaS S (32+Z)),QeS st (n-1)]:List (List UInt8)).flatten=BJ:=by rw[hbe'.out];simp
    have hJn:=Qcy (some ⟨w6.heap.size,0,none⟩) 2 2 _ _ P7 (by omega) (by rw[hfl7,hbr];omega)
    rw[hfl7,hbr]at hJn
    go_wp2_with fail
    refine hJn.mono ?_
    rintro e w9 ⟨A9,c9,rfl,o9,j9⟩
    clear hJn P7
    have L9:Later w4 w9:=J6.trans ((Qaa _ _).trans j9)
    clear o6 j9 j6 J6 hbe'
   case' neg=>
    have e0:((i:Int)==(n:Int)-1)=false:=by have:=hi.out;simp;omega
    have hbe':=hid (hbe.out.trans (if_neg hj0))
    clear hbe
    have hbd:=hb4.drew
    have hlH:=hbd.lt
    have h3:(subB H 32 16).length=16:=Qaq (by omega)
    have h4:(subB H 48 240).length=240:=Qaq (by omega)
    have hbS4d:=QCX hbS4 (Qab w4).size
    go_wp2_with fail
    refine Qag [([0,1,2,3,4,5,6,7,8,9,10],11),([],12)] [13,14,15,16,17] [] (by as_aux_lemma=>kernel_rfl) (by as_aux_lemma=>kernel_rfl) (by intro _ _ d _ _ h;cases d<;>exact h) ?_
    simp only[Qah,pick,QCD,QCE,QCG,QCI,QCH]
    repeat (go_big_quiet_step (fail))
    refine wpQuiet_nil ?_
    go_wp2_with fail
    try refine⟨by first|assumption|exact Qab _|exact Qaa _ _|exact Later.refl _,?_⟩
    try simp only[Qah,pick,QCD,QCE,QCG,QCI,QCH]
    repeat (go_big_quiet_step (fail))
    refine wpQuiet_nil ?_
    go_wp2_with fail
    have JW:Later w4 (w4.alloc (.cells #[.slice A4 32 c4,.slice (some ⟨gH,32,none⟩) 16 16,.slice (some ⟨gH,48,none⟩) 192 240] 22)).drew:=(Qaa _ _).trans (Qab _)
    have hP:=QdM ((Blk.new w4 22 [.slice A4 32 c4,.slice (some ⟨gH,32,none⟩) 16 16,.slice (some ⟨gH,48,none⟩) 192 240]).drew.rd rfl) (ps:=[SL,subB H 32 16,(subB H 48 240).take 192]) ⟨QaM (RdB.later r4 JW) cp4,QaM (QbR (hb4.later JW) rfl h3) (QCP _),QaM (RdB.take (QbR (hb4.later JW) rfl h4) (by omega)) (by omega),trivial⟩
    have hfl:([SL,subB H 32 16,(subB H 48 240).take 192]:List (List UInt8)).flatten=SL++(subB H 32 16++(subB H 48 240).take 192):=by simp
    have hfll:(SL++(subB H 32 16++(subB H 48 240).take 192)).length=240:=by rw[QCM,QCM,QC5];omega
    have hTu:=QhL (some ⟨bS,oS+i*192+32,none⟩) 32 3 3 _ S _ _ (RdB.later rS4 JW) hP (by omega) (by rw[hfl,hfll];omega)
    rw[hfl,hfll,←hbe'.out]at hTu
    refine hTu.mono ?_
    rintro e w9 ⟨A9,c9,rfl,o9,j9⟩
    have L9:Later w4 w9:=JW.trans j9
    go_wp2_with fail
    try refine⟨by first|assumption|exact Qab _|exact Qaa _ _|exact Later.refl _,?_⟩
    try simp only[Qah,pick,QCD,QCE,QCG,QCI,QCH]
    repeat (go_big_quiet_step (fail))
    refine wpQuiet_nil ?_
    clear hTu hP hfl hfll hbd hlH h3 h4 hbS4d hbe'
   all_goals
    have hb9:=hb4.later L9
    have J9:=J4.trans L9
    have hbS9:=QCX hbS4 L9.size
    have dA:=hmA.out w9 J9
    obtain⟨Y,hY,hH2⟩:=QBq (be:=BJ) hHl hal hbr
    obtain⟨hsA,hsB⟩:=QxO hal hY hbr
    replace hH2:=hid hH2
    have hH1:(putB H 0 AL).length=288:=by rw[Qbp (by omega),hHl]
    go_wp2_with (first
     | (refine go_l rfl ?_;refine QgW rfl _ rfl dA hal rfl ?_)
     | (refine QaZ rfl ?_;refine QmH 0 32 rfl rfl _ _ rfl hb9 rfl rfl Qba hal (by omega) ?_;intro wa hba hoa
        have la:Later w2 wa:=(L.trans (j4.trans L9)).only hoa (by rw[←hgH];exact QCP _)
        have r9b:=OwnB.rd (QdA o9 hb9 (by decide) hoa))
     | (refine Qlc 48 240 rfl _ _ _ _ rfl 5 Tryz.underlying22 Qbt hba r9b rfl rfl (by omega) ?_;intro wb hbb hob)
     | fail)
    rw[hH2.out]at hbb
    simp only[Act.put,QCL,QCO,QCN]
    have lb:Later w2 wb:=la.only hob (by rw[←hgH];exact QCP _)
    have hbd:=hbb.drew
    have hlH:=hbd.lt
    have Jb:=B2.lat.trans lb
    have hbSb:bS<wb.drew.heap.size:=QCX hbS (Jb.trans (Qab _)).size
    clear hba hoa hob la hb9 o9 dA
    refine Qag [([0,1,2,3,4,5,6,7,8,9,10,11],12),([],13)] [] [14] (by as_aux_lemma=>kernel_rfl) (by as_aux_lemma=>kernel_rfl) (by intro _ _ d _ _ h;cases d<;>exact h) ?_
    simp only[Qah,pick,QCD,QCE,QCG,QCI,QCH]
    repeat (go_big_quiet_step (fail))
    refine wpQuiet_nil ?_
    go_wp2_with fail
    try refine⟨by first|assumption|exact Qab _|exact Qaa _ _|exact Later.refl _,?_⟩
    try simp only[Qah,pick,QCD,QCE,QCG,QCI,QCH]
    repeat (go_big_quiet_step (fail))
    refine wpQuiet_nil ?_
    go_wp2_with fail
    have JW:Later wb (wb.alloc (.cells #[.slice (some ⟨gH,0,none⟩) 32 32,.slice (some ⟨gH,48,none⟩) 240 240] 22)).drew:=(Qaa _ _).trans (Qab _)
    have hbW:=hbb.later JW
    have hP:=QdM ((Blk.new wb 22 [.slice (some ⟨gH,0,none⟩) 32 32,.slice (some ⟨gH,48,none⟩) 240 240]).drew.rd rfl) (ps:=[AL,BJ]) ⟨QaM (QbR hbW hsA hal) (QCP _),QaM (QbR hbW hsB hbr) (QCP _),trivial⟩
    have hfl:([AL,BJ]:List (List UInt8)).flatten=AL++BJ:=by simp
    have rM:=QjC (QCX (QCX hbS Jb.size) JW.size) (hmM.out _ (Jb.trans JW)) hml
    have hSh:=QlP (some ⟨bS,oS+i*192,none⟩) (some ⟨wb.heap.size,0,none⟩) 32 32 2 2 M [AL,BJ] _ rM (QCP _) (by omega) hP (by omega) (by rw[hfl,QCM];omega)
    rw[hfl]at hSh
    have hTg:Hid ((QbF M (AL++BJ)).take 16=tagB M AL BJ):=hid rfl
    rw[hTg.out]at hSh
    have hTl:=Qbw M AL BJ
    generalize tagB M AL BJ=TG at *
    refine hSh.mono ?_
    rintro e wc ⟨Ac,cc,rfl,oc,jc⟩
    go_wp2_with fail
    try refine⟨by first|assumption|exact Qab _|exact Qaa _ _|exact Later.refl _,?_⟩
    try simp only[Qah,pick,QCD,QCE,QCG,QCI,QCH]
    repeat (go_big_quiet_step (fail))
    refine wpQuiet_nil ?_
    have hbc:=hbW.later jc
    go_wp2_with (first
     | (refine Qlc 32 16 rfl _ _ _ _ rfl 5 Tryz.underlying22 Qbt hbc (OwnB.rd oc) rfl rfl (by rw[QCM,QCM];omega) ?_;intro wd hbd2 hod)
     | fail)
    rw[Qca AL Y BJ TG 32 hal (by omega),←hst'.out]at hbd2
    exact⟨⟨j+1,by omega,by rw[show (n:Int)-1-((j+1:Nat):Int)=(i:Int)-1 by have:=hcast.out;omega],hbd2,(lb.trans (JW.trans jc)).only hod (by rw[←hgH];exact QCP _)⟩,by simp only[intOf];omega⟩
  ·have hjn':j=n:=by omega
   have fge:decide ((0:Int)≤(n:Int)-1-(j:Int))=false:=decide_eq_false (by omega)
   obtain⟨m,rfl⟩:∃m,n=m+1:=⟨n-1,by omega⟩
   have hH:Hid (hdrS (m+1) sl st j=hdrA (m+1) sl st m):=hid (by rw[hjn'];rfl)
   have hHl:(hdrS (m+1) sl st j).length=288:=by
    rw[hH.out,hdrA,QCM,QCM,Qc5 (hstl.out _ (by omega)),hbl.out,tagA,Qbw]
   have hB0:=(B2.later L).nth 0 rfl
   have hz:((QCC 288 (0:UInt8)).map W8).length=288:=by rw[QCF,QCS]
   replace hjn':=hid hjn'
   generalize hdrS (m+1) sl st j=H at *
   go_wp2_with (first
    | (refine go_l rfl ?_;refine Ql6 rfl _ rfl hB hHl rfl ?_)
    | (refine QaZ rfl ?_;refine Qdw rfl rfl _ _ rfl hB0 rfl rfl hHl hz ?_;intro w5 hb5 ho5)
    | fail)
   exact bodyPost_ret (Qai rfl _ _ _ _ _ _ hb5 rfl Tryz.underlying39 rfl (by rw[QCF,hHl];exact Qb6)) rfl ⟨by rw[hH.out];rfl,hLw.only ho5 (QCP _)⟩
structure Stp where
 nm:ByteArray
 delay:Int
 flags:Int
theorem QBA:(Tryz.prog.info? 156).map (fun i=>(i.zero,i.size,i.bytes))=some (some (.agg (HC hp0).toArray),68,104):=by kernel_rfl
theorem QvK:(Tryz.prog.info? 59).map (fun i=>(i.zero,i.size,i.bytes))=some (some (.agg (HC hp0).toArray),68,104):=by kernel_rfl
theorem QBJ:(Tryz.prog.info? 156).bind (·.zero)=some (.agg (HC hp0).toArray):=by kernel_rfl
section
variable {ops:Array Oper} {rest:List Oper} {o:Oper} {a:Act} {w:World} {Q:Exit→Act→World→Prop}
end
theorem QfY (p q r v:List Value) (k:Nat) (hk:p.length=k) (h:q.length=v.length):Qao (p++q++r) k v=p++v++r:=by
 subst hk
 rw[Qao,show p.length+v.length=(p++q).length by rw[QCM,h],QDj rfl,QCU p q r,QDx rfl]
theorem Qz1 (x:Nod) (d f:Int):Qao (Qao (Qao (HC hp0) 0 (NC x)) 66 [.int .i64 d]) 67 [.int .i64 f]=HC ⟨x,d,f⟩:=by
 have h1:Qao (HC hp0) 0 (NC x)=NC x++[.int .i64 0]++[.int .i64 0]:=by
  have:=QfY [] (NC nod0) [.int .i64 0,.int .i64 0] (NC x) 0 rfl (by rw[Qa1,Qa1])
  rw[QCH,QCH]at this
  rw[QCU]
  exact this
 have h2:=QfY (NC x) [.int .i64 0] [.int .i64 0] [.int .i64 d] 66 (Qa1 x) rfl
 have h3:=QfY (NC x++[.int .i64 d]) [.int .i64 0] [] [.int .i64 f] 67 (by rw[QCM,Qa1];rfl) rfl
 rw[QDf,QDf]at h3
 rw[h1,h2,h3,HC,QCU]
 rfl
theorem Qtw (x:Nod) (d f:Int):Tryz.prog.built 156 [(0,.agg (NC x).toArray),(1,.int .i64 d),(2,.int .i64 f)]=some (HC ⟨x,d,f⟩).toArray:=by
 rw[QaY (pl:=[(0,66),(66,1),(67,1)]) Tryz.underlying156 QBJ (by kernel_rfl),QaV (vs:=NC x) (off:=0) rfl (by rw[Qa1];rfl) (by rw[Qa1,Qa4];omega),
  QaV (vs:=[.int .i64 d]) (off:=66) rfl rfl (by rw[QbJ _ _ _ (by rw[Qa1,Qa4];omega),Qa4];simp),QaV (vs:=[.int .i64 f]) (off:=67) rfl rfl (by rw[QbJ _ _ _ (by rw[QbJ _ _ _ (by rw[Qa1,Qa4];omega),Qa4];simp),QbJ _ _ _ (by rw[Qa1,Qa4];omega),Qa4];simp),Qb7,Qz1]
def S32 (b:Nat):Value:=.slice (some ⟨b,0,none⟩) 32 32
theorem Qvc (gs:List Nat) (k b:Nat) (hg:gs.length=k) (n:Nat) (hk:k<n) (z:Value):(gs.map S32++QCC (n-k) z).set k (S32 b)=(gs++[b]).map S32++QCC (n-(k+1)) z:=by
 have hl:(gs.map S32).length=k:=by rw[QCF,hg]
 rw[QDc _ _ (by omega),hl,QDL,show n-k=n-(k+1)+1 by omega,QDW,QCN,QDq,QCU]
 rfl
set_option maxRecDepth 100000 in
set_option maxHeartbeats 2000000 in
theorem Qld (A:Option Addr) (n c:Nat) (xs:List Hp) (w:World) (hx:RdH w A n xs) (hn:n≤1099511627776):
 Calls Tryz.prog 44 #[.slice A n c] w fun e w'=>∃(g:Nat) (gs:List Nat),e= .returned (.slice (some ⟨g,0,none⟩) n n)∧w.heap.size≤g∧Blk w' g 22 (gs.map S32)∧gs.length=n∧(∀ (j b:Nat),gs[j]?=some b→g<b∧Blk w' b 5 ((xs.getD j hp0).nod.pub.val.map W8))∧gs.Pairwise (· <·)∧Later w w':=by
 have hxl:=hx.1
 go_enter Tryz.func44,Tryz.ntmps44
 go_wp2_with (first
  | (refine QaF rfl _ _ 74 rfl 22 (.slice none 0 0) 24 Tryz.underlying74 Quz rfl _ _ _ _ n rfl rfl rfl rfl (by omega) (by omega) ?_;intro w1 hb1 hl1)
  | fail)
 have hgl:w.heap.size≤w.heap.size:=QCP _
 generalize hge:w.heap.size=g at hb1 ⊢
 replace hgl:w.heap.size≤g:=QE1 hge
 clear hge
 go_loopw [10] (fun i wr=>∃(k:Nat) (gs:List Nat),i= .int .i64 k∧k≤n∧gs.length=k∧Blk wr g 22 (gs.map S32++QCC (n-k) (.slice none 0 0))∧Hid (∀ (j b:Nat),gs[j]?=some b→g<b∧b<wr.heap.size∧Blk wr b 5 ((xs.getD j hp0).nod.pub.val.map W8))∧Hid (gs.Pairwise (· <·))∧Later w wr) (fun i _=>n-(intOf i).toNat)
 case atStart=>exact⟨0,[],rfl,by omega,rfl,hb1,hid (fun j b h=>by simp at h),hid List.Pairwise.nil,hl1⟩
 case round=>
  clear hb1 hl1
  obtain⟨k,gs,rfl,hk,hgs,hb,hall,hpw,L⟩:=hrel
  by_cases hlt:k<n
  ·obtain⟨b,o,rfl,hbb,hc⟩:=(hx.later L).at_ hlt
   have hcn:∀i v,(NC (xs.getD k hp0).nod)[i]?=some v→wr.cell? ⟨b,o+k*68+i,none⟩=some v:=fun i v hv=>hc i v (QjF _ hv)
   have hlast:=hid (show ∀b':Nat,(gs++[b'])[k]?=some b' from fun b'=>by rw[QCR (by omega),hgs,QDL];rfl)
   generalize hz:xs.getD k hp0=z at hcn
   have hzz:=hid hz
   clear hz hc
   have hgw:g<wr.heap.size:=hb.lt
   go_wp2_with (first
    | (refine Qpg rfl _ rfl hcn rfl ?_)
    | fail)
   (with_reducible refine (Qi1 z.nod _).mono ?_);rintro e w2 ⟨g2,rfl,hg2,hp2,l2⟩
   replace hb:=hb.later l2
   have hlen:(gs.map S32++QCC (n-k) (Value.slice none 0 0)).length=n:=by simp;omega
   go_wp2_with (first
    | (refine Qad rfl rfl _ _ _ rfl g k _ _ hb rfl ?hl rfl (by kernel_rfl) ?_;(case hl=>rw[hlen];exact hlt);intro v w3 hv hb3 ho3;have hv':v=S32 g2:=hv.symm;subst hv';rw[Qvc gs k g2 hgs n hlt]at hb3)
    | fail)
   refine⟨⟨k+1,gs++[g2],rfl,by omega,by rw[QCM,hgs];rfl,hb3,?_,?_,(L.trans l2).only ho3 hgl⟩,by simp[intOf];omega⟩
   ·refine hid fun j b' h=>?_
    rcases QDJ j k with hj|hj
    ·rw[QCW (by omega)]at h
     obtain⟨h1,h2,h3⟩:=hall.out j b' h
     have h4:=(h3.later l2).only ho3 (by omega)
     exact⟨h1,h4.lt,h4⟩
    ·have hjk:j=k:=by
      have:=(QCV.1 h).1
      rw[QCM,hgs]at this
      simp at this
      omega
     subst hjk
     rw[hlast.out g2]at h
     obtain rfl:g2=b':=by simpa using h
     have h4:=hp2.only ho3 (by omega)
     rw[hzz.out]
     exact⟨by omega,h4.lt,h4⟩
   ·refine hid (List.pairwise_append.2 ⟨hpw.out,List.pairwise_singleton _ _,fun a ha b' hb'=>?_⟩)
    obtain rfl:b'=g2:=by simpa using hb'
    obtain⟨j,hj⟩:=List.getElem?_of_mem ha
    have:=(hall.out j a hj).2.1
    omega
  ·obtain rfl:k=n:=by omega
   rw[QDL,List.replicate_zero,QDf]at hb
   go_wp2
   go_ret
   exact⟨g,gs,rfl,hgl,hb,hgs,fun j b h=>⟨(hall.out j b h).1,(hall.out j b h).2.2⟩,hpw.out,L⟩
section
variable {P:Program} {ops:Array Oper} {rest:List Oper} {o:Oper} {a:Act} {w:World} {Q:Exit→Act→World→Prop} {α:Type} {F:α→List Value} {sz:Nat} {d:α}
end
theorem Qr2 {α:Type} {F:α→List Value} {sz:Nat} {d:α} {w:World} {A:Option Addr} {n m:Nat} {xs:List α} (h:RdF F sz d w A n xs) (hm:m≤n):RdF F sz d w A m (xs.take m):=by
 refine⟨by rw[QC5,h.1];omega,fun h0=>?_⟩
 obtain⟨b,o,hA,hb,hc⟩:=h.2 (by omega)
 refine⟨b,o,hA,hb,fun j i v hj hv=>hc j i v (by omega) ?_⟩
 rw[QCK,QEm,if_pos hj]at hv
 rw[QCK]
 exact hv
def byS (xs:List UInt8):ByteArray:=⟨xs.toArray⟩
theorem QjO (xs:List UInt8):(byS xs).toList=xs:=by rw[ByteArray.toList_eq];rfl
theorem Qzz (xs ys:List UInt8):((byS xs).toList==(byS ys).toList)=decide (xs=ys):=by
 rw[QjO,QjO]
 by_cases h:xs=ys
 ·subst h
  simp
 ·rw[decide_eq_false h,beq_eq_false_iff_ne]
  exact h
theorem QsT {P:Program} {w:World} {A:Option Addr} {n:Nat} {xs:List UInt8} (h:RdB w A n xs) (src e:TypeId) (hs:P.underlying src=some (.slice e)) (he:P.underlying e=some (.int .u8)) (dst:TypeId) (hd:P.underlying dst=some .string) (c:Nat):
 (convert src dst (.slice A n c)).run P w= .ok (.string (byS xs)) w:=by
 have hl:=h.len
 by_cases h0:0<n
 ·obtain⟨b,o,rfl,hb,hc⟩:=h.2 h0
  have:=run_convert_bytes_arg w src e hs he b o n c (xs.map fun x=>(x.toNat:Int)) (by rw[QCF,hl]) (fun i hi=>by
   have hx:xs[i]?=some (xs[i]'(by omega)):=QCJ _
   have:=hc i (W8 (xs[i]'(by omega))) (by rw[QCY,hx];rfl)
   rw[this,QCK,QCY,hx]
   rfl) dst hd
  rw[this]
  congr 2
  rw[strOfNums,byS,List.map_map]
  congr 2
  conv=>rhs;rw[←List.map_id xs]
  refine QES fun x _=>?_
  simp
 ·obtain rfl:n=0:=by omega
  obtain rfl:xs=[]:=QDk hl
  cases A with
  | none=>exact run_convert_bytes_nil w src e hs he 0 c dst hd
  | some a=>
    rw[run_convert_bytes_string w src dst e _ 0 c hs he hd,run_bytesToString w a 0 c [] (by simp[loadCells,loadCellsFrom])]
    rfl
theorem QsW (A B:Option Addr) (n m c d:Nat) (xs ys:List UInt8) (w:World) (hx:RdB w A n xs) (hy:RdB w B m ys):
 Calls Tryz.prog 18 #[.slice A n c,.slice B m d] w fun e w'=>e= .returned (.bool (decide (xs=ys)))∧w'=w:=by
 have h1:=QsT hx 22 5 Tryz.underlying22 Tryz.underlying5 9 Tryz.underlying9 c
 have h2:=QsT hy 22 5 Tryz.underlying22 Tryz.underlying5 9 Tryz.underlying9 d
 have hE:=hid (Qzz xs ys)
 generalize decide (xs=ys)=R at *
 generalize byS xs=S at *
 generalize byS ys=T at *
 go_enter Tryz.func18,Tryz.ntmps18
 go_wp2_with fail
 go_ret
 exact⟨by rw[←hE.out];rfl,rfl⟩
theorem QgM:(Tryz.prog.info? 59).map (·.size)=some 68:=by kernel_rfl
theorem Qye:(Tryz.prog.info? 156).map (fun i=>(i.zero,i.size))=some (some (.agg (HC hp0).toArray),68):=by kernel_rfl
set_option maxRecDepth 100000 in
set_option maxHeartbeats 4000000 in
theorem Qum (A:Option Addr) (n c:Nat) (hs:List Hp) (w:World) (hh:RdH w A n hs) (hn:n≤1048576):
 Calls Tryz.prog 10 #[.slice A n c] w fun e w'=>∃A' c',e= .returned (.slice A' n c')∧RdH w' A' n hs∧Later w w':=by
 have hl:=hh.1
 go_enter Tryz.func10,Tryz.ntmps10
 go_wp2_with fail
 go_loopw [3,8] (fun v i wr=>∃(k:Nat) (A':Option Addr) (c':Nat),k≤n∧i= .int .i64 k∧v= .slice A' k c'∧wr.ownsRow w.heap.size 156 68 (.slice A' k c') k ((hs.take k).flatMap HC)∧Later w wr) (fun _ i _=>n-(intOf i).toNat)
 case atStart=>exact⟨0,none,0,by omega,rfl,rfl,World.ownsRow_nil w _ _ 68,Later.refl w⟩
 case round=>
  obtain⟨k,A1,c1,hk,rfl,rfl,hown,L⟩:=hrel
  by_cases hlt:k<n
  ·obtain⟨b,o,rfl,hb,hc⟩:=(hh.later L).at_ hlt
   have htk:(hs.take (k+1)).flatMap HC=(hs.take k).flatMap HC++[hs.getD k hp0].flatMap HC:=by
    rw[List.take_add_one,List.flatMap_append,QCK,QCJ (by omega)]
    rfl
   generalize hs.getD k hp0=z at *
   replace htk:=hid htk
   replace hc:=hid hc
   have hzz:Tryz.zeroCells59.toList.length=68:=by kernel_rfl
   replace hzz:=hid hzz
   have hbn:=hid (QmR z.nod)
   have hbh:=hid (Qtw z.nod z.delay z.flags)
   go_wp2_with (first
    | (refine go_l rfl ?_;refine Qan rfl 59 _ rfl b (o+k*68) (HC z) hc.out rfl _ Tryz.underlying59 rfl (by rw[Qa4];exact QgM) ?_)
    | (refine QaZ rfl ?_;refine QaC rfl rfl 59 _ _ rfl wr.heap.size _ _ (HC z) (Blk.new wr _ Tryz.zeroCells59.toList) rfl rfl 68 QgM (Qa4 _) hzz.out (QoI _) ?_;intro w3 hb3 ho3
       have l3:Later wr w3:=(Qaa wr _).only ho3 (QCP _)
       have c66:=hb3.cellD 66 (QjX z)
       have c67:=hb3.cellD 67 (Qkk z)
       have hb3l:=hb3.lt)
    | (refine go_l rfl ?_;refine Quo rfl _ rfl (y:=z.nod) (off:=0) (fun i v hv=>by rw[QC4];exact hb3.cellD i (QjF z hv)) rfl ?_)
    | (refine go_b rfl ?_;refine Qaj ?hw 154 _ rfl (NC z.nod) (by simp only[QCT,QC9,QC3];exact hbn.out) ?_;(case hw=>rfl))
    | (refine go_b rfl ?_;refine Qaj ?hw 156 _ rfl (HC z) (by simp only[QCT,QC9,QC3];exact hbh.out) ?_;(case hw=>rfl))
    | (refine Qjt rfl 45 _ rfl 156 68 _ (HC z) Tryz.underlying45 Qye (by omega) (by omega) (Qa4 z) rfl ?_
       have hz4:Blk (w3.alloc (.cells (HC z).toArray 156)) w3.heap.size 156 ([z].flatMap HC):=by simp only[QEi,List.flatMap_nil,QDf];exact Blk.new w3 _ _)
    | (refine go_a rfl ?_;refine QhU (F:=HC) (d:=hp0) Qa4 QoI (by omega) rfl _ _ _ rfl 156 _ 104 Tryz.underlying45 QBA rfl w _ k _ (Qg0 hown (l3.trans (Qaa _ _))) ((L.trans l3).trans (Qaa _ _)) _ 1 1 [z] (Qmu Qa4 hz4 rfl) rfl rfl (by omega) (by omega) ?_;intro A4 c4 w4 hown4 hl4 _)
    | fail)
   rw[←htk.out]at hown4
   exact⟨⟨k+1,A4,c4,by omega,by go_num,rfl,hown4,hl4⟩,by simp[intOf];omega⟩
  ·obtain rfl:k=n:=by omega
   rw[QCQ (by omega)]at hown
   go_wp2_with fail
   go_ret
   exact⟨A1,c1,rfl,Qmo (d:=hp0) Qa4 hown hl,L⟩
end Go.Proofs.YticcbmhcgmhohaaGreat
