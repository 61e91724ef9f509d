/-
  Lemmas for the last text of this claim (part 18 of 20).
-/
import Derived.ArgAppend
import Derived.BigQuiet
import Derived.BigRegion
import Derived.ChangeOld
import Derived.Deep.RegionWith
import Derived.DeepKeys4
import Derived.JoinedCond
import Derived.LaidMore
import Derived.Laws.BytesArg
import Derived.Laws.CopyOwn
import Derived.Laws.Externs
import Derived.Laws.IdiomStrings
import Derived.Laws.Tables
import Derived.Lib.AppendStr
import Derived.Lib.AppendZerosOnto
import Derived.Lib.Mul64
import Derived.Lib.SlBytesConst
import Derived.LoopN
import Derived.Maps.OwnSet
import Derived.OpenShut
import Derived.OrdersHeld
import Derived.ProofKit
import Derived.Shelf.Spec.BitsCarry
import Derived.ShutString
import Derived.Test.YtdhgpkdjdmlphaaGreatProg
import Derived.Test.YtdhgpkdjdmlphaaGreatRows
import Derived.WalkKit
import Derived.WalkLawsBesides
import Derived.WalkSpells
import Derived.Test.YtdhgpkdjdmlphaaGreatPD
import Derived.Test.YtdhgpkdjdmlphaaGreatPE
import Derived.Test.YtdhgpkdjdmlphaaGreatPJ
import Derived.Test.YtdhgpkdjdmlphaaGreatPL
import Derived.Test.YtdhgpkdjdmlphaaGreatPO
import Derived.Test.YtdhgpkdjdmlphaaGreatPQ
open List renaming replicate → Qym, length_map → Qyn, getElem?_cons_succ → Qyo, getElem?_cons_zero → Qyp, getElem?_eq_getElem → Qyq, getD_eq_getElem?_getD → Qys, nil_append → Qyt, cons_append → Qyu, length_append → Qyv, take_of_length_le → Qyx, length_replicate → Qyy, append_assoc → QyE, getElem?_map → QyF, set_cons_zero → QyI, map_toArray → QyK, length_take → QyL, map_cons → QyT, map_nil → QyU, take_append_drop → QyV, set_append_right → QyW, append_nil → QyZ, length_drop → Qy0, length_set → Qy2, map_replicate → Qy4, map_append → Qy6, length_cons → Qy9, range → Qzc, take_append_of_le_length → Qzf, drop_of_length_le → Qzm, drop_zero → Qzn, drop_append_of_le_length → Qzy, getElem?_drop → QzC, replicate_succ → QzE, getElem_mem → QzH, getElem?_set_self → Qz1, range_succ → QAp
open Nat renaming le_refl → Qyw, lt_of_lt_of_le → QyG, sub_self → Qzu, add_zero → QzO, add_comm → QAm
open Option renaming toList_some → Qyr, map_eq_some_iff → QzR
open UInt32 renaming ofInt → QzM
open UInt8 renaming ofInt → Qy1
set_option linter.all false
namespace Go.Proofs.YtdhgpkdjdmlphaaGreat
open Go.RowKit
open Go.BigFrame
structure Pel where
 c:Cmd
 P:Y768
 B:List UInt8
def Qvg:Y768:=⟨z768,QjY⟩
def pel0:Pel:=⟨cmd0,Qvg,[]⟩
section
variable {ks:List (List UInt8)} {k:Nat} {q:Y768}
end
structure PelV where
 c:Cmd
 P:Y768
 A:Option Addr
 n:Nat
 cp:Nat
def QxV:PelV:=⟨cmd0,Qvg,none,0,0⟩
def Qug (w:World) (base:Nat) (x:PelV) (y:Pel):Prop:=x.c=y.c∧x.P=y.P∧x.n=y.B.length∧OwnB w base x.A x.n x.cp y.B
def PelRow (w:World) (base:Nat):List PelV→List Pel→Prop
 | [],[]=>True
 | x :: xs,y :: ys=>Qug w base x y∧PelRow w base xs ys
 | _,_=>False
theorem PelRow.len {w:World} {base:Nat}:∀ {xs:List PelV} {ys:List Pel},PelRow w base xs ys→xs.length=ys.length
 | [],[],_=>rfl
 | x :: xs,y :: ys,h=>by rw[Qy9,Qy9,PelRow.len h.2]
theorem PelRow.snoc {w:World} {base:Nat} {x:PelV} {y:Pel}:∀ {xs:List PelV} {ys:List Pel},PelRow w base xs ys→Qug w base x y→PelRow w base (xs++[x]) (ys++[y])
 | [],[],_,h=>⟨h,trivial⟩
 | _ :: _,_ :: _,h,h'=>⟨h.1,PelRow.snoc h.2 h'⟩
theorem PelRow.mono {w w':World} {base:Nat} (hw:∀A n c B,OwnB w base A n c B→OwnB w' base A n c B):∀ {xs:List PelV} {ys:List Pel},PelRow w base xs ys→PelRow w' base xs ys
 | [],[],_=>trivial
 | _ :: _,_ :: _,h=>⟨⟨h.1.1,h.1.2.1,h.1.2.2.1,hw _ _ _ _ h.1.2.2.2⟩,PelRow.mono hw h.2⟩
theorem PelRow.at_ {w:World} {base:Nat}:∀ {xs:List PelV} {ys:List Pel} (i:Nat),PelRow w base xs ys→i<ys.length→Qug w base (xs.getD i QxV) (ys.getD i pel0)
 | [],[],i,_,h=>absurd h (by simp)
 | _ :: _,_ :: _,0,h,_=>h.1
 | _ :: _,_ :: _,i+1,h,hi=>by
   have:=PelRow.at_ i h.2 (by simpa using hi)
   simpa using this
theorem PelRow.later {w w':World} {base:Nat} {xs:List PelV} {ys:List Pel} (h:PelRow w base xs ys) (hl:Later w w'):PelRow w' base xs ys:=h.mono fun _ _ _ _ h=>Qa0 h hl
theorem Qb3 {w w':World} {base k sz:Nat} {e:TypeId} {v:Value} {n:Nat} {vs:List Value} (h:w.ownsRow base e sz v n vs) (ho:Only k w w') (hne:∀b,v.ownBlock=some b→b≠k):w'.ownsRow base e sz v n vs:=by
 refine h.kept ho ?_
 cases hb:v.ownBlock with
 | none=>exact .inl rfl
 | some b=>exact .inr fun he=>hne b hb (by injection he)
def All2 {α β:Type} (R:α→β→Prop):List α→List β→Prop
 | [],[]=>True
 | x :: xs,y :: ys=>R x y∧All2 R xs ys
 | _,_=>False
section
variable {α β:Type} {R R':α→β→Prop}
theorem All2.len:∀ {xs:List α} {ys:List β},All2 R xs ys→xs.length=ys.length
 | [],[],_=>rfl
 | x :: xs,y :: ys,h=>by rw[Qy9,Qy9,All2.len h.2]
theorem All2.snoc {x:α} {y:β}:∀ {xs:List α} {ys:List β},All2 R xs ys→R x y→All2 R (xs++[x]) (ys++[y])
 | [],[],_,h=>⟨h,trivial⟩
 | _ :: _,_ :: _,h,h'=>⟨h.1,All2.snoc h.2 h'⟩
theorem All2.mono (hR:∀x y,R x y→R' x y):∀ {xs:List α} {ys:List β},All2 R xs ys→All2 R' xs ys
 | [],[],_=>trivial
 | _ :: _,_ :: _,h=>⟨hR _ _ h.1,All2.mono hR h.2⟩
theorem All2.at_ (d:α) (e:β):∀ {xs:List α} {ys:List β} (i:Nat),All2 R xs ys→i<ys.length→R (xs.getD i d) (ys.getD i e)
 | [],[],i,_,h=>absurd h (by simp)
 | _ :: _,_ :: _,0,h,_=>h.1
 | _ :: _,_ :: _,i+1,h,hi=>by
   have:=All2.at_ d e i h.2 (by simpa using hi)
   simpa using this
end
structure RefV where
 c:Cmd
 Q:Option Addr
 nq:Nat
 cq:Nat
 A:Option Addr
 n:Nat
 cp:Nat
theorem Qlq {hs:List Hp} {p:Hp→Bool} {k:Nat} (hk:k<hs.length) (h:p (hs.getD k hp0)=true):hs.any p=true:=by
 rw[List.any_eq_true]
 refine⟨_,QzH hk,?_⟩
 rw[Qys,Qyq hk]at h
 exact h
theorem Qn5 {hs:List Hp} {p:Hp→Bool} (h:∀k,k<hs.length→p (hs.getD k hp0)=false):hs.any p=false:=by
 rw[List.any_eq_false]
 intro x hx
 obtain⟨k,hk,rfl⟩:=List.getElem_of_mem hx
 have:=h k hk
 rw[Qys,Qyq hk]at this
 simpa using this
theorem QhX (hs:List Hp) (k:Nat):(hs.drop 1).getD k hp0=hs.getD (k+1) hp0:=by
 rw[Qys,QzC,QAm 1 k,Qys]
theorem Qpj {hs:List Hp} {p:Hp→Bool} {k:Nat} (hk:k+1<hs.length) (h:p (hs.getD (k+1) hp0)=true):(hs.drop 1).any p=true:=
 Qlq (k:=k) (by rw[Qy0];omega) (by rw[QhX];exact h)
theorem QqQ {hs:List Hp} {p:Hp→Bool} (h:∀k,k+1<hs.length→p (hs.getD (k+1) hp0)=false):(hs.drop 1).any p=false:=
 Qn5 (fun k hk=>by rw[Qy0]at hk;rw[QhX];exact h k (by omega))
def lcK (kd:UInt8):Cmd:=⟨kd,0,0,0,Qbt⟩
theorem QrL (kd:UInt8) (hk:kd=2∨kd=3) (hs:List Hp):Qeb (lcK kd) hs=if hs.any badH=true then 1 else if hs.length<1∨5<hs.length then 2 else if (hs.drop 1).any (fun h=>h.nod.id==0)=true then 3 else 0:=by
 have h1: ¬Qqr (lcK kd)=true:=by rcases hk with rfl|rfl<;>decide
 have h2: ¬Qcy (lcK kd)=false:=by rcases hk with rfl|rfl<;>decide
 rw[Qeb,if_neg h1,if_neg h2]
def QdT (kd:UInt8) (hs:List Hp) (k:Nat):List Cmd:=(Qzc k).map (QdO (lcK kd) hs)
theorem Qcn (kd:UInt8) (hs:List Hp) (k:Nat):(QdT kd hs k).length=k:=by simp[QdT]
def Qjo (kd:UInt8) (hs:List Hp):List Cmd:=if Qeb (lcK kd) hs=0 then QdT kd hs hs.length else []
theorem QuK:(Tryz.prog.info? 64).map (fun i=>(i.zero,i.size,i.bytes))=some (some (.agg (CC cmd0).toArray),20,32):=by kernel_rfl
theorem QpE:(Tryz.prog.info? 31).map (·.size)=some 16:=by kernel_rfl
theorem QrM (c:Cmd):Qan (CC c) 4 (Qbt.val.map W8)=CC { c with ma:=Qbt }:=by
 have h:=c.ma.2
 rw[CC,Qan,Qyn,Qbt.2,Qzm (by simp[h])]
 simp[CC]
theorem QmB (kd:UInt8) (hs:List Hp) (k:Nat) (h:k+1=hs.length):QdO (lcK kd) hs k=⟨kd,Qy1 (hs.getD k hp0).flags,QzM (hs.getD k hp0).delay,0,Qbt⟩:=by
 rw[QdO,if_neg (by omega)]
 rfl
theorem Qo6 (kd:UInt8) (hs:List Hp) (k:Nat) (h:k+1<hs.length):QdO (lcK kd) hs k=⟨1,Qy1 (hs.getD k hp0).flags,QzM (hs.getD k hp0).delay,(hs.getD (k+1) hp0).nod.id,Qbt⟩:=by
 rw[QdO,if_pos h]
theorem Qu7 (x:Hp):(HC x)[1]?=some (W64 x.nod.id):=QnJ x rfl
theorem Qq6 {w:World} {base g sz N:Nat} {e:TypeId} {l:List Value} (h:Blk w g e l) (hb:base≤g) (hl:l.length=N*sz) (hm:N≤maxLen):w.ownsRow base e sz (.slice (some ⟨g,0,none⟩) N N) N l:=
 ⟨hl,.inr ⟨g,N,l.toArray,rfl,hb,h,Qyw _,hm,by simp[hl],by simp[←hl]⟩⟩
theorem QqO {w:World} {base sz n c:Nat} {e:TypeId} {A:Option Addr} {vs:List Value} (h:w.ownsRow base e sz (.slice A n c) n vs) (hn:0<n):
 ∃g rest,A=some ⟨g,0,none⟩∧base≤g∧Blk w g e (vs++rest)∧n≤c∧c≤maxLen∧(vs++rest).length=c*sz:=by
 rcases h.2 with ⟨hv,h0⟩|⟨g,cap,cur,hv,hb,hh,hnc,hm,hs,ht⟩
 ·omega
 ·cases hv
  have e:vs++cur.toList.drop (n*sz)=cur.toList:=by rw[←ht,QyV]
  refine⟨g,cur.toList.drop (n*sz),rfl,hb,?_,hnc,hm,?_⟩
  ·rw[e]
   exact hh
  ·rw[e,Array.length_toList,hs]
theorem Qnz {w:World} {base g sz n c:Nat} {e:TypeId} {vs rest:List Value} (h:Blk w g e (vs++rest)) (hb:base≤g) (hl:vs.length=n*sz) (hc:(vs++rest).length=c*sz) (hn:n≤c) (hm:c≤maxLen):w.ownsRow base e sz (.slice (some ⟨g,0,none⟩) n c) n vs:=
 ⟨hl,.inr ⟨g,c,(vs++rest).toArray,rfl,hb,h,hn,hm,by simp only[List.size_toArray];exact hc,by show (vs++rest).take _=vs;rw[←hl,List.take_left]⟩⟩
theorem Qjh (l r vs:List Value) (o:Nat) (h:o+vs.length≤l.length):Qan (l++r) o vs=Qan l o vs++r:=by
 rw[Qan,Qan,Qzf (by omega),Qzy (by omega),QyE,QyE,QyE]
section
variable {P:Program} {ops:Array Oper} {rest:List Oper} {o:Oper} {a:Act} {w:World} {Q:Exit→Act→World→Prop} {α:Type} {F:α→List Value} {sz:Nat}
theorem Qdp (hF:∀x,(F x).length=sz) (hF1:∀x,∀u∈F x,u.oneCell'=true) (d:α) (hgd:o.guard=none) (hd:o.dst=none) (ty:TypeId) (x y:Operand) (ho:o.op= .store ty x y) {base g n c:Nat} {e:TypeId} {xs:List α}
 (hown:w.ownsRow base e sz (.slice (some ⟨g,0,none⟩) n c) n (xs.flatMap F)) (hn:xs.length=n) (j:Nat) (hj:j<n) (v:α) (hx:a.eval x= .pointer (some ⟨g,j*sz,none⟩)) (hy:a.eval y= .agg (F v).toArray) (hi:(P.info? ty).map (·.size)=some sz)
 (h:∀w',w'.ownsRow base e sz (.slice (some ⟨g,0,none⟩) n c) n ((xs.set j v).flatMap F)→Only g w w'→wpList P ops Q rest a w'):wpList P ops Q (o :: rest) a w:=by
 obtain⟨g',r,hg,hb,hB,hnc,hm,hl⟩:=QqO hown (by omega)
 obtain rfl:g=g':=by simpa using hg
 have hfl:=Qbj hF xs
 rw[hn]at hfl
 have hjn:j*sz+sz≤n*sz:=by
  rw[←Nat.succ_mul]
  exact Nat.mul_le_mul_right _ hj
 refine Qai hgd hd ty x y ho g (j*sz) e _ (F v) hB hx hy (by rw[hF];exact hi) (by rw[Qyv,hF];omega) (hF1 v) ?_
 intro w' hb' ho'
 have e1:Qan (xs.flatMap F) (j*sz) (F v)=(xs.set j v).flatMap F:=by
  have:=QjM hF d (off:=0) (vs:=F v) (y:=v) xs j (by omega) (by rw[hF];omega) (by rw[Qam _ _ (by rw[hF,hF])])
  rwa [QzO]at this
 have e2:((xs.set j v).flatMap F).length=n*sz:=by rw[Qbj hF,Qy2,hn]
 rw[Qjh _ _ _ _ (by rw[hF];omega),e1]at hb'
 exact h w' (Qnz hb' hb e2 (by rw[Qyv]at hl ⊢;omega) hnc hm) ho'
end
def Qhc (kd:UInt8) (hs:List Hp) (j:Nat):List Cmd:=QdT kd hs j++Qym (hs.length-j) cmd0
theorem Qnn (kd:UInt8) (hs:List Hp):Qhc kd hs 0=Qym hs.length cmd0:=by
 rw[Qhc,Nat.sub_zero]
 rfl
theorem Qoy (kd:UInt8) (hs:List Hp):Qhc kd hs hs.length=QdT kd hs hs.length:=by rw[Qhc,Qzu,List.replicate_zero,QyZ]
theorem Qi8 (kd:UInt8) (hs:List Hp) (j:Nat) (h:j≤hs.length):(Qhc kd hs j).length=hs.length:=by
 rw[Qhc,Qyv,Qcn,Qyy]
 omega
theorem Qnl (kd:UInt8) (hs:List Hp) (j:Nat) (h:j<hs.length):(Qhc kd hs j).set j (QdO (lcK kd) hs j)=Qhc kd hs (j+1):=by
 have hc:QdT kd hs (j+1)=QdT kd hs j++[QdO (lcK kd) hs j]:=by rw[QdT,QAp,Qy6];rfl
 rw[Qhc,Qhc,hc,QyW _ _ (by rw[Qcn];omega),Qcn,Qzu,show hs.length-j=hs.length-(j+1)+1 by omega,QzE,QyI,QyE]
 rfl
theorem Qm4 (k:UInt8):Tryz.prog.built 64 [(0,W8 k)]=some (CC ⟨k,0,0,0,Qbt⟩).toArray:=by kernel_rfl
theorem Qqc (kd:UInt8) (h:kd=2∨kd=3):Qcy (lcK kd)=true:=by rcases h with rfl|rfl<;>decide
set_option maxRecDepth 100000 in
set_option maxHeartbeats 4000000 in
theorem QmV (kd:UInt8) (hkd:kd=2∨kd=3) (A:Option Addr) (n cc:Nat) (hs:List Hp) (w:World) (hh:RdH w A n hs) (hn:n≤1048576):
 Calls Tryz.prog 112 #[.agg (CC (lcK kd)).toArray,.slice A n cc] w fun e w'=>e= .returned (.int .i64 (Qeb (lcK kd) hs:Nat))∧Later w w':=by
 have hl:=hh.1
 have hE:=hid (QrL kd hkd hs)
 have k2: ¬kd<2:=by rcases hkd with rfl|rfl<;>decide
 have k4: ¬ 4<kd:=by rcases hkd with rfl|rfl<;>decide
 have hSh:=hid (fun w=>QhP (lcK kd) w)
 rw[Qqc kd hkd]at hSh
 clear hkd
 have B0:=Qbi w 64 (CC (lcK kd))
 rw[hl]at hE
 generalize Qeb (lcK kd) hs=E at *
 obtain⟨c0,c1,c2,c3,c4⟩:=QfT (B0.nth 0 rfl)
 change _=some (W8 kd)at c0
 go_enter Tryz.func112,Tryz.ntmps112
 go_wp2_with fail
 generalize hW:w.alloc _=w1
 replace B0:Bag w w1 [(w.heap.size,64,CC (lcK kd))]:=by rw[←hW];exact B0
 clear hW c0 c1 c2 c3 c4
 go_loopw [18] (fun i wr=>∃k:Nat,k≤n∧i= .int .i64 k∧Hid (∀ j,j<k→badH (hs.getD j hp0)=false)∧Later w1 wr) (fun i _=>n-(intOf i).toNat)
 case atStart=>exact⟨0,by omega,rfl,hid (fun j hj=>absurd hj (by omega)),Later.refl _⟩
 case round=>
  obtain⟨k,hk,rfl,hz,L⟩:=hrel
  by_cases hlt:k<n
  ·obtain⟨b,o,rfl,hbb,hc⟩:=(hh.later (B0.lat.trans L)).at_ hlt
   have c66:wr.cell? ⟨b,o+k*68+66,none⟩=some (.int .i64 (hs.getD k hp0).delay):=hc 66 _ (QiA _)
   have c67:wr.cell? ⟨b,o+k*68+67,none⟩=some (.int .i64 (hs.getD k hp0).flags):=hc 67 _ (QiP _)
   have hno:=hid (fun h=>Qlq (hs:=hs) (p:=badH) (k:=k) (by omega) h)
   have hgo:=hid (fun h:badH (hs.getD k hp0)=false=>Qm0 (p:=fun j=>badH (hs.getD j hp0)=false) hz.out h)
   have hbd:Hid (badH (hs.getD k hp0)=(decide ((hs.getD k hp0).delay<0)||decide (1000000<(hs.getD k hp0).delay)||decide ((hs.getD k hp0).flags<0)||decide (255<(hs.getD k hp0).flags))):=hid rfl
   clear hc
   generalize badH (hs.getD k hp0)=bb at *
   generalize (hs.getD k hp0).delay=dl at *
   generalize (hs.getD k hp0).flags=fl at *
   have hbad:=hid (fun h:bb=true=>show E=1 from hE.out.trans (if_pos (hno.out h)))
   clear hno
   by_cases a1:dl<0
   ·have hX:=hid (hbad.out (by rw[hbd.out];simp[a1]))
    go_wp2_with fail
    go_ret
    exact⟨by rw[hX.out];rfl,B0.lat.trans L⟩
   by_cases a2:1000000<dl
   ·have hX:=hid (hbad.out (by rw[hbd.out];simp[a2]))
    go_wp2_with fail
    go_ret
    exact⟨by rw[hX.out];rfl,B0.lat.trans L⟩
   by_cases a3:fl<0
   ·have hX:=hid (hbad.out (by rw[hbd.out];simp[a3]))
    go_wp2_with fail
    go_ret
    exact⟨by rw[hX.out];rfl,B0.lat.trans L⟩
   by_cases a4:255<fl
   ·have hX:=hid (hbad.out (by rw[hbd.out];simp[a4]))
    go_wp2_with fail
    go_ret
    exact⟨by rw[hX.out];rfl,B0.lat.trans L⟩
   have hG:=hid (hgo.out (by rw[hbd.out];simp[a1,a2,a3,a4]))
   clear hgo hbd hbad
   go_wp2_with fail
   exact⟨⟨k+1,by omega,by go_num,hG,L⟩,by simp[intOf];omega⟩
  ·obtain rfl:k=n:=by omega
   replace hE:=hid (hE.out.trans (if_neg (by rw[Qn5 (by rw[hl];exact hz.out)];decide)))
   by_cases h5:k<1∨5<k
   ·have e:=hid (hE.out.trans (if_pos h5))
    by_cases h1:k<1
    ·have f1:decide ((k:Int)<1)=true:=decide_eq_true (by omega)
     clear h1 h5
     go_wp2_with fail
     go_ret
     exact⟨by rw[e.out];rfl,B0.lat.trans L⟩
    ·have f1:decide ((k:Int)<1)=false:=decide_eq_false (by omega)
     have f2:decide ((5:Int)<(k:Int))=true:=decide_eq_true (by omega)
     clear h5
     go_wp2_with fail
     go_ret
     exact⟨by rw[e.out];rfl,B0.lat.trans L⟩
   ·have f1:decide ((k:Int)<1)=false:=decide_eq_false (by omega)
    have f2:decide ((5:Int)<(k:Int))=false:=decide_eq_false (by omega)
    replace hE:=hid (hE.out.trans (if_neg h5))
    have B1:=B0.later L
    go_wp2_with (first
     | (refine go_l rfl ?_;refine QcC rfl _ rfl (B1.nth 0 rfl) rfl ?_)
     | fail)
    refine (hSh.out wr).mono ?_
    rintro e w4 ⟨rfl,j4⟩
    have B4:=B1.later j4
    go_wp2_with fail
    go_loopw [64] (fun i wq=>∃j:Nat,j≤k∧i= .int .i64 j∧Hid (∀ i,i+1<j→((hs.getD (i+1) hp0).nod.id==0)=false)∧Later w4 wq) (fun i _=>k-(intOf i).toNat)
    case atStart=>exact⟨0,by omega,rfl,hid (fun i h=>by omega),Later.refl _⟩
    case round=>
     obtain⟨j,hj,rfl,hg,L4⟩:=hrel
     by_cases hjk:j<k
     ·obtain⟨b,o,rfl,hbb,hc⟩:=(hh.later (B4.lat.trans L4)).at_ hjk
      have d1:wr.cell? ⟨b,o+j*68+1,none⟩=some (W64 (hs.getD j hp0).nod.id):=hc 1 _ (Qu7 _)
      clear hc
      by_cases h0:0<j
      ·obtain⟨i,rfl⟩:∃i,j=i+1:=⟨j-1,by omega⟩
       have hno:=hid (fun h=>Qpj (hs:=hs) (p:=fun h=>h.nod.id==0) (k:=i) (by omega) h)
       have hgo:Hid (((hs.getD (i+1) hp0).nod.id==0)=false→∀t,t+1<i+1+1→((hs.getD (t+1) hp0).nod.id==0)=false):=hid (fun h t h1=>by
        by_cases e:t=i
        ·rw[e];exact h
        ·exact hg.out t (by omega))
       generalize (hs.getD (i+1) hp0).nod.id=z at *
       have f0:decide ((0:Int)<(i:Int)+1)=true:=decide_eq_true (by omega)
       cases hzz:(z==0)
       ·have hG:=hid (hgo.out hzz)
        go_wp2_with fail
        exact⟨⟨i+1+1,by omega,by go_num,hG,L4⟩,by simp[intOf];omega⟩
       ·have e:=hid (hE.out.trans (if_pos (hno.out hzz)))
        go_wp2_with fail
        go_ret
        exact⟨by rw[e.out];rfl,B4.lat.trans L4⟩
      ·obtain rfl:j=0:=by omega
       go_wp2_with fail
       exact⟨⟨1,by omega,by go_num,hid (fun i h=>by omega),L4⟩,by simp[intOf];omega⟩
     ·obtain rfl:j=k:=by omega
      have e:=hid (hE.out.trans (if_neg (by rw[QqQ (hs:=hs) (p:=fun h=>h.nod.id==0) (fun t ht=>hg.out t (by omega))];decide)))
      go_wp2_with fail
      go_ret
      exact⟨by rw[e.out];rfl,B4.lat.trans L4⟩
set_option maxRecDepth 100000 in
set_option maxHeartbeats 8000000 in
theorem Qp0 (kd:UInt8) (hkd:kd=2∨kd=3) (A:Option Addr) (n cc:Nat) (hs:List Hp) (w:World) (hh:RdH w A n hs) (hn:n≤1048576):
 Calls Tryz.prog 75 #[.agg (CC (lcK kd)).toArray,.slice A n cc] w fun e w'=>∃A' c',e= .returned (.tuple #[.slice A' (Qjo kd hs).length c',.int .i64 (Qeb (lcK kd) hs:Nat)])∧
  RdF CC 20 cmd0 w' A' (Qjo kd hs).length (Qjo kd hs)∧Later w w':=by
 have hl:=hh.1
 have hPe:=hid (fun w h=>QmV kd hkd A n cc hs w h hn)
 have hR:Hid (Qjo kd hs=if Qeb (lcK kd) hs=0 then QdT kd hs hs.length else []):=hid rfl
 have B0:=Qbi w 64 (CC (lcK kd))
 have hst:=hid (Qnl kd hs)
 have hp0':=hid (Qnn kd hs)
 have hpa:=hid (Qoy kd hs)
 have hpl:=hid (Qi8 kd hs)
 have hml:=hid (QmB kd hs)
 have hmm:=hid (Qo6 kd hs)
 have hbk:=hid Qm4
 have hcl:=hid (Qcn kd hs hs.length)
 generalize Qeb (lcK kd) hs=E at *
 generalize Qjo kd hs=R at *
 generalize Qhc kd hs=CP at *
 generalize QdT kd hs hs.length=CA at *
 generalize QdO (lcK kd) hs=PC0 at *
 clear hkd
 rw[hl]at hst hp0' hpa hpl hml hmm hcl
 go_enter Tryz.func75,Tryz.ntmps75
 go_wp2_with (first
  | (refine go_l rfl ?_;refine QcC rfl _ rfl (B0.nth 0 rfl) rfl ?_)
  | fail)
 refine (hPe.out _ (hh.later B0.lat)).mono ?_
 rintro e w1 ⟨rfl,j1⟩
 have B1:=B0.later j1
 by_cases hE:E=0
 case neg=>
  have fE:((E:Int) != 0)=true:=bne_iff_ne.2 (by omega)
  have hX:=hid (hR.out.trans (if_neg hE))
  go_wp2_with fail
  go_ret2
  exact⟨none,0,by rw[hX.out];rfl,by rw[hX.out];exact QlW _,B1.lat⟩
 subst hE
 have hX:=hid (hR.out.trans (if_pos (by trivial)))
 clear hR B0 hPe
 go_wp2_with (first
  | (refine Qin QaR (by omega) cmd0 rfl _ _ _ rfl 64 32 Tryz.underlying179 QuK _ _ _ _ n rfl rfl rfl rfl (by omega) (by omega) ?_;intro w2 hb2 hl2)
  | fail)
 have own2:w2.ownsRow w1.heap.size 64 20 (.slice (some ⟨w1.heap.size,0,none⟩) n n) n ((CP 0).flatMap CC):=by
  rw[hp0'.out]
  exact Qq6 hb2 (Qyw _) (by rw[Qbj QaR,Qyy]) (by unfold maxLen;omega)
 clear hb2
 generalize hg1:w1.heap.size=g1 at own2 ⊢
 go_loopw [21] (fun i wr=>∃j:Nat,j≤n∧i= .int .i64 j∧wr.ownsRow g1 64 20 (.slice (some ⟨g1,0,none⟩) n n) n ((CP j).flatMap CC)∧Later w1 wr) (fun i _=>n-(intOf i).toNat)
 case atStart=>exact⟨0,by omega,rfl,own2,hl2⟩
 case round=>
  clear own2
  obtain⟨j,hj,rfl,own,L⟩:=hrel
  have B:=B1.later L
  by_cases hjn:j<n
  ·obtain⟨b,o,rfl,hbb,hc⟩:=(hh.later B.lat).at_ hjn
   have hCl:=hpl.out j (by omega)
   have hsj:=hid (hst.out j hjn)
   have c66:wr.cell? ⟨b,o+j*68+66,none⟩=some (.int .i64 (hs.getD j hp0).delay):=hc 66 _ (QiA _)
   have c67:wr.cell? ⟨b,o+j*68+67,none⟩=some (.int .i64 (hs.getD j hp0).flags):=hc 67 _ (QiP _)
   clear hc
   replace c66:=hid c66
   replace c67:=hid c67
   have tr:Hid (∀ (w':World),Later wr w'→w'.cell? ⟨b,o+j*68+66,none⟩=some (.int .i64 (hs.getD j hp0).delay)∧w'.cell? ⟨b,o+j*68+67,none⟩=some (.int .i64 (hs.getD j hp0).flags)∧b<w'.heap.size):=hid (fun w' l=>⟨(l.below.cell (p:=⟨b,o+j*68+66,none⟩) hbb).trans c66.out,(l.below.cell (p:=⟨b,o+j*68+67,none⟩) hbb).trans c67.out,QyG hbb l.size⟩)
   have hne:∀x,(Value.slice (some ⟨g1,0,none⟩) n n).ownBlock=some x→x≠wr.heap.size:=fun x hx=>by have:=(World.ownsRow.lt own x hx).2;omega
   by_cases hlast:j+1<n
   ·have f1:decide ((j:Int)+1<(n:Int))=true:=decide_eq_true (by omega)
    obtain⟨b2,o2,hbo,hbb2,hc2⟩:=(hh.later B.lat).at_ hlast
    obtain⟨rfl,rfl⟩:b=b2∧o=o2:=by simpa using hbo
    have d1:wr.cell? ⟨b,o+(j+1)*68+1,none⟩=some (W64 (hs.getD (j+1) hp0).nod.id):=hc2 1 _ (Qu7 _)
    have hpc:=hid (hmm.out j (by omega))
    have e2:((j:Int)+1).toNat=j+1:=by omega
    clear hc2 hbo hml hmm
    generalize (hs.getD (j+1) hp0).nod.id=nx at *
    generalize (hs.getD j hp0).delay=dl at *
    generalize (hs.getD j hp0).flags=fl at *
    replace d1:=hid d1
    go_wp2_with (first
     | (refine go_b rfl ?_;refine Qao ?hw 64 _ rfl (CC ⟨1,0,0,0,Qbt⟩) (by simp only[QyK,QyT,QyU];exact hbk.out 1) ?_;(case hw=>rfl))
     | (refine Qa1 rfl ?_;refine QfN rfl rfl _ _ rfl (Blk.new wr _ cz0) rfl rfl rfl ?_;intro w3 hb3 ho3
        have l3:Later wr w3:=(Qaa wr _).only ho3 (Qyw _)
        have own3:=Qb3 (Qet own (Qaa wr (.cells cz0.toArray 64))) ho3 hne
        have d3:=(l3.below.cell (p:=⟨b,o+(j+1)*68+1,none⟩) hbb).trans d1.out
        have hbl:=QyG hbb l3.size)
     | (refine Qa1 rfl ?_;refine Qae rfl rfl _ _ _ rfl wr.heap.size 3 _ _ hb3 rfl (by rw[QaR];omega) rfl (by kernel_rfl) ?_;intro v4 w4 hv4 hb4 ho4;simp[go_sem]at hv4;subst hv4
        have l4:=l3.only ho4 (Qyw _)
        have own4:=Qb3 own3 ho4 hne
        obtain⟨f66,f67,hbl4⟩:=tr.out w4 l4)
     | (refine Qa1 rfl ?_;refine Qae rfl rfl _ _ _ rfl wr.heap.size 2 _ _ hb4 rfl (by rw[Qy2,QaR];omega) rfl (by kernel_rfl) ?_;intro v5 w5 hv5 hb5 ho5;simp[go_sem]at hv5;subst hv5
        have l5:=l4.only ho5 (Qyw _)
        have own5:=Qb3 own4 ho5 hne
        obtain⟨f66',f67',hbl5⟩:=tr.out w5 l5)
     | (refine Qa1 rfl ?_;refine Qae rfl rfl _ _ _ rfl wr.heap.size 1 _ _ hb5 rfl (by rw[Qy2,Qy2,QaR];omega) rfl (by kernel_rfl) ?_;intro v6 w6 hv6 hb6 ho6;simp[go_sem]at hv6;subst hv6
        have l6:=l5.only ho6 (Qyw _)
        have own6:=Qb3 own5 ho6 hne
        replace hb6:Blk w6 wr.heap.size 64 (CC ⟨1,Qy1 fl,QzM dl,nx,Qbt⟩):=hb6)
     | (refine go_l rfl ?_;refine QcC rfl _ rfl hb6 rfl ?_)
     | (refine Qa1 rfl ?_;refine Qdp QaR QnG cmd0 rfl rfl _ _ _ rfl own6 hCl j hjn ⟨1,Qy1 fl,QzM dl,nx,Qbt⟩ rfl rfl QhQ ?_;intro w7 own7 ho7)
     | fail)
    rw[←hpc.out,hsj.out]at own7
    exact⟨⟨j+1,by omega,by go_num,own7,(L.trans l6).only ho7 (Nat.le_of_eq hg1)⟩,by simp[intOf];omega⟩
   ·have f1:decide ((j:Int)+1<(n:Int))=false:=decide_eq_false (by omega)
    have hpc:=hid (hml.out j (by omega))
    clear hml hmm
    generalize (hs.getD j hp0).delay=dl at *
    generalize (hs.getD j hp0).flags=fl at *
    have tb:Hid (∀ (w':World),Later wr w'→w'.cell? ⟨w.heap.size,0,none⟩=some (W8 kd)∧(∀ q v,(Qbt.val.map W8)[q]?=some v→w'.cell? ⟨w.heap.size,4+q,none⟩=some v)∧w.heap.size<w'.heap.size):=hid (fun w' l=>by
     have h:=(B.later l).nth 0 rfl
     obtain⟨c0,_,_,_,c4⟩:=QfT h
     exact⟨c0,c4,h.lt⟩)
    go_wp2_with (first
     | (refine go_b rfl ?_;refine Qao ?hw 64 _ rfl (CC ⟨1,0,0,0,Qbt⟩) (by simp only[QyK,QyT,QyU];exact hbk.out 1) ?_;(case hw=>rfl))
     | (refine Qa1 rfl ?_;refine QfN rfl rfl _ _ rfl (Blk.new wr _ cz0) rfl rfl rfl ?_;intro w3 hb3 ho3
        have l3:Later wr w3:=(Qaa wr _).only ho3 (Qyw _)
        have own3:=Qb3 (Qet own (Qaa wr (.cells cz0.toArray 64))) ho3 hne
        obtain⟨c0,c4,hlw⟩:=tb.out w3 l3)
     | (refine Qa1 rfl ?_;refine Qae rfl rfl _ _ _ rfl wr.heap.size 0 _ _ hb3 rfl (by rw[QaR];omega) rfl (by kernel_rfl) ?_;intro v4 w4 hv4 hb4 ho4;simp[go_sem]at hv4;subst hv4
        have l4:=l3.only ho4 (Qyw _)
        have own4:=Qb3 own3 ho4 hne
        replace hb4:Blk w4 wr.heap.size 64 (CC ⟨kd,0,0,0,Qbt⟩):=hb4
        obtain⟨c0',c4',hlw'⟩:=tb.out w4 l4)
     | (refine go_l rfl ?_;refine QaB rfl 31 _ rfl w.heap.size 4 (Qbt.val.map W8) c4' rfl _ Tryz.underlying31 rfl QpE ?_)
     | (refine Qa1 rfl ?_;refine Qai rfl rfl _ _ _ rfl wr.heap.size 4 _ _ (Qbt.val.map W8) hb4 rfl rfl QpE (by rw[QaR,Qyn,Qbt.2];omega) (QaK _) ?_;intro w8 hb8 ho8
        rw[QrM]at hb8
        have l8:=l4.only ho8 (Qyw _)
        have own8:=Qb3 own4 ho8 hne
        obtain⟨f66,f67,hbl4⟩:=tr.out w8 l8)
     | (refine Qa1 rfl ?_;refine Qae rfl rfl _ _ _ rfl wr.heap.size 2 _ _ hb8 rfl (by rw[QaR];omega) rfl (by kernel_rfl) ?_;intro v5 w5 hv5 hb5 ho5;simp[go_sem]at hv5;subst hv5
        have l5:=l8.only ho5 (Qyw _)
        have own5:=Qb3 own8 ho5 hne
        obtain⟨f66',f67',hbl5⟩:=tr.out w5 l5)
     | (refine Qa1 rfl ?_;refine Qae rfl rfl _ _ _ rfl wr.heap.size 1 _ _ hb5 rfl (by rw[Qy2,QaR];omega) rfl (by kernel_rfl) ?_;intro v6 w6 hv6 hb6 ho6;simp[go_sem]at hv6;subst hv6
        have l6:=l5.only ho6 (Qyw _)
        have own6:=Qb3 own5 ho6 hne
        replace hb6:Blk w6 wr.heap.size 64 (CC ⟨kd,Qy1 fl,QzM dl,0,Qbt⟩):=hb6)
     | (refine go_l rfl ?_;refine QcC rfl _ rfl hb6 rfl ?_)
     | (refine Qa1 rfl ?_;refine Qdp QaR QnG cmd0 rfl rfl _ _ _ rfl own6 hCl j hjn ⟨kd,Qy1 fl,QzM dl,0,Qbt⟩ rfl rfl QhQ ?_;intro w7 own7 ho7)
     | fail)
    rw[←hpc.out,hsj.out]at own7
    exact⟨⟨j+1,by omega,by go_num,own7,(L.trans l6).only ho7 (Nat.le_of_eq hg1)⟩,by simp[intOf];omega⟩
  ·obtain rfl:j=n:=by omega
   rw[hpa.out]at own
   go_wp2_with fail
   go_ret2
   exact⟨some ⟨g1,0,none⟩,j,by rw[hX.out,hcl.out];rfl,by rw[hX.out,hcl.out];exact Qk6 (d:=cmd0) QaR own hcl.out,B.lat⟩
end Go.Proofs.YtdhgpkdjdmlphaaGreat
namespace Go.Proofs.YtdhgpkdjdmlphaaGreat
open Go.RowKit
end Go.Proofs.YtdhgpkdjdmlphaaGreat
namespace Go.Proofs.YtdhgpkdjdmlphaaGreat
open Go.RowKit
open Go.BigFrame
theorem Bag.perm {w wk:World} {ls ls':List (Nat×TypeId×List Value)} (h:Bag w wk ls) (p:ls.Perm ls'):Bag w wk ls':=
 ⟨h.lat,fun q hq=>h.blk q (p.mem_iff.2 hq),fun q hq=>h.low q (p.mem_iff.2 hq),(p.map _).nodup_iff.1 h.nd⟩
theorem Bag.cast {w wk:World} {ls ls':List (Nat×TypeId×List Value)} (h:Bag w wk ls) (e:ls=ls'):Bag w wk ls':=e ▸ h
def sl32 (b:Nat):Value:=.slice (some ⟨b,0,none⟩) 32 32
def payB (b:Nat) (p:List UInt8):Nat×TypeId×List Value:=(b,5,p.map W8)
def Qbs (xs:List (List UInt8)):List (List UInt8):=xs.map fun x=>subB x 64 32
theorem Qbo (xs:List (List UInt8)):(Qbs xs).length=xs.length:=by simp[Qbs]
theorem QeJ (xs:List (List UInt8)) (k:Nat) (h:k<xs.length):(Qbs xs).getD k []=subB (xs.getD k []) 64 32:=by
 rw[Qbs,Qys,QyF,Qys,Qyq h]
 rfl
theorem Qol (gs:List Nat) (xs:List (List UInt8)) (k b:Nat) (hg:gs.length=k) (h:k<xs.length):
 List.zipWith payB (gs++[b]) ((Qbs xs).take (k+1))=List.zipWith payB gs ((Qbs xs).take k)++[payB b (subB (xs.getD k []) 64 32)]:=by
 rw[Qdj _ k (by rw[Qbo];exact h),QeJ xs k h,List.zipWith_append (by rw[hg,QyL,Qbo];omega)]
 rfl
theorem Qqz (gs:List Nat) (n k b:Nat) (hg:gs.length=k) (h:k<n):
 (gs.map sl32++Qym (n-k) (Value.slice none 0 0)).set k (sl32 b)=(gs++[b]).map sl32++Qym (n-(k+1)) (Value.slice none 0 0):=by
 rw[QyW _ _ (by rw[Qyn];omega),Qyn,hg,Qzu,show n-k=(n-(k+1))+1 by omega,QzE,QyI,Qy6,QyE]
 rfl
theorem RdK.rdB {sz:Nat} {w:World} {A:Option Addr} {n:Nat} {xs:List (List UInt8)} (h:RdK sz w A n xs) {k off m:Nat} (hk:k<n) {r:List UInt8} (hr:subB (xs.getD k []) off m=r) (hm:r.length=m):
 ∃b o,A=some ⟨b,o,none⟩∧b<w.heap.size∧RdB w (some ⟨b,o+k*sz+off,none⟩) m r:=by
 obtain⟨b,o,hA,hb,hc⟩:=h.sub hk
 exact⟨b,o,hA,hb,by rw[Qyn,hm],fun _=>⟨b,o+k*sz+off,rfl,hb,fun j v hv=>hc w (Later.refl w) off m r hr j v hv⟩⟩
theorem Qve:(Tryz.prog.info? 22).map (fun i=>(i.zero,i.size,i.bytes))=some (some (.slice none 0 0),1,24):=Qp9
set_option maxRecDepth 100000 in
set_option maxHeartbeats 4000000 in
theorem QlR (A:Option Addr) (n c:Nat) (xs:List (List UInt8)) (w:World) (hr:RdK 192 w A n xs) (hxl:∀x∈xs,x.length=192) (hn:n≤1048576):
 Calls Tryz.prog 19 #[.slice A n c] w fun e w'=>∃gs:List Nat,e= .returned (.slice (some ⟨w.heap.size,0,none⟩) n n)∧gs.length=n∧
  Bag w w' ((w.heap.size,22,gs.map sl32) :: List.zipWith payB gs (Qbs xs)):=by
 have hxn:=hr.1
 go_enter Tryz.func19,Tryz.ntmps19
 go_wp2_with (first
  | (refine Qar rfl _ _ 48 rfl 22 (.slice none 0 0) 24 Tryz.underlying48 Qve rfl _ _ _ _ n rfl rfl rfl rfl (by omega) (by omega) ?_;intro w1 hb1 hl1)
  | fail)
 have B0:Bag w w1 [(w.heap.size,22,Qym n (Value.slice none 0 0))]:=(Bag.none w).add hl1 (by simp) (Qyw _) hb1
 clear hb1 hl1
 generalize hg:w.heap.size=g at *
 go_loopw [10] (fun i wr=>∃(k:Nat) (gs:List Nat),k≤n∧i= .int .i64 k∧gs.length=k∧Bag w wr ((g,22,gs.map sl32++Qym (n-k) (Value.slice none 0 0)) :: List.zipWith payB gs ((Qbs xs).take k))) (fun i _=>n-(intOf i).toNat)
 case atStart=>exact⟨0,[],by omega,rfl,rfl,B0⟩
 case round=>
  clear B0
  obtain⟨k,gs,hk,rfl,hgl,B1⟩:=hrel
  by_cases hlt:k<n
  ·have hTl:(xs.getD k []).length=192:=hxl _ (QcV xs k (by omega))
   obtain⟨b,o,rfl,hb,hrd⟩:=(hr.later B1.lat).rdB (k:=k) (off:=64) (m:=32) hlt rfl (Qal (by omega))
   have hps:=hid (fun b=>Qol gs xs k b hgl (by omega))
   have hpl:(subB (xs.getD k []) 64 32).length=32:=Qal (by omega)
   have hll:(gs.map sl32++Qym (n-k) (Value.slice none 0 0)).length=n:=by rw[Qyv,Qyn,Qyy];omega
   generalize hR:subB (xs.getD k []) 64 32=p at *
   have HR:=hid hR
   clear hR hrd
   generalize hL:gs.map sl32++Qym (n-k) (Value.slice none 0 0)=L0 at *
   have hput:putB (Qym 32 (0:UInt8)) 0 p=p:=QlK _ _ (by simp[hpl])
   have hz32:(Qym 32 (0:UInt8)).length=32:=by simp
   have hzm:(Qym 32 (Value.int .u8 0))=(Qym 32 (0:UInt8)).map W8:=by rw[Qy4];rfl
   generalize Qym 32 (0:UInt8)=Z at *
   have HP:=hid hput
   have HZ:=hid hzm
   have hns:=hid (fun b=>show L0.set k (sl32 b)=(gs++[b]).map sl32++Qym (n-(k+1)) (Value.slice none 0 0) by rw[←hL,Qqz gs n k b hgl hlt])
   clear hput hzm hL
   go_wp2_with (first
    | (refine Qar rfl _ _ 22 rfl 5 (.int .u8 0) 1 Tryz.underlying22 Qcg rfl _ _ _ _ 32 rfl rfl rfl rfl (by omega) (by omega) ?_;intro w2 hb2 hl2
       have B2:=(B1.later hl2).add (Later.refl w2) (k:=wr.heap.size) (by intro q hq;have:=(B1.blk q hq).lt;omega) B1.lat.size (hb2.cast HZ.out))
    | (refine Qae rfl rfl _ _ _ rfl g k 22 L0 (B2.nth 1 rfl) rfl (by omega) rfl (by kernel_rfl) ?_;intro v w3 hv hb3 ho3;simp[go_sem]at hv;subst hv
       have B3:=(B2.write 1 rfl ho3 hb3).drew)
    | fail)
   have d0:=(B3.nth 1 rfl).cellD k (u:=.slice (some ⟨wr.heap.size,0,none⟩) 32 32) (by rw[Qz1 (by omega)])
   obtain⟨b',o',e,_,hrd3⟩:=(hr.later B3.lat).rdB (k:=k) (off:=64) (m:=32) hlt (HR.out) hpl
   cases e
   go_wp2_with fail
   refine Qaf [] [0,1,2,3,4,5,6,7,8,9] [10] (by as_aux_lemma=>kernel_rfl) (by as_aux_lemma=>kernel_rfl) (by intro _ _ d _ _ h;cases d<;>exact h) ?_
   simp only[Qaj,pick,Qyo,Qyp,Qyr,Qyu,Qyt]
   repeat (go_big_quiet_step (fail))
   refine wpQuiet_nil ?_
   go_wp2_with (first
    | (refine QiZ 0 32 rfl _ _ _ _ rfl 5 Tryz.underlying22 Qbv (B3.nth 0 rfl) hrd3 rfl rfl (by omega) ?_;intro w4 hb4 ho4
       rw[HP.out]at hb4
       have B4:=B3.write 0 rfl ho4 hb4)
    | fail)
   have B5:=B4.perm ((List.Perm.swap _ _ _).trans (List.Perm.cons _ (List.perm_append_singleton _ _).symm))
   go_roundw
   case rel=>
    refine⟨k+1,gs++[wr.heap.size],by omega,by go_num,by simp[hgl],B5.cast ?_⟩
    rw[hps.out wr.heap.size,←hns.out wr.heap.size]
    rfl
   case measure=>simp[intOf];omega
  ·have hkn:k=n:=by omega
   subst hkn
   rw[Qzu,List.replicate_zero,QyZ,Qyx (by rw[Qbo];omega)]at B1
   go_wp2_with fail
   go_ret
   subst hg
   exact⟨gs,rfl,hgl,B1⟩
theorem QhY {w w':World} {g n:Nat} {gs:List Nat} {ps:List (List UInt8)} (h:Bag w w' ((g,22,gs.map sl32) :: List.zipWith payB gs ps)) (hg:gs.length=n) (hp:ps.length=n) (h32:∀p∈ps,p.length=32):Parts w' (fun _=>False) (some ⟨g,0,none⟩) n ps:=by
 refine⟨gs.map sl32,(h.nth 0 rfl).rd (by rw[Qyn,hg]),fun _ _ _ h=>h,by rw[Qyn,hg,hp],fun j v p hv hpj=>?_⟩
 rw[QyF,QzR]at hv
 obtain⟨b,hb,rfl⟩:=hv
 have:=h.nth (j+1) (k:=b) (t:=5) (l:=p.map W8) (by rw[Qyo,List.getElem?_zipWith,hb,hpj];rfl)
 exact QaH (QbY this (h32 p (List.mem_of_getElem? hpj))) (Qyw _)
theorem Qn3 (g:Nat) (w:World):Calls Tryz.prog 145 #[.int .i64 0,.pointer (some ⟨g,0,none⟩)] w fun e w'=>e= .returned (.tuple #[])∧Later w w':=by
 go_enter Tryz.func145,Tryz.ntmps145
 go_wp2_with fail
 exact bodyPost_end (results_none rfl _ _ _) rfl ⟨rfl,Later.refl w⟩
set_option maxRecDepth 100000 in
set_option maxHeartbeats 4000000 in
theorem Qq1 (A:Option Addr) (n c:Nat) (cs:List Cmd) (w:World) (hcr:RdF CC 20 cmd0 w A n cs) (h1:1≤n) (h5:n≤5) (hok:∀i,i<n→cmdE (cs.getD i cmd0)=0∧((cs.getD i cmd0).kd=1↔i+1<n)):
 Calls Tryz.prog 113 #[.slice A n c,.int .i64 (n:Int)] w fun e w'=>e= .returned (.int .i64 0)∧Later w w':=by
 have hmf:∀(fn:Fn) (first cap:Array Value) (w:World),(Instr.makeFunc fn first cap).run Tryz.prog w= .ok (.func fn first cap) w:=fun _ _ _ _=>rfl
 have hok':=hid hok
 clear hok
 have k1:decide ((n:Int)<1)=false:=decide_eq_false (by omega)
 have k5:decide ((5:Int)<(n:Int))=false:=decide_eq_false (by omega)
 have hNt:=hid Qn3
 go_enter Tryz.func113,Tryz.ntmps113
 go_wp2_with (first
  | (refine Qa1 rfl ?_;refine Qae rfl rfl _ _ _ rfl w.heap.size 0 _ _ (Blk.new w _ [.int .i64 0]) rfl (by simp) rfl (by kernel_rfl) ?_;intro v1 w1 hv1 hb1 ho1;simp[go_sem]at hv1;subst hv1)
  | fail)
 have l1:Later w w1:=(Qaa w _).only ho1 (Qyw _)
 go_loopw [13] (fun i wr=>∃k:Nat,k≤n∧i= .int .i64 k∧Later w1 wr) (fun i _=>n-(intOf i).toNat)
 case atStart=>exact⟨0,by omega,rfl,Later.refl _⟩
 case round=>
  obtain⟨k,hk,rfl,L⟩:=hrel
  by_cases hlt:k<n
  ·obtain⟨b,o,rfl,hb,hc⟩:=(hcr.later (l1.trans L)).at_ hlt
   obtain⟨hE0,hkd⟩:=hok'.out k hlt
   have hCk:=hid (fun w=>QhK (cs.getD k cmd0) w)
   rw[hE0]at hCk
   generalize cs.getD k cmd0=C at *
   obtain⟨lb,e1,e2⟩:∃lb:Bool,((k:Int)+1==(n:Int))=lb∧(C.kd==1)= !lb:=by
    by_cases hl:k+1=n
    ·exact⟨true,by simp;omega,by simp only[Bool.not_true,beq_eq_false_iff_ne];intro e;have:=hkd.1 e;omega⟩
    ·exact⟨false,by simp;omega,by simp only[Bool.not_false,beq_iff_eq];exact hkd.2 (by omega)⟩
   clear hkd hE0
   go_wp2_with (first
    | (refine go_l rfl ?_;refine QaB rfl 64 _ rfl b (o+k*20) (CC C) hc rfl _ Tryz.underlying64 rfl (by rw[QaR];exact QhQ) ?_)
    | (refine Qa1 rfl ?_;refine QfN rfl rfl _ _ rfl (Blk.new wr _ cz0) rfl rfl rfl ?_;intro w2 hb2 ho2
       have l2:Later wr w2:=(Qaa wr _).only ho2 (Qyw _))
    | (refine go_l rfl ?_;refine QcC rfl _ rfl hb2 rfl ?_)
    | fail)
   refine (hCk.out w2).mono ?_
   rintro e w3 ⟨rfl,j3⟩
   go_wp2_with fail
   refine (hNt.out _ w3).mono ?_
   rintro e w4 ⟨rfl,j4⟩
   have c0:=(QfT (hb2.later (j3.trans j4))).1
   have hl4:=(hb2.later (j3.trans j4)).lt
   cases lb
   all_goals
    go_wp2_with fail
    exact⟨⟨k+1,by omega,by go_num,L.trans (l2.trans (j3.trans j4))⟩,by simp[intOf];omega⟩
  ·obtain rfl:k=n:=by omega
   have c0:=(hb1.later L).cellD 0 (u:=.int .i64 0) rfl
   have hlw:=(hb1.later L).lt
   go_wp2_with fail
   go_ret
   exact⟨rfl,l1.trans L⟩
theorem Qui:Tryz.zeroCells53.toList.length=192:=by kernel_rfl
theorem QlO:(Tryz.prog.info? 53).map (·.size)=some 192:=by kernel_rfl
set_option maxRecDepth 100000 in
set_option maxHeartbeats 4000000 in
theorem QkK (A:Option Addr) (m d:Nat) (xs:List (List UInt8)) (st:Nat→List UInt8) (hstx:∀i,i<m→xs.getD i []=st i) (w:World) (hr:RdK 192 w A m xs) (hxl:∀x∈xs,x.length=192) (h1:1≤m) (h5:m≤5) (hmd:m≤d):
 Calls Tryz.prog 114 #[.slice A m d] w fun e w'=>∃A' c',e= .returned (.tuple #[.slice A' (48*(m-1)) c',.int .i64 0])∧OwnB w' w.heap.size A' (48*(m-1)) c' (Qf9 st (m-1))∧Later w w':=by
 have hxn:=hr.1
 have hst:=hid (fun k (h:k<m)=>hxl _ (QcV xs k (by omega)))
 have hfs:Hid (∀ k,k<m→Qf9 st (k+1)=xorB (Qf9 st k++Qym 48 0) ((chaS (subB (xs.getD k []) 32 32) 288).drop (288-48*(k+1)))):=hid (fun k hk=>by rw[hstx k hk];rfl)
 have hf0:Hid (Qf9 st 0=[]):=hid rfl
 have hfl:=hid (fun k h=>Qej st k h)
 have hchl:=hid (fun key=>QaX key 288)
 generalize Qf9 st=FA at *
 clear hstx
 obtain⟨b,o,rfl,hb,hc⟩:∃b o,A=some ⟨b,o,none⟩∧b<w.heap.size∧∀k,k<m→∀(w':World),Later w w'→∀j v,((xs.getD k []).map W8)[j]?=some v→w'.cell? ⟨b,o+k*192+j,none⟩=some v:=by
  obtain⟨b,o,hA,hb,_⟩:=hr.sub (k:=0) (by omega)
  refine⟨b,o,hA,hb,fun k hk w' l j v hv=>?_⟩
  obtain⟨b',o',hA',_,h⟩:=hr.sub (k:=k) hk
  rw[hA]at hA'
  cases hA'
  have:=h w' l 0 192 (xs.getD k []) (by rw[subB,Qzn,Qyx (by have:=hst.out k hk;omega)]) j v hv
  rwa [QzO]at this
 have k1:decide ((m:Int)<1)=false:=decide_eq_false (by omega)
 have k2:decide ((5:Int)<(m:Int))=false:=decide_eq_false (by omega)
 have hcut:∀W,(Instr.sliceAt 45 (.slice (some ⟨b,o,none⟩) m d) none (some (.int .i64 ((m:Int)-1))) none).run Tryz.prog W= .ok (.slice (some ⟨b,o,none⟩) (m-1) d) W:=fun W=>by
  simp[go_sem]
  omega
 replace hc:=hid hc
 clear hr
 go_enter Tryz.func114,Tryz.ntmps114
 go_wp2_with fail
 go_loopw [4,24] (fun v i wr=>∃(k:Nat) (A':Option Addr) (c':Nat),k≤m-1∧i= .int .i64 k∧v= .slice A' (48*k) c'∧OwnB wr w.heap.size A' (48*k) c' (FA k)∧Later w wr) (fun _ i _=>m-1-(intOf i).toNat)
 case atStart=>exact⟨0,none,0,by omega,rfl,rfl,by rw[hf0.out];exact Qdo _ _ _,Later.refl w⟩
 case round=>
  obtain⟨k,A1,c1,hk,rfl,rfl,hown,L⟩:=hrel
  by_cases hlt:k<m-1
  ·have hTl:=hst.out k (by omega)
   have hkl:(subB (xs.getD k []) 32 32).length=32:=Qal (by omega)
   have hck:=hc.out k (by omega) wr L
   have hs:=hid (hfs.out k (by omega))
   have hbw:=QyG hb L.size
   have hcap1:=OwnB.cap hown
   have hFk:=hfl.out k (by omega)
   generalize hT:xs.getD k []=T at *
   clear hT
   have hS32:Hid (∀ {w':World} {g:Nat},Blk w' g 53 (T.map W8)→RdB w' (some ⟨g,32,none⟩) 32 (subB T 32 32)):=hid (fun h=>QbN h rfl hkl)
   generalize subB T 32 32=S at *
   generalize FA k=F at *
   go_wp2_with (first
    | (refine go_l rfl ?_;refine QaB rfl 53 _ rfl b (o+k*192) (T.map W8) hck rfl _ Tryz.underlying53 rfl (by rw[Qyn,hTl];exact QlO) ?_)
    | (refine Qa1 rfl ?_;refine QfQ 192 rfl rfl _ _ rfl (Blk.new wr _ Tryz.zeroCells53.toList) rfl rfl QlO hTl Qui ?_;intro w2 hb2 ho2
       have l2:Later wr w2:=(Qaa wr _).only ho2 (Qyw _))
    | fail)
   refine (QhT (some ⟨wr.heap.size,32,none⟩) 32 288 S w2 (hS32.out hb2) (by omega)).mono ?_
   rintro e w3 ⟨A3,c3,rfl,o3,j3⟩
   have hcap3:=OwnB.cap o3
   go_wp2_with (first
    | (refine Qar rfl _ _ _ rfl 5 _ 1 Tryz.underlying22 Qcg rfl _ _ _ _ 48 rfl rfl rfl rfl (by omega) (by omega) ?_;intro w4 hb4 hl4)
    | fail)
   have hz48:Qym 48 (Value.int .u8 0)=(Qym 48 (0:UInt8)).map W8:=by rw[Qy4];rfl
   rw[hz48]at hb4
   have J4:=(l2.trans j3).trans hl4
   have P4:=Qdr (Blk.new w4 22 [.slice A1 (48*k) c1,.slice (some ⟨w3.heap.size,0,none⟩) 48 48]) (QaH (OwnB.rd (Qa0 hown (J4.trans (Qaa _ _)))) hcap1) (QaH (QbY (hb4.later (Qaa _ _)) (by rw[Qyy])) (Qyw _))
   have hflat:([F,Qym 48 (0:UInt8)]:List (List UInt8)).flatten=F++Qym 48 0:=by simp
   have hFl2:(F++Qym 48 (0:UInt8)).length=48*k+48:=by rw[Qyv,Qyy,hFk]
   have hJn:=QbO (some ⟨w4.heap.size,0,none⟩) 2 2 _ _ P4 (by omega) (by rw[hflat,hFl2];omega)
   rw[hflat,hFl2]at hJn
   refine hJn.mono ?_
   rintro e w5 ⟨A5,c5,rfl,o5,j5⟩
   have hcap5:=OwnB.cap o5
   clear hJn P4 hb4
   have hch:=hchl.out S
   obtain⟨DA,dc,hcut2,hbd,hdc⟩:∃(DA:Option Addr) (dc:Nat),(∀ W,(Instr.sliceAt 22 (.slice A3 288 c3) (some (.int .i64 ((288:Int)-(48*(k:Int)+48)))) none none).run Tryz.prog W= .ok (.slice DA (48*k+48) dc) W)∧RdB w5 DA (48*k+48) ((chaS S 288).drop (288-48*(k+1)))∧48*k+48≤dc:=by
    refine⟨cutA A3 (288-48*(k+1)) c3,c3-(288-48*(k+1)),fun W=>?_,?_,by omega⟩
    ·have:=QgC A3 288 c3 .i64 (288-48*(k+1)) (by omega) W
     rw[show (288:Int)-(48*(k:Int)+48)=((288-48*(k+1):Nat):Int) by omega,this,show 288-(288-48*(k+1))=48*k+48 by omega]
    ·have h:=RdB.cut ((OwnB.rd o3).later (hl4.trans ((Qaa _ _).trans j5))) (k:=288-48*(k+1)) (by omega) hcap3
     rwa [show 288-(288-48*(k+1))=48*k+48 by omega]at h
   have J5:=J4.trans ((Qaa _ _).trans j5)
   have P6:=Qdr (Blk.new w5 22 [.slice A5 (48*k+48) c5,.slice DA (48*k+48) dc]) (QaH (OwnB.rd (Qa0 o5 (Qaa _ _))) hcap5) (QaH (RdB.later hbd (Qaa _ _)) hdc)
   have hX:=Qjq (some ⟨w5.heap.size,0,none⟩) 2 (48*k+48) _ _ _ P6 hFl2 (by rw[Qy0,hch];omega) (by omega)
   rw[←hs.out]at hX
   go_wp2_with fail
   refine hX.mono ?_
   rintro e w6 ⟨A6,c6,rfl,o6,j6⟩
   clear hX P6
   go_wp2_with fail
   exact⟨⟨k+1,A6,c6,by omega,by go_num,rfl,Qdg o6 (L.trans (J5.trans (Qaa _ _))).size,L.trans (J5.trans ((Qaa _ _).trans j6))⟩,by simp[intOf];omega⟩
  ·obtain rfl:k=m-1:=by omega
   go_wp2_with fail
   go_ret2
   exact⟨A1,c1,rfl,hown,L⟩
end Go.Proofs.YtdhgpkdjdmlphaaGreat
