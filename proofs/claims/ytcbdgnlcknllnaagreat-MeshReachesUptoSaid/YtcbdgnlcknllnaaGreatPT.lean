/-
  Lemmas for the last text of this claim (part 20 of 20).
-/
import Derived.BigQuiet
import Derived.BigRegion
import Derived.ChangeOld
import Derived.Deep.RegionWith
import Derived.DeepKeys4
import Derived.JoinedCond
import Derived.LaidMore
import Derived.Laws.CopyOwn
import Derived.Laws.Externs
import Derived.Laws.IdiomStrings
import Derived.Laws.Tables
import Derived.Lib.AppendStr
import Derived.Lib.AppendZerosOnto
import Derived.Lib.Mul64
import Derived.Lib.SlBytesConst
import Derived.LoopN
import Derived.Maps.OwnSet
import Derived.OpenShut
import Derived.OrdersHeld
import Derived.ProofKit
import Derived.Shelf.Spec.BitsCarry
import Derived.ShutString
import Derived.Test.YtcbdgnlcknllnaaGreatProg
import Derived.Test.YtcbdgnlcknllnaaGreatRows
import Derived.WalkKit
import Derived.WalkLawsBesides
import Derived.WalkSpells
import Derived.Test.YtcbdgnlcknllnaaGreatPE
import Derived.Test.YtcbdgnlcknllnaaGreatPJ
import Derived.Test.YtcbdgnlcknllnaaGreatPN
import Derived.Test.YtcbdgnlcknllnaaGreatPP
import Derived.Test.YtcbdgnlcknllnaaGreatPQ
import Derived.Test.YtcbdgnlcknllnaaGreatPR
import Derived.Test.YtcbdgnlcknllnaaGreatPS
open Bool renaming and_eq_true → QFQ
open List renaming replicate → QFu, getElem?_cons_succ → QFv, getElem?_cons_zero → QFw, cons_append → QFy, nil_append → QFz, length_map → QFA, getElem?_eq_getElem → QFB, getD_eq_getElem?_getD → QFC, setIfInBounds_toArray → QFD, length_append → QFF, set_cons_zero → QFG, set_cons_succ → QFH, map_toArray → QFI, getElem?_append_right → QFK, length_replicate → QFM, getElem?_map → QFN, not_mem_nil → QFO, mem_cons → QFP, map_nil → QFR, getElem?_append_left → QFS, getElem?_eq_some_iff → QFU, map_cons → QFW, length_take → QFY, map_append → QF2, range → QF6, append_nil → QGb, mem_map → QGf, map_replicate → QGg, all_eq_true → QGi, mem_append → QGC, getElem?_range → QGM, getElem?_take → QGX, range_succ → QG4, flatMap_cons → QHm, flatMap_append → QHG
open Nat renaming le_refl → QFE, lt_of_lt_of_le → QFV, zero_add → QFX, le_trans → QGh, le_of_eq → QHR
open Option renaming toList_some → QFx, bind_some → QGD, getD_some → QHq
namespace Go.Proofs.YtcbdgnlcknllnaaGreat
open Go.RowKit
open Go.BigFrame
noncomputable def bldR (x:List UInt8) (c:Cmd) (body:List UInt8) (hs:List Hp):List UInt8:=if QcX x c body hs=0 then Qi3 x c body hs else []
theorem Qu9 (kd:UInt8) (hs:List Hp) (n i:Nat) (h:i<n):(QeY kd hs n).getD i cmd0=QbV (lcK kd) hs i:=by
 rw[QeY,QFC,QFN,QGM h]
 rfl
theorem QrJ (x:List UInt8) (ps:List (List UInt8)) (n i:Nat) (h:i<n):(Qeh x ps n).getD i []=Qc7 x ps i:=by
 rw[Qeh,QFC,QFN,QGM h]
 rfl
set_option maxHeartbeats 1000000 in
theorem QBU (A B:Option Addr) (n c m d:Nat) (key bs:List UInt8) (w:World) (hk:RdB w A n key) (hb:RdB w B m bs) (hd:m≤d) (hn:n≤2097152) (hm:m≤2097152):
 Calls Tryz.prog 55 #[.slice A n c,.slice B m d] w fun e w'=>Later w w'∧∃A' c',e= .returned (.tuple #[.slice A' (QcK key bs rsS).length c',.int .i64 (Qfb key bs rsS:Nat)])∧OwnB w' w.heap.size A' (QcK key bs rsS).length c' (QcK key bs rsS):=by
 have h:=hid (fun C e0 w hk hb hr=>Qr0 A B C n c m d 4 e0 key bs rsS w hk hb hd hr hn hm (by omega))
 generalize QcK key bs rsS=X at *
 generalize Qfb key bs rsS=E at *
 go_enter Tryz.func55,Tryz.ntmps55
 go_wp2_with fail
 have J:=Qaa w (.cells #[.int .i64 1,.int .i64 2,.int .i64 3,.int .i64 4] 3)
 (refine (h.out _ _ _ (hk.later J) (hb.later J) ((Blk.new w 3 [.int .i64 1,.int .i64 2,.int .i64 3,.int .i64 4]).rd rfl)).mono ?_);rintro e w1 ⟨j1,A1,c1,rfl,ho1⟩
 go_wp2_with fail
 go_ret2
 exact⟨J.trans j1,A1,c1,rfl,ho1.mono J.size⟩
set_option maxRecDepth 100000 in
set_option maxHeartbeats 8000000 in
theorem QAo (kd:UInt8) (hkd:kd=2∨kd=3) (A B H:Option Addr) (nx cx nb cb n ch:Nat) (x body:List UInt8) (hs:List Hp) (w:World) (hx:RdB w A nx x) (hnx:nx≤1048576) (hb:RdB w B nb body) (hnb:nb≤1048576) (hh:RdH w H n hs) (hn:n≤1048576):
 Calls Tryz.prog 28 #[.slice A nx cx,.agg (CC (lcK kd)).toArray,.slice B nb cb,.slice H n ch] w fun e w'=>∃A' c',e= .returned (.tuple #[.slice A' (bldR x (lcK kd) body hs).length c',.int .i64 (QcX x (lcK kd) body hs:Nat)])∧OwnB w' w.heap.size A' (bldR x (lcK kd) body hs).length c' (bldR x (lcK kd) body hs)∧Later w w':=by
 have hl:=hh.1
 have hbl:=hb.len
 have B0:=Qbb w 53 (CC (lcK kd))
 have hPa:=hid (fun w h=>Qxu kd hkd H n ch hs w h hn)
 have hPu:=hid (fun w h=>Qtj H n ch hs w h hn)
 have hSc:=hid (fun A2 c2 w h1 h2=>Qmf A A2 nx cx n c2 x (pubH hs) w h1 (by omega) h2 (by omega))
 have hEq:Hid (QcX x (lcK kd) body hs=QbI [Qgj (lcK kd) hs,QeZ x (pubH hs),if nb=480 then 0 else 2]):=hid (by rw[QcX,hbl])
 have hR:Hid (QcX x (lcK kd) body hs≠0→bldR x (lcK kd) body hs=[]):=hid (fun h=>by rw[bldR,if_neg h])
 have hR0:Hid (QcX x (lcK kd) body hs=0→bldR x (lcK kd) body hs=pktA n (fun i=>encB (QbV (lcK kd) hs i)) (Qc7 x (pubH hs)) body 0):=hid (fun h=>by rw[bldR,if_pos h,Qi3,hl])
 have hpok:=hid (fun h i (hi:i<n)=>Qlw (c:=lcK kd) (hs:=hs) h (i:=i) (by omega))
 have hp15:=hid (fun h=>Qe3 (c:=lcK kd) (hs:=hs) h)
 have hcg:=hid (Qu9 kd hs n)
 have hsg:=hid (QrJ x (pubH hs) n)
 have hpl:Hid (Qlp kd hs=if Qgj (lcK kd) hs=0 then QeY kd hs n else []):=hid (by rw[Qlp,hl])
 have hcl:=hid (Qh6 kd hs n)
 have hstl:=hid (Qdv x (pubH hs))
 have hsal:=hid (QkO x (pubH hs) n)
 generalize QcX x (lcK kd) body hs=E at *
 generalize bldR x (lcK kd) body hs=R at *
 generalize Qgj (lcK kd) hs=PE at *
 generalize QeZ x (pubH hs)=SE at *
 generalize Qlp kd hs=PL at *
 go_enter Tryz.func28,Tryz.ntmps28
 go_wp2_with (first
  | (refine Qdc rfl _ rfl (B0.nth 0 rfl) rfl ?_)
  | fail)
 (refine (hPa.out _ (hh.later B0.lat)).mono ?_);rintro e w1 ⟨A1,c1,rfl,o1,j1⟩
 have L1:=B0.lat.trans j1
 go_wp2_with fail
 (refine (hPu.out _ (hh.later L1)).mono ?_);rintro e w2 ⟨A2,c2,rfl,o2,j2⟩
 have L2:=L1.trans j2
 go_wp2_with fail
 (refine (hSc.out A2 c2 _ (hx.later L2) (OwnParts.parts o2)).mono ?_);rintro e w3 ⟨j3,hor⟩
 have L3:=L2.trans j3
 have o1':=Qa7 o1 (j2.trans j3)
 clear hPa hPu hSc o1 o2 j1 j2 j3 B0 hx
 obtain⟨vS,hre,hok⟩:∃vS,e= .returned (.tuple #[vS,.int .i64 (SE:Nat)])∧(SE=0→∃A' c',vS= .slice A' n c'∧n≤c'∧RdK 192 w3 A' n (Qeh x (pubH hs) n)):=by
  rcases hor with ⟨h,rfl⟩|⟨h,A',c',rfl,h2,h3⟩
  ·exact⟨_,rfl,fun e=>absurd e h⟩
  ·exact⟨_,by rw[h];rfl,fun _=>⟨A',c',rfl,h2,h3⟩⟩
 subst hre
 clear hor
 replace hok:=hid hok
 obtain⟨BE,hBE⟩:∃BE,BE=if nb=480 then 0 else 2:=⟨_,rfl⟩
 rw[←hBE]at hEq
 have hBd:Hid (BE=0→nb=480):=hid (fun h=>by
  by_cases e:nb=480
  ·exact e
  ·rw[hBE,if_neg e]at h
   cases h)
 have J:=Qaa w3 (.cells #[.int .i64 (PE:Int),.int .i64 (SE:Int),.int .i64 (BE:Int)] 3)
 have hls:=hid (QeQ (some ⟨w3.heap.size,0,none⟩) 3 3 [PE,SE,BE] _ ((Blk.new w3 3 [.int .i64 (PE:Int),.int .i64 (SE:Int),.int .i64 (BE:Int)]).rd rfl) (by omega))
 rw[←hEq.out]at hls
 have hlz:Hid (E=0→PE=0∧SE=0∧BE=0):=hid (fun h=>by
  rw[hEq.out,Qdj]at h
  exact⟨h _ (by simp),h _ (by simp),h _ (by simp)⟩)
 clear hEq
 by_cases hE:E=0
 ·obtain⟨hp0,hs0,hb0⟩:=hlz.out hE
  obtain rfl:=hBd.out hb0
  subst hE hp0 hs0 hb0
  have hR:=hR0.out rfl
  obtain⟨A4,c4,rfl,hc4,hrk⟩:=hok.out rfl
  rw[if_pos rfl]at hpl
  obtain⟨_,_,hn1,hn5,_,_⟩:=hp15.out rfl
  rw[hl]at hn1 hn5
  have hPL:PL=QeY kd hs n:=hpl.out
  subst hPL
  rw[hcl.out]at o1' ⊢
  have hcok:=hid (fun i (hi:i<n)=>show cmdE ((QeY kd hs n).getD i cmd0)=0∧(((QeY kd hs n).getD i cmd0).kd=1↔i+1<n) from by
   rw[hcg.out i hi]
   have:=hpok.out rfl i hi
   rwa [hl]at this)
  have hcg':=hid (fun i (hi:i<n)=>show encB ((QeY kd hs n).getD i cmd0)=(fun i=>encB (QbV (lcK kd) hs i)) i from by rw[hcg.out i hi])
  have hcl':=hcl.out
  generalize QeY kd hs n=CS at *
  obtain⟨sl,hsl⟩:∃sl:Nat→List UInt8,sl=fun i=>encB (QbV (lcK kd) hs i):=⟨_,rfl⟩
  rw[←hsl]at hcg' hR
  obtain⟨b,o,rfl,hbb,hcP⟩:∃b o,A4=some ⟨b,o,none⟩∧b<w3.heap.size∧∀k,k<n→∀(w':World),Later w3 w'→∀(off q:Nat) (r:List UInt8),subB (Qc7 x (pubH hs) k) off q=r→∀j v,(r.map W8)[j]?=some v→w'.cell? ⟨b,o+k*192+off+j,none⟩=some v:=by
   obtain⟨b,o,hA,hb,_⟩:=hrk.sub (k:=0) (by omega)
   refine⟨b,o,hA,hb,fun k hk=>?_⟩
   obtain⟨b',o',hA',_,h⟩:=hrk.sub (k:=k) hk
   rw[hA]at hA'
   cases hA'
   rw[hsg.out k hk]at h
   exact h
  generalize Qeh x (pubH hs) n=XS at *
  generalize Qc7 x (pubH hs)=st at *
  have hpk:R=hdrA n sl st (n-1)++seaA n st body n:=hR
  replace hcP:=hid hcP
  replace hpk:=hid hpk
  replace hcl':=hid hcl'
  clear hR hR0 hpok hp15 hcg hpl hcl hok hlz hBd hsl hBE
  go_wp2_with fail
  refine hls.out.mono ?_;rintro e w4 ⟨rfl,j4⟩
  have L4:=L3.trans (J.trans j4)
  have o4:=Qa7 o1' (J.trans j4)
  have hrk4:=hrk.later (J.trans j4)
  have J4:=J.trans j4
  clear hls j4 J
  go_wp2_with fail
  (refine (Qrx A1 (some ⟨b,o,none⟩) n c1 c4 CS XS _ (QgS Qan o4 hcl'.out) hrk4 hsal.out hn1 hn5 hcok.out sl st hcg'.out hsg.out).mono ?_);rintro e w5 ⟨A5,c5,rfl,o5,j5⟩
  have L5:=L4.trans j5
  have J5:=J4.trans j5
  clear hrk hrk4 o4 o1' hcok hcg' hsg hsal
  go_wp2_with fail
  (refine (QbD B 480 cb body _ (hb.later L5) (by omega)).mono ?_);rintro e w6 ⟨A6,c6,rfl,o6,j6⟩
  go_wp2_with fail
  have hs0:Hid (seaA n st body 0=body):=hid rfl
  go_loopw [17,18] (fun v i wr=>∃(j:Nat) (A':Option Addr) (c':Nat),j≤n∧i= .int .i64 ((n:Int)-1-(j:Int))∧v= .slice A' 480 c'∧OwnB wr w5.heap.size A' 480 c' (seaA n st body j)∧Later w5 wr) (fun _ i _=>(intOf i+1).toNat)
  case atStart=>exact⟨0,A6,c6,by omega,by simp,rfl,by rw[hs0.out];exact o6,j6⟩
  case round=>
   clear o6 j6
   obtain⟨j,A7,c7,hj,rfl,rfl,ob,LB⟩:=hrel
   by_cases hjn:j<n
   ·obtain⟨i,hi⟩:∃i,i=n-1-j:=⟨_,rfl⟩
    have hcast:(n:Int)-1-(j:Int)=(i:Int):=by omega
    rw[hcast]
    have hik:i<n:=by omega
    have hs1:Hid (seaA n st body (j+1)=QcK (subB (st i) 64 32) (seaA n st body j) rsS):=hid (by rw[hi];rfl)
    have hsl1:=hid (Qff (n:=n) hstl.out hbl (j+1))
    replace hcast:=hid hcast
    replace hi:=hid hi
    have hmP:=hid (fun w' h=>hcP.out i hik w' h 64 32 _ rfl)
    have hkl:(subB (st i) 64 32).length=32:=Qau (by rw[hstl.out i];omega)
    have hcap:=OwnB.cap ob
    have hbbr:b<wr.heap.size:=QFV hbb (J5.trans LB).size
    generalize subB (st i) 64 32=K at *
    generalize seaA n st body j=SJ at *
    go_wp2_with fail
    (refine (QBU (some ⟨b,o+i*192+64,none⟩) A7 32 32 480 c7 K SJ _ (Qd9 hbbr (hmP.out wr (J5.trans LB)) hkl) (OwnB.rd ob) hcap (by omega) (by omega)).mono ?_);rintro e w7 ⟨j7,A8,c8,rfl,o7⟩
    rw[←hs1.out,hsl1.out]at o7
    rw[←hs1.out,hsl1.out]
    go_wp2_with fail
    exact⟨⟨j+1,A8,c8,by omega,by rw[show (n:Int)-1-((j+1:Nat):Int)=(i:Int)-1 by have:=hcast.out;omega],rfl,Qbc o7 LB.size,LB.trans j7⟩,by simp only[intOf];omega⟩
   ·obtain rfl:j=n:=by omega
    have hHl:=OwnB.len o5
    have hSl:=OwnB.len ob
    have o5':=Qaq o5 LB
    have hge: ¬(0:Int)≤(j:Int)-1-(j:Int):=by omega
    have hRl:R.length=768:=by rw[hpk.out,QFF,hHl,hSl]
    generalize hdrA j sl st (j-1)=HD at *
    generalize seaA j st body j=SN at *
    replace hRl:=hid hRl
    go_wp2_with (first
     | (refine Qal rfl _ _ _ rfl 5 _ 1 Tryz.underlying25 Qbq rfl w4 _ 288 _ o5' (j5.trans LB) A7 480 c7 _ (QcQ ob) (Qay _) rfl rfl (by omega) (by omega) ?_;intro A9 c9 w9 hown9 hl9 hg9 _)
     | fail)
    go_ret2
    refine⟨A9,c9,by rw[hRl.out];rfl,?_,L4.trans hl9⟩
    rw[hRl.out,hpk.out]
    exact Qbc (QdJ hown9 rfl (by rw[QF2])) L4.size
 ·have hne:((E:Int) != 0)=true:=by simp;omega
  have hX:=hid (hR.out hE)
  by_cases h480:nb=480
  ·have hne4:((nb:Int) != 480)=false:=by simp;omega
   obtain rfl:BE=0:=by rw[hBE,if_pos h480]
   clear h480 hBE
   go_wp2_with fail
   refine hls.out.mono ?_;rintro e w4 ⟨rfl,j4⟩
   go_wp2_with fail
   go_ret2
   exact⟨none,0,by rw[hX.out];rfl,by rw[hX.out];exact Qa1 _ _ _,L3.trans (J.trans j4)⟩
  ·have hne4:((nb:Int) != 480)=true:=by simp;omega
   obtain rfl:BE=2:=by rw[hBE,if_neg h480]
   clear h480 hBE
   go_wp2_with fail
   refine hls.out.mono ?_;rintro e w4 ⟨rfl,j4⟩
   go_wp2_with fail
   go_ret2
   exact⟨none,0,by rw[hX.out];rfl,by rw[hX.out];exact Qa1 _ _ _,L3.trans (J.trans j4)⟩
noncomputable def sndR (x:List UInt8) (p:Prt) (hs:List Hp):List UInt8:=if Qhh x p hs=0 then QhM x p hs else []
theorem Qkq (k:UInt8):Tryz.prog.built 53 [(0,W8 k)]=some (CC (lcK k)).toArray:=by
 rw[Qa0 (pl:=[(0,1),(1,1),(2,1),(3,1),(4,16)]) Tryz.underlying53 Qwi (by kernel_rfl),QaR (vs:=[W8 k]) (off:=0) rfl rfl (by rw[Qan];simp),Qb5]
 rfl
set_option maxRecDepth 100000 in
set_option maxHeartbeats 8000000 in
theorem QC6 (A D H:Option Addr) (nx cx nd cd n ch:Nat) (x:List UInt8) (p:Prt) (hs:List Hp) (w:World) (hx:RdB w A nx x) (hnx:nx≤1048576) (hd:RdB w D nd p.da) (hnd:nd≤1048576) (hh:RdH w H n hs) (hn:n≤1048576):
 Calls Tryz.prog 10 #[.slice A nx cx,.agg (PaC p (.slice D nd cd)).toArray,.slice H n ch] w fun e w'=>∃A' c',e= .returned (.tuple #[.slice A' (sndR x p hs).length c',.int .i64 (Qhh x p hs:Nat)])∧OwnB w' w.heap.size A' (sndR x p hs).length c' (sndR x p hs)∧Later w w':=by
 have B0:=Qbb w 36 (PaC p (.slice D nd cd))
 have hFr:=hid (fun w h=>QrR p D nd cd w h hnd)
 have hR:Hid (sndR x p hs=if Qhh x p hs=0 then QhM x p hs else []):=hid rfl
 have hbd:Hid (∀ kd body,(if QcX x (lcK kd) body hs=0 then Qi3 x (lcK kd) body hs else [])=bldR x (lcK kd) body hs):=hid (fun kd body=>rfl)
 have hFB:Hid (frmR p=if prtE p=0 then Qbg p else []):=hid rfl
 obtain⟨KD,hKD⟩:∃KD:UInt8,KD=if p.kd=2 then 3 else 2:=⟨_,rfl⟩
 have hKD2:KD=2∨KD=3:=by
  rw[hKD]
  split
  ·exact .inr rfl
  ·exact .inl rfl
 have hsc:QcC p=lcK KD:=by rw[QcC,←hKD];rfl
 obtain⟨FE,hFE⟩:∃FE,FE=frmE p:=⟨_,rfl⟩
 obtain⟨SB,hSB⟩:∃SB,SB=Qgg p:=⟨_,rfl⟩
 have hE:Hid (Qhh x p hs=QbI [FE,QcX x (lcK KD) SB hs]):=hid (by rw[Qhh,hsc,←hFE,←hSB])
 have hB:Hid (QhM x p hs=Qi3 x (lcK KD) SB hs):=hid (by rw[QhM,hsc,←hSB])
 have hRE:Hid (Qhh x p hs≠0→sndR x p hs=[]):=hid (fun h=>by rw[sndR,if_neg h])
 have hRB:Hid (Qhh x p hs=0→sndR x p hs=bldR x (lcK KD) SB hs):=hid (fun h=>by
  have h':=h
  rw[hE.out,Qdj]at h'
  rw[sndR,if_pos h,bldR,if_pos (h' _ (by simp)),hB.out])
 have hBu:=hid (fun Bs cb w h1 h2 h3=>QAo KD hKD2 A Bs H nx cx 480 cb n ch x SB hs w h1 hnx h2 (by omega) h3 hn)
 have hfr0:Hid (prtE p=0→(Qbg p).length=480):=hid (fun h=>Qdt p (Qhm h).2.1)
 have hSBd:Hid (SB=if FE=0 then Qbg p else QFu 480 0):=hid (by rw[hSB,hFE];rfl)
 have hFEd:Hid (FE=if prtE p=0∧p.kd=3 then 3 else prtE p):=hid hFE
 have hKDd:Hid (KD=if p.kd=2 then 3 else 2):=hid hKD
 have hz8:Hid (QFu 480 (Value.int .u8 0)=(QFu 480 (0:UInt8)).map W8):=hid (by rw[QGg];rfl)
 clear hSB hFE hKD hsc hbd hR hB hKD2
 have bc2:=Qkq 2
 have bc3:=Qkq 3
 generalize frmR p=FR at *
 generalize Qbg p=FB at *
 generalize sndR x p hs=R at *
 generalize Qhh x p hs=E at *
 generalize prtE p=PE at *
 generalize QcX x (lcK KD) SB hs=BE at *
 generalize bldR x (lcK KD) SB hs=BR at *
 go_enter Tryz.func10,Tryz.ntmps10
 go_wp2_with (first
  | (refine Qea rfl _ rfl (B0.nth 0 rfl) rfl ?_)
  | fail)
 (refine (hFr.out _ (hd.later B0.lat)).mono ?_);rintro e w1 ⟨A1,c1,rfl,o1,j1⟩
 have B1:=B0.later j1
 have kc1:=(QaS (B1.nth 0 rfl)).1
 have hl1:=(B1.nth 0 rfl).lt
 clear B0 hFr hd j1
 by_cases hp0:PE=0
 ·subst hp0
  have hFRv:FR=FB:=hFB.out.trans (if_pos rfl)
  have hfl:=hfr0.out rfl
  rw[hFRv,hfl]at o1
  rw[hFRv,hfl]
  cases h3:(p.kd==3)
  ·have hk3:p.kd≠3:=by simpa using h3
   obtain rfl:FE=0:=hFEd.out.trans (if_neg (fun h=>hk3 h.2))
   cases h2:(p.kd==2)
   ·obtain rfl:KD=2:=hKDd.out.trans (if_neg (by simpa using h2))
    have hSBv:=hid (hSBd.out.trans (if_pos rfl))
    go_wp2_with (first
     | (refine Qak rfl 53 _ rfl (CC (lcK 2)) (by simp only[QFI,QFW,QFR];exact bc2) ?_)
     | (refine QbP rfl rfl _ _ rfl (Blk.new w1 _ cz0) rfl rfl rfl ?_;intro w3 hb3 ho3
        have B3:=B1.push (Qaa _ _) (QFE _) ho3 hb3
        have kc3:=(QaS (B3.nth 1 rfl)).1
        have hl3':=(B3.nth 1 rfl).lt)
     | (refine Qdc rfl _ rfl (B3.nth 0 rfl) rfl ?_)
     | fail)
    have oF:=Qaq (QaV (Qaq o1 (Qaa w1 (.cells cz0.toArray 53))) (Blk.new w1 _ cz0) (by decide) ho3) (Later.refl _)
    (refine (hBu.out _ _ _ (hx.later B3.lat) (by rw[hSBv.out];exact QcQ oF) (hh.later B3.lat)).mono ?_);rintro e w5 ⟨A5,c5,rfl,o5,j5⟩
    have L5:=B3.lat.trans j5
    have J:=Qaa w5 (.cells #[.int .i64 (0:Int),.int .i64 (BE:Int)] 3)
    have hls:=hid (QeQ (some ⟨w5.heap.size,0,none⟩) 2 2 [0,BE] _ ((Blk.new w5 3 [.int .i64 (0:Int),.int .i64 (BE:Int)]).rd rfl) (by omega))
    rw[←hE.out]at hls
    go_wp2_with fail
    refine hls.out.mono ?_;rintro e w6 ⟨rfl,j6⟩
    have o6:=Qbc (Qaq o5 (J.trans j6)) B3.lat.size
    have L6:=L5.trans (J.trans j6)
    by_cases hEz:E=0
    ·have hX:=hid (hRB.out hEz)
     subst hEz
     go_wp2_with fail
     go_ret2
     exact⟨A5,c5,by rw[hX.out];rfl,by rw[hX.out];exact o6,L6⟩
    ·have hX:=hid (hRE.out hEz)
     have hne9:((E:Int) != 0)=true:=by simp;omega
     go_wp2_with fail
     go_ret2
     exact⟨none,0,by rw[hX.out];rfl,by rw[hX.out];exact Qa1 _ _ _,L6⟩
   ·obtain rfl:KD=3:=hKDd.out.trans (if_pos (by simpa using h2))
    have hSBv:=hid (hSBd.out.trans (if_pos rfl))
    go_wp2_with (first
     | (refine Qak rfl 53 _ rfl (CC (lcK 2)) (by simp only[QFI,QFW,QFR];exact bc2) ?_)
     | (refine QbP rfl rfl _ _ rfl (Blk.new w1 _ cz0) rfl rfl rfl ?_;intro w3 hb3 ho3
        have B3:=B1.push (Qaa _ _) (QFE _) ho3 hb3
        have kc3:=(QaS (B3.nth 1 rfl)).1
        have hl3':=(B3.nth 1 rfl).lt)
     | (refine Qak rfl 53 _ rfl (CC (lcK 3)) (by simp only[QFI,QFW,QFR];exact bc3) ?_)
     | (refine QbP rfl rfl _ _ rfl (B3.nth 0 rfl) rfl rfl (Qan _) ?_;intro w4 hb4 ho4
        have B4:=B3.write 0 rfl ho4 hb4)
     | (refine Qdc rfl _ rfl (B4.nth 0 rfl) rfl ?_)
     | fail)
    have oF:=QaV (QaV (Qaq o1 (Qaa w1 (.cells cz0.toArray 53))) (Blk.new w1 _ cz0) (by decide) ho3) (B3.nth 0 rfl) (by decide) ho4
    (refine (hBu.out _ _ _ (hx.later B4.lat) (by rw[hSBv.out];exact QcQ oF) (hh.later B4.lat)).mono ?_);rintro e w5 ⟨A5,c5,rfl,o5,j5⟩
    have L5:=B4.lat.trans j5
    have J:=Qaa w5 (.cells #[.int .i64 (0:Int),.int .i64 (BE:Int)] 3)
    have hls:=hid (QeQ (some ⟨w5.heap.size,0,none⟩) 2 2 [0,BE] _ ((Blk.new w5 3 [.int .i64 (0:Int),.int .i64 (BE:Int)]).rd rfl) (by omega))
    rw[←hE.out]at hls
    go_wp2_with fail
    refine hls.out.mono ?_;rintro e w6 ⟨rfl,j6⟩
    have o6:=Qbc (Qaq o5 (J.trans j6)) B4.lat.size
    have L6:=L5.trans (J.trans j6)
    by_cases hEz:E=0
    ·have hX:=hid (hRB.out hEz)
     subst hEz
     go_wp2_with fail
     go_ret2
     exact⟨A5,c5,by rw[hX.out];rfl,by rw[hX.out];exact o6,L6⟩
    ·have hX:=hid (hRE.out hEz)
     have hne9:((E:Int) != 0)=true:=by simp;omega
     go_wp2_with fail
     go_ret2
     exact⟨none,0,by rw[hX.out];rfl,by rw[hX.out];exact Qa1 _ _ _,L6⟩
  ·have hk3:p.kd=3:=by simpa using h3
   obtain rfl:FE=3:=hFEd.out.trans (if_pos ⟨rfl,hk3⟩)
   have h2:(p.kd==2)=false:=by rw[hk3];decide
   obtain rfl:KD=2:=hKDd.out.trans (if_neg (by rw[hk3];decide))
   clear hk3
   have hSBv:=hid (hSBd.out.trans (if_neg (by decide)))
   go_wp2_with (first
    | (refine QaE rfl _ _ _ rfl 5 _ 1 Tryz.underlying25 Qbq rfl _ _ _ _ 480 rfl rfl rfl rfl (by omega) (by omega) ?_;intro w2 hb2 hl2
       have B2:=B1.fresh hl2 (QFE _) (hb2.cast hz8.out)
       have kc2:=(QaS (B2.nth 1 rfl)).1
       have hl2':=(B2.nth 1 rfl).lt)
    | (refine Qak rfl 53 _ rfl (CC (lcK 2)) (by simp only[QFI,QFW,QFR];exact bc2) ?_)
    | (refine QbP rfl rfl _ _ rfl (Blk.new w2 _ cz0) rfl rfl rfl ?_;intro w3 hb3 ho3
       have B3:=B2.push (Qaa _ _) (QFE _) ho3 hb3
       have kc3:=(QaS (B3.nth 2 rfl)).1
       have hl3':=(B3.nth 2 rfl).lt)
    | (refine Qdc rfl _ rfl (B3.nth 0 rfl) rfl ?_)
    | fail)
   (refine (hBu.out _ 480 _ (hx.later B3.lat) (by rw[hSBv.out];exact (B3.nth 1 rfl).rd (by rw[QFA,QFM])) (hh.later B3.lat)).mono ?_);rintro e w5 ⟨A5,c5,rfl,o5,j5⟩
   have L5:=B3.lat.trans j5
   have J:=Qaa w5 (.cells #[.int .i64 (3:Int),.int .i64 (BE:Int)] 3)
   have hls:=hid (QeQ (some ⟨w5.heap.size,0,none⟩) 2 2 [3,BE] _ ((Blk.new w5 3 [.int .i64 (3:Int),.int .i64 (BE:Int)]).rd rfl) (by omega))
   rw[←hE.out]at hls
   go_wp2_with fail
   refine hls.out.mono ?_;rintro e w6 ⟨rfl,j6⟩
   have o6:=Qbc (Qaq o5 (J.trans j6)) B3.lat.size
   have L6:=L5.trans (J.trans j6)
   by_cases hEz:E=0
   ·have hX:=hid (hRB.out hEz)
    subst hEz
    go_wp2_with fail
    go_ret2
    exact⟨A5,c5,by rw[hX.out];rfl,by rw[hX.out];exact o6,L6⟩
   ·have hX:=hid (hRE.out hEz)
    have hne9:((E:Int) != 0)=true:=by simp;omega
    go_wp2_with fail
    go_ret2
    exact⟨none,0,by rw[hX.out];rfl,by rw[hX.out];exact Qa1 _ _ _,L6⟩
 ·obtain rfl:FE=PE:=hFEd.out.trans (if_neg (fun h=>hp0 h.1))
  have hpe:=hid hp0
  have f0:((FE:Int)==0)=false:=by simp;omega
  have f1:((FE:Int) != 0)=true:=by simp;omega
  clear hp0
  cases h2:(p.kd==2)
  ·obtain rfl:KD=2:=hKDd.out.trans (if_neg (by simpa using h2))
   have hSBv:=hid (hSBd.out.trans (if_neg (by exact hpe.out)))
   go_wp2_with (first
    | (refine QaE rfl _ _ _ rfl 5 _ 1 Tryz.underlying25 Qbq rfl _ _ _ _ 480 rfl rfl rfl rfl (by omega) (by omega) ?_;intro w2 hb2 hl2
       have B2:=B1.fresh hl2 (QFE _) (hb2.cast hz8.out)
       have kc2:=(QaS (B2.nth 1 rfl)).1
       have hl2':=(B2.nth 1 rfl).lt)
    | (refine Qak rfl 53 _ rfl (CC (lcK 2)) (by simp only[QFI,QFW,QFR];exact bc2) ?_)
    | (refine QbP rfl rfl _ _ rfl (Blk.new w2 _ cz0) rfl rfl rfl ?_;intro w3 hb3 ho3
       have B3:=B2.push (Qaa _ _) (QFE _) ho3 hb3
       have kc3:=(QaS (B3.nth 2 rfl)).1
       have hl3':=(B3.nth 2 rfl).lt)
    | (refine Qdc rfl _ rfl (B3.nth 0 rfl) rfl ?_)
    | fail)
   (refine (hBu.out _ 480 _ (hx.later B3.lat) (by rw[hSBv.out];exact (B3.nth 1 rfl).rd (by rw[QFA,QFM])) (hh.later B3.lat)).mono ?_);rintro e w5 ⟨A5,c5,rfl,o5,j5⟩
   have L5:=B3.lat.trans j5
   have J:=Qaa w5 (.cells #[.int .i64 (FE:Int),.int .i64 (BE:Int)] 3)
   have hls:=hid (QeQ (some ⟨w5.heap.size,0,none⟩) 2 2 [FE,BE] _ ((Blk.new w5 3 [.int .i64 (FE:Int),.int .i64 (BE:Int)]).rd rfl) (by omega))
   rw[←hE.out]at hls
   go_wp2_with fail
   refine hls.out.mono ?_;rintro e w6 ⟨rfl,j6⟩
   have o6:=Qbc (Qaq o5 (J.trans j6)) B3.lat.size
   have L6:=L5.trans (J.trans j6)
   by_cases hEz:E=0
   ·have hX:=hid (hRB.out hEz)
    subst hEz
    go_wp2_with fail
    go_ret2
    exact⟨A5,c5,by rw[hX.out];rfl,by rw[hX.out];exact o6,L6⟩
   ·have hX:=hid (hRE.out hEz)
    have hne9:((E:Int) != 0)=true:=by simp;omega
    go_wp2_with fail
    go_ret2
    exact⟨none,0,by rw[hX.out];rfl,by rw[hX.out];exact Qa1 _ _ _,L6⟩
  ·obtain rfl:KD=3:=hKDd.out.trans (if_pos (by simpa using h2))
   have hSBv:=hid (hSBd.out.trans (if_neg (by exact hpe.out)))
   go_wp2_with (first
    | (refine QaE rfl _ _ _ rfl 5 _ 1 Tryz.underlying25 Qbq rfl _ _ _ _ 480 rfl rfl rfl rfl (by omega) (by omega) ?_;intro w2 hb2 hl2
       have B2:=B1.fresh hl2 (QFE _) (hb2.cast hz8.out)
       have kc2:=(QaS (B2.nth 1 rfl)).1
       have hl2':=(B2.nth 1 rfl).lt)
    | (refine Qak rfl 53 _ rfl (CC (lcK 2)) (by simp only[QFI,QFW,QFR];exact bc2) ?_)
    | (refine QbP rfl rfl _ _ rfl (Blk.new w2 _ cz0) rfl rfl rfl ?_;intro w3 hb3 ho3
       have B3:=B2.push (Qaa _ _) (QFE _) ho3 hb3
       have kc3:=(QaS (B3.nth 2 rfl)).1
       have hl3':=(B3.nth 2 rfl).lt)
    | (refine Qak rfl 53 _ rfl (CC (lcK 3)) (by simp only[QFI,QFW,QFR];exact bc3) ?_)
    | (refine QbP rfl rfl _ _ rfl (B3.nth 0 rfl) rfl rfl (Qan _) ?_;intro w4 hb4 ho4
       have B4:=B3.write 0 rfl ho4 hb4)
    | (refine Qdc rfl _ rfl (B4.nth 0 rfl) rfl ?_)
    | fail)
   (refine (hBu.out _ 480 _ (hx.later B4.lat) (by rw[hSBv.out];exact (B4.nth 1 rfl).rd (by rw[QFA,QFM])) (hh.later B4.lat)).mono ?_);rintro e w5 ⟨A5,c5,rfl,o5,j5⟩
   have L5:=B4.lat.trans j5
   have J:=Qaa w5 (.cells #[.int .i64 (FE:Int),.int .i64 (BE:Int)] 3)
   have hls:=hid (QeQ (some ⟨w5.heap.size,0,none⟩) 2 2 [FE,BE] _ ((Blk.new w5 3 [.int .i64 (FE:Int),.int .i64 (BE:Int)]).rd rfl) (by omega))
   rw[←hE.out]at hls
   go_wp2_with fail
   refine hls.out.mono ?_;rintro e w6 ⟨rfl,j6⟩
   have o6:=Qbc (Qaq o5 (J.trans j6)) B4.lat.size
   have L6:=L5.trans (J.trans j6)
   by_cases hEz:E=0
   ·have hX:=hid (hRB.out hEz)
    subst hEz
    go_wp2_with fail
    go_ret2
    exact⟨A5,c5,by rw[hX.out];rfl,by rw[hX.out];exact o6,L6⟩
   ·have hX:=hid (hRE.out hEz)
    have hne9:((E:Int) != 0)=true:=by simp;omega
    go_wp2_with fail
    go_ret2
    exact⟨none,0,by rw[hX.out];rfl,by rw[hX.out];exact Qa1 _ _ _,L6⟩
theorem QkX {x:List UInt8} {p:Prt} {hs:List Hp} (h:Qhh x p hs=0):prtE p=0∧p.kd≠3∧QcX x (QcC p) (Qbg p) hs=0∧QhM x p hs=Qi3 x (QcC p) (Qbg p) hs:=by
 rw[Qhh,Qdj]at h
 have h1:frmE p=0:=h _ (by simp)
 have h2:QcX x (QcC p) (Qgg p) hs=0:=h _ (by simp)
 have hb:Qgg p=Qbg p:=by rw[Qgg,if_pos h1]
 rw[hb]at h2
 have hp:prtE p=0∧p.kd≠3:=by
  unfold frmE at h1
  split at h1
  ·cases h1
  ·rename_i hn
   exact⟨h1,fun e=>hn ⟨h1,e⟩⟩
 exact⟨hp.1,hp.2,h2,by rw[QhM,hb]⟩
def arrP (p:Prt) (hs:List Hp) (Y:Nat→Y768) (i:Nat):Pel:=⟨QbV (QcC p) hs i,Y (i+1),if i+1<hs.length then [] else Qbg p⟩
theorem QtC {x:List UInt8} {p:Prt} {hs:List Hp} (h:Qhh x p hs=0) (hfit:∀i,i<hs.length→QbH (hs.getD i hp0).nod.priv.val (nb 9)=(hs.getD i hp0).nod.pub.val):
 ∃Y:Nat→Y768,1≤hs.length∧QhM x p hs=(Y 0).val∧Y hs.length=Qwy∧(∀ i,i<hs.length→unwE (hs.getD i hp0).nod.priv.val (Y i).val=0∧unwL (hs.getD i hp0).nod.priv.val (Y i)=arrP p hs Y i∧((QbV (QcC p) hs i).kd=1↔i+1<hs.length)):=by
 obtain⟨_,_,hbe,hsb⟩:=QkX h
 have hz:=hbe
 rw[QcX,Qdj]at hz
 have hpe:Qgj (QcC p) hs=0:=hz _ (by simp)
 have hb3:(if (Qbg p).length=480 then 0 else 2)=0:=hz _ (by simp)
 have hb:(Qbg p).length=480:=by
  split at hb3
  ·assumption
  ·cases hb3
 obtain⟨_,_,h1,h5,_,_⟩:=Qe3 hpe
 have hlen:∀i,(pktA hs.length (fun i=>encB (QbV (QcC p) hs i)) (Qc7 x (pubH hs)) (Qbg p) i).length=768:=fun i=>(QpW h1 h5 (fun _=>Qdg _) (fun _=>Qdv _ _ _) hb i).2.2
 refine⟨fun i=>if i<hs.length then ⟨pktA hs.length (fun i=>encB (QbV (QcC p) hs i)) (Qc7 x (pubH hs)) (Qbg p) i,hlen i⟩ else Qwy,h1,?_,?_,fun i hi=>?_⟩
 ·simp only[if_pos (show 0<hs.length by omega)]
  rw[hsb,Qi3]
 ·simp only[if_neg (Nat.lt_irrefl _)]
 ·obtain⟨u1,u2,u3,u4⟩:=Qmv x (QcC p) (Qbg p) hs hbe hfit i hi
  simp only[if_pos hi]
  refine⟨u1,?_,(Qlw hpe hi).2⟩
  rw[unwL,arrP]
  simp only[u2,u4]
  congr 1
  apply Subtype.ext
  rw[unwY]
  simp only[u3]
  split
  ·rfl
  ·rfl
theorem QjL {x:List UInt8} {p:Prt} {b:List UInt8} {hs:List Hp} (h:QcX x (QcC p) b hs=0) (k:Nat) (hk:k<hs.length):
 ((QbV (QcC p) hs k).dl.toNat:Int)=(hs.getD k hp0).delay∧((QbV (QcC p) hs k).fl.toNat:Int)=(hs.getD k hp0).flags∧(QbV (QcC p) hs k).ma=QaH∧(k+1<hs.length→(QbV (QcC p) hs k).nx=(hs.getD (k+1) hp0).nod.id)∧(k+1=hs.length→(QbV (QcC p) hs k).kd=if p.kd=2 then 3 else 2):=by
 rw[QcX,Qdj]at h
 obtain⟨_,h2,_,_,_,_⟩:=Qe3 (show Qgj (QcC p) hs=0 from h _ (by simp))
 obtain⟨d1,d2,f1,f2⟩:=Qsz (QBJ h2 hk)
 have e1:=Qhq (hs.getD k hp0).delay d1 (by omega)
 have e2:=Qev (hs.getD k hp0).flags f1 (by omega)
 unfold QbV
 by_cases hl:k+1<hs.length
 ·rw[if_pos hl]
  exact⟨e1,e2,rfl,fun _=>rfl,fun h=>absurd h (by omega)⟩
 ·rw[if_neg hl]
  exact⟨e1,e2,rfl,fun h=>absurd h hl,fun _=>rfl⟩
end Go.Proofs.YtcbdgnlcknllnaaGreat
namespace Go.Proofs.YtcbdgnlcknllnaaGreat
open Go.RowKit
structure Car where
 vs:List Vst
 bd:List UInt8
 tk:Int
 er:Nat
def Qhd (xs:List Nod):Nat→UInt64→Int→List UInt8→List Vst→Car
 | 0,_,_,_,vs=>⟨vs,[],0,11⟩
 | k+1,id,tk,p,vs=>
   if (Qb4 (byId id) xs).2≠0 then ⟨vs,[],0,(Qb4 (byId id) xs).2⟩
   else if unwE (Qb4 (byId id) xs).1.priv.val p≠0 then ⟨vs,[],0,unwE (Qb4 (byId id) xs).1.priv.val p⟩
   else if (unwC (Qb4 (byId id) xs).1.priv.val p).kd≠1 then ⟨vs++[⟨unwC (Qb4 (byId id) xs).1.priv.val p,id,tk⟩],unwB (Qb4 (byId id) xs).1.priv.val p,tk+((unwC (Qb4 (byId id) xs).1.priv.val p).dl.toNat:Nat),0⟩
   else Qhd xs k (unwC (Qb4 (byId id) xs).1.priv.val p).nx (tk+((unwC (Qb4 (byId id) xs).1.priv.val p).dl.toNat:Nat)) (unwP (Qb4 (byId id) xs).1.priv.val p) (vs++[⟨unwC (Qb4 (byId id) xs).1.priv.val p,id,tk⟩])
def QjC (tk:Int) (b:List UInt8) (xs:List Nod):Nat:=if tk<0∨1099511627776<tk then 1 else QbI [if b.length=768 then 0 else 2,QaY xs]
def Qel (xs:List Nod) (tk:Int) (id:UInt64) (b:List UInt8):Car:=if QjC tk b xs≠0 then ⟨[],[],0,QjC tk b xs⟩ else Qhd xs 16 id tk b []
section
variable {xs:List Nod} {k:Nat} {id:UInt64} {tk:Int} {p:List UInt8} {vs:List Vst}
theorem QrY (h:(Qb4 (byId id) xs).2≠0):Qhd xs (k+1) id tk p vs=⟨vs,[],0,(Qb4 (byId id) xs).2⟩:=by rw[Qhd,if_pos h]
theorem Qsn (h: ¬(Qb4 (byId id) xs).2≠0) (h1:unwE (Qb4 (byId id) xs).1.priv.val p≠0):Qhd xs (k+1) id tk p vs=⟨vs,[],0,unwE (Qb4 (byId id) xs).1.priv.val p⟩:=by rw[Qhd,if_neg h,if_pos h1]
theorem Qni (h: ¬(Qb4 (byId id) xs).2≠0) (h1: ¬unwE (Qb4 (byId id) xs).1.priv.val p≠0) (h2:(unwC (Qb4 (byId id) xs).1.priv.val p).kd≠1):
 Qhd xs (k+1) id tk p vs=⟨vs++[⟨unwC (Qb4 (byId id) xs).1.priv.val p,id,tk⟩],unwB (Qb4 (byId id) xs).1.priv.val p,tk+((unwC (Qb4 (byId id) xs).1.priv.val p).dl.toNat:Nat),0⟩:=by rw[Qhd,if_neg h,if_neg h1,if_pos h2]
theorem QpS (h: ¬(Qb4 (byId id) xs).2≠0) (h1: ¬unwE (Qb4 (byId id) xs).1.priv.val p≠0) (h2: ¬(unwC (Qb4 (byId id) xs).1.priv.val p).kd≠1):
 Qhd xs (k+1) id tk p vs=Qhd xs k (unwC (Qb4 (byId id) xs).1.priv.val p).nx (tk+((unwC (Qb4 (byId id) xs).1.priv.val p).dl.toNat:Nat)) (unwP (Qb4 (byId id) xs).1.priv.val p) (vs++[⟨unwC (Qb4 (byId id) xs).1.priv.val p,id,tk⟩]):=by rw[Qhd,if_neg h,if_neg h1,if_neg h2]
end
end Go.Proofs.YtcbdgnlcknllnaaGreat
namespace Go.Proofs.YtcbdgnlcknllnaaGreat
open Go.RowKit
open Go.BigFrame
theorem QxT {xs:List Nod} (hc:QaY xs=0) {i j:Nat} {s:UInt64} (hi:i<xs.length) (hj:j<i) (h:byId s (xs.getD i nod0)=true):byId s (xs.getD j nod0)=false:=by
 cases e:byId s (xs.getD j nod0)
 ·rfl
 ·have hs:Qe0 (xs.getD i nod0) (xs.getD j nod0)=true:=by
   rw[byId,beq_iff_eq]at h e
   rw[Qe0,h,e]
   simp
  rw[QaY]at hc
  split at hc
  ·omega
  ·split at hc
   ·omega
   ·rw[if_pos (QdV hi (QdV hj hs))]at hc
    omega
theorem Quu {xs:List Nod} (hc:QaY xs=0) {i:Nat} (hi:i<xs.length):Qb4 (byId (xs.getD i nod0).id) xs=(xs.getD i nod0,0):=by
 have h:byId (xs.getD i nod0).id (xs.getD i nod0)=true:=by rw[byId];exact beq_self_eq_true _
 rw[Qb4,if_pos hc]
 exact Qme hi (fun _ hj=>QxT hc hi hj h) h
theorem QqJ {xs:List Nod} {ts:List Stp} (h:Qdd xs ts=0):QaY xs=0∧1≤ts.length∧ts.length≤5∧∀i,i<ts.length→∃k,k<xs.length∧((Qbd xs ts).getD i hp0).nod=xs.getD k nod0:=by
 rw[Qdd]at h
 split at h
 ·cases h
 split at h
 ·cases h
 rename_i hl
 split at h
 ·contradiction
 rename_i hc
 split at h
 ·cases h
 rename_i hm
 refine⟨by omega,by omega,by omega,fun i hi=>?_⟩
 have hmi:Qik xs (ts.getD i stp0)=false:=by
  cases e:Qik xs (ts.getD i stp0)
  ·rfl
  ·exact absurd (QiP hi e) hm
 have hg:(Qbd xs ts).getD i hp0=Qq0 xs (ts.getD i stp0):=by
  rw[Qbd,QFC,QFN,QFB hi,QFC,QFB hi]
  rfl
 rw[hg,Qq0]
 rw[Qik]at hmi
 generalize ts.getD i stp0=t at *
 rw[Qgs]at hmi ⊢
 split at hmi
 ·rename_i x hx
  obtain⟨_,k,hk,hxk,_⟩:=List.find?_eq_some_iff_getElem.1 hx
  refine⟨k,hk,?_⟩
  rw[QFC,QFB hk,QHq,hxk]
 ·simp at hmi
theorem QwF {xs:List Nod} (h:Qig xs=true) {k:Nat} (hk:k<xs.length):QbH (xs.getD k nod0).priv.val (nb 9)=(xs.getD k nod0).pub.val:=by
 rw[Qig,QFQ]at h
 have:=(QGi.1 h.2) _ (QlB hk)
 rw[fitB,beq_iff_eq]at this
 exact this
def tkA (p:Prt) (hs:List Hp) (tk:Int):Nat→Int
 | 0=>tk
 | k+1=>tkA p hs tk k+((QbV (QcC p) hs k).dl.toNat:Nat)
theorem QmO {p:Prt} {hs:List Hp} {tk:Int} (h:0≤tk):∀k,0≤tkA p hs tk k∧tkA p hs tk k≤tk+(k:Int)*4294967296
 | 0=>by
   show 0≤tk∧tk≤_
   omega
 | k+1=>by
   obtain⟨a,b⟩:=QmO (p:=p) (hs:=hs) h k
   have:=(QbV (QcC p) hs k).dl.toNat_lt
   show 0≤tkA p hs tk k+_∧tkA p hs tk k+_≤_
   omega
def visA (p:Prt) (hs:List Hp) (tk:Int) (k:Nat):Vst:=⟨QbV (QcC p) hs k,(hs.getD k hp0).nod.id,tkA p hs tk k⟩
theorem Qmj {xs:List Nod} {p:Prt} {hs:List Hp} {Y:Nat→Y768} {x:List UInt8} (tk:Int) (hbe:QcX x (QcC p) (Qbg p) hs=0)
 (hf:∀i,i<hs.length→Qb4 (byId (hs.getD i hp0).nod.id) xs=((hs.getD i hp0).nod,0))
 (hY:∀i,i<hs.length→unwE (hs.getD i hp0).nod.priv.val (Y i).val=0∧unwL (hs.getD i hp0).nod.priv.val (Y i)=arrP p hs Y i∧((QbV (QcC p) hs i).kd=1↔i+1<hs.length)):
 ∀m k f,k+(m+1)=hs.length→Qhd xs (f+(m+1)) (hs.getD k hp0).nod.id (tkA p hs tk k) (Y k).val ((QF6 k).map (visA p hs tk))=⟨(QF6 hs.length).map (visA p hs tk),Qbg p,tkA p hs tk hs.length,0⟩
 | m,k,f,h=>by
   obtain⟨h1,h2,h3⟩:=hY k (by omega)
   have hC:unwC (hs.getD k hp0).nod.priv.val (Y k).val=QbV (QcC p) hs k:=congrArg Pel.c h2
   have hP:unwP (hs.getD k hp0).nod.priv.val (Y k).val=(Y (k+1)).val:=congrArg (fun q:Pel=>q.P.val) h2
   have hB:unwB (hs.getD k hp0).nod.priv.val (Y k).val=if k+1<hs.length then [] else Qbg p:=congrArg Pel.B h2
   have hv:(QF6 k).map (visA p hs tk)++[⟨QbV (QcC p) hs k,(hs.getD k hp0).nod.id,tkA p hs tk k⟩]=(QF6 (k+1)).map (visA p hs tk):=by
    rw[QG4,QF2]
    rfl
   have ht:tkA p hs tk k+((QbV (QcC p) hs k).dl.toNat:Nat)=tkA p hs tk (k+1):=rfl
   have hfk:=hf k (by omega)
   by_cases hl:k+1<hs.length
   ·obtain⟨m,rfl⟩:∃m',m=m'+1:=⟨m-1,by omega⟩
    have hn:=(QjL hbe k (by omega)).2.2.2.1 hl
    have ih:=Qmj tk hbe hf hY m (k+1) f (by omega)
    rw[show f+(m+1+1)=(f+(m+1))+1 by omega,QpS (by rw[hfk];exact not_not_intro rfl) (by rw[hfk];exact not_not_intro h1) (by rw[hfk,hC];exact not_not_intro (h3.2 hl))]
    simp only[hfk]
    rw[hC,hP,hn,hv,ht]
    exact ih
   ·obtain rfl:m=0:=by omega
    have hk:hs.length=k+1:=by omega
    rw[Qni (by rw[hfk];exact not_not_intro rfl) (by rw[hfk];exact not_not_intro h1) (by rw[hfk,hC];exact fun e=>hl (h3.1 e))]
    simp only[hfk]
    rw[hC,hB,if_neg hl,hv,ht,hk]
theorem Qt7 {p:Prt} (hp:prtE p=0):(Qbg p).length=480:=Qdt p (Qhm hp).2.1
theorem Qn5 {xs:List Nod} {ts:List Stp} {x:List UInt8} {p:Prt} {tk:Int} (hr:Qdd xs ts=0) (hfit:Qig xs=true) (hs:Qhh x p (Qbd xs ts)=0) (hk:p.kd=1) (h0:0≤tk) (h1:tk≤1000000):
 (QhM x p (Qbd xs ts)).length=768∧
 Qel xs tk ((Qbd xs ts).getD 0 hp0).nod.id (QhM x p (Qbd xs ts))=⟨(QF6 ts.length).map (visA p (Qbd xs ts) tk),Qbg p,tkA p (Qbd xs ts) tk ts.length,0⟩∧
 (∀ k,k<ts.length→((QbV (QcC p) (Qbd xs ts) k).dl.toNat:Int)=((Qbd xs ts).getD k hp0).delay∧((QbV (QcC p) (Qbd xs ts) k).fl.toNat:Int)=((Qbd xs ts).getD k hp0).flags)∧
 arvE ((QF6 ts.length).map (visA p (Qbd xs ts) tk)) (Qbg p)=0∧
 arvA ((QF6 ts.length).map (visA p (Qbd xs ts) tk)) (Qbg p) (tkA p (Qbd xs ts) tk ts.length)=⟨p,2,((Qbd xs ts).getD (ts.length-1) hp0).nod.id,tkA p (Qbd xs ts) tk ts.length,QaH⟩:=by
 obtain⟨hc,hl1,hl5,hin⟩:=QqJ hr
 have hll:(Qbd xs ts).length=ts.length:=by rw[Qbd,QFA]
 have hft:∀i,i<(Qbd xs ts).length→QbH ((Qbd xs ts).getD i hp0).nod.priv.val (nb 9)=((Qbd xs ts).getD i hp0).nod.pub.val:=by
  intro i hi
  obtain⟨k,hk,e⟩:=hin i (by omega)
  rw[e]
  exact QwF hfit hk
 have hfn:∀i,i<(Qbd xs ts).length→Qb4 (byId ((Qbd xs ts).getD i hp0).nod.id) xs=(((Qbd xs ts).getD i hp0).nod,0):=by
  intro i hi
  obtain⟨k,hk,e⟩:=hin i (by omega)
  rw[e]
  exact Quu hc hk
 obtain⟨hp,_,hbe,_⟩:=QkX hs
 obtain⟨Y,_,hY0,_,hY⟩:=QtC hs hft
 have hlen:(QhM x p (Qbd xs ts)).length=768:=by rw[hY0];exact (Y 0).2
 have hca:=Qmj tk hbe hfn hY (ts.length-1) 0 (16-ts.length) (by omega)
 rw[show 16-ts.length+(ts.length-1+1)=16 by omega,hll,←hY0]at hca
 refine⟨hlen,?_,fun k hk=>?_,?_⟩
 ·have e0:QjC tk (QhM x p (Qbd xs ts)) xs=0:=by
   rw[QjC,if_neg (by omega),hlen,hc]
   rfl
  rw[Qel,if_neg (not_not_intro e0)]
  exact hca
 ·obtain⟨a,b,_⟩:=QjL hbe k (by omega)
  exact⟨a,b⟩
 ·obtain⟨f1,f2⟩:=Qpk p hp
  have hv:QcH ((QF6 ts.length).map (visA p (Qbd xs ts) tk))=visA p (Qbd xs ts) tk (ts.length-1):=by
   rw[QcH,QFA,List.length_range,QFC,QFN,QGM (by omega)]
   rfl
  have hkd:(QbV (QcC p) (Qbd xs ts) (ts.length-1)).kd=2:=by
   rw[(QjL hbe (ts.length-1) (by omega)).2.2.2.2 (by omega),hk]
   rfl
  have hkl:(QcH ((QF6 ts.length).map (visA p (Qbd xs ts) tk))).cm.kd=2:=by rw[hv];exact hkd
  have hz: ¬(((QF6 ts.length).map (visA p (Qbd xs ts) tk)).length=0∨(Qbg p).length≠480):=by
   rw[QFA,List.length_range,Qt7 hp]
   omega
  obtain⟨g1,g2⟩:=QpR (tkA p (Qbd xs ts) tk ts.length) hz (.inl hkl) f1 (by rw[f2,hkl,hk];rfl)
  refine⟨g1,?_⟩
  rw[g2,f2,hkl,hv]
  rfl
abbrev emC (tk:Int) (id:UInt64) (B:Option Addr) (m e:Nat):List Value:=[.int .i64 tk,W64 id,.slice B m e]
section
variable {P:Program} {ops:Array Oper} {rest:List Oper} {o:Oper} {a:Act} {w:World} {Q:Exit→Act→World→Prop} {t:TypeId}
theorem go_b {p:Array (Nat×Operand)} (_ho:o.op= .build t p) (h:wpList P ops Q (o :: rest) a w):wpList P ops Q (o :: rest) a w:=h
theorem go_s {p:Array (Nat×Operand)} (_ho:o.op= .buildSlice t 1 p) (h:wpList P ops Q (o :: rest) a w):wpList P ops Q (o :: rest) a w:=h
theorem go_a {s x:Operand} (_ho:o.op= .call { callee:=.builtin .append,args:= #[s,x],argTypes:= #[t,t] }) (h:wpList P ops Q (o :: rest) a w):wpList P ops Q (o :: rest) a w:=h
theorem go_l {x:Operand} (_ho:o.op= .load t x) (h:wpList P ops Q (o :: rest) a w):wpList P ops Q (o :: rest) a w:=h
theorem QeV {x y:Operand} (_ho:o.op= .store t x y) (h:wpList P ops Q (o :: rest) a w):wpList P ops Q (o :: rest) a w:=h
end
theorem Qvl (xs:List Nod):QbI [0,QaY xs]=QaY xs∧QbI [2,QaY xs]=2:=by
 have h:QaY xs=0∨2≤QaY xs:=by
  unfold QaY
  split
  ·exact .inr (by omega)
  split
  ·exact .inr (by omega)
  split
  ·exact .inr (by omega)
  ·exact .inl rfl
 generalize QaY xs=x at *
 unfold QbI
 simp only[List.foldl_cons,List.foldl_nil]
 rcases h with rfl|h
 ·exact⟨rfl,rfl⟩
 ·have hx:x≠0:=by omega
  have h2: ¬x<2:=by omega
  exact⟨by simp[hx],by simp[hx,h2]⟩
theorem Qto (A:Option Addr) (n c:Nat):Tryz.prog.built 41 [(0,.slice A n c)]=some (tr1 A n c none 0 0 0).toArray:=by kernel_rfl
theorem Qlk {ops:Array Oper} {o:Oper} {a:Act} (hw:Region.wanted o (yielded ops a.tmps)=true) (ho:o.op= .alloc 110):
 Makes Tryz.prog ops o (fun g=>.pointer (some ⟨g,0,none⟩)) (.cells Tryz.zeroCells110 110) a:=
 ⟨hw,fun w=>by
   unfold execOp
   rw[ho]
   simp[go_sem]⟩
set_option maxRecDepth 100000 in
theorem Qio (x:Nod) (w:World):
 Calls Tryz.prog 35 #[.agg (NC x).toArray] w fun e w'=>∃g,e= .returned (.slice (some ⟨g,0,none⟩) 32 32)∧w.heap.size≤g∧Blk w' g 5 (x.priv.val.map W8)∧Later w w':=by
 have hb0:Blk (w.alloc (.cells (NC x).toArray 106)) w.heap.size 106 (NC x):=Blk.new _ _ _
 have hc:∀j v,(x.priv.val.map W8)[j]?=some v→(w.alloc (.cells (NC x).toArray 106)).cell? ⟨w.heap.size,2+j,none⟩=some v:=fun j v hv=>hb0.cellD _ (Qsw x hv)
 go_enter Tryz.func35,Tryz.ntmps35
 go_wp2_with (first
  | (refine QlF rfl _ rfl hc x.priv.2 rfl ?_)
  | fail)
 (with_reducible refine (Qps x.priv.val x.priv.2 _).mono ?_);rintro e w2 ⟨g2,rfl,hg2,hb2,l2⟩
 go_wp2
 go_ret
 exact⟨g2,rfl,by simp at hg2;omega,hb2,(Qaa _ _).trans l2⟩
theorem QEY {a:Int} {d:Nat} (h:0≤a):0≤a+(d:Int):=by omega
theorem QEJ {a:Int} {d n:Nat} (h:a≤1099511627776+(n:Int)*4294967296) (hd:d<4294967296):a+(d:Int)≤1099511627776+((n+1:Nat):Int)*4294967296:=by omega
theorem Qgd (w:World):RdB w none 0 []:=⟨by simp,fun h=>absurd h (by omega)⟩
set_option maxRecDepth 100000 in
set_option maxHeartbeats 4000000 in
theorem QrH (A B:Option Addr) (n c m e:Nat) (xs:List Nod) (tk:Int) (id:UInt64) (b:List UInt8) (w:World) (hx:RdN w A n xs) (hn:n≤1048576) (hs:∀x∈xs,x.nm.size≤140737488355328) (hb:RdB w B m b) (hme:m≤e):
 Calls Tryz.prog 11 #[.slice A n c,.agg (emC tk id B m e).toArray] w fun x w'=>∃A' c' B' c2,x= .returned (.tuple #[.agg (tr1 A' (Qel xs tk id b).vs.length c' B' (Qel xs tk id b).bd.length c2 (Qel xs tk id b).tk).toArray,.int .i64 ((Qel xs tk id b).er:Nat)])∧
  RdF VC 22 vst0 w' A' (Qel xs tk id b).vs.length (Qel xs tk id b).vs∧RdB w' B' (Qel xs tk id b).bd.length (Qel xs tk id b).bd∧(Qel xs tk id b).bd.length≤c2∧Later w w':=by
 have hbl:=hb.len
 have C1:=Qbb w 27 (emC tk id B m e)
 have C2:Bag w ((w.alloc (.cells (emC tk id B m e).toArray 27)).alloc (.cells tz0.toArray 41)) [(w.heap.size+1,41,tz0),(w.heap.size,27,emC tk id B m e)]:=
  C1.add (Qaa _ _) (by simp) (by omega) (Blk.new' _ _ tz0 (by simp))
 have e0:=(C2.nth 1 rfl).cellD 0 (u:=.int .i64 tk) rfl
 have e2:=(C2.nth 1 rfl).cellD 2 (u:=.slice B m e) rfl
 have hz:=hid QnD
 have hbt:=hid Qto
 have hbv:=hid Qu5
 have hE0:Hid (QjC tk b xs≠0→Qel xs tk id b=⟨[],[],0,QjC tk b xs⟩):=hid (fun h=>if_pos h)
 have hE1:Hid (QjC tk b xs=0→Qel xs tk id b=Qhd xs 16 id tk b []):=hid (fun h=>if_neg (not_not_intro h))
 have hCk:=hid (fun w h=>Qkb A n c xs w h (by omega) hs)
 obtain⟨l0,l2⟩:=Qvl xs
 generalize Qel xs tk id b=R at *
 by_cases ht:tk<0∨1099511627776<tk
 ·have hE:QjC tk b xs=1:=if_pos ht
  have hR:=hE0.out (by rw[hE];decide)
  rw[hE]at hR
  replace hR:=hid hR
  clear hE hE0 hE1 hCk l0 l2
  by_cases h0:tk<0
  ·have f0:decide (tk<0)=true:=decide_eq_true h0
   clear ht h0
   go_enter Tryz.func11,Tryz.ntmps11
   go_wp2_with (first
    | (refine go_b rfl ?_;refine Qak ?hw 41 _ rfl tz0 (by simp only[QFI,QFR];exact hz.out) ?_;(case hw=>rfl))
    | (refine QeV rfl ?_;refine Qaj rfl rfl _ _ _ rfl (w.heap.size+1) _ _ tz0 (C2.nth 0 rfl) rfl rfl 3 QcP rfl rfl QjA ?_;intro w5 hb5 ho5)
    | fail)
   exact bodyPost_ret (Qaf rfl _ _ _ _ _ _ hb5 rfl Tryz.underlying41 rfl QcP) rfl ⟨none,0,none,0,by rw[hR.out];rfl,by rw[hR.out];exact QgZ _,by rw[hR.out];exact Qgd _,by rw[hR.out];exact QFE _,C2.lat.only ho5 (by omega)⟩
  ·have f0:decide (tk<0)=false:=decide_eq_false h0
   have f1:decide (1099511627776<tk)=true:=decide_eq_true (ht.resolve_left h0)
   clear ht h0
   go_enter Tryz.func11,Tryz.ntmps11
   go_wp2_with (first
    | (refine go_b rfl ?_;refine Qak ?hw 41 _ rfl tz0 (by simp only[QFI,QFR];exact hz.out) ?_;(case hw=>rfl))
    | (refine QeV rfl ?_;refine Qaj rfl rfl _ _ _ rfl (w.heap.size+1) _ _ tz0 (C2.nth 0 rfl) rfl rfl 3 QcP rfl rfl QjA ?_;intro w5 hb5 ho5)
    | fail)
   exact bodyPost_ret (Qaf rfl _ _ _ _ _ _ hb5 rfl Tryz.underlying41 rfl QcP) rfl ⟨none,0,none,0,by rw[hR.out];rfl,by rw[hR.out];exact QgZ _,by rw[hR.out];exact Qgd _,by rw[hR.out];exact QFE _,C2.lat.only ho5 (by omega)⟩
 have f0:decide (tk<0)=false:=decide_eq_false (fun h=>ht (.inl h))
 have f1:decide (1099511627776<tk)=false:=decide_eq_false (fun h=>ht (.inr h))
 have HZ:=hid zcP
 have hZl:(QFu 768 (0:UInt8)).length=768:=QFM
 have hZl1:((QFu 768 (0:UInt8)).map W8).length=768:=by rw[QFA,hZl]
 obtain⟨PK,se,hPK,hE,hs0,hPa⟩:∃(PK:List UInt8) (se:Nat),PK.length=768∧QjC tk b xs=QbI [se,QaY xs]∧(QbI [se,QaY xs]=0→PK=b)∧Hid (∀ w,RdB w B m b→Calls Tryz.prog 30 #[.slice B m e] w fun x w'=>x= .returned (.tuple #[.agg (PK.map W8).toArray,.int .i64 (se:Nat)])∧Later w w'):=by
  by_cases h:m=768
  ·subst h
   exact⟨b,0,hbl,by rw[QjC,if_neg ht,if_pos hbl],fun _=>rfl,hid (fun w h=>Qst B e b w h hme)⟩
  ·exact⟨QFu 768 0,2,hZl,by rw[QjC,if_neg ht,if_neg (by rw[hbl];exact h)],fun h=>absurd (l2.symm.trans h) (by decide),hid (fun w _=>Qrk B m e w h)⟩
 rw[hE]at hE0 hE1
 generalize QFu 768 (0:UInt8)=Z at *
 have hLe:=hid (fun g (w:World) h=>Qra (some ⟨g,0,none⟩) 2 2 [se,QaY xs] w h (by omega))
 clear hE l0 l2 ht
 generalize QbI [se,QaY xs]=E at *
 generalize hCN:QaY xs=CN at *
 clear hCN
 go_enter Tryz.func11,Tryz.ntmps11
 go_wp2_with fail
 refine (hPa.out _ (hb.later C2.lat)).mono ?_
 rintro x w2 ⟨rfl,j2⟩
 have C3:=C2.later j2
 go_wp2_with (first
  | (refine QeV rfl ?_;refine Qg0 rfl rfl _ _ rfl ((Blk.new w2 _ Tryz.zeroCells100.toList).cast HZ.out) rfl rfl hPK hZl1 ?_;intro w3 hb3 ho3
     have l3:Later w2 w3:=(Qaa w2 _).only ho3 (QFE _)
     have C4:=C3.fresh l3 (QFE _) hb3)
  | fail)
 refine (hCk.out _ (hx.later C4.lat)).mono ?_
 rintro x w4 ⟨rfl,j4⟩
 have C5:=C4.later j4
 go_wp2_with fail
 have C6:=C5.later (Qaa w4 (.cells [eVM se,eVM CN].toArray 42))
 have hrd:Rd (w4.alloc (.cells [eVM se,eVM CN].toArray 42)) (some ⟨w4.heap.size,0,none⟩) 2 ([se,CN].map eVM):=(Blk.new w4 42 [eVM se,eVM CN]).rd rfl
 refine (hLe.out w4.heap.size _ hrd).mono ?_
 rintro x w5 ⟨rfl,j5⟩
 have C7:=C6.later j5
 have hlat7:=C7.lat
 clear hrd C3 C4 C5 C6 e0 e2 hb3 ho3 hPa hCk hLe
 by_cases hE:E=0
 case neg=>
  have hR:=hid (hE0.out hE)
  have fE:((E:Int) != 0)=true:=bne_iff_ne.2 (by omega)
  clear hE hE0 hE1 hs0
  go_wp2_with (first
   | (refine go_b rfl ?_;refine Qak ?hw 41 _ rfl tz0 (by simp only[QFI,QFR];exact hz.out) ?_;(case hw=>rfl))
   | (refine QeV rfl ?_;refine Qaj rfl rfl _ _ _ rfl (w.heap.size+1) _ _ tz0 (C7.nth 1 rfl) rfl rfl 3 QcP rfl rfl QjA ?_;intro w6 hb6 ho6)
   | fail)
  exact bodyPost_ret (Qaf rfl _ _ _ _ _ _ hb6 rfl Tryz.underlying41 rfl QcP) rfl ⟨none,0,none,0,by rw[hR.out];rfl,by rw[hR.out];exact QgZ _,by rw[hR.out];exact Qgd _,by rw[hR.out];exact QFE _,C7.lat.only ho6 (by omega)⟩
 have hR:=hid (hE1.out hE)
 obtain rfl:=hs0 hE
 subst hE
 clear hE0 hE1 hs0
 go_wp2_with fail
 have C8:Bag w (w5.alloc (.cells tz0.toArray 41)) [(w5.heap.size,41,tz0),(w2.heap.size,100,PK.map W8),(w.heap.size+1,41,tz0),(w.heap.size,27,emC tk id B m e)]:=C7.fresh (Qaa _ _) (QFE _) (Blk.new _ _ _)
 have n69:w2.heap.size≠w5.heap.size:=by
  have:=(C7.nth 0 rfl).lt
  omega
 generalize w5.heap.size=g9 at *
 generalize w2.heap.size=g6 at *
 generalize w5.alloc (.cells tz0.toArray 41)=W at *
 have e0:=(C8.nth 3 rfl).cellD 0 (u:=.int .i64 tk) rfl
 have e1:=(C8.nth 3 rfl).cellD 1 (u:=W64 id) rfl
 clear C7 hlat7
 refine Qad [] [0,1,2,3,4,5] [] (by as_aux_lemma=>kernel_rfl) (by as_aux_lemma=>kernel_rfl) (by intro _ _ d _ _ h;cases d<;>exact h) ?_
 simp only[Qah,pick,QFv,QFw,QFx,QFy,QFz]
 repeat (go_big_quiet_step (fail))
 refine wpQuiet_nil ?_
 go_wp2_with fail
 have ht0:0≤tk∧tk≤1099511627776:=by
  have a1:=of_decide_eq_false f0
  have a2:=of_decide_eq_false f1
  omega
 clear f0 f1
 go_loopw [10,11] (fun v10 v11 wr=>∃(k:Nat) (id2:UInt64) (tk2:Int) (p:List UInt8) (vs:List Vst) (A2:Option Addr) (c2:Nat),v10=W64 id2∧v11= .int .i64 tk2∧vs.length+k=16∧p.length=768∧0≤tk2∧tk2≤1099511627776+(vs.length:Int)*4294967296∧
  Bag w wr [(g9,41,tr1 A2 vs.length c2 none 0 0 0),(g6,100,p.map W8),(w.heap.size+1,41,tz0),(w.heap.size,27,emC tk id B m e)]∧wr.ownsRow w.heap.size 57 22 (.slice A2 vs.length c2) vs.length (vs.flatMap VC)∧Hid (R=Qhd xs k id2 tk2 p vs)) (fun _ _ w'=>match w'.cell? ⟨g9,0,none⟩ with|some (.slice _ n _)=>16-n|_=>0)
 case atStart=>exact⟨16,id,tk,PK,[],none,0,rfl,rfl,rfl,hPK,ht0.1,by simp;omega,C8.drew,⟨by simp,.inl ⟨rfl,rfl⟩⟩,hR⟩
 case round=>
  clear C8 hR ht0 e0 e1
  obtain⟨k,id2,tk2,p,vs,A2,c2,rfl,rfl,hvk,hpl,ht2,ht3,C,hown,hR⟩:=hrel
  have z0:=(C.nth 0 rfl).cellD 0 (u:=.slice A2 vs.length c2) rfl
  rcases k with _|k
  ·have f16:((vs.length:Int)==16)=true:=beq_iff_eq.2 (by omega)
   have hR0:R=⟨vs,[],0,11⟩:=hR.out
   replace hR0:=hid hR0
   clear hR
   go_wp2_with (first
    | (refine go_b rfl ?_;refine Qak ?hw 41 _ rfl (tr1 A2 vs.length c2 none 0 0 0) (by simp only[QFI,QFW,QFR];exact hbt.out _ _ _) ?_;(case hw=>rfl))
    | (refine QeV rfl ?_;refine Qaj rfl rfl _ _ _ rfl (w.heap.size+1) _ _ (tr1 A2 vs.length c2 none 0 0 0) (C.nth 2 rfl) rfl rfl 3 QcP rfl rfl (Qjd _ _ _ _ _ _ _) ?_;intro w6 hb6 ho6)
    | fail)
   have own6:=QaV hown (C.nth 2 rfl) (by decide) ho6
   exact bodyPost_ret (Qaf rfl _ _ _ _ _ _ hb6 rfl Tryz.underlying41 rfl QcP) rfl ⟨A2,c2,none,0,by rw[hR0.out];rfl,by rw[hR0.out];exact QgS (d:=vst0) QaN own6 rfl,by rw[hR0.out];exact Qgd _,by rw[hR0.out];exact QFE _,C.lat.only ho6 (by omega)⟩
  have f16:((vs.length:Int)==16)=false:=beq_eq_false_iff_ne.2 (by omega)
  have hAt:=hid (fun w h=>QAQ A n c xs id2 w h (by omega) hs)
  have r1:=hid (fun h=>hR.out.trans (QrY (xs:=xs) (k:=k) (id:=id2) (tk:=tk2) (p:=p) (vs:=vs) h))
  have r2:=hid (fun h h1=>hR.out.trans (Qsn (xs:=xs) (k:=k) (id:=id2) (tk:=tk2) (p:=p) (vs:=vs) h h1))
  have r3:=hid (fun h h1 h2=>hR.out.trans (Qni (xs:=xs) (k:=k) (id:=id2) (tk:=tk2) (p:=p) (vs:=vs) h h1 h2))
  have r4:=hid (fun h h1 h2=>hR.out.trans (QpS (xs:=xs) (k:=k) (id:=id2) (tk:=tk2) (p:=p) (vs:=vs) h h1 h2))
  clear hR
  generalize (Qb4 (byId id2) xs).2=FE at *
  generalize (Qb4 (byId id2) xs).1=FN at *
  go_wp2_with fail
  refine (hAt.out wr (hx.later C.lat)).mono ?_
  rintro x x1 ⟨rfl,i1⟩
  have D1:=C.later i1
  have own1:=Qa7 hown i1
  have hz0:=hid z0
  clear hAt z0
  by_cases hFE:FE≠0
  ·have fE:((FE:Int) != 0)=true:=bne_iff_ne.2 (by omega)
   have hR0:=hid (r1.out hFE)
   clear r1 r2 r3 r4 hFE
   go_wp2_with (first
    | (refine QeV rfl ?_;refine QfZ Qfg rfl rfl _ _ rfl (Blk.new x1 _ (NC nod0)) rfl rfl (QaJ _) ?_;intro x2 hb2 ho2
       have l2:Later x1 x2:=(Qaa x1 _).only ho2 (QFE _)
       have D2:=D1.later l2
       have z2:=(D2.nth 0 rfl).cellD 0 (u:=.slice A2 vs.length c2) rfl)
    | (refine go_b rfl ?_;refine Qak ?hw 41 _ rfl (tr1 A2 vs.length c2 none 0 0 0) (by simp only[QFI,QFW,QFR];exact hbt.out _ _ _) ?_;(case hw=>rfl))
    | (refine QeV rfl ?_;refine Qaj rfl rfl _ _ _ rfl (w.heap.size+1) _ _ (tr1 A2 vs.length c2 none 0 0 0) (D2.nth 2 rfl) rfl rfl 3 QcP rfl rfl (Qjd _ _ _ _ _ _ _) ?_;intro w6 hb6 ho6)
    | fail)
   have own6:=QaV (Qa7 own1 l2) (D2.nth 2 rfl) (by decide) ho6
   exact bodyPost_ret (Qaf rfl _ _ _ _ _ _ hb6 rfl Tryz.underlying41 rfl QcP) rfl ⟨A2,c2,none,0,by rw[hR0.out];rfl,by rw[hR0.out];exact QgS (d:=vst0) QaN own6 rfl,by rw[hR0.out];exact Qgd _,by rw[hR0.out];exact QFE _,D2.lat.only ho6 (by omega)⟩
  replace r2:=hid (r2.out hFE)
  replace r3:=hid (r3.out hFE)
  replace r4:=hid (r4.out hFE)
  obtain rfl:FE=0:=Classical.not_not.1 hFE
  clear r1 hFE
  go_wp2_with (first
   | (refine QeV rfl ?_;refine QfZ Qfg rfl rfl _ _ rfl (Blk.new x1 _ (NC nod0)) rfl rfl (QaJ _) ?_;intro x2 hb2 ho2
      have l2:Later x1 x2:=(Qaa x1 _).only ho2 (QFE _)
      have D2:=D1.fresh l2 (QFE _) hb2
      have own2:=Qa7 own1 l2)
   | fail)
  generalize x1.heap.size=gn at *
  have hUn:=hid (fun A2 c2 w h=>QrF A2 32 c2 FN.priv.val p w h (by omega) hpl)
  have hPv:=hid (fun w=>Qio FN w)
  clear hb2 ho2 l2 D1 own1 i1 C hown
  have hUP:=Qjj FN.priv.val p hpl
  have HZp:=hid zcPe
  have hzl:(PC cmd0 z768 nil8).length=789:=QbW _ QaU _
  generalize unwE FN.priv.val p=UE at *
  generalize unwC FN.priv.val p=UC at *
  generalize unwP FN.priv.val p=UP at *
  generalize unwB FN.priv.val p=UB at *
  refine QaF [0,2] [([],1,1),([],1,3),([4,5,6],2,7)] [] [8,9] [7] (fun _=>(fun g=>.pointer (some ⟨g,0,none⟩),.cells Tryz.zeroCells110 110)) (by as_aux_lemma=>kernel_rfl) (by as_aux_lemma=>kernel_rfl) (by intro _ _ d _ _ h;cases d<;>exact h) (by intro _ _ d _ _ h;cases d<;>exact h) ?_
  simp only[pick,QFv,QFw,QFx,QFy,QFz]
  repeat (first|go_big_quiet_skip|(go_big_quiet_want;(first|refine Qn0 _ rfl (fun i v hv=>by rw[QFX];exact (D2.drew.nth 0 rfl).cellD i hv) (D2.drew.nth 0 rfl).lt rfl ?_|refine Qeb _ _ rfl 0 (p.map W8) (D2.drew.nth 2 rfl) rfl (fun j v hv=>by rw[QFX];exact hv) _ Tryz.underlying100 rfl (by rw[QFA,hpl];exact QhJ) ?_);simp only[Act.put,QFD,QFH,QFG];go_big_quiet_on)|(go_big_quiet_step (fail)))
  refine wpQuiet_nil ?_
  refine⟨?mk,?_⟩
  case mk=>
   refine⟨fun o ho=>?_,trivial⟩
   simp only[QFv,QFw,Option.some.injEq]at ho
   subst ho
   exact Qlk rfl rfl
  simp only[Qbv,pick,QFv,QFw,QFx,QFy,QFz]
  refine wpQuiet_nil ?_
  intro m1 j1'
  go_wp2_with fail
  refine (hPv.out _).mono ?_
  rintro x m2 ⟨gk,rfl,hgk,hbk,j2'⟩
  go_wp2_with fail
  try refine⟨by first|assumption|exact Qab _|exact Qaa _ _|exact Later.refl _,?_⟩
  try simp only[Qah,pick,QFv,QFw,QFx,QFy,QFz]
  repeat (go_big_quiet_step (fail))
  refine wpQuiet_nil ?_
  intro m3 j3'
  go_wp2_with fail
  refine (hUn.out _ _ _ (Qec (hbk.later j3') FN.priv.2)).mono ?_
  rintro x m4 ⟨AB,cB,rfl,ownB,j4'⟩
  go_wp2_with fail
  try refine⟨by first|assumption|exact Qab _|exact Qaa _ _|exact Later.refl _,?_⟩
  try simp only[Qah,pick,QFv,QFw,QFx,QFy,QFz]
  repeat (go_big_quiet_step (fail))
  refine wpQuiet_nil ?_
  intro m5 gp j5' hgp _ hbp
  refine wpQuiet_nil ?_
  intro m6 j6'
  simp only[QFv,QFw,QGD,Act.put,QFD,QFH,QFG]
  have hB6:Blk m6 gp 110 (PC cmd0 z768 nil8):=(Blk.later (show Blk m5 gp _ Tryz.zeroCells110.toList from hbp) j6').cast HZp.out
  have jj:=((j1'.trans j2').trans (j3'.trans j4')).trans (j5'.trans j6')
  have ownB6:=Qbc (Qaq ownB (j5'.trans j6')) (QGh D2.lat.size (QGh (Qab x2).size ((j1'.trans j2').trans j3').size))
  have own6:=Qa7 own2 ((Qab x2).trans jj)
  have D6:=D2.drew.fresh jj hgp hB6
  clear hbk hgk ownB j1' j2' j3' j4' j5' j6' hbp hB6 jj D2 own2 hUn hPv
  by_cases hUE:UE≠0
  ·have fU:((UE:Int) != 0)=true:=bne_iff_ne.2 (by omega)
   have hR0:=hid (r2.out hUE)
   clear r2 r3 r4 hUE
   go_wp2_with (first
    | (refine QeV rfl ?_;refine Qen rfl rfl _ _ rfl (D6.nth 0 rfl) rfl rfl hUP rfl hzl ?_;intro m7 hb7 ho7
       have D7:=D6.write 0 rfl ho7 hb7
       have own7:=QaV own6 (D6.nth 0 rfl) (by decide) ho7
       have z2:=(D7.nth 2 rfl).cellD 0 (u:=.slice A2 vs.length c2) rfl)
    | (refine go_b rfl ?_;refine Qak ?hw 41 _ rfl (tr1 A2 vs.length c2 none 0 0 0) (by simp only[QFI,QFW,QFR];exact hbt.out _ _ _) ?_;(case hw=>rfl))
    | (refine QeV rfl ?_;refine Qaj rfl rfl _ _ _ rfl (w.heap.size+1) _ _ (tr1 A2 vs.length c2 none 0 0 0) (D7.nth 4 rfl) rfl rfl 3 QcP rfl rfl (Qjd _ _ _ _ _ _ _) ?_;intro m8 hb8 ho8)
    | fail)
   have own8:=QaV own7 (D7.nth 4 rfl) (by decide) ho8
   exact bodyPost_ret (Qaf rfl _ _ _ _ _ _ hb8 rfl Tryz.underlying41 rfl QcP) rfl ⟨A2,c2,none,0,by rw[hR0.out];rfl,by rw[hR0.out];exact QgS (d:=vst0) QaN own8 rfl,by rw[hR0.out];exact Qgd _,by rw[hR0.out];exact QFE _,D7.lat.only ho8 (by omega)⟩
  replace r3:=hid (r3.out hUE)
  replace r4:=hid (r4.out hUE)
  obtain rfl:UE=0:=Classical.not_not.1 hUE
  clear r2 hUE
  go_wp2_with (first
   | (refine QeV rfl ?_;refine Qen rfl rfl _ _ rfl (D6.nth 0 rfl) rfl rfl hUP rfl hzl ?_;intro m7 hb7 ho7
      have D7:=D6.write 0 rfl ho7 hb7
      have own7:=QaV own6 (D6.nth 0 rfl) (by decide) ho7
      have ownB7:=QaV ownB6 (D6.nth 0 rfl) (by decide) ho7
      have z2:=(D7.nth 2 rfl).cellD 0 (u:=.slice A2 vs.length c2) rfl)
   | (refine go_l rfl ?_;refine Qar ?hw _ _ rfl gp 0 (CC UC) (fun j v hv=>(D7.nth 0 rfl).cellD (0+j) (QnM _ _ _ j v hv)) rfl _ Tryz.underlying55 rfl (by rw[Qan];exact Qi5) ?_;(case hw=>rfl))
   | (refine go_b rfl ?_;refine Qak ?hw 57 _ rfl (VC ⟨UC,id2,tk2⟩) (by simp only[QFI,QFW,QFR];exact hbv.out ⟨UC,id2,tk2⟩) ?_;(case hw=>rfl))
   | (refine go_s rfl ?_;refine Qdn ?hw 39 _ rfl 57 22 _ (VC ⟨UC,id2,tk2⟩) Tryz.underlying39 QAW (by omega) (by omega) (QaN _) rfl ?_;(case hw=>rfl))
   | (refine go_a rfl ?_;refine Qcp (F:=VC) (d:=vst0) QaN QpX (by omega) rfl _ _ _ rfl 57 _ 48 Tryz.underlying39 QC7 rfl w _ _ _ (Qa7 own7 (Qaa _ _)) (D7.lat.trans (Qaa _ _)) (some ⟨m7.heap.size,0,none⟩) 1 1 [⟨UC,id2,tk2⟩] (QhN QaN (show Blk (m7.alloc (.cells (VC ⟨UC,id2,tk2⟩).toArray 57)) m7.heap.size 57 ([(⟨UC,id2,tk2⟩:Vst)].flatMap VC) by simp only[QHm,List.flatMap_nil,QGb];exact Blk.new m7 _ _) rfl) rfl rfl (by omega) (by omega) ?_;intro A8 c8 m8 hown8 hl8 hg8
      have hr8:=Qa7 own7 (Qaa m7 (.cells (VC ⟨UC,id2,tk2⟩).toArray 57))
      have D8:=(D7.later (Qaa m7 (.cells (VC ⟨UC,id2,tk2⟩).toArray 57))).grown hr8 (QvV (by simp)) (QFE _) hg8
      have ownB8:=QeO (Qaq ownB7 (Qaa m7 (.cells (VC ⟨UC,id2,tk2⟩).toArray 57))) hr8 (by decide) hg8)
   | (refine QeV rfl ?_;refine Qac rfl rfl _ _ _ rfl g9 0 _ _ (D8.nth 2 rfl) rfl (by simp) rfl (by kernel_rfl) ?_;intro v9 m9 hv9 hb9 ho9;simp[go_sem]at hv9;subst hv9
      have D9:=D8.write 2 rfl ho9 hb9)
   | (refine go_l rfl ?_;refine Qar ?hw _ _ rfl gp 0 (CC UC) (fun j v hv=>(D9.nth 0 rfl).cellD (0+j) (QnM _ _ _ j v hv)) rfl _ Tryz.underlying55 rfl (by rw[Qan];exact Qi5) ?_;(case hw=>rfl))
   | fail)
  have own9:=QaV hown8 (D8.nth 2 rfl) (by decide) ho9
  have ownB9:=QaV ownB8 (D8.nth 2 rfl) (by decide) ho9
  clear D6 D7 D8 own6 own7 ownB6 ownB7 ownB8 hown8 hr8 hg8 hl8 ho7 hb7 ho9 hb9 z2
  refine (Qqh UC m9).mono ?_
  rintro x n1 ⟨rfl,i1⟩
  have E1:=D9.later i1
  have hdl:=UC.dl.toNat_lt
  go_wp2_with (first
   | (refine go_l rfl ?_;refine Qar ?hw _ _ rfl gp 0 (CC UC) (fun j v hv=>(E1.nth 0 rfl).cellD (0+j) (QnM _ _ _ j v hv)) rfl _ Tryz.underlying55 rfl (by rw[Qan];exact Qi5) ?_;(case hw=>rfl))
   | fail)
  refine (Qpv UC n1).mono ?_
  rintro x n2 ⟨rfl,i2⟩
  have E2:=E1.later i2
  have ownV:=Qa7 own9 (i1.trans i2)
  have ownT:=Qaq ownB9 (i1.trans i2)
  clear i1 i2 E1 D9 own9 ownB9
  have zb:=(E2.nth 0 rfl).cellD 788 (QzH UC hUP _)
  by_cases hkd:UC.kd≠1
  ·have fk:(UC.kd==1)=false:=beq_eq_false_iff_ne.2 hkd
   have hR0:=hid (r3.out hkd)
   clear r3 r4 hkd
   go_wp2_with (first
    | (refine QeV rfl ?_;refine Qac rfl rfl _ _ _ rfl g9 1 _ _ (E2.nth 2 rfl) rfl (by simp) rfl (by kernel_rfl) ?_;intro v1 k1 hv1 hb1 ho1;simp[go_sem]at hv1;subst hv1
       have E3:=E2.write 2 rfl ho1 hb1
       have oV3:=QaV ownV (E2.nth 2 rfl) (by decide) ho1
       have oT3:=QaV ownT (E2.nth 2 rfl) (by decide) ho1)
    | (refine QeV rfl ?_;refine Qac rfl rfl _ _ _ rfl g9 2 _ _ (E3.nth 2 rfl) rfl (by simp) rfl (by kernel_rfl) ?_;intro v2 k2 hv2 hb2 ho2;simp[go_sem]at hv2;subst hv2
       have E4:=E3.write 2 rfl ho2 hb2
       have oV4:=QaV oV3 (E3.nth 2 rfl) (by decide) ho2
       have oT4:=QaV oT3 (E3.nth 2 rfl) (by decide) ho2)
    | (refine go_l rfl ?_;refine Qar ?hw _ _ rfl g9 0 (tr1 A8 (vs.length+1) c8 AB UB.length cB (tk2+(UC.dl.toNat:Int))) (fun j v hv=>by rw[QFX];exact (E4.nth 2 rfl).cellD j hv) rfl _ Tryz.underlying41 rfl QcP ?_;(case hw=>rfl))
    | (refine QeV rfl ?_;refine Qaj rfl rfl _ _ _ rfl (w.heap.size+1) _ _ (tr1 A8 (vs.length+1) c8 AB UB.length cB (tk2+(UC.dl.toNat:Int))) (E4.nth 4 rfl) rfl rfl 3 QcP rfl rfl (Qjd _ _ _ _ _ _ _) ?_;intro k3 hb3 ho3)
    | fail)
   have oV5:=QaV oV4 (E4.nth 4 rfl) (by decide) ho3
   have oT5:=QaV oT4 (E4.nth 4 rfl) (by decide) ho3
   have hvl:(vs++[(⟨UC,id2,tk2⟩:Vst)]).length=vs.length+1:=by simp
   have oV6:k3.ownsRow w.heap.size 57 22 (.slice A8 (vs++[(⟨UC,id2,tk2⟩:Vst)]).length c8) (vs++[(⟨UC,id2,tk2⟩:Vst)]).length ((vs++[(⟨UC,id2,tk2⟩:Vst)]).flatMap VC):=by
    rw[hvl,QHG]
    exact oV5
   exact bodyPost_ret (Qaf rfl _ _ _ _ _ _ hb3 rfl Tryz.underlying41 rfl QcP) rfl ⟨A8,c8,AB,cB,by rw[hR0.out,hvl];rfl,by rw[hR0.out];exact QgS (d:=vst0) QaN oV6 rfl,by rw[hR0.out];exact OwnB.rd oT5,by rw[hR0.out];exact OwnB.cap oT5,E4.lat.only ho3 (by omega)⟩
  ·have fk:(UC.kd==1)=true:=beq_iff_eq.2 (Classical.not_not.1 hkd)
   have hR0:=hid (r4.out hkd)
   clear r3 r4 hkd zb
   have z3:n2.cell? ⟨gp,3,none⟩=some (W64 UC.nx):=(E2.nth 0 rfl).cellD 3 (QnM UC UP _ 3 (W64 UC.nx) rfl)
   have hp1:(p.map W8).length=768:=by rw[QFA,hpl]
   go_wp2_with fail
   refine Qad [] [0,1,2,3,4,5,6] [7] (by as_aux_lemma=>kernel_rfl) (by as_aux_lemma=>kernel_rfl) (by intro _ _ d _ _ h;cases d<;>exact h) ?_
   simp only[Qah,pick,QFv,QFw,QFx,QFy,QFz]
   repeat (first|go_big_quiet_skip|(go_big_quiet_want;(refine Qeb _ _ rfl 20 (UP.map W8) (E2.drew.nth 0 rfl) rfl (QC3 _ _ _) _ Tryz.underlying100 rfl (by rw[QFA,hUP];exact QhJ) ?_);simp only[Act.put,QFD,QFH,QFG];go_big_quiet_on)|(go_big_quiet_step (fail)))
   refine wpQuiet_nil ?_
   go_wp2_with (first
    | (refine QeV rfl ?_;refine Qg0 rfl rfl _ _ rfl (E2.drew.nth 3 rfl) rfl rfl hUP hp1 ?_;intro k1 hb1 ho1)
    | fail)
   have E3:=E2.drew.write 3 rfl ho1 hb1
   have oV3:=QaV (Qa7 ownV (Qab _)) (E2.drew.nth 3 rfl) (by decide) ho1
   have hvl:(vs++[(⟨UC,id2,tk2⟩:Vst)]).length=vs.length+1:=by simp
   have E4:Bag w k1 [(g9,41,tr1 A8 (vs++[(⟨UC,id2,tk2⟩:Vst)]).length c8 none 0 0 0),(g6,100,UP.map W8),(w.heap.size+1,41,tz0),(w.heap.size,27,emC tk id B m e)]:=by
    rw[hvl]
    exact E3.drop 2
   have oV6:k1.ownsRow w.heap.size 57 22 (.slice A8 (vs++[(⟨UC,id2,tk2⟩:Vst)]).length c8) (vs++[(⟨UC,id2,tk2⟩:Vst)]).length ((vs++[(⟨UC,id2,tk2⟩:Vst)]).flatMap VC):=by
    rw[hvl,QHG]
    exact oV3
   have zn:k1.cell? ⟨g9,0,none⟩=some (.slice A8 (vs++[(⟨UC,id2,tk2⟩:Vst)]).length c8):=(E4.nth 0 rfl).cellD 0 rfl
   refine⟨?_,?_⟩
   ·have q1:(vs++[(⟨UC,id2,tk2⟩:Vst)]).length+k=16:=by rw[hvl];omega
    have q2:0≤tk2+(UC.dl.toNat:Int):=QEY ht2
    have q3:tk2+(UC.dl.toNat:Int)≤1099511627776+((vs++[(⟨UC,id2,tk2⟩:Vst)]).length:Int)*4294967296:=by
     rw[hvl]
     exact QEJ ht3 hdl
    exact⟨k,UC.nx,_,UP,_,A8,c8,rfl,rfl,q1,hUP,q2,q3,E4,oV6,hR0⟩
   ·rw[zn,hz0.out,hvl]
    show 16-(vs.length+1)<16-vs.length
    omega
theorem Qu4:Tryz.prog.built 60 []=some (AvC av0).toArray:=by kernel_rfl
theorem Qtz (kd:UInt8) (id:UInt64) (tk:Int):Tryz.prog.built 60 [(1,W8 kd),(2,W64 id),(3,.int .i64 tk)]=some (AvC ⟨⟨prt0,kd,id,tk,QaH⟩,.slice none 0 0⟩).toArray:=by kernel_rfl
theorem QeM:(Tryz.prog.info? 57).map (·.size)=some 22:=by kernel_rfl
theorem Qlq (v:Vst):∀u∈VC v,u.oneCell'=true:=by
 intro u hu
 simp only[VC,CC,QFy,QFP,QGC,QGf,QFO,or_false]at hu
 rcases hu with rfl|rfl|rfl|rfl|⟨b,_,rfl⟩|rfl|rfl<;>rfl
set_option maxRecDepth 100000 in
set_option maxHeartbeats 4000000 in
theorem Qwo (A B:Option Addr) (n c m e:Nat) (vs:List Vst) (b:List UInt8) (tk:Int) (w:World) (hv:RdF VC 22 vst0 w A n vs) (hn:n≤1048576) (hb:RdB w B m b) (hme:m≤e):
 Calls Tryz.prog 13 #[.agg #[.slice A n c,.slice B m e,.int .i64 tk]] w fun x w'=>∃A' c',x= .returned (.tuple #[.agg (AvC ⟨arvA vs b tk,.slice A' (arvA vs b tk).pt.da.length c'⟩).toArray,.int .i64 (arvE vs b:Nat)])∧
  OwnB w' w.heap.size A' (arvA vs b tk).pt.da.length c' (arvA vs b tk).pt.da∧Later w w':=by
 have hvl:=hv.1
 have hbl:=hb.len
 have C1:=Qbb w 41 [.slice A n c,.slice B m e,.int .i64 tk]
 have C2:=C1.add (Qaa _ (.cells az0.toArray 60)) (k:=w.heap.size+1) (by simp) (by omega) (Blk.new' _ _ az0 (by simp))
 have q0:=(C2.nth 1 rfl).cellD 0 (u:=.slice A n c) rfl
 have q1:=(C2.nth 1 rfl).cellD 1 (u:=.slice B m e) rfl
 have q2:=(C2.nth 1 rfl).cellD 2 (u:=.int .i64 tk) rfl
 have hb0:=hid Qu4
 have hb1:=hid Qtz
 by_cases hn0:n=0
 ·subst hn0
  obtain⟨HE,HA⟩:=Qqe (vs:=vs) (b:=b) tk (.inl hvl)
  replace HE:=hid HE
  replace HA:=hid HA
  go_enter Tryz.func13,Tryz.ntmps13
  go_wp2_with (first
   | (refine Qak ?hw 60 _ rfl (AvC av0) (by simp only[QFI,QFR];exact hb0.out) ?_;(case hw=>rfl))
   | (refine Qaj rfl rfl _ _ _ rfl (w.heap.size+1) _ _ (AvC av0) (C2.nth 0 rfl) rfl rfl 24 Qbs (Qas _) rfl (Qcf _ _ _ _) ?_;intro w5 hb5 ho5)
   | fail)
  exact bodyPost_ret (Qaf rfl _ _ _ _ _ _ hb5 rfl Tryz.underlying60 rfl (by rw[Qas];exact Qbs)) rfl ⟨none,0,by rw[HE.out,HA.out];rfl,by rw[HA.out];exact Qa1 _ _ _,C2.lat.only ho5 (by omega)⟩
 obtain⟨k,rfl⟩:∃k,n=k+1:=⟨n-1,by omega⟩
 have hne:((k:Int)+1==0)=false:=beq_eq_false_iff_ne.2 (by omega)
 by_cases hm:m≠480
 ·have hm2:((m:Int) != 480)=true:=bne_iff_ne.2 (by omega)
  obtain⟨HE,HA⟩:=Qqe (vs:=vs) (b:=b) tk (.inr (by rw[hbl];exact hm))
  replace HE:=hid HE
  replace HA:=hid HA
  go_enter Tryz.func13,Tryz.ntmps13
  go_wp2_with (first
   | (refine Qak ?hw 60 _ rfl (AvC av0) (by simp only[QFI,QFR];exact hb0.out) ?_;(case hw=>rfl))
   | (refine Qaj rfl rfl _ _ _ rfl (w.heap.size+1) _ _ (AvC av0) (C2.nth 0 rfl) rfl rfl 24 Qbs (Qas _) rfl (Qcf _ _ _ _) ?_;intro w5 hb5 ho5)
   | fail)
  exact bodyPost_ret (Qaf rfl _ _ _ _ _ _ hb5 rfl Tryz.underlying60 rfl (by rw[Qas];exact Qbs)) rfl ⟨none,0,by rw[HE.out,HA.out];rfl,by rw[HA.out];exact Qa1 _ _ _,C2.lat.only ho5 (by omega)⟩
 obtain rfl:m=480:=Classical.not_not.1 hm
 have hS: ¬(vs.length=0∨b.length≠480):=by omega
 obtain⟨b0,o,rfl,hb00,hc⟩:=(hv.later C2.lat).at_ (k:=k) (by omega)
 have hlv:vs.getD k vst0=QcH vs:=by rw[QcH,hvl];rfl
 rw[hlv]at hc
 have r4:=hid (fun h=>QuQ (vs:=vs) (b:=b) tk hS h)
 have rf:=hid (fun h1 h2 h3=>Qxl (vs:=vs) (b:=b) tk hS h1 h2 h3)
 have rb:=hid (fun h1 h2=>Qzd (vs:=vs) (b:=b) tk hS h1 h2)
 have rt:=hid (fun h1 h2 h3=>QwI (vs:=vs) (b:=b) tk hS h1 h2 h3)
 have rg:=hid (fun h1 h2 h3=>QpR (vs:=vs) (b:=b) tk hS h1 h2 h3)
 have hPa:=hid (fun w h=>Qr3 B e b w h hme)
 have hPd:Hid (parE b≠0→parP b=prt0):=hid (fun h=>by rw[parP,if_neg h])
 generalize arvE vs b=E at *
 generalize arvA vs b tk=R at *
 generalize QcH vs=v at *
 generalize parE b=PE at *
 generalize parP b=P at *
 clear hlv hS hm hn0 hvl
 have hsz:((w.alloc (.cells [.slice (some ⟨b0,o,none⟩) (k+1) c,.slice B 480 e,.int .i64 tk].toArray 41)).alloc (.cells az0.toArray 60)).heap.size=w.heap.size+2:=by simp
 by_cases h4:v.cm.kd=4
 ·obtain⟨HE,HA⟩:=r4.out h4
  replace HE:=hid HE
  replace HA:=hid HA
  have f4:(v.cm.kd==4)=true:=by rw[h4];rfl
  clear r4 rf rb rt rg hPa hPd h4
  go_enter Tryz.func13,Tryz.ntmps13
  go_wp2_with (first
   | (refine Qar ?hw _ _ rfl b0 (o+k*22) (VC v) hc rfl _ Tryz.underlying57 rfl (by rw[QaN];exact QeM) ?_;(case hw=>rfl))
   | (refine Qaj rfl rfl _ _ _ rfl (w.heap.size+2) _ _ (VC v) (Blk.new' _ _ (VC vst0) hsz) rfl rfl 22 QeM (QaN _) (QaN vst0) (Qlq _) ?_;intro w3 hb3 ho3
      have l3:=Later.only (Qaa _ _) ho3 (QHR hsz)
      have C3:=C2.fresh l3 (QHR hsz) hb3
      obtain⟨x0,x20,x4⟩:=Qdw hb3
      have y2:=(C3.nth 2 rfl).cellD 2 (u:=.int .i64 tk) rfl)
   | (refine Qak ?hw 60 _ rfl (AvC ⟨⟨prt0,v.cm.kd,v.id,tk,QaH⟩,.slice none 0 0⟩) (by simp only[QFI,QFW,QFR];exact hb1.out _ _ _) ?_;(case hw=>rfl))
   | (refine Qaj rfl rfl _ _ _ rfl w3.heap.size _ _ (AvC ⟨⟨prt0,v.cm.kd,v.id,tk,QaH⟩,.slice none 0 0⟩) (Blk.new w3 _ (AvC av0)) rfl rfl 24 Qbs (Qas _) (Qas av0) (Qcf _ _ _ _) ?_;intro w4 hb4 ho4
      have l4:=(Qaa w3 _).only ho4 (QFE _)
      have C4:=C3.fresh l4 (QFE _) hb4
      clear x0 x20 x4 y2
      obtain⟨x0,x20,x4⟩:=Qdw (C4.nth 1 rfl))
   | (refine Qar ?hw _ _ rfl (w.heap.size+2) 4 (v.cm.ma.val.map W8) x4 rfl _ Tryz.underlying51 rfl (by rw[QFA,v.cm.ma.2];exact Qtp) ?_;(case hw=>rfl))
   | (refine Qai rfl rfl _ _ _ rfl w3.heap.size 8 _ _ (v.cm.ma.val.map W8) (C4.nth 0 rfl) rfl rfl (by rw[QFA,v.cm.ma.2];exact Qtp) (by rw[Qas,QFA,v.cm.ma.2];omega) (Qay _) ?_;intro w5 hb5 ho5
      rw[QvF]at hb5
      have C5:=C4.write 0 rfl ho5 hb5)
   | (refine Qar ?hw _ _ rfl w3.heap.size 0 (AvC ⟨⟨prt0,v.cm.kd,v.id,tk,v.cm.ma⟩,.slice none 0 0⟩) (fun j v hv=>by rw[QFX];exact hb5.cellD j hv) rfl _ Tryz.underlying60 rfl (by rw[Qas];exact Qbs) ?_;(case hw=>rfl))
   | (refine Qaj rfl rfl _ _ _ rfl (w.heap.size+1) _ _ (AvC ⟨⟨prt0,v.cm.kd,v.id,tk,v.cm.ma⟩,.slice none 0 0⟩) (C5.nth 2 rfl) rfl rfl 24 Qbs (Qas _) rfl (Qcf _ _ _ _) ?_;intro w6 hb6 ho6)
   | fail)
  exact bodyPost_ret (Qaf rfl _ _ _ _ _ _ hb6 rfl Tryz.underlying60 rfl (by rw[Qas];exact Qbs)) rfl ⟨none,0,by rw[HE.out,HA.out];rfl,by rw[HA.out];exact Qa1 _ _ _,C5.lat.only ho6 (by omega)⟩
 have f4:(v.cm.kd==4)=false:=beq_eq_false_iff_ne.2 h4
 clear r4
 by_cases h23: ¬(v.cm.kd=2∨v.cm.kd=3)
 ·have h2:v.cm.kd≠2:=fun h=>h23 (.inl h)
  have h3:v.cm.kd≠3:=fun h=>h23 (.inr h)
  obtain⟨HE,HA⟩:=rf.out h4 h2 h3
  replace HE:=hid HE
  replace HA:=hid HA
  have f2:(v.cm.kd==2)=false:=beq_eq_false_iff_ne.2 h2
  have f3:(v.cm.kd==3)=false:=beq_eq_false_iff_ne.2 h3
  clear rf rb rt rg hPa hPd h4 h23 h2 h3
  go_enter Tryz.func13,Tryz.ntmps13
  go_wp2_with (first
   | (refine Qar ?hw _ _ rfl b0 (o+k*22) (VC v) hc rfl _ Tryz.underlying57 rfl (by rw[QaN];exact QeM) ?_;(case hw=>rfl))
   | (refine Qaj rfl rfl _ _ _ rfl (w.heap.size+2) _ _ (VC v) (Blk.new' _ _ (VC vst0) hsz) rfl rfl 22 QeM (QaN _) (QaN vst0) (Qlq _) ?_;intro w3 hb3 ho3
      have l3:=Later.only (Qaa _ _) ho3 (QHR hsz)
      have C3:=C2.fresh l3 (QHR hsz) hb3
      obtain⟨x0,x20,x4⟩:=Qdw hb3
      have y2:=(C3.nth 2 rfl).cellD 2 (u:=.int .i64 tk) rfl)
   | (refine Qak ?hw 60 _ rfl (AvC ⟨⟨prt0,v.cm.kd,v.id,tk,QaH⟩,.slice none 0 0⟩) (by simp only[QFI,QFW,QFR];exact hb1.out _ _ _) ?_;(case hw=>rfl))
   | (refine Qaj rfl rfl _ _ _ rfl w3.heap.size _ _ (AvC ⟨⟨prt0,v.cm.kd,v.id,tk,QaH⟩,.slice none 0 0⟩) (Blk.new w3 _ (AvC av0)) rfl rfl 24 Qbs (Qas _) (Qas av0) (Qcf _ _ _ _) ?_;intro w4 hb4 ho4
      have l4:=(Qaa w3 _).only ho4 (QFE _)
      have C4:=C3.fresh l4 (QFE _) hb4
      clear x0 x20 x4 y2
      obtain⟨x0,x20,x4⟩:=Qdw (C4.nth 1 rfl)
      have y1:=(C4.nth 3 rfl).cellD 1 (u:=.slice B 480 e) rfl)
   | (refine Qak ?hw 60 _ rfl (AvC av0) (by simp only[QFI,QFR];exact hb0.out) ?_;(case hw=>rfl))
   | (refine Qaj rfl rfl _ _ _ rfl (w.heap.size+1) _ _ (AvC av0) (C4.nth 2 rfl) rfl rfl 24 Qbs (Qas _) rfl (Qcf _ _ _ _) ?_;intro w9 hb9 ho9)
   | fail)
  exact bodyPost_ret (Qaf rfl _ _ _ _ _ _ hb9 rfl Tryz.underlying60 rfl (by rw[Qas];exact Qbs)) rfl ⟨none,0,by rw[HE.out,HA.out];rfl,by rw[HA.out];exact Qa1 _ _ _,C4.lat.only ho9 (by omega)⟩
 replace h23:=Classical.not_not.1 h23
 clear rf h4
 obtain⟨M,hM,hMM,hf⟩:∃M:UInt8,(if v.cm.kd=3 then 2 else 1)=M∧((M=1∧(v.cm.kd==2)=true)∨(M=2∧(v.cm.kd==2)=false∧(v.cm.kd==3)=true))∧True:=by
  rcases h23 with h|h
  ·exact⟨1,by rw[h];decide,.inl ⟨rfl,by rw[h];rfl⟩,trivial⟩
  ·exact⟨2,by rw[h];decide,.inr ⟨rfl,by rw[h];rfl,by rw[h];rfl⟩,trivial⟩
 replace rb:=hid (rb.out h23)
 replace rt:=hid (rt.out h23)
 replace rg:=hid (rg.out h23)
 rw[hM]at rt rg
 clear hM h23 hf
 rcases hMM with ⟨rfl,f2⟩|⟨rfl,f2,f3⟩
 ·go_enter Tryz.func13,Tryz.ntmps13
  go_wp2_with (first
   | (refine Qar ?hw _ _ rfl b0 (o+k*22) (VC v) hc rfl _ Tryz.underlying57 rfl (by rw[QaN];exact QeM) ?_;(case hw=>rfl))
   | (refine Qaj rfl rfl _ _ _ rfl (w.heap.size+2) _ _ (VC v) (Blk.new' _ _ (VC vst0) hsz) rfl rfl 22 QeM (QaN _) (QaN vst0) (Qlq _) ?_;intro w3 hb3 ho3
      have l3:=Later.only (Qaa _ _) ho3 (QHR hsz)
      have C3:=C2.fresh l3 (QHR hsz) hb3
      obtain⟨x0,x20,x4⟩:=Qdw hb3
      have y2:=(C3.nth 2 rfl).cellD 2 (u:=.int .i64 tk) rfl)
   | (refine Qak ?hw 60 _ rfl (AvC ⟨⟨prt0,v.cm.kd,v.id,tk,QaH⟩,.slice none 0 0⟩) (by simp only[QFI,QFW,QFR];exact hb1.out _ _ _) ?_;(case hw=>rfl))
   | (refine Qaj rfl rfl _ _ _ rfl w3.heap.size _ _ (AvC ⟨⟨prt0,v.cm.kd,v.id,tk,QaH⟩,.slice none 0 0⟩) (Blk.new w3 _ (AvC av0)) rfl rfl 24 Qbs (Qas _) (Qas av0) (Qcf _ _ _ _) ?_;intro w4 hb4 ho4
      have l4:=(Qaa w3 _).only ho4 (QFE _)
      have C4:=C3.fresh l4 (QFE _) hb4
      clear x0 x20 x4 y2
      obtain⟨x0,x20,x4⟩:=Qdw (C4.nth 1 rfl)
      have y1:=(C4.nth 3 rfl).cellD 1 (u:=.slice B 480 e) rfl)
   | fail)
  refine (hPa.out w4 (hb.later C4.lat)).mono ?_
  rintro x5 w5 ⟨A5,c5,rfl,hown5,l5⟩
  clear x0 x20 x4 y1
  have C5:=C4.later l5
  by_cases hpe:PE=0
  case neg=>
   obtain⟨HE,HA⟩:=rb.out hpe
   replace HE:=hid HE
   replace HA:=hid HA
   have hp2:((PE:Int) != 0)=true:=bne_iff_ne.2 (by omega)
   clear rb rt rg hPa hpe
   go_wp2_with (first
   | (refine Qb6 rfl rfl _ _ rfl (Blk.new w5 _ pz0) rfl rfl rfl rfl ?_;intro w6 hb6 ho6
      have l6:=(Qaa w5 _).only ho6 (QFE _)
      have C6:=C5.fresh l6 (QFE _) hb6)
   | (refine Qak ?hw 60 _ rfl (AvC av0) (by simp only[QFI,QFR];exact hb0.out) ?_;(case hw=>rfl))
   | (refine Qaj rfl rfl _ _ _ rfl (w.heap.size+1) _ _ (AvC av0) (C6.nth 3 rfl) rfl rfl 24 Qbs (Qas _) rfl (Qcf _ _ _ _) ?_;intro w9 hb9 ho9)
   | fail)
   exact bodyPost_ret (Qaf rfl _ _ _ _ _ _ hb9 rfl Tryz.underlying60 rfl (by rw[Qas];exact Qbs)) rfl ⟨none,0,by rw[HE.out,HA.out];rfl,by rw[HA.out];exact Qa1 _ _ _,C6.lat.only ho9 (by omega)⟩
  replace rt:=hid (rt.out hpe)
  replace rg:=hid (rg.out hpe)
  subst hpe
  have hw34:=(C4.nth 0 rfl).lt
  have hw23:=(C3.nth 0 rfl).lt
  by_cases hk:P.kd=1
  case neg=>
   obtain⟨HE,HA⟩:=rt.out hk
   replace HE:=hid HE
   replace HA:=hid HA
   have fk:(P.kd != 1)=true:=bne_iff_ne.2 hk
   clear rb rt rg hPa hk
   go_wp2_with (first
   | (refine Qb6 rfl rfl _ _ rfl (Blk.new w5 _ pz0) rfl rfl rfl rfl ?_;intro w6 hb6 ho6
      have l6:=(Qaa w5 _).only ho6 (QFE _)
      have C6:=C5.fresh l6 (QFE _) hb6
      have z0:=(C6.nth 0 rfl).cellD 0 (u:=W8 P.kd) rfl)
   | (refine Qak ?hw 60 _ rfl (AvC av0) (by simp only[QFI,QFR];exact hb0.out) ?_;(case hw=>rfl))
   | (refine Qaj rfl rfl _ _ _ rfl (w.heap.size+1) _ _ (AvC av0) (C6.nth 3 rfl) rfl rfl 24 Qbs (Qas _) rfl (Qcf _ _ _ _) ?_;intro w9 hb9 ho9)
   | fail)
   exact bodyPost_ret (Qaf rfl _ _ _ _ _ _ hb9 rfl Tryz.underlying60 rfl (by rw[Qas];exact Qbs)) rfl ⟨none,0,by rw[HE.out,HA.out];rfl,by rw[HA.out];exact Qa1 _ _ _,C6.lat.only ho9 (by omega)⟩
  obtain⟨HE,HA⟩:=rg.out hk
  replace HE:=hid HE
  replace HA:=hid HA
  have fk:(P.kd != 1)=false:=bne_eq_false_iff_eq.2 hk
  clear rb rt rg hPa hk
  go_wp2_with (first
   | (refine Qb6 rfl rfl _ _ rfl (Blk.new w5 _ pz0) rfl rfl rfl rfl ?_;intro w6 hb6 ho6
      have l6:=(Qaa w5 _).only ho6 (QFE _)
      have C6:=C5.fresh l6 (QFE _) hb6
      have z0:=(C6.nth 0 rfl).cellD 0 (u:=W8 P.kd) rfl)
   | (refine Qea ?hw _ rfl (C6.nth 0 rfl) rfl ?_;(case hw=>rfl))
   | (refine Qai rfl rfl _ _ _ rfl w3.heap.size 0 _ _ (PaC P (.slice A5 P.da.length c5)) (C6.nth 1 rfl) rfl rfl (by rw[Qbe];exact Qd4) (by rw[Qas,Qbe];omega) (QiY _ rfl) ?_;intro w7 hb7 ho7
      rw[QqG]at hb7
      have C7:=C6.write 1 rfl ho7 hb7)
   | (refine Qar ?hw _ _ rfl w3.heap.size 0 (AvC ⟨⟨P,v.cm.kd,v.id,tk,QaH⟩,.slice A5 P.da.length c5⟩) (fun j v hv=>by rw[QFX];exact hb7.cellD j hv) rfl _ Tryz.underlying60 rfl (by rw[Qas];exact Qbs) ?_;(case hw=>rfl))
   | (refine Qaj rfl rfl _ _ _ rfl (w.heap.size+1) _ _ (AvC ⟨⟨P,v.cm.kd,v.id,tk,QaH⟩,.slice A5 P.da.length c5⟩) (C7.nth 3 rfl) rfl rfl 24 Qbs (Qas _) rfl (Qcf _ _ _ _) ?_;intro w9 hb9 ho9)
   | fail)
  have o6:=Qaq hown5 l6
  have o7:=Qg5 o6 ho7 (fun k hk=>.inl (by simp only[Option.some.injEq]at hk;omega))
  have o9:=Qg5 o7 ho9 (fun k hk=>.inl (by simp only[Option.some.injEq]at hk;omega))
  exact bodyPost_ret (Qaf rfl _ _ _ _ _ _ hb9 rfl Tryz.underlying60 rfl (by rw[Qas];exact Qbs)) rfl ⟨A5,c5,by rw[HE.out,HA.out];rfl,by rw[HA.out];exact Qbc o9 C4.lat.size,C7.lat.only ho9 (by omega)⟩
 ·go_enter Tryz.func13,Tryz.ntmps13
  go_wp2_with (first
   | (refine Qar ?hw _ _ rfl b0 (o+k*22) (VC v) hc rfl _ Tryz.underlying57 rfl (by rw[QaN];exact QeM) ?_;(case hw=>rfl))
   | (refine Qaj rfl rfl _ _ _ rfl (w.heap.size+2) _ _ (VC v) (Blk.new' _ _ (VC vst0) hsz) rfl rfl 22 QeM (QaN _) (QaN vst0) (Qlq _) ?_;intro w3 hb3 ho3
      have l3:=Later.only (Qaa _ _) ho3 (QHR hsz)
      have C3:=C2.fresh l3 (QHR hsz) hb3
      obtain⟨x0,x20,x4⟩:=Qdw hb3
      have y2:=(C3.nth 2 rfl).cellD 2 (u:=.int .i64 tk) rfl)
   | (refine Qak ?hw 60 _ rfl (AvC ⟨⟨prt0,v.cm.kd,v.id,tk,QaH⟩,.slice none 0 0⟩) (by simp only[QFI,QFW,QFR];exact hb1.out _ _ _) ?_;(case hw=>rfl))
   | (refine Qaj rfl rfl _ _ _ rfl w3.heap.size _ _ (AvC ⟨⟨prt0,v.cm.kd,v.id,tk,QaH⟩,.slice none 0 0⟩) (Blk.new w3 _ (AvC av0)) rfl rfl 24 Qbs (Qas _) (Qas av0) (Qcf _ _ _ _) ?_;intro w4 hb4 ho4
      have l4:=(Qaa w3 _).only ho4 (QFE _)
      have C4:=C3.fresh l4 (QFE _) hb4
      clear x0 x20 x4 y2
      obtain⟨x0,x20,x4⟩:=Qdw (C4.nth 1 rfl)
      have y1:=(C4.nth 3 rfl).cellD 1 (u:=.slice B 480 e) rfl)
   | fail)
  refine (hPa.out w4 (hb.later C4.lat)).mono ?_
  rintro x5 w5 ⟨A5,c5,rfl,hown5,l5⟩
  clear x0 x20 x4 y1
  have C5:=C4.later l5
  by_cases hpe:PE=0
  case neg=>
   obtain⟨HE,HA⟩:=rb.out hpe
   replace HE:=hid HE
   replace HA:=hid HA
   have hp2:((PE:Int) != 0)=true:=bne_iff_ne.2 (by omega)
   clear rb rt rg hPa hpe
   go_wp2_with (first
   | (refine Qb6 rfl rfl _ _ rfl (Blk.new w5 _ pz0) rfl rfl rfl rfl ?_;intro w6 hb6 ho6
      have l6:=(Qaa w5 _).only ho6 (QFE _)
      have C6:=C5.fresh l6 (QFE _) hb6)
   | (refine Qak ?hw 60 _ rfl (AvC av0) (by simp only[QFI,QFR];exact hb0.out) ?_;(case hw=>rfl))
   | (refine Qaj rfl rfl _ _ _ rfl (w.heap.size+1) _ _ (AvC av0) (C6.nth 3 rfl) rfl rfl 24 Qbs (Qas _) rfl (Qcf _ _ _ _) ?_;intro w9 hb9 ho9)
   | fail)
   exact bodyPost_ret (Qaf rfl _ _ _ _ _ _ hb9 rfl Tryz.underlying60 rfl (by rw[Qas];exact Qbs)) rfl ⟨none,0,by rw[HE.out,HA.out];rfl,by rw[HA.out];exact Qa1 _ _ _,C6.lat.only ho9 (by omega)⟩
  replace rt:=hid (rt.out hpe)
  replace rg:=hid (rg.out hpe)
  subst hpe
  have hw34:=(C4.nth 0 rfl).lt
  have hw23:=(C3.nth 0 rfl).lt
  by_cases hk:P.kd=2
  case neg=>
   obtain⟨HE,HA⟩:=rt.out hk
   replace HE:=hid HE
   replace HA:=hid HA
   have fk:(P.kd != 2)=true:=bne_iff_ne.2 hk
   clear rb rt rg hPa hk
   go_wp2_with (first
   | (refine Qb6 rfl rfl _ _ rfl (Blk.new w5 _ pz0) rfl rfl rfl rfl ?_;intro w6 hb6 ho6
      have l6:=(Qaa w5 _).only ho6 (QFE _)
      have C6:=C5.fresh l6 (QFE _) hb6
      have z0:=(C6.nth 0 rfl).cellD 0 (u:=W8 P.kd) rfl)
   | (refine Qak ?hw 60 _ rfl (AvC av0) (by simp only[QFI,QFR];exact hb0.out) ?_;(case hw=>rfl))
   | (refine Qaj rfl rfl _ _ _ rfl (w.heap.size+1) _ _ (AvC av0) (C6.nth 3 rfl) rfl rfl 24 Qbs (Qas _) rfl (Qcf _ _ _ _) ?_;intro w9 hb9 ho9)
   | fail)
   exact bodyPost_ret (Qaf rfl _ _ _ _ _ _ hb9 rfl Tryz.underlying60 rfl (by rw[Qas];exact Qbs)) rfl ⟨none,0,by rw[HE.out,HA.out];rfl,by rw[HA.out];exact Qa1 _ _ _,C6.lat.only ho9 (by omega)⟩
  obtain⟨HE,HA⟩:=rg.out hk
  replace HE:=hid HE
  replace HA:=hid HA
  have fk:(P.kd != 2)=false:=bne_eq_false_iff_eq.2 hk
  clear rb rt rg hPa hk
  go_wp2_with (first
   | (refine Qb6 rfl rfl _ _ rfl (Blk.new w5 _ pz0) rfl rfl rfl rfl ?_;intro w6 hb6 ho6
      have l6:=(Qaa w5 _).only ho6 (QFE _)
      have C6:=C5.fresh l6 (QFE _) hb6
      have z0:=(C6.nth 0 rfl).cellD 0 (u:=W8 P.kd) rfl)
   | (refine Qea ?hw _ rfl (C6.nth 0 rfl) rfl ?_;(case hw=>rfl))
   | (refine Qai rfl rfl _ _ _ rfl w3.heap.size 0 _ _ (PaC P (.slice A5 P.da.length c5)) (C6.nth 1 rfl) rfl rfl (by rw[Qbe];exact Qd4) (by rw[Qas,Qbe];omega) (QiY _ rfl) ?_;intro w7 hb7 ho7
      rw[QqG]at hb7
      have C7:=C6.write 1 rfl ho7 hb7)
   | (refine Qar ?hw _ _ rfl w3.heap.size 0 (AvC ⟨⟨P,v.cm.kd,v.id,tk,QaH⟩,.slice A5 P.da.length c5⟩) (fun j v hv=>by rw[QFX];exact hb7.cellD j hv) rfl _ Tryz.underlying60 rfl (by rw[Qas];exact Qbs) ?_;(case hw=>rfl))
   | (refine Qaj rfl rfl _ _ _ rfl (w.heap.size+1) _ _ (AvC ⟨⟨P,v.cm.kd,v.id,tk,QaH⟩,.slice A5 P.da.length c5⟩) (C7.nth 3 rfl) rfl rfl 24 Qbs (Qas _) rfl (Qcf _ _ _ _) ?_;intro w9 hb9 ho9)
   | fail)
  have o6:=Qaq hown5 l6
  have o7:=Qg5 o6 ho7 (fun k hk=>.inl (by simp only[Option.some.injEq]at hk;omega))
  have o9:=Qg5 o7 ho9 (fun k hk=>.inl (by simp only[Option.some.injEq]at hk;omega))
  exact bodyPost_ret (Qaf rfl _ _ _ _ _ _ hb9 rfl Tryz.underlying60 rfl (by rw[Qas];exact Qbs)) rfl ⟨A5,c5,by rw[HE.out,HA.out];rfl,by rw[HA.out];exact Qbc o9 C4.lat.size,C7.lat.only ho9 (by omega)⟩
theorem QqQ (id:UInt64) (A:Option Addr) (n c:Nat) (da:List UInt8):Tryz.prog.built 36 [(0,.int .u8 1),(1,W64 id),(3,.int .i64 1),(4,.slice A n c)]=some (PaC ⟨1,id,0,1,da⟩ (.slice A n c)).toArray:=by kernel_rfl
theorem Qr1 (tk:Int) (id:UInt64) (A:Option Addr) (n c:Nat):Tryz.prog.built 27 [(0,.int .i64 tk),(1,W64 id),(2,.slice A n c)]=some (emC tk id A n c).toArray:=by kernel_rfl
theorem QrZ {ops:Array Oper} {o:Oper} {a:Act} (hw:Region.wanted o (yielded ops a.tmps)=true) (ho:o.op= .alloc 36):
 Makes Tryz.prog ops o (fun g=>.pointer (some ⟨g,0,none⟩)) (.cells pz0.toArray 36) a:=
 ⟨hw,fun w=>by
   unfold execOp
   rw[ho]
   simp[go_sem]⟩
theorem Qq8 {ops:Array Oper} {o:Oper} {a:Act} (hw:Region.wanted o (yielded ops a.tmps)=true) (ho:o.op= .alloc 41):
 Makes Tryz.prog ops o (fun g=>.pointer (some ⟨g,0,none⟩)) (.cells tz0.toArray 41) a:=
 ⟨hw,fun w=>by
   unfold execOp
   rw[ho]
   simp[go_sem]⟩
theorem QqM {ops:Array Oper} {o:Oper} {a:Act} (hw:Region.wanted o (yielded ops a.tmps)=true) (ho:o.op= .buildSlice 22 0 #[]):
 Makes Tryz.prog ops o (fun g=>.slice (some ⟨g,0,none⟩) 0 0) (.cells #[] 47) a:=
 ⟨hw,fun w=>by
   unfold execOp
   rw[ho]
   simp[go_sem]⟩
theorem QB1:(Tryz.prog.info? 47).map (fun i=>(i.zero,i.size,i.bytes))=some (some (.agg (NC nod0).toArray),66,88):=by kernel_rfl
theorem QsY {α:Type} {F:α→List Value} {sz:Nat} {d:α} {w:World} {A:Option Addr} {n m:Nat} {xs:List α} (h:RdF F sz d w A n xs) (hm:m≤n):RdF F sz d w A m (xs.take m):=by
 refine⟨by rw[QFY,h.1];omega,fun h0=>?_⟩
 obtain⟨b,o,hA,hb,hc⟩:=h.2 (by omega)
 refine⟨b,o,hA,hb,fun j i v hj hv=>hc j i v (by omega) ?_⟩
 rw[QFC,QGX,if_pos hj]at hv
 rw[QFC]
 exact hv
theorem RdF.onlyF {α:Type} {F:α→List Value} {sz:Nat} {d:α} {w w':World} {A:Option Addr} {n g:Nat} {xs:List α} (h:RdF F sz d w A n xs) (ho:Only g w w') (hne:∀b o,A=some ⟨b,o,none⟩→b≠g):RdF F sz d w' A n xs:=by
 refine⟨h.1,fun hn=>?_⟩
 obtain⟨b,o,hA,hb,hc⟩:=h.2 hn
 exact⟨b,o,hA,QFV hb ho.size,fun j i v hj hv=>World.grownBy.cell ho (hc j i v hj hv) (fun e=>hne b o hA (by simpa using e))⟩
theorem Qyj {w:World} {g b p:Nat} {t:TypeId} {l:List Value} {x:UInt8} (hb:Blk w g t l) (hl:∀(j:Nat) (x:UInt8),l[j]?≠some (W8 x)) (hc:w.cell? ⟨b,p,none⟩=some (W8 x)):b≠g:=fun e=>by
 subst e
 rw[hb.cell]at hc
 exact hl _ _ hc
theorem Qyo:∀(j:Nat) (x:UInt8),tz0[j]?≠some (W8 x)
 | 0,_,h=>by cases h
 | 1,_,h=>by cases h
 | 2,_,h=>by cases h
 | _+3,_,h=>by cases h
theorem QEC (x:Vst):(VC x)[20]?=some (W64 x.id):=by
 rw[VC,QFK (by rw[Qan];omega),Qan]
 rfl
theorem QEZ (x:Vst):(VC x)[21]?=some (.int .i64 x.tk):=by
 rw[VC,QFK (by rw[Qan];omega),Qan]
 rfl
theorem QE8 (x:Vst):∀j v,(CC x.cm)[j]?=some v→(VC x)[0+j]?=some v:=fun j v h=>by
 rw[QFX,VC,QFS (QFU.1 h).1]
 exact h
theorem QAn (x:Arv):∀j v,(PaC x.ar.pt x.va)[j]?=some v→(AvC x)[0+j]?=some v:=fun j v h=>by
 rw[QFX,AvC,QFS (QFU.1 h).1]
 exact h
theorem QxN {l:List UInt8} (h:0<l.length):∃x,(l.map W8)[0]?=some (W8 x):=by
 cases l with
 | nil=>simp at h
 | cons x l=>exact⟨x,rfl⟩
set_option maxRecDepth 100000 in
set_option maxHeartbeats 8000000 in
theorem Qim (A B:Option Addr) (n c m0 d:Nat) (xs:List Nod) (ts0:List Stp) (y:Emt) (w:World) (hx:RdN w A n xs) (hn:n≤1048576) (hs:∀x∈xs,x.nm.size≤140737488355328) (ht0:RdS w B m0 ts0) (hm0:m0≤1048576) (hmd:m0≤d) (hy:EmOk w y) (hyn:y.n≤1048576):
 Calls Tryz.prog 3 #[.slice A n c,.slice B m0 d,.agg (EmC y).toArray] w fun e w'=>e= .returned (.bool true)∧Later w w':=by
 obtain⟨m,ts,hB,hm3,ht⟩:∃(m:Nat) (ts:List Stp),((decide ((3:Int)<(m0:Int))=false∧m=m0)∨(decide ((3:Int)<(m0:Int))=true∧∀W,(Instr.sliceAt 23 (.slice B m0 d) none (some (.int .i64 3)) none).run Tryz.prog W= .ok (.slice B m d) W))∧m≤3∧RdS w B m ts:=by
  by_cases h:m0≤3
  ·exact⟨m0,ts0,.inl ⟨decide_eq_false (by omega),rfl⟩,h,ht0⟩
  ·refine⟨3,ts0.take 3,.inr ⟨decide_eq_true (by omega),fun W=>?_⟩,by omega,QsY ht0 (by omega)⟩
   have g3:(3:Nat)≤d:=by omega
   simp[go_sem]
   intro h'
   omega
 have hml:=ht.1
 clear ht0
 obtain⟨tk,id,bs,PA,pn,pc⟩:=y
 obtain⟨hnc,hb⟩:=hy
 simp only at hnc hb hyn
 have C1:=Qbb w 27 (emC tk id PA pn pc)
 have hRo:=hid (fun w h1 h2=>Qss A B n c m d xs ts w h1 (by omega) hs h2 (by omega))
 have hFi:=hid (fun w h1=>Qvd A n c xs w h1 (by omega) hs)
 have hPl:=hid (fun (x:List UInt8) (p:Prt)=>Qn5 (xs:=xs) (ts:=ts) (x:=x) (p:=p) (tk:=tk))
 have hLn:Hid (Qdd xs ts=0→(Qbd xs ts).length=m∧1≤m):=hid (fun h=>⟨by rw[Qbd,QFA,hml],by have:=(QqJ h).2.1;omega⟩)
 have hCa:=hid (fun A2 c2 B2 e2 id2 b2 w h1 h2 h3=>QrH A2 B2 n c2 768 e2 xs tk id2 b2 w h1 hn hs h2 h3)
 have hbe:=hid Qr1
 have hbp:=hid QqQ
 rw[hml]at hPl
 clear hml
 generalize Qig xs=F at *
 generalize Qdd xs ts=E at *
 generalize Qbd xs ts=L at *
 rcases hB with ⟨hdec,rfl⟩|⟨hdec,hcut⟩
 all_goals
  go_enter Tryz.func3,Tryz.ntmps3
  go_wp2_with fail
  (with_reducible refine (Qz8 _).mono ?_);rintro e w1 ⟨rfl,j1⟩
  have C2:=C1.later j1
  go_wp2_with fail
  refine (hRo.out _ (hx.later C2.lat) (ht.later C2.lat)).mono ?_
  rintro e w2 ⟨v,rfl,hv0,hv1,j2⟩
  have C3:=C2.later j2
  go_wp2_with fail
  refine (hFi.out _ (hx.later C3.lat)).mono ?_
  rintro e w3 ⟨rfl,j3⟩
  have C4:=C3.later j3
  replace hv0:=hid hv0
  by_cases hE:E=0
  case neg=>
   have fE:((E:Int) != 0)=true:=bne_iff_ne.2 (by omega)
   go_wp2_with fail
   go_ret
   exact⟨rfl,C4.lat⟩
  obtain⟨LA,lc,rfl,hL⟩:=hv1 hE
  replace hL:=hL.later j3
  subst hE
  cases F
  case false=>
   go_wp2_with fail
   go_ret
   exact⟨rfl,C4.lat⟩
  have e0:=(C4.nth 0 rfl).cellD 0 (u:=.int .i64 tk) rfl
  have e2:=(C4.nth 0 rfl).cellD 2 (u:=.slice PA pn pc) rfl
  by_cases h0:tk<0
  ·have f0:decide (tk<0)=true:=decide_eq_true h0
   go_wp2_with fail
   go_ret
   exact⟨rfl,C4.lat⟩
  by_cases h1:1000000<tk
  ·have f0:decide (tk<0)=false:=decide_eq_false h0
   have f1:decide (1000000<tk)=true:=decide_eq_true h1
   go_wp2_with fail
   go_ret
   exact⟨rfl,C4.lat⟩
  by_cases h2:pn<32
  ·have f0:decide (tk<0)=false:=decide_eq_false h0
   have f1:decide (1000000<tk)=false:=decide_eq_false h1
   have f2:decide ((pn:Int)<32)=true:=decide_eq_true (by omega)
   go_wp2_with fail
   go_ret
   exact⟨rfl,C4.lat⟩
  have f0:decide (tk<0)=false:=decide_eq_false h0
  have f1:decide (1000000<tk)=false:=decide_eq_false h1
  have f2:decide ((pn:Int)<32)=false:=decide_eq_false (by omega)
  have e1:=(C4.nth 0 rfl).cellD 1 (u:=W64 id) rfl
  have hlt:=(C4.nth 0 rfl).lt
  have g1:32≤pn:=by omega
  have g2:32≤pc:=by omega
  obtain⟨q,rfl⟩:∃q,pn=q+32:=⟨pn-32,by omega⟩
  obtain⟨DA,hcutx,hbd0⟩:∃DA:Option Addr,(∀ W,(Instr.sliceAt 25 (.slice PA (q+32) pc) (some (.int .i64 32)) none none).run Tryz.prog W= .ok (.slice DA q (pc-32)) W)∧RdB w DA q (bs.drop 32):=by
   have h:=hb.cut g1 hnc
   rw[Nat.add_sub_cancel]at h
   exact⟨cutA PA 32 pc,fun W=>by have:=QgY PA (q+32) pc .i64 32 g1 W;rwa [Nat.add_sub_cancel]at this,h⟩
  go_wp2_with fail
  refine Qad [] [0,1,2,3,4,5,6,7] [] (by as_aux_lemma=>kernel_rfl) (by as_aux_lemma=>kernel_rfl) (by intro _ _ d _ _ h;cases d<;>exact h) ?_
  simp only[Qah,pick,QFv,QFw,QFx,QFy,QFz]
  repeat (go_big_quiet_step (fail))
  refine wpQuiet_nil ?_
  have hbx:RdB w PA 32 (bs.take 32):=RdB.take hb g1
  obtain⟨dn,da,hq,hdn,hbd⟩:∃(dn:Nat) (da:List UInt8),((decide ((450:Int)<(q:Int))=false∧dn=q)∨(decide ((450:Int)<(q:Int))=true∧∀W,(Instr.sliceAt 25 (.slice DA q (pc-32)) none (some (.int .i64 450)) none).run Tryz.prog W= .ok (.slice DA dn (pc-32)) W))∧dn≤450∧RdB w DA dn da:=by
   have h:=hbd0
   by_cases hq:450<q
   ·exact⟨450,(bs.drop 32).take 450,.inr ⟨decide_eq_true (by omega),fun W=>QlG _ _ _ _ 450 (by omega) W⟩,QFE _,h.take (by omega)⟩
   ·exact⟨q,bs.drop 32,.inl ⟨decide_eq_false (by omega),rfl⟩,by omega,h⟩
  have C5:=C4.drew
  have e1:=(C5.nth 0 rfl).cellD 1 (u:=W64 id) rfl
  rcases hq with ⟨hd4,rfl⟩|⟨hd4,hcut2⟩
  all_goals
   go_wp2_with fail
   refine QaF [0,1,2] [([],1,3),([4],2,5)] [] [6] [5] (fun _=>(fun g=>.pointer (some ⟨g,0,none⟩),.cells pz0.toArray 36)) (by as_aux_lemma=>kernel_rfl) (by as_aux_lemma=>kernel_rfl) (by intro _ _ d _ _ h;cases d<;>exact h) (by intro _ _ d _ _ h;cases d<;>exact h) ?_
   simp only[pick,QFv,QFw,QFx,QFy,QFz]
   repeat (first|go_big_quiet_skip|(go_big_quiet_want;(refine quiet_buildM _ _ rfl (PaC ⟨1,id,0,1,da⟩ (.slice D2 dn d2)) (by simp only[QFI,QFW,QFR];exact hbp.out _ _ _ _ _) ?_);simp only[Act.put,QFD,QFH,QFG];go_big_quiet_on)|(go_big_quiet_step (fail)))
   refine wpQuiet_nil ?_
   refine⟨?mk,?_⟩
   case mk=>
    refine⟨fun o ho=>?_,trivial⟩
    simp only[QFv,QFw,Option.some.injEq]at ho
    subst ho
    exact QrZ rfl rfl
   simp only[Qbv,pick,QFv,QFw,QFx,QFy,QFz]
   refine wpQuiet_nil ?_
   intro m1 i1
   go_wp2_with fail
   (refine (QbD DA dn _ da _ (hbd.later (C5.lat.trans i1)) (by omega)).mono ?_);rintro e m2 ⟨D2,d2,rfl,oD,i2⟩
   go_wp2_with fail
   try refine⟨by first|assumption|exact Qab _|exact Qaa _ _|exact Later.refl _,?_⟩
   try simp only[Qah,pick,QFv,QFw,QFx,QFy,QFz]
   repeat (first|go_big_quiet_skip|(go_big_quiet_want;(refine quiet_buildM _ _ rfl (PaC ⟨1,id,0,1,da⟩ (.slice D2 dn d2)) (by simp only[QFI,QFW,QFR];exact hbp.out _ _ _ _ _) ?_);simp only[Act.put,QFD,QFH,QFG];go_big_quiet_on)|(go_big_quiet_step (fail)))
   refine wpQuiet_nil ?_
   intro m3 gp i3 hgp _ hbp3
   refine wpQuiet_nil ?_
   intro m4 i4
   simp only[QFv,QFw,QGD,Act.put,QFD,QFH,QFG]
   have jj:=(i1.trans i2).trans (i3.trans i4)
   have D4:=C5.fresh jj hgp (Blk.later (show Blk m3 gp _ pz0 from hbp3) i4)
   have J4:=(Qab w3).trans jj
   have oD4:=Qaq oD (i3.trans i4)
   clear hbp3 jj i1 i2 i3 i4 oD
   go_wp2_with (first
    | (refine QeV rfl ?_;refine Qb6 (p:=⟨1,id,0,1,da⟩) (v:=.slice D2 dn d2) rfl rfl _ _ rfl (D4.nth 0 rfl) rfl rfl rfl rfl ?_;intro m5 hb5 ho5
       have D5:=D4.write 0 rfl ho5 hb5)
    | (refine go_l rfl ?_;refine Qea rfl _ rfl (D5.nth 0 rfl) rfl ?_)
    | fail)
   have oD5:=QaV oD4 (D4.nth 0 rfl) (by decide) ho5
   have J5:=J4.only ho5 (QGh (Qab w3).size hgp)
   have hSd:=hid (fun w h1 h2 h3=>QC6 PA D2 LA 32 pc dn d2 m lc (bs.take 32) ⟨1,id,0,1,da⟩ L w h1 (by omega) h2 (by omega) h3 (by omega))
   have hP:=hid (fun h=>hPl.out (bs.take 32) ⟨1,id,0,1,da⟩ trivial trivial h rfl (by omega) (by omega))
   have hR:Hid (Qhh (bs.take 32) ⟨1,id,0,1,da⟩ L=0→sndR (bs.take 32) ⟨1,id,0,1,da⟩ L=QhM (bs.take 32) ⟨1,id,0,1,da⟩ L):=hid (fun h=>by rw[sndR,if_pos h])
   generalize Qhh (bs.take 32) ⟨1,id,0,1,da⟩ L=SE at *
   generalize sndR (bs.take 32) ⟨1,id,0,1,da⟩ L=SR at *
   generalize QhM (bs.take 32) ⟨1,id,0,1,da⟩ L=SB at *
   refine (hSd.out m5 (hbx.later D5.lat) (OwnB.rd oD5) (hL.later J5)).mono ?_
   rintro e m6 ⟨A6,c6,rfl,o6,j6⟩
   have D6:=D5.later j6
   have J6:=J5.trans j6
   have oD6:=Qaq oD5 j6
   by_cases hSE:SE=0
   case neg=>
    have fSE:((SE:Int) != 0)=true:=bne_iff_ne.2 (by omega)
    go_wp2_with fail
    go_ret
    exact⟨rfl,D6.lat⟩
   obtain⟨hSl,hcar,htel,harE,harA⟩:=hP.out hSE
   obtain rfl:=hR.out hSE
   subst hSE
   clear hP hR hSd D4 D5 oD4 oD5
   obtain⟨hLm,hm1⟩:=hLn.out trivial
   have hFB:(Qbg ⟨1,id,0,1,da⟩).length=480:=Qdt _ (by show da.length≤450;rw[hbd.len];exact hdn)
   have hdl:=hbd.len
   have hCr:Hid (∀ A2 c2 w,RdN w A2 n xs→RdB w A6 768 SR→Calls Tryz.prog 11 #[.slice A2 n c2,.agg (emC tk (L.getD 0 hp0).nod.id A6 768 c6).toArray] w fun x w'=>∃A' c' B' c2,x= .returned (.tuple #[.agg (tr1 A' m c' B' 480 c2 (tkA ⟨1,id,0,1,da⟩ L tk m)).toArray,.int .i64 0])∧RdF VC 22 vst0 w' A' m ((QF6 m).map (visA ⟨1,id,0,1,da⟩ L tk))∧RdB w' B' 480 (Qbg ⟨1,id,0,1,da⟩)∧480≤c2∧Later w w'):=hid (fun A2 c2 w h1 h2=>by
    have h:=hCa.out A2 c2 A6 c6 (L.getD 0 hp0).nod.id SR w h1 h2 (by have:=OwnB.cap o6;omega)
    rw[hcar]at h
    simp only[QFA,List.length_range,hFB]at h
    exact h)
   have hAr:Hid (∀ A' c' B' c2 w,RdF VC 22 vst0 w A' m ((QF6 m).map (visA ⟨1,id,0,1,da⟩ L tk))→RdB w B' 480 (Qbg ⟨1,id,0,1,da⟩)→480≤c2→Calls Tryz.prog 13 #[.agg (tr1 A' m c' B' 480 c2 (tkA ⟨1,id,0,1,da⟩ L tk m)).toArray] w fun x w'=>∃A5 c5,x= .returned (.tuple #[.agg (AvC ⟨⟨⟨1,id,0,1,da⟩,2,(L.getD (m-1) hp0).nod.id,tkA ⟨1,id,0,1,da⟩ L tk m,QaH⟩,.slice A5 dn c5⟩).toArray,.int .i64 0])∧OwnB w' w.heap.size A5 dn c5 da∧Later w w'):=hid (fun A' c' B' c2 w h1 h2 h3=>by
    have h:=Qwo A' B' m c' 480 c2 _ _ (tkA ⟨1,id,0,1,da⟩ L tk m) w h1 (by omega) h2 h3
    rw[harE,harA]at h
    simp only[hdl]at h
    exact h)
   have hvis:Hid (∀ k,k<m→((QF6 m).map (visA ⟨1,id,0,1,da⟩ L tk)).getD k vst0=⟨QbV (QcC ⟨1,id,0,1,da⟩) L k,(L.getD k hp0).nod.id,tkA ⟨1,id,0,1,da⟩ L tk k⟩):=hid (fun k hk=>by
    rw[QFC,QFN,QGM hk]
    rfl)
   have htkS:Hid (∀ k,k<m→tkA ⟨1,id,0,1,da⟩ L tk k+(L.getD k hp0).delay=tkA ⟨1,id,0,1,da⟩ L tk (k+1)):=hid (fun k hk=>by rw[←(htel k hk).1];rfl)
   have htk0:tkA ⟨1,id,0,1,da⟩ L tk 0=tk:=rfl
   have htkB:Hid (∀ k,0≤tkA ⟨1,id,0,1,da⟩ L tk k∧tkA ⟨1,id,0,1,da⟩ L tk k≤tk+(k:Int)*4294967296):=hid (QmO (by omega))
   replace htel:=hid htel
   replace hSl:=hid hSl
   clear hCa hcar harE harA hFB
   generalize hVS:(QF6 m).map (visA ⟨1,id,0,1,da⟩ L tk)=VS at *
   generalize tkA ⟨1,id,0,1,da⟩ L tk=TK at *
   generalize Qbg ⟨1,id,0,1,da⟩=FB at *
   generalize QbV (QcC ⟨1,id,0,1,da⟩) L=PC0 at *
   clear hVS
   obtain⟨lb,lo,rfl,hlb,hlc⟩:=(hL.later J6).at_ (k:=0) (by omega)
   have n1:m6.cell? ⟨lb,lo+1,none⟩=some (W64 (L.getD 0 hp0).nod.id):=hlc 1 _ (Qxn _)
   have e0:=(D6.nth 1 rfl).cellD 0 (u:=.int .i64 tk) rfl
   have hR6:RdB m6 A6 768 SR:=by
    have:=OwnB.rd o6
    rwa [hSl.out]at this
   rw[hSl.out]
   generalize hN0:(L.getD 0 hp0).nod.id=N0 at *
   clear hlc hN0
   go_wp2_with fail
   refine QaF [1,3,4,5,6,7,8,9,10,11] [([],2,0),([],1,2),([],1,12),([13,14,15],2,16)] [] [17,18] [0,16] (fun i=>if i=0 then (fun g=>.slice (some ⟨g,0,none⟩) 0 0,.cells #[] 47) else (fun g=>.pointer (some ⟨g,0,none⟩),.cells tz0.toArray 41)) (by as_aux_lemma=>kernel_rfl) (by as_aux_lemma=>kernel_rfl) (by intro _ _ d _ _ h;cases d<;>exact h) (by intro _ _ d _ _ h;cases d<;>exact h) ?_
   simp only[pick,QFv,QFw,QFx,QFy,QFz]
   repeat (first|go_big_quiet_skip|(go_big_quiet_want;(refine quiet_buildM _ _ rfl (emC tk N0 A6 768 c6) (by simp only[QFI,QFW,QFR];exact hbe.out _ _ _ _ _) ?_);simp only[Act.put,QFD,QFH,QFG];go_big_quiet_on)|(go_big_quiet_step (fail)))
   refine wpQuiet_nil ?_
   refine⟨?mk,?_⟩
   case mk=>
    refine⟨fun o ho=>?_,fun o ho=>?_,trivial⟩
    all_goals
     simp only[QFv,QFw,Option.some.injEq]at ho
     subst ho
    ·exact QqM rfl rfl
    ·exact Qq8 rfl rfl
   simp only[Qbv,pick,QFv,QFw,QFx,QFy,QFz,reduceIte,QGD]
   intro p1 gN q1 hgN _ hbN
   refine wpQuiet_nil ?_
   intro p2 q2
   refine go_a rfl ?_;refine Qjx (F:=NC) (d:=nod0) QaJ (by omega) rfl _ _ _ rfl 47 _ 88 Tryz.underlying22 QB1 rfl gN A n c xs (hx.later (D6.lat.trans ((Qab m6).trans (q1.trans q2)))) rfl rfl (by omega) (by omega) ?_
   intro A7 c7 p3 hx7 q3
   go_wp2_with fail
   try refine⟨by first|assumption|exact Qab _|exact Qaa _ _|exact Later.refl _,?_⟩
   try simp only[Qah,pick,QFv,QFw,QFx,QFy,QFz]
   repeat (go_big_quiet_step (fail))
   refine wpQuiet_nil ?_
   intro p4 q4
   have Jp4:=(Qab m6).trans ((q1.trans q2).trans (q3.trans q4))
   go_wp2_with fail
   refine (hCr.out A7 c7 p4 (hx7.later q4) (hR6.later Jp4)).mono ?_
   rintro e p5 ⟨A8,c8,B8,d8,rfl,hV8,hB8,hd8,q5⟩
   clear hCr hR6
   go_wp2_with fail
   try refine⟨by first|assumption|exact Qab _|exact Qaa _ _|exact Later.refl _,?_⟩
   try simp only[Qah,pick,QFv,QFw,QFx,QFy,QFz]
   repeat (go_big_quiet_step (fail))
   refine wpQuiet_nil ?_
   intro p6 gT q6 hgT _ hbT
   refine wpQuiet_nil ?_
   intro p7 q7
   simp only[QFv,QFw,QGD,Act.put,QFD,QFH,QFG]
   have E7:=(D6.drew).fresh (((q1.trans q2).trans (q3.trans q4)).trans (q5.trans (q6.trans q7))) hgT (Blk.later (show Blk p6 gT _ tz0 from hbT) q7)
   have J7:=Jp4.trans (q5.trans (q6.trans q7))
   have hV7:=hV8.later (q6.trans q7)
   have hB7:=hB8.later (q6.trans q7)
   have oD7:=Qaq oD6 J7
   have hoV:∀b o,A8=some ⟨b,o,none⟩→b≠gT:=fun b o e=>by
    obtain⟨b',o',e',_,hc⟩:=hV7.at_ (k:=0) (by omega)
    rw[e]at e'
    cases e'
    exact Qyj (E7.nth 0 rfl) Qyo (hc 0 _ rfl)
   have hoB:∀b o,B8=some ⟨b,o,none⟩→b≠gT:=fun b o e=>by
    obtain⟨b',o',e',_,hc⟩:=hB7.2 (by omega)
    rw[e]at e'
    cases e'
    obtain⟨x,hx⟩:=QxN (l:=FB) (by rw[hB7.len];omega)
    exact Qyj (E7.nth 0 rfl) Qyo (hc 0 _ hx)
   clear hbT hbN hV8 hB8 hx7 q1 q2 q3 q4 q5 q6 q7 Jp4 oD6 D6 e0
   go_wp2_with (first
    | (refine QeV rfl ?_;refine Qaj rfl rfl _ _ _ rfl gT _ _ (tr1 A8 m c8 B8 480 d8 (TK m)) (E7.nth 0 rfl) rfl rfl 3 QcP rfl rfl (Qjd _ _ _ _ _ _ _) ?_;intro k1 hb1 ho1
       have E8:=E7.write 0 rfl ho1 hb1
       have z0:=(E8.nth 0 rfl).cellD 0 (u:=.slice A8 m c8) rfl
       have e0:=(E8.nth 2 rfl).cellD 0 (u:=.int .i64 tk) rfl)
    | fail)
   have hV9:=hV7.onlyF ho1 hoV
   have hB9:=Rd.only hB7 ho1 hoB
   have oD9:=QaV oD7 (E7.nth 0 rfl) (by decide) ho1
   have J9:=(J6.trans J7).only ho1 (QGh J6.size (QGh (Qab m6).size hgT))
   have hL9:=hL.later J9
   clear hV7 hB7 oD7 hoV hoB E7 ho1 hb1 hL J6 J7 hgT
   go_loopw [17,117] (fun v17 iv wr=>∃k:Nat,k≤m∧v17= .int .i64 (TK k)∧iv= .int .i64 k∧Later k1 wr) (fun _ iv _=>m-(intOf iv).toNat)
   case atStart=>exact⟨0,by omega,by rw[htk0],rfl,Later.refl _⟩
   case round=>
    obtain⟨k,hk,rfl,rfl,L9⟩:=hrel
    by_cases hlt:k<m
    ·obtain⟨vb,vo,rfl,hvb,hvc⟩:=(hV9.later L9).at_ hlt
     rw[hvis.out k hlt]at hvc
     obtain⟨lb',lo',e',hlb',hlc⟩:=(hL9.later L9).at_ hlt
     obtain⟨rfl,rfl⟩:lb=lb'∧lo=lo':=by simpa using e'
     obtain⟨hdl',hfl'⟩:=htel.out k hlt
     have htn:=htkS.out k hlt
     obtain⟨hb1,hb2⟩:=htkB.out (k+1)
     have hwr:IntKind.i64.wrap (TK k+(L.getD k hp0).delay)=TK (k+1):=by
      rw[htn,IntKind.wrap_i64]
      omega
     generalize PC0 k=C at *
     generalize L.getD k hp0=z at *
     have t66:wr.cell? ⟨lb,lo+k*68+66,none⟩=some (.int .i64 z.delay):=hlc 66 _ (Qlu z)
     have t67:wr.cell? ⟨lb,lo+k*68+67,none⟩=some (.int .i64 z.flags):=hlc 67 _ (Qlc z)
     have t1:wr.cell? ⟨lb,lo+k*68+1,none⟩=some (W64 z.nod.id):=hlc 1 _ (Qxn z)
     have hdd:((C.dl.toNat:Int) != z.delay)=false:=by rw[hdl'];simp
     have hff:((C.fl.toNat:Int) != z.flags)=false:=by rw[hfl'];simp
     have hwf:IntKind.i64.wrap (C.fl.toNat:Int)=(C.fl.toNat:Int):=by have:=C.fl.toNat_lt;rw[IntKind.wrap_i64];omega
     generalize TK k=T0 at *
     clear hlc e' htn hb1 hb2 hdl' hfl'
     go_wp2_with (first
      | (refine go_l rfl ?_;refine Qar ?hw _ _ rfl vb (vo+k*22) (VC ⟨C,z.nod.id,T0⟩) hvc rfl _ Tryz.underlying57 rfl (by rw[QaN];exact QeM) ?_;(case hw=>rfl))
      | (refine QeV rfl ?_;refine Qaj rfl rfl _ _ _ rfl wr.heap.size _ _ (VC ⟨C,z.nod.id,T0⟩) (Blk.new wr _ (VC vst0)) rfl rfl 22 QeM (QaN _) (QaN _) (QpX _) ?_;intro k2 hb2 ho2)
      | fail)
     have l2:Later wr k2:=(Qaa wr _).only ho2 (QFE _)
     have hb3:=hb2.drew
     have c20:=hb3.cellD 20 (QEC _)
     have c21:=hb3.cellD 21 (QEZ _)
     have lb3:=hb3.lt
     have l3:=l2.trans (Qab k2)
     have u66:=(l3.below.cell (p:=⟨lb,lo+k*68+66,none⟩) hlb').trans t66
     have u1:=(l3.below.cell (p:=⟨lb,lo+k*68+1,none⟩) hlb').trans t1
     have hlb3:=QFV hlb' l3.size
     refine Qad [([0,1,2,3,4,5,6,7,8,9,10,11,12,13,14,15,16,17,19,20,21,22,23],18)] [24,25,26,27,28,29,30,31,32,33,34,35,36,37,38] [] (by as_aux_lemma=>kernel_rfl) (by as_aux_lemma=>kernel_rfl) (by intro _ _ d _ _ h;cases d<;>exact h) ?_
     simp only[Qah,pick,QFv,QFw,QFx,QFy,QFz]
     repeat (first|go_big_quiet_skip|(go_big_quiet_want;(refine Qeb _ _ rfl 0 (CC C) hb3 rfl (QE8 ⟨C,z.nod.id,T0⟩) _ Tryz.underlying55 rfl (by rw[Qan];exact Qi5) ?_);simp only[Act.put,QFD,QFH,QFG];go_big_quiet_on)|(go_big_quiet_step (fail)))
     refine wpQuiet_nil ?_
     go_wp2_with fail
     (with_reducible refine (Qqh C _).mono ?_);rintro e k3 ⟨rfl,j3⟩
     have l4:=l3.trans j3
     have hb4:=hb3.later j3
     have c1:=hb4.cellD 1 (u:=W8 C.fl) rfl
     have lb4:=hb4.lt
     have v66:=(l4.below.cell (p:=⟨lb,lo+k*68+66,none⟩) hlb').trans t66
     have v67:=(l4.below.cell (p:=⟨lb,lo+k*68+67,none⟩) hlb').trans t67
     have hlb4:=QFV hlb' l4.size
     clear u66 u1 c20 c21 t66 t67 t1
     go_wp2_with fail
     try refine⟨by first|assumption|exact Qab _|exact Qaa _ _|exact Later.refl _,?_⟩
     try simp only[Qah,pick,QFv,QFw,QFx,QFy,QFz]
     repeat (go_big_quiet_step (fail))
     refine wpQuiet_nil ?_
     go_wp2_with fail
     exact⟨⟨k+1,by omega,rfl,by go_num,L9.trans l4⟩,by simp[intOf];omega⟩
    ·obtain rfl:k=m:=by omega
     have E9:=E8.later L9
     have hV10:=hV9.later L9
     have hB10:=RdB.later hB9 L9
     have oD10:=Qaq oD9 L9
     obtain⟨lb',lo',e',hlb',hlc⟩:=(hL9.later L9).at_ (k:=k-1) (by omega)
     obtain⟨rfl,rfl⟩:lb=lb'∧lo=lo':=by simpa using e'
     have t1:=hlc 1 _ (Qxn _)
     generalize (L.getD (k-1) hp0).nod.id=NL at *
     generalize TK k=TE at *
     clear hlc e' hV9 hB9 oD9 hL9 hvis htkS htkB htel L9
     go_wp2_with (first
      | (refine go_l rfl ?_;refine Qar ?hw _ _ rfl gT 0 (tr1 A8 k c8 B8 480 d8 TE) (fun j v hv=>by rw[QFX];exact (E9.nth 0 rfl).cellD j hv) rfl _ Tryz.underlying41 rfl QcP ?_;(case hw=>rfl))
      | fail)
     refine (hAr.out A8 c8 B8 d8 wr hV10 hB10 hd8).mono ?_
     rintro e k2 ⟨A9,c9,rfl,o9,j2⟩
     have E10:=E9.later j2
     go_wp2_with (first
      | (refine QeV rfl ?_;refine Qaj rfl rfl _ _ _ rfl k2.heap.size _ _ (AvC ⟨⟨⟨1,id,0,1,da⟩,2,NL,TE,QaH⟩,.slice A9 dn c9⟩) (Blk.new k2 _ (AvC av0)) rfl rfl 24 Qbs (Qas _) (Qas av0) (Qcf _ _ _ _) ?_;intro k3 hb3 ho3
         have l3:Later k2 k3:=(Qaa k2 _).only ho3 (QFE _)
         have E11:=(E10.fresh l3 (QFE _) hb3).drew)
      | fail)
     have JJ:=(j2.trans l3).trans (Qab k3)
     have u1:=(JJ.below.cell (p:=⟨lb,lo+(k-1)*68+1,none⟩) hlb').trans t1
     have hlb3:=QFV hlb' JJ.size
     have a7:=(E11.nth 0 rfl).cellD 7 (u:=.int .i64 TE) rfl
     have a6:=(E11.nth 0 rfl).cellD 6 (u:=W64 NL) rfl
     have a5:=(E11.nth 0 rfl).cellD 5 (u:=W8 2) rfl
     have b2:=(E11.nth 1 rfl).cellD 2 (u:=.int .i64 TE) rfl
     have la:=(E11.nth 0 rfl).lt
     have lb2:=(E11.nth 1 rfl).lt
     have lc2:=(E11.nth 2 rfl).lt
     have ek:((k:Int)-1).toNat=k-1:=by omega
     have hk1:(0:Int)≤(k:Int)-1∧(k:Int)-1<(k:Int):=by omega
     refine Qad [([0,1,2,3,4,5,6,7,8,9,10,11,12,13,14,15,16,17,18,19,20,21,22,23,24,25,26,27,28,29,30,31,32,33,34,35],36)] [37,38] [] (by as_aux_lemma=>kernel_rfl) (by as_aux_lemma=>kernel_rfl) (by intro _ _ d _ _ h;cases d<;>exact h) ?_
     simp only[Qah,pick,QFv,QFw,QFx,QFy,QFz]
     repeat (first|go_big_quiet_skip|(go_big_quiet_want;(first|refine Qeb _ _ rfl 0 (PaC ⟨1,id,0,1,da⟩ (.slice A9 dn c9)) (E11.nth 0 rfl) rfl (QAn ⟨⟨⟨1,id,0,1,da⟩,2,NL,TE,QaH⟩,.slice A9 dn c9⟩) _ Tryz.underlying36 rfl Qd4 ?_|refine Qeb _ _ rfl 0 (PaC ⟨1,id,0,1,da⟩ (.slice D2 dn d2)) (E11.nth 2 rfl) rfl (fun j v hv=>by rw[QFX];exact hv) _ Tryz.underlying36 rfl Qd4 ?_);simp only[Act.put,QFD,QFH,QFG];go_big_quiet_on)|(go_big_quiet_step (fail)))
     refine wpQuiet_nil ?_
     go_wp2_with fail
     refine (Qoe ⟨1,id,0,1,da⟩ A9 D2 dn c9 d2 _ (OwnB.rd (Qaq o9 (l3.trans (Qab k3)))) (OwnB.rd (Qaq oD10 JJ)) (by omega)).mono ?_
     rintro e k4 ⟨rfl,j4⟩
     go_wp2_with fail
     try refine⟨by first|assumption|exact Qab _|exact Qaa _ _|exact Later.refl _,?_⟩
     try simp only[Qah,pick,QFv,QFw,QFx,QFy,QFz]
     repeat (go_big_quiet_step (fail))
     refine wpQuiet_nil ?_
     go_wp2_with fail
     go_ret
     exact⟨rfl,E11.lat.trans j4⟩
end Go.Proofs.YtcbdgnlcknllnaaGreat
