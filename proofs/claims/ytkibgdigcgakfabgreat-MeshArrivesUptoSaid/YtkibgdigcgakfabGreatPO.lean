/-
  Lemmas for the last text of this claim (part 15 of 20).
-/
import Derived.BigQuiet
import Derived.BigRegion
import Derived.ChangeOld
import Derived.Deep.RegionWith
import Derived.DeepKeys4
import Derived.JoinedCond
import Derived.LaidMore
import Derived.Laws.CopyOwn
import Derived.Laws.Externs
import Derived.Laws.IdiomStrings
import Derived.Laws.Tables
import Derived.Lib.AppendStr
import Derived.Lib.AppendZerosOnto
import Derived.Lib.Mul64
import Derived.Lib.SlBytesConst
import Derived.LoopN
import Derived.Maps.OwnSet
import Derived.OpenShut
import Derived.OrdersHeld
import Derived.ProofKit
import Derived.Shelf.Spec.BitsCarry
import Derived.ShutString
import Derived.Test.YtkibgdigcgakfabGreatProg
import Derived.Test.YtkibgdigcgakfabGreatRows
import Derived.WalkKit
import Derived.WalkLawsBesides
import Derived.WalkSpells
import Derived.Test.YtkibgdigcgakfabGreatPJ
import Derived.Test.YtkibgdigcgakfabGreatPK
import Derived.Test.YtkibgdigcgakfabGreatPM
import Derived.Test.YtkibgdigcgakfabGreatPN
open List renaming getElem?_eq_getElem → Qmw, map_toArray → Qmy, getElem?_cons_succ → Qmz, getD_eq_getElem?_getD → QmA, getElem?_cons_zero → QmE, map_nil → QmG, cons_append → QmK, nil_append → QmN, getElem?_eq_some_iff → QmO, map_cons → QmQ, getElem?_append_left → QmS, take_of_length_le → QmT, mem_cons → QmV, getElem?_append_right → QmX, append_assoc → Qm3, mem_map → Qm5, mem_append → Qnr
open Nat renaming le_refl → Qmx, zero_add → QmU
open Option renaming toList_some → QmI
namespace Go.Proofs.YtkibgdigcgakfabGreat
open Go.RowKit
open Go.BigFrame
structure Arw where
 ar : Arr
 va : Option Addr
 vn : Nat
 vc : Nat
end Go.Proofs.YtkibgdigcgakfabGreat
namespace Go.Proofs.YtkibgdigcgakfabGreat
open Go.RowKit
open Go.BigFrame
abbrev az0 : List Value := [.int .u8 0, .int .u64 0, .int .i64 0, .int .i64 0, .slice none 0 0, .int .u8 0, .int .u64 0, .int .i64 0, .int .u8 0, .int .u8 0, .int .u8 0, .int .u8 0, .int .u8 0, .int .u8 0, .int .u8 0, .int .u8 0, .int .u8 0, .int .u8 0, .int .u8 0, .int .u8 0, .int .u8 0, .int .u8 0, .int .u8 0, .int .u8 0]
theorem QdE {P : Program} {C : World → Prop} {a : Act} {o : Oper} {K : Act → Prop} (t : TypeId) (parts : Array (Nat × Operand)) (ho : o.op = .build t parts) (vs : List Value) (hb : P.built t (parts.map fun (i, x) => (i, a.eval x)).toList = some vs.toArray)
 (h : K (a.put o.dst (.agg vs.toArray))) : o.quiet P a C K :=
 ⟨.agg vs.toArray, fun w hw => by
   unfold Oper.quietAt execOp
   simp only [ho, Sem.run_bind, run_build w t _ _ hb, Result.andThen_ok]
   exact ⟨rfl, rfl⟩, h⟩
theorem QeU (ar : Arr) (v : Value) : ∀ (j : Nat) u, (PaC ar.pt v)[j]? = some u → (AvC ⟨ar, v⟩)[0 + j]? = some u := by
 intro j u hu
 rw [QmU]
 have hl := (QmO.1 hu).1
 rw [AvC, QmS hl]
 exact hu
theorem Qdo : (Tryz.prog.info? 34).map (·.size) = some 16 := by kernel_rfl
theorem Qau : (Tryz.prog.info? 36).map (·.size) = some 24 := by kernel_rfl
theorem Qal (ar : Arr) (A : Option Addr) (n c : Nat) : ∀ u ∈ AvC ⟨ar, .slice A n c⟩, u.oneCell' = true := by
 intro u hu
 rcases Qnr.1 hu with hu | hu
 · exact QbL _ rfl u hu
 · simp only [QmV, Qm5] at hu
   rcases hu with rfl | rfl | rfl | ⟨b, _, rfl⟩ <;> rfl
end Go.Proofs.YtkibgdigcgakfabGreat
namespace Go.Proofs.YtkibgdigcgakfabGreat
open Go.RowKit
open Go.BigFrame
def ar9 : Arr := ⟨⟨1, 5, 0, 1, [9]⟩, 2, 3, 7, QaC⟩
theorem QlB : ltrs [ar9] 1 = [⟨3, 5, 7, [9]⟩] := by rfl
end Go.Proofs.YtkibgdigcgakfabGreat
namespace Go.Proofs.YtkibgdigcgakfabGreat
open Go.RowKit
open Go.BigFrame
abbrev tz0 : List Value := [.slice none 0 0, .slice none 0 0, .int .i64 0]
abbrev em9 : List Value := [.int .i64 (-1), .int .u64 0, .slice none 0 0]
theorem QgR : Tryz.prog.built 50 [] = some tz0.toArray := by kernel_rfl
theorem Qgv : (Tryz.prog.info? 50).map (·.size) = some 3 := by kernel_rfl
theorem QgS : ∀ u ∈ tz0, u.oneCell' = true := by
 intro u hu
 simp only [QmV, List.not_mem_nil, or_false] at hu
 rcases hu with rfl | rfl | rfl <;> rfl
set_option maxRecDepth 100000 in
theorem Qgt (w : World) : Calls Tryz.prog 14 #[.slice none 0 0, .agg em9.toArray] w fun e w' => e = .returned (.tuple #[.agg tz0.toArray, .int .i64 1]) ∧ Later w w' := by
 have B1 := QaU w 61 em9
 have B2 := B1.add (Qaa _ (.cells tz0.toArray 50)) (k := w.heap.size + 1) (by simp) (by omega) (Blk.new' _ _ tz0 (by simp))
 have e0 := (B2.nth 1 rfl).cellD 0 (u := .int .i64 (-1)) rfl
 have hb := hid QgR
 go_enter Tryz.func14, Tryz.ntmps14
 go_wp2_with (first
  | (refine Qad ?hw 50 _ rfl tz0 (by simp only [Qmy, QmG]; exact hb.out) ?_; (case hw => rfl))
  | (refine Qab rfl rfl _ _ _ rfl (w.heap.size + 1) _ _ tz0 (B2.nth 0 rfl) rfl rfl 3 Qgv rfl rfl QgS ?_; intro w5 hb5 ho5)
  | fail)
 exact bodyPost_ret (Qae rfl _ _ _ _ _ _ hb5 rfl Tryz.underlying50 rfl Qgv) rfl ⟨rfl, B2.lat.only ho5 (by omega)⟩
theorem Qj8 {w : World} {g : Nat} {t : TypeId} {x : Arv} (h : Blk w g t (AvC x)) : RdF AvC 24 av0 w (some ⟨g, 0, none⟩) 1 [x] :=
 Qd4 Qac (by rw [show [x].flatMap AvC = AvC x by simp]; exact h) rfl
theorem Qhk {α β : Type} (f : α → β) {l : List α} {b : β} (h : l.map f = [b]) : ∃ y, l = [y] ∧ f y = b := by
 rcases l with _ | ⟨y, _ | ⟨z, zs⟩⟩
 · simp at h
 · exact ⟨y, rfl, by simpa using h⟩
 · simp at h
abbrev aa9 (g : Nat) : List Value := [.int .u8 1, .int .u64 5, .int .i64 0, .int .i64 1, .slice (some ⟨g, 0, none⟩) 1 1, .int .u8 2, .int .u64 3, .int .i64 7, .int .u8 0, .int .u8 0, .int .u8 0, .int .u8 0, .int .u8 0, .int .u8 0, .int .u8 0, .int .u8 0, .int .u8 0, .int .u8 0, .int .u8 0, .int .u8 0, .int .u8 0, .int .u8 0, .int .u8 0, .int .u8 0]
theorem Qka (g : Nat) : aa9 g = AvC ⟨ar9, .slice (some ⟨g, 0, none⟩) 1 1⟩ := by rfl
set_option maxRecDepth 100000 in
set_option maxHeartbeats 4000000 in
theorem QiE (w : World) : Calls Tryz.prog 5 #[] w fun e w' => e = .returned (.bool true) ∧ Later w w' := by
 have B1 := QaU w 5 [.int .u8 9]
 have B2 := B1.add (Qaa _ (.cells (aa9 w.heap.size).toArray 36)) (k := w.heap.size + 1) (by simp) (by omega) (Blk.new' _ _ (aa9 w.heap.size) (by simp))
 have hx := Qj8 (x := ⟨ar9, .slice (some ⟨w.heap.size, 0, none⟩) 1 1⟩) (Qka w.heap.size ▸ (B2.nth 0 rfl))
 have hr9 := Qe0 (bs := [9]) (rest := []) (B2.nth 1 rfl) rfl
 have hok : ∀ x ∈ [(⟨ar9, .slice (some ⟨w.heap.size, 0, none⟩) 1 1⟩ : Arv)], AvOk ((w.alloc (.cells [.int .u8 9].toArray 5)).alloc (.cells (aa9 w.heap.size).toArray 36)) x := by
  intro x hx
  obtain rfl : x = _ := by simpa using hx
  exact ⟨_, 1, 1, rfl, Qmx _, hr9⟩
 have HL := hid (Qd9 (some ⟨w.heap.size + 1, 0, none⟩) 1 1 _ _ hx hok (by omega))
 have j2 := B2.lat
 clear hx hr9 hok B1 B2
 go_enter Tryz.func5, Tryz.ntmps5
 go_wp2_with fail
 refine HL.out.mono ?_
 clear HL
 rintro e w1 ⟨v, ys, rfl, ⟨bm, k, f, K, S⟩, hys⟩
 obtain ⟨y, rfl, hy⟩ : ∃ y, ys = [y] ∧ y.lt = ⟨3, 5, 7, [9]⟩ := by
  exact Qhk _ (hys.trans QlB)
 obtain ⟨lt, va, vn, vc⟩ := y
 simp only at hy
 subst hy
 have htx := S.txt _ (List.mem_singleton.2 rfl)
 simp only at htx
 obtain rfl : 1 = vn := htx.len
 have hown := S.own
 simp only [List.flatMap_cons, List.flatMap_nil, List.append_nil, List.length_singleton] at hown
 have j1 := S.lat
 clear S hys
 rcases hown.2 with ⟨_, h⟩ | ⟨g, cap, cur, rfl, _⟩
 · omega
 go_wp2_with fail
 refine (Qgt w1).mono ?_
 rintro e w2 ⟨rfl, l2⟩
 go_wp2_with (first
  | (refine Qab rfl rfl _ _ _ rfl w2.heap.size _ _ tz0 (Blk.new w2 _ tz0) rfl rfl 3 Qgv rfl rfl QgS ?_; intro w5 hb5 ho5
     have l5 : Later w1 w5 := l2.trans ((Qaa w2 _).only ho5 (Qmx _))
     have hown5 := Qbi hown l5
     have q0 : w5.cell? ⟨g, 0, none⟩ = some (W64 3) := hown5.cells (g := g) rfl 0 _ rfl
     have q1 : w5.cell? ⟨g, 1, none⟩ = some (W64 5) := hown5.cells (g := g) rfl 1 _ rfl
     have q2 : w5.cell? ⟨g, 2, none⟩ = some (.int .i64 7) := hown5.cells (g := g) rfl 2 _ rfl
     have q3 : w5.cell? ⟨g, 3, none⟩ = some (.slice va 1 vc) := hown5.cells (g := g) rfl 3 _ rfl)
  | fail)
 refine (QcB va (some ⟨w5.heap.size, 0, none⟩) 1 1 vc 1 [9] [9] _ ((htx.rd.later l5).later (Qaa w5 _)) (Qe0 (bs := [9]) (rest := []) (Blk.new w5 5 [.int .u8 9]) rfl) (by omega) (by omega)).mono ?_
 rintro e w6 ⟨rfl, l6⟩
 simp only [decide_true]
 go_wp2_with fail
 go_ret
 exact ⟨rfl, ((j2.trans j1).trans l5).trans ((Qaa w5 _).trans l6)⟩
end Go.Proofs.YtkibgdigcgakfabGreat
namespace Go.Proofs.YtkibgdigcgakfabGreat
open Go.RowKit
open Go.BigFrame
abbrev tr1 (A : Option Addr) (n c : Nat) (B : Option Addr) (m d : Nat) (tk : Int) : List Value := [.slice A n c, .slice B m d, .int .i64 tk]
theorem Qf6 (A : Option Addr) (n c : Nat) (B : Option Addr) (m d : Nat) (tk : Int) : ∀ u ∈ tr1 A n c B m d tk, u.oneCell' = true := by
 intro u hu
 simp only [QmV, List.not_mem_nil, or_false] at hu
 rcases hu with rfl | rfl | rfl <;> rfl
theorem Qbz (v : Vst) : ∀ u ∈ VC v, u.oneCell' = true := by
 intro u hu
 simp only [VC, CC, QmK, QmV, Qnr, Qm5, List.not_mem_nil, or_false] at hu
 rcases hu with rfl | rfl | rfl | rfl | ⟨b, _, rfl⟩ | rfl | rfl <;> rfl
theorem Qhb (B : Option Addr) (m d : Nat) (tk : Int) : Tryz.prog.built 50 [(1, .slice B m d), (2, .int .i64 tk)] = some (tr1 none 0 0 B m d tk).toArray := by kernel_rfl
theorem Qfb : (Tryz.prog.info? 50).map (·.size) = some 3 := by kernel_rfl
theorem QjV : (Tryz.prog.info? 82).bind (·.zero) = some (.agg (VC vst0).toArray) := by kernel_rfl
theorem QjD : (Tryz.prog.info? 82).map (fun i => (i.zero, i.size, i.bytes)) = some (some (.agg (VC vst0).toArray), 22, 48) := by kernel_rfl
theorem Qjc : (Tryz.prog.info? 82).map (fun i => (i.zero, i.size)) = some (some (.agg (VC vst0).toArray), 22) := by kernel_rfl
theorem Qbg : (Tryz.prog.info? 86).map (·.size) = some 22 := by kernel_rfl
theorem Qik : (Tryz.prog.info? 78).map (·.size) = some 20 := by kernel_rfl
theorem QfQ (v : Vst) : Tryz.prog.built 82 [(0, .agg (CC v.cm).toArray), (1, W64 v.id), (2, .int .i64 v.tk)] = some (VC v).toArray := by
 rw [QaN (pl := [(0, 20), (20, 1), (21, 1)]) Tryz.underlying82 QjV (by kernel_rfl), Qaw (vs := CC v.cm) (off := 0) rfl (by rw [QaB]; rfl) (by rw [Qag, QaB]; omega),
  Qaw (vs := [W64 v.id]) (off := 20) rfl rfl (by rw [QaX _ _ _ (by rw [Qag, QaB]; omega), Qag]; simp), Qaw (vs := [.int .i64 v.tk]) (off := 21) rfl rfl (by rw [QaX _ _ _ (by rw [QaX _ _ _ (by rw [Qag, QaB]; omega), Qag]; simp), QaX _ _ _ (by rw [Qag, QaB]; omega), Qag]; simp), Qbf]
 congr 2
 have h1 : (CC v.cm).length = 20 := QaB _
 have h2 : (CC vst0.cm).length = 20 := QaB _
 rw [VC, VC]
 generalize CC v.cm = a at *
 generalize CC vst0.cm = z at *
 have e1 : Qan (z ++ [W64 vst0.id, .int .i64 vst0.tk]) 0 a = a ++ [W64 vst0.id, .int .i64 vst0.tk] := by
  rw [Qan, List.take_zero, QmN, QmU, h1, List.drop_left' h2]
 rw [e1]
 have e2 : Qan (a ++ [W64 vst0.id, .int .i64 vst0.tk]) 20 [W64 v.id] = a ++ [W64 v.id, .int .i64 vst0.tk] := by
  rw [Qan, List.take_left' h1, Qm3, List.drop_append, h1, List.drop_of_length_le (by omega)]
  rfl
 rw [e2]
 rw [Qan, List.take_append, h1, QmT (by omega), Qm3, List.drop_append, h1, List.drop_of_length_le (by omega)]
 simp
theorem Qhv {w : World} {g : Nat} {t : TypeId} {v : Vst} (h : Blk w g t (VC v)) : w.cell? ⟨g, 21, none⟩ = some (.int .i64 v.tk) ∧ ∀ j u, (CC v.cm)[j]? = some u → w.cell? ⟨g, 0 + j, none⟩ = some u := by
 have hc := QaB v.cm
 refine ⟨h.cellD 21 ?_, fun j u hu => ?_⟩
 · rw [VC, QmX (by omega), hc]
   rfl
 · have hj := (QmO.1 hu).1
   rw [QmU]
   exact h.cellD j (by rw [VC, QmS hj]; exact hu)
set_option maxRecDepth 100000 in
set_option maxHeartbeats 4000000 in
theorem Qjm (A B : Option Addr) (n c m d : Nat) (xs : List Vst) (b : List UInt8) (tk : Int) (w : World) (hx : RdF VC 22 vst0 w A n xs) (hn : n ≤ 1048576) (hb : RdB w B m b) (hm : m ≤ 1048576) :
 Calls Tryz.prog 11 #[.agg (tr1 A n c B m d tk).toArray] w fun e w' => ∃ A' c' B' d', e = .returned (.agg (tr1 A' n c' B' m d' tk).toArray) ∧ RdF VC 22 vst0 w' A' n xs ∧ RdB w' B' m b ∧ m ≤ d' ∧ Later w w' := by
 have hxl := hx.1
 have B1 := QaU w 45 (tr1 A n c B m d tk)
 have B2 : Bag w ((w.alloc (.cells (tr1 A n c B m d tk).toArray 45)).alloc (.cells tz0.toArray 50)) [(w.heap.size + 1, 50, tz0), (w.heap.size, 45, tr1 A n c B m d tk)] :=
  B1.add (Qaa _ _) (by simp) (by omega) (Blk.new' _ _ _ (by simp))
 have hbt := hid Qhb
 have hbl := hid QfF
 have hbv := hid QfQ
 go_enter Tryz.func11, Tryz.ntmps11
 go_wp2_with fail
 generalize ((w.alloc (.cells (tr1 A n c B m d tk).toArray 45)).alloc (.cells tz0.toArray 50)) = W at *
 have q1 := (B2.nth 1 rfl).cellD 1 (u := .slice B m d) rfl
 have q2 := (B2.nth 1 rfl).cellD 2 (u := .int .i64 tk) rfl
 refine Qcf [0, 1, 3, 4] [([], 1, 2), ([5], 2, 6)] [] [7] [6] (fun _ => (fun g => .pointer (some ⟨g, 0, none⟩), .cells tz0.toArray 50)) (by as_aux_lemma => kernel_rfl) (by as_aux_lemma => kernel_rfl) (by intro _ _ d _ _ h; cases d <;> exact h) (by intro _ _ d _ _ h; cases d <;> exact h) ?_
 simp only [pick, Qmz, QmE, QmI, QmK, QmN]
 repeat (go_big_quiet_step (fail))
 refine wpQuiet_nil ?_
 refine ⟨?mk, ?_⟩
 case mk =>
  refine ⟨fun o ho => ?_, trivial⟩
  simp only [Qmz, QmE, Option.some.injEq] at ho
  subst ho
  refine ⟨rfl, fun W => ?_⟩
  unfold execOp
  simp [go_sem]
 simp only [QbC, pick, Qmz, QmE, QmI, QmK, QmN]
 refine wpQuiet_nil ?_
 intro w2 hl2
 go_wp2_with fail
 have L2 : Later w w2 := B2.lat.trans ((Qak _).trans hl2)
 refine (QeE B m d b w2 (hb.later L2) (by omega)).mono ?_
 rintro e w3 ⟨B3, d3, rfl, hown3, hl3⟩
 go_wp2_with fail
 refine ⟨hl3, ?_⟩
 repeat (go_big_quiet_step (refine QdE _ _ rfl (tr1 none 0 0 B3 m d3 tk) (by simp only [Qmy, QmQ, QmG]; exact hbt.out _ _ _ _) ?_))
 refine wpQuiet_nil ?_
 intro w6 g6 hl6 hg6 _ hb6
 refine wpQuiet_nil ?_
 intro w7 hl7
 have hX : Blk w7 g6 50 tz0 := Blk.later hb6 hl7
 have l27 : Later w2 w7 := (hl3.trans hl6).trans hl7
 have L7 : Later w w7 := L2.trans l27
 have hW : Later W w7 := (Qak W).trans (hl2.trans l27)
 have C7 := B2.fresh hW hg6 hX
 have oB7 := QaY (QaK hown3 (hl6.trans hl7)) L2.size
 clear hl3 hl6 hl7 hb6 hX l27 hown3
 go_wp2_with (first
  | (refine Qab rfl rfl _ _ _ rfl g6 _ _ (tr1 none 0 0 B3 m d3 tk) (C7.nth 0 rfl) rfl rfl 3 Qfb rfl rfl (Qf6 _ _ _ _ _ _ _) ?_; intro w8 hb8 ho8
     have C8 := C7.write 0 rfl ho8 hb8
     have q0 := (C8.nth 2 rfl).cellD 0 (u := .slice A n c) rfl)
  | fail)
 have oB8 := QaT oB7 (C7.nth 0 rfl) (by decide) ho8
 clear oB7 C7 ho8 hb8 q0 q1 q2 hW L7 L2 hl2
 go_loopw [15] (fun i wr => ∃ (k : Nat) (A' : Option Addr) (c' : Nat), k ≤ n ∧ i = .int .i64 k ∧ Bag w wr [(g6, 50, tr1 A' k c' B3 m d3 tk), (w.heap.size + 1, 50, tz0), (w.heap.size, 45, tr1 A n c B m d tk)] ∧ wr.ownsRow w.heap.size 82 22 (.slice A' k c') k ((xs.take k).flatMap VC) ∧ OwnB wr w.heap.size B3 m d3 b) (fun i _ => n - (intOf i).toNat)
 case atStart => exact ⟨0, none, 0, by omega, rfl, C8, ⟨by simp, .inl ⟨rfl, rfl⟩⟩, oB8⟩
 case round =>
  clear C8 oB8
  obtain ⟨k, A2, c2, hk, rfl, C, hown, oB⟩ := hrel
  by_cases hlt : k < n
  · obtain ⟨b0, o, rfl, hb0, hc⟩ := (hx.later C.lat).at_ hlt
    have htk : Hid (xs.take (k + 1) = xs.take k ++ [xs.getD k vst0]) := hid (by
     rw [List.take_add_one, QmA, Qmw (by omega)]
     rfl)
    generalize xs.getD k vst0 = v at *
    go_wp2_with (first
     | (refine Qaf ?hw _ _ rfl b0 (o + k * 22) (VC v) hc rfl _ Tryz.underlying86 rfl (by rw [Qag]; exact Qbg) ?_; (case hw => rfl))
     | (refine Qab rfl rfl _ _ _ rfl wr.heap.size _ _ (VC v) (Blk.new wr _ (VC vst0)) rfl rfl 22 Qbg (Qag _) (Qag vst0) (Qbz _) ?_; intro w2 hb2 ho2
        have l2 : Later wr w2 := (Qaa wr _).only ho2 (Qmx _)
        have C2 := C.later l2
        obtain ⟨x0, x20, x4⟩ := Qay hb2
        obtain ⟨x21, xc⟩ := Qhv hb2
        have z2 := (C2.nth 0 rfl).cellD 0 (u := .slice A2 k c2) rfl)
     | (refine Qaf ?hw _ _ rfl wr.heap.size 0 (CC v.cm) xc rfl _ Tryz.underlying78 rfl (by rw [QaB]; exact Qik) ?_; (case hw => rfl))
     | (refine Qad ?hw 80 _ rfl (CC v.cm) (by simp only [Qmy, QmQ, QmG]; exact hbl.out _) ?_; (case hw => rfl))
     | (refine Qad ?hw 82 _ rfl (VC v) (by simp only [Qmy, QmQ, QmG]; exact hbv.out _) ?_; (case hw => rfl))
     | (refine QbD ?hw 48 _ rfl 82 22 _ (VC v) Tryz.underlying48 Qjc (by omega) (by omega) (Qag _) rfl ?_; (case hw => rfl))
     | (refine Qbq (F := VC) (d := vst0) Qag Qbz (by omega) rfl _ _ _ rfl 82 _ 48 Tryz.underlying48 QjD rfl w _ _ _ (Qbi hown (l2.trans (Qaa _ _))) (C.lat.trans (l2.trans (Qaa _ _))) (some ⟨w2.heap.size, 0, none⟩) 1 1 [v] (Qd4 Qag (show Blk (w2.alloc (.cells (VC v).toArray 82)) w2.heap.size 82 ([v].flatMap VC) by simp only [List.flatMap_cons, List.flatMap_nil, List.append_nil]; exact Blk.new w2 _ _) rfl) rfl rfl (by omega) (by omega) ?_; intro A8 c8 w8 hown8 hl8 hg8
        have hr8 := Qbi hown (l2.trans (Qaa w2 (.cells (VC v).toArray 82)))
        have C8 := (C2.later (Qaa w2 (.cells (VC v).toArray 82))).grown hr8 (Qg0 (by simp)) (Qmx _) hg8
        have oB8 := QcU (QaK oB (l2.trans (Qaa w2 (.cells (VC v).toArray 82)))) hr8 (by decide) hg8)
     | (refine Qai rfl rfl _ _ _ rfl g6 0 _ _ (C8.nth 0 rfl) rfl (by simp) rfl (by kernel_rfl) ?_; intro v9 w9 hv9 hb9 ho9; simp [go_sem] at hv9; subst hv9)
     | fail)
    have C9 := C8.write 0 rfl ho9 hb9
    have oB9 := QaT oB8 (C8.nth 0 rfl) (by decide) ho9
    have own9 := QaT hown8 (C8.nth 0 rfl) (by decide) ho9
    exact ⟨⟨k + 1, A8, c8, by omega, by go_num, C9, by rw [htk.out, List.flatMap_append]; simpa using own9, oB9⟩, by simp [intOf]; omega⟩
  · obtain rfl : k = n := by omega
    go_wp2_with (first
     | (refine Qaf ?hw _ _ rfl g6 0 (tr1 A2 k c2 B3 m d3 tk) (fun j v hv => by rw [QmU]; exact (C.nth 0 rfl).cellD j hv) rfl _ Tryz.underlying50 rfl Qfb ?_; (case hw => rfl))
     | (refine Qab rfl rfl _ _ _ rfl (w.heap.size + 1) _ _ (tr1 A2 k c2 B3 m d3 tk) (C.nth 1 rfl) rfl rfl 3 Qfb rfl rfl (Qf6 _ _ _ _ _ _ _) ?_; intro w8 hb8 ho8)
     | fail)
    have own8 := QaT hown (C.nth 1 rfl) (by decide) ho8
    have oB8 := QaT oB (C.nth 1 rfl) (by decide) ho8
    refine bodyPost_ret (QeB rfl _ _ _ _ _ _ hb8 rfl Tryz.underlying50 rfl Qfb) rfl ⟨A2, c2, B3, d3, rfl, QiY (d := vst0) Qag (by rw [QmT (by omega)] at own8; exact own8) hxl, OwnB.rd oB8, OwnB.cap oB8, C.lat.only ho8 (by omega)⟩
end Go.Proofs.YtkibgdigcgakfabGreat
