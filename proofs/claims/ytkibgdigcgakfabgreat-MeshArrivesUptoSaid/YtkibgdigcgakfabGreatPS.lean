/-
  Lemmas for the last text of this claim (part 19 of 20).
-/
import Derived.BigQuiet
import Derived.BigRegion
import Derived.ChangeOld
import Derived.Deep.RegionWith
import Derived.DeepKeys4
import Derived.JoinedCond
import Derived.LaidMore
import Derived.Laws.CopyOwn
import Derived.Laws.Externs
import Derived.Laws.IdiomStrings
import Derived.Laws.Tables
import Derived.Lib.AppendStr
import Derived.Lib.AppendZerosOnto
import Derived.Lib.Mul64
import Derived.Lib.SlBytesConst
import Derived.LoopN
import Derived.Maps.OwnSet
import Derived.OpenShut
import Derived.OrdersHeld
import Derived.ProofKit
import Derived.Shelf.Spec.BitsCarry
import Derived.ShutString
import Derived.Test.YtkibgdigcgakfabGreatProg
import Derived.Test.YtkibgdigcgakfabGreatRows
import Derived.WalkKit
import Derived.WalkLawsBesides
import Derived.WalkSpells
import Derived.Test.YtkibgdigcgakfabGreatPO
import Derived.Test.YtkibgdigcgakfabGreatPQ
import Derived.Test.YtkibgdigcgakfabGreatPR
open List renaming map_toArray → Qmy, length_map → QmD, map_nil → QmG, map_cons → QmQ, length_take → QmW, getElem?_append_right → QmX, length_drop → Qnb
open Nat renaming le_refl → Qmx, zero_add → QmU, le_of_eq → Qna
namespace Go.Proofs.YtkibgdigcgakfabGreat
open Go.RowKit
open Go.BigFrame
theorem QdR {w : World} {g : Nat} {t : TypeId} {ar : Arr} {v : Value} (h : Blk w g t (AvC ⟨ar, v⟩)) :
 w.cell? ⟨g, 1, none⟩ = some (W64 ar.pt.id) ∧ w.cell? ⟨g, 2, none⟩ = some (.int .i64 ar.pt.ix) ∧ w.cell? ⟨g, 5, none⟩ = some (W8 ar.kd) ∧ w.cell? ⟨g, 6, none⟩ = some (W64 ar.to) ∧ w.cell? ⟨g, 7, none⟩ = some (.int .i64 ar.tk) ∧ ∀ j u, (ar.ma.val.map W8)[j]? = some u → w.cell? ⟨g, 8 + j, none⟩ = some u :=
 ⟨h.cellD 1 rfl, h.cellD 2 rfl, h.cellD 5 rfl, h.cellD 6 rfl, h.cellD 7 rfl, fun j u hu => h.cellD (8 + j) (by
   rw [AvC, QmX (by simp [PaC]; omega), show 8 + j - (PaC ar.pt v).length = j + 1 + 1 + 1 by simp [PaC]; omega]
   simpa using hu)⟩
set_option maxRecDepth 100000 in
set_option maxHeartbeats 4000000 in
theorem Qjb (ar : Arr) (A B : Option Addr) (n c d : Nat) (w : World) (hx : RdB w A n ar.pt.da) (hy : RdB w B n ar.pt.da) (hn : n ≤ 1048576) :
 Calls Tryz.prog 13 #[.agg (AvC ⟨ar, .slice A n c⟩).toArray, .agg (AvC ⟨ar, .slice B n d⟩).toArray] w fun e w' => e = .returned (.bool true) ∧ Later w w' := by
 have C1 := QaU w 36 (AvC ⟨ar, .slice A n c⟩)
 have C2 := C1.add (Qaa _ (.cells (AvC ⟨ar, .slice B n d⟩).toArray 53)) (k := w.heap.size + 1) (by simp) (by omega) (Blk.new' _ _ (AvC ⟨ar, .slice B n d⟩) (by simp))
 go_enter Tryz.func13, Tryz.ntmps13
 go_wp2_with (first
  | (refine Qaf ?hw _ _ rfl w.heap.size 0 (PaC ar.pt (.slice A n c)) (fun j v hv => (C2.nth 1 rfl).cellD (0 + j) (QeU _ _ j v hv)) rfl _ Tryz.underlying32 rfl (by rw [Qah]; exact QaM) ?_; (case hw => rfl))
  | (refine Qaf ?hw _ _ rfl (w.heap.size + 1) 0 (PaC ar.pt (.slice B n d)) (fun j v hv => (C2.nth 0 rfl).cellD (0 + j) (QeU _ _ j v hv)) rfl _ Tryz.underlying32 rfl (by rw [Qah]; exact QaM) ?_; (case hw => rfl))
  | fail)
 refine (Qed ar.pt A B n c d _ (hx.later C2.lat) (hy.later C2.lat) hn).mono ?_
 rintro e w3 ⟨rfl, j3⟩
 have C3 := C2.later j3
 obtain ⟨a1, a2, a5, a6, a7, a8⟩ := QdR (C3.nth 1 rfl)
 obtain ⟨b1, b2, b5, b6, b7, b8⟩ := QdR (C3.nth 0 rfl)
 have u0 := (C3.nth 0 rfl).lt
 have u1 := (C3.nth 1 rfl).lt
 have r1 : (ar.ma.val == ar.ma.val) = true := by simp
 go_wp2_with (first
  | (refine Qgd ?hw _ rfl a8 rfl ?_; (case hw => rfl))
  | (refine Qgd ?hw _ rfl b8 rfl ?_; (case hw => rfl))
  | fail)
 go_ret
 exact ⟨by simp, C3.lat⟩
end Go.Proofs.YtkibgdigcgakfabGreat
namespace Go.Proofs.YtkibgdigcgakfabGreat
open Go.RowKit
open Go.BigFrame
theorem Qf4 : Tryz.prog.built 53 [] = some (AvC av0).toArray := by kernel_rfl
theorem Qgq (kd : UInt8) (id : UInt64) (tk : Int) : Tryz.prog.built 53 [(1, W8 kd), (2, W64 id), (3, .int .i64 tk)] = some (AvC ⟨⟨prt0, kd, id, tk, QaC⟩, .slice none 0 0⟩).toArray := by kernel_rfl
theorem Qas : (Tryz.prog.info? 53).map (·.size) = some 24 := by kernel_rfl
set_option maxRecDepth 100000 in
set_option maxHeartbeats 40000000 in
theorem Qhu (A B : Option Addr) (n c m e : Nat) (vs : List Vst) (b : List UInt8) (tk : Int) (w : World) (hv : RdF VC 22 vst0 w A n vs) (hn : n ≤ 1048576) (hb : RdB w B m b) (hme : m ≤ e) :
 Calls Tryz.prog 12 #[.agg #[.slice A n c, .slice B m e, .int .i64 tk]] w fun x w' => ∃ A' c', x = .returned (.tuple #[.agg (AvC ⟨arvA vs b tk, .slice A' (arvA vs b tk).pt.da.length c'⟩).toArray, .int .i64 (arvE vs b : Nat)]) ∧
  OwnB w' w.heap.size A' (arvA vs b tk).pt.da.length c' (arvA vs b tk).pt.da ∧ Later w w' := by
 have hvl := hv.1
 have hbl := hb.len
 have C1 := QaU w 45 [.slice A n c, .slice B m e, .int .i64 tk]
 have C2 := C1.add (Qaa _ (.cells az0.toArray 53)) (k := w.heap.size + 1) (by simp) (by omega) (Blk.new' _ _ az0 (by simp))
 have q0 := (C2.nth 1 rfl).cellD 0 (u := .slice A n c) rfl
 have q1 := (C2.nth 1 rfl).cellD 1 (u := .slice B m e) rfl
 have q2 := (C2.nth 1 rfl).cellD 2 (u := .int .i64 tk) rfl
 have hb0 := hid Qf4
 have hb1 := hid Qgq
 by_cases hn0 : n = 0
 · subst hn0
   obtain ⟨HE, HA⟩ := Qci (vs := vs) (b := b) tk (.inl hvl)
   replace HE := hid HE
   replace HA := hid HA
   go_enter Tryz.func12, Tryz.ntmps12
   go_wp2_with (first
    | (refine Qad ?hw 53 _ rfl (AvC av0) (by simp only [Qmy, QmG]; exact hb0.out) ?_; (case hw => rfl))
    | (refine Qab rfl rfl _ _ _ rfl (w.heap.size + 1) _ _ (AvC av0) (C2.nth 0 rfl) rfl rfl 24 Qas (Qac _) rfl (Qal _ _ _ _) ?_; intro w5 hb5 ho5)
    | fail)
   exact bodyPost_ret (Qae rfl _ _ _ _ _ _ hb5 rfl Tryz.underlying53 rfl (by rw [Qac]; exact Qas)) rfl ⟨none, 0, by rw [HE.out, HA.out]; rfl, by rw [HA.out]; exact Qav _ _ _, C2.lat.only ho5 (by omega)⟩
 obtain ⟨k, rfl⟩ : ∃ k, n = k + 1 := ⟨n - 1, by omega⟩
 have hne : ((k : Int) + 1 == 0) = false := beq_eq_false_iff_ne.2 (by omega)
 by_cases hm : m ≠ 480
 · have hm2 : ((m : Int) != 480) = true := bne_iff_ne.2 (by omega)
   obtain ⟨HE, HA⟩ := Qci (vs := vs) (b := b) tk (.inr (by rw [hbl]; exact hm))
   replace HE := hid HE
   replace HA := hid HA
   go_enter Tryz.func12, Tryz.ntmps12
   go_wp2_with (first
    | (refine Qad ?hw 53 _ rfl (AvC av0) (by simp only [Qmy, QmG]; exact hb0.out) ?_; (case hw => rfl))
    | (refine Qab rfl rfl _ _ _ rfl (w.heap.size + 1) _ _ (AvC av0) (C2.nth 0 rfl) rfl rfl 24 Qas (Qac _) rfl (Qal _ _ _ _) ?_; intro w5 hb5 ho5)
    | fail)
   exact bodyPost_ret (Qae rfl _ _ _ _ _ _ hb5 rfl Tryz.underlying53 rfl (by rw [Qac]; exact Qas)) rfl ⟨none, 0, by rw [HE.out, HA.out]; rfl, by rw [HA.out]; exact Qav _ _ _, C2.lat.only ho5 (by omega)⟩
 obtain rfl : m = 480 := Classical.not_not.1 hm
 have hS : ¬(vs.length = 0 ∨ b.length ≠ 480) := by omega
 obtain ⟨b0, o, rfl, hb00, hc⟩ := (hv.later C2.lat).at_ (k := k) (by omega)
 have hlv : vs.getD k vst0 = QaO vs := by rw [QaO, hvl]; rfl
 rw [hlv] at hc
 have r4 := hid (fun h => QdP (vs := vs) (b := b) tk hS h)
 have rf := hid (fun h1 h2 h3 => Qfg (vs := vs) (b := b) tk hS h1 h2 h3)
 have rb := hid (fun h1 h2 => Qgc (vs := vs) (b := b) tk hS h1 h2)
 have rt := hid (fun h1 h2 h3 => QeQ (vs := vs) (b := b) tk hS h1 h2 h3)
 have rg := hid (fun h1 h2 h3 => Qfa (vs := vs) (b := b) tk hS h1 h2 h3)
 have hPa := hid (fun w h => Qft B e b w h hme)
 have hPd : Hid (parE b ≠ 0 → parP b = prt0) := hid (fun h => by rw [parP, if_neg h])
 generalize arvE vs b = E at *
 generalize arvA vs b tk = R at *
 generalize QaO vs = v at *
 generalize parE b = PE at *
 generalize parP b = P at *
 clear hlv hS hm hn0 hvl
 have hsz : ((w.alloc (.cells [.slice (some ⟨b0, o, none⟩) (k + 1) c, .slice B 480 e, .int .i64 tk].toArray 45)).alloc (.cells az0.toArray 53)).heap.size = w.heap.size + 2 := by simp
 by_cases h4 : v.cm.kd = 4
 · obtain ⟨HE, HA⟩ := r4.out h4
   replace HE := hid HE
   replace HA := hid HA
   have f4 : (v.cm.kd == 4) = true := by rw [h4]; rfl
   clear r4 rf rb rt rg hPa hPd h4
   go_enter Tryz.func12, Tryz.ntmps12
   go_wp2_with (first
    | (refine Qaf ?hw _ _ rfl b0 (o + k * 22) (VC v) hc rfl _ Tryz.underlying86 rfl (by rw [Qag]; exact Qbg) ?_; (case hw => rfl))
    | (refine Qab rfl rfl _ _ _ rfl (w.heap.size + 2) _ _ (VC v) (Blk.new' _ _ (VC vst0) hsz) rfl rfl 22 Qbg (Qag _) (Qag vst0) (Qbz _) ?_; intro w3 hb3 ho3
       have l3 := Later.only (Qaa _ _) ho3 (Qna hsz)
       have C3 := C2.fresh l3 (Qna hsz) hb3
       obtain ⟨x0, x20, x4⟩ := Qay hb3
       have y2 := (C3.nth 2 rfl).cellD 2 (u := .int .i64 tk) rfl)
    | (refine Qad ?hw 53 _ rfl (AvC ⟨⟨prt0, v.cm.kd, v.id, tk, QaC⟩, .slice none 0 0⟩) (by simp only [Qmy, QmQ, QmG]; exact hb1.out _ _ _) ?_; (case hw => rfl))
    | (refine Qab rfl rfl _ _ _ rfl w3.heap.size _ _ (AvC ⟨⟨prt0, v.cm.kd, v.id, tk, QaC⟩, .slice none 0 0⟩) (Blk.new w3 _ (AvC av0)) rfl rfl 24 Qas (Qac _) (Qac av0) (Qal _ _ _ _) ?_; intro w4 hb4 ho4
       have l4 := (Qaa w3 _).only ho4 (Qmx _)
       have C4 := C3.fresh l4 (Qmx _) hb4
       clear x0 x20 x4 y2
       obtain ⟨x0, x20, x4⟩ := Qay (C4.nth 1 rfl)
       have a5 := (C4.nth 0 rfl).cellD 5 (u := W8 v.cm.kd) rfl)
    | (refine Qaf ?hw _ _ rfl (w.heap.size + 2) 4 (v.cm.ma.val.map W8) x4 rfl _ Tryz.underlying34 rfl (by rw [QmD, v.cm.ma.2]; exact Qdo) ?_; (case hw => rfl))
    | (refine Qaz rfl rfl _ _ _ rfl w3.heap.size 8 _ _ (v.cm.ma.val.map W8) (C4.nth 0 rfl) rfl rfl (by rw [QmD, v.cm.ma.2]; exact Qdo) (by rw [Qac, QmD, v.cm.ma.2]; omega) (Qc8 _) ?_; intro w5 hb5 ho5
       rw [QdZ] at hb5
       have C5 := C4.write 0 rfl ho5 hb5)
    | (refine Qaf ?hw _ _ rfl w3.heap.size 0 (AvC ⟨⟨prt0, v.cm.kd, v.id, tk, v.cm.ma⟩, .slice none 0 0⟩) (fun j v hv => by rw [QmU]; exact hb5.cellD j hv) rfl _ Tryz.underlying53 rfl (by rw [Qac]; exact Qas) ?_; (case hw => rfl))
    | (refine Qab rfl rfl _ _ _ rfl (w.heap.size + 1) _ _ (AvC ⟨⟨prt0, v.cm.kd, v.id, tk, v.cm.ma⟩, .slice none 0 0⟩) (C5.nth 2 rfl) rfl rfl 24 Qas (Qac _) rfl (Qal _ _ _ _) ?_; intro w6 hb6 ho6)
    | fail)
   exact bodyPost_ret (Qae rfl _ _ _ _ _ _ hb6 rfl Tryz.underlying53 rfl (by rw [Qac]; exact Qas)) rfl ⟨none, 0, by rw [HE.out, HA.out]; rfl, by rw [HA.out]; exact Qav _ _ _, C5.lat.only ho6 (by omega)⟩
 have f4 : (v.cm.kd == 4) = false := beq_eq_false_iff_ne.2 h4
 clear r4
 by_cases h23 : ¬(v.cm.kd = 2 ∨ v.cm.kd = 3)
 · have h2 : v.cm.kd ≠ 2 := fun h => h23 (.inl h)
   have h3 : v.cm.kd ≠ 3 := fun h => h23 (.inr h)
   obtain ⟨HE, HA⟩ := rf.out h4 h2 h3
   replace HE := hid HE
   replace HA := hid HA
   have f2 : (v.cm.kd != 2) = true := bne_iff_ne.2 h2
   have f3 : (v.cm.kd != 3) = true := bne_iff_ne.2 h3
   clear rf rb rt rg hPa hPd h4 h23 h2 h3
   go_enter Tryz.func12, Tryz.ntmps12
   go_wp2_with (first
    | (refine Qaf ?hw _ _ rfl b0 (o + k * 22) (VC v) hc rfl _ Tryz.underlying86 rfl (by rw [Qag]; exact Qbg) ?_; (case hw => rfl))
    | (refine Qab rfl rfl _ _ _ rfl (w.heap.size + 2) _ _ (VC v) (Blk.new' _ _ (VC vst0) hsz) rfl rfl 22 Qbg (Qag _) (Qag vst0) (Qbz _) ?_; intro w3 hb3 ho3
       have l3 := Later.only (Qaa _ _) ho3 (Qna hsz)
       have C3 := C2.fresh l3 (Qna hsz) hb3
       obtain ⟨x0, x20, x4⟩ := Qay hb3
       have y2 := (C3.nth 2 rfl).cellD 2 (u := .int .i64 tk) rfl)
    | (refine Qad ?hw 53 _ rfl (AvC ⟨⟨prt0, v.cm.kd, v.id, tk, QaC⟩, .slice none 0 0⟩) (by simp only [Qmy, QmQ, QmG]; exact hb1.out _ _ _) ?_; (case hw => rfl))
    | (refine Qab rfl rfl _ _ _ rfl w3.heap.size _ _ (AvC ⟨⟨prt0, v.cm.kd, v.id, tk, QaC⟩, .slice none 0 0⟩) (Blk.new w3 _ (AvC av0)) rfl rfl 24 Qas (Qac _) (Qac av0) (Qal _ _ _ _) ?_; intro w4 hb4 ho4
       have l4 := (Qaa w3 _).only ho4 (Qmx _)
       have C4 := C3.fresh l4 (Qmx _) hb4
       clear x0 x20 x4 y2
       obtain ⟨x0, x20, x4⟩ := Qay (C4.nth 1 rfl)
       have a5 := (C4.nth 0 rfl).cellD 5 (u := W8 v.cm.kd) rfl
       have y1 := (C4.nth 3 rfl).cellD 1 (u := .slice B 480 e) rfl)
    | (refine Qad ?hw 53 _ rfl (AvC av0) (by simp only [Qmy, QmG]; exact hb0.out) ?_; (case hw => rfl))
    | (refine Qab rfl rfl _ _ _ rfl (w.heap.size + 1) _ _ (AvC av0) (C4.nth 2 rfl) rfl rfl 24 Qas (Qac _) rfl (Qal _ _ _ _) ?_; intro w9 hb9 ho9)
    | fail)
   exact bodyPost_ret (Qae rfl _ _ _ _ _ _ hb9 rfl Tryz.underlying53 rfl (by rw [Qac]; exact Qas)) rfl ⟨none, 0, by rw [HE.out, HA.out]; rfl, by rw [HA.out]; exact Qav _ _ _, C4.lat.only ho9 (by omega)⟩
 replace h23 := Classical.not_not.1 h23
 clear rf h4
 obtain ⟨M, hM, hMM, hf⟩ : ∃ M : UInt8, (if v.cm.kd = 3 then 2 else 1) = M ∧ ((M = 1 ∧ (v.cm.kd != 2) = false ∧ (v.cm.kd == 2) = true ∧ (v.cm.kd == 3) = false) ∨ (M = 2 ∧ (v.cm.kd != 2) = true ∧ (v.cm.kd != 3) = false ∧ (v.cm.kd == 2) = false ∧ (v.cm.kd == 3) = true)) ∧ True := by
  rcases h23 with h | h
  · exact ⟨1, by rw [h]; decide, .inl ⟨rfl, by rw [h]; rfl, by rw [h]; rfl, by rw [h]; rfl⟩, trivial⟩
  · exact ⟨2, by rw [h]; decide, .inr ⟨rfl, by rw [h]; rfl, by rw [h]; rfl, by rw [h]; rfl, by rw [h]; rfl⟩, trivial⟩
 replace rb := hid (rb.out h23)
 replace rt := hid (rt.out h23)
 replace rg := hid (rg.out h23)
 rw [hM] at rt rg
 clear hM h23 hf
 rcases hMM with ⟨rfl, f2, f5, f6⟩ | ⟨rfl, f2, f3, f5, f6⟩
 · go_enter Tryz.func12, Tryz.ntmps12
   go_wp2_with (first
    | (refine Qaf ?hw _ _ rfl b0 (o + k * 22) (VC v) hc rfl _ Tryz.underlying86 rfl (by rw [Qag]; exact Qbg) ?_; (case hw => rfl))
    | (refine Qab rfl rfl _ _ _ rfl (w.heap.size + 2) _ _ (VC v) (Blk.new' _ _ (VC vst0) hsz) rfl rfl 22 Qbg (Qag _) (Qag vst0) (Qbz _) ?_; intro w3 hb3 ho3
       have l3 := Later.only (Qaa _ _) ho3 (Qna hsz)
       have C3 := C2.fresh l3 (Qna hsz) hb3
       obtain ⟨x0, x20, x4⟩ := Qay hb3
       have y2 := (C3.nth 2 rfl).cellD 2 (u := .int .i64 tk) rfl)
    | (refine Qad ?hw 53 _ rfl (AvC ⟨⟨prt0, v.cm.kd, v.id, tk, QaC⟩, .slice none 0 0⟩) (by simp only [Qmy, QmQ, QmG]; exact hb1.out _ _ _) ?_; (case hw => rfl))
    | (refine Qab rfl rfl _ _ _ rfl w3.heap.size _ _ (AvC ⟨⟨prt0, v.cm.kd, v.id, tk, QaC⟩, .slice none 0 0⟩) (Blk.new w3 _ (AvC av0)) rfl rfl 24 Qas (Qac _) (Qac av0) (Qal _ _ _ _) ?_; intro w4 hb4 ho4
       have l4 := (Qaa w3 _).only ho4 (Qmx _)
       have C4 := C3.fresh l4 (Qmx _) hb4
       clear x0 x20 x4 y2
       obtain ⟨x0, x20, x4⟩ := Qay (C4.nth 1 rfl)
       have a5 := (C4.nth 0 rfl).cellD 5 (u := W8 v.cm.kd) rfl
       have y1 := (C4.nth 3 rfl).cellD 1 (u := .slice B 480 e) rfl)
    | fail)
   refine (hPa.out w4 (hb.later C4.lat)).mono ?_
   rintro x5 w5 ⟨A5, c5, rfl, hown5, l5⟩
   clear x0 x20 x4 y1 a5
   have C5 := C4.later l5
   by_cases hpe : PE = 0
   case neg =>
    obtain ⟨HE, HA⟩ := rb.out hpe
    replace HE := hid HE
    replace HA := hid HA
    have hp2 : ((PE : Int) != 0) = true := bne_iff_ne.2 (by omega)
    clear rb rt rg hPa hpe
    go_wp2_with (first
    | (refine Qam rfl rfl _ _ rfl (Blk.new w5 _ pz0) rfl rfl rfl rfl ?_; intro w6 hb6 ho6
       have l6 := (Qaa w5 _).only ho6 (Qmx _)
       have C6 := C5.fresh l6 (Qmx _) hb6)
    | (refine Qad ?hw 53 _ rfl (AvC av0) (by simp only [Qmy, QmG]; exact hb0.out) ?_; (case hw => rfl))
    | (refine Qab rfl rfl _ _ _ rfl (w.heap.size + 1) _ _ (AvC av0) (C6.nth 3 rfl) rfl rfl 24 Qas (Qac _) rfl (Qal _ _ _ _) ?_; intro w9 hb9 ho9)
    | fail)
    exact bodyPost_ret (Qae rfl _ _ _ _ _ _ hb9 rfl Tryz.underlying53 rfl (by rw [Qac]; exact Qas)) rfl ⟨none, 0, by rw [HE.out, HA.out]; rfl, by rw [HA.out]; exact Qav _ _ _, C6.lat.only ho9 (by omega)⟩
   replace rt := hid (rt.out hpe)
   replace rg := hid (rg.out hpe)
   subst hpe
   have hw34 := (C4.nth 0 rfl).lt
   have hw23 := (C3.nth 0 rfl).lt
   by_cases hk : P.kd = 1
   case neg =>
    obtain ⟨HE, HA⟩ := rt.out hk
    replace HE := hid HE
    replace HA := hid HA
    have p1 : (P.kd == 1) = false := beq_eq_false_iff_ne.2 hk
    clear rb rt rg hPa hk
    go_wp2_with (first
    | (refine Qam rfl rfl _ _ rfl (Blk.new w5 _ pz0) rfl rfl rfl rfl ?_; intro w6 hb6 ho6
       have l6 := (Qaa w5 _).only ho6 (Qmx _)
       have C6 := C5.fresh l6 (Qmx _) hb6
       have a6 := (C6.nth 1 rfl).cellD 5 (u := W8 v.cm.kd) rfl
       have z0 := (C6.nth 0 rfl).cellD 0 (u := W8 P.kd) rfl)
    | (refine Qad ?hw 53 _ rfl (AvC av0) (by simp only [Qmy, QmG]; exact hb0.out) ?_; (case hw => rfl))
    | (refine Qab rfl rfl _ _ _ rfl (w.heap.size + 1) _ _ (AvC av0) (C6.nth 3 rfl) rfl rfl 24 Qas (Qac _) rfl (Qal _ _ _ _) ?_; intro w9 hb9 ho9)
    | fail)
    exact bodyPost_ret (Qae rfl _ _ _ _ _ _ hb9 rfl Tryz.underlying53 rfl (by rw [Qac]; exact Qas)) rfl ⟨none, 0, by rw [HE.out, HA.out]; rfl, by rw [HA.out]; exact Qav _ _ _, C6.lat.only ho9 (by omega)⟩
   obtain ⟨HE, HA⟩ := rg.out hk
   replace HE := hid HE
   replace HA := hid HA
   have p1 : (P.kd == 1) = true := beq_iff_eq.2 hk
   have p2 : (P.kd == 2) = false := by rw [hk]; rfl
   clear rb rt rg hPa hk
   go_wp2_with (first
    | (refine Qam rfl rfl _ _ rfl (Blk.new w5 _ pz0) rfl rfl rfl rfl ?_; intro w6 hb6 ho6
       have l6 := (Qaa w5 _).only ho6 (Qmx _)
       have C6 := C5.fresh l6 (Qmx _) hb6
       have a6 := (C6.nth 1 rfl).cellD 5 (u := W8 v.cm.kd) rfl
       have z0 := (C6.nth 0 rfl).cellD 0 (u := W8 P.kd) rfl)
    | (refine QaV ?hw _ rfl (C6.nth 0 rfl) rfl ?_; (case hw => rfl))
    | (refine Qaz rfl rfl _ _ _ rfl w3.heap.size 0 _ _ (PaC P (.slice A5 P.da.length c5)) (C6.nth 1 rfl) rfl rfl (by rw [Qah]; exact QaM) (by rw [Qac, Qah]; omega) (QbL _ rfl) ?_; intro w7 hb7 ho7
       rw [Qcl] at hb7
       have C7 := C6.write 1 rfl ho7 hb7)
    | (refine Qaf ?hw _ _ rfl w3.heap.size 0 (AvC ⟨⟨P, v.cm.kd, v.id, tk, QaC⟩, .slice A5 P.da.length c5⟩) (fun j v hv => by rw [QmU]; exact hb7.cellD j hv) rfl _ Tryz.underlying53 rfl (by rw [Qac]; exact Qas) ?_; (case hw => rfl))
    | (refine Qab rfl rfl _ _ _ rfl (w.heap.size + 1) _ _ (AvC ⟨⟨P, v.cm.kd, v.id, tk, QaC⟩, .slice A5 P.da.length c5⟩) (C7.nth 3 rfl) rfl rfl 24 Qas (Qac _) rfl (Qal _ _ _ _) ?_; intro w9 hb9 ho9)
    | fail)
   have o6 := QaK hown5 l6
   have o7 := Qa1 o6 ho7 (fun k hk => .inl (by simp only [Option.some.injEq] at hk; omega))
   have o9 := Qa1 o7 ho9 (fun k hk => .inl (by simp only [Option.some.injEq] at hk; omega))
   exact bodyPost_ret (Qae rfl _ _ _ _ _ _ hb9 rfl Tryz.underlying53 rfl (by rw [Qac]; exact Qas)) rfl ⟨A5, c5, by rw [HE.out, HA.out]; rfl, by rw [HA.out]; exact QaY o9 C4.lat.size, C7.lat.only ho9 (by omega)⟩
 · go_enter Tryz.func12, Tryz.ntmps12
   go_wp2_with (first
    | (refine Qaf ?hw _ _ rfl b0 (o + k * 22) (VC v) hc rfl _ Tryz.underlying86 rfl (by rw [Qag]; exact Qbg) ?_; (case hw => rfl))
    | (refine Qab rfl rfl _ _ _ rfl (w.heap.size + 2) _ _ (VC v) (Blk.new' _ _ (VC vst0) hsz) rfl rfl 22 Qbg (Qag _) (Qag vst0) (Qbz _) ?_; intro w3 hb3 ho3
       have l3 := Later.only (Qaa _ _) ho3 (Qna hsz)
       have C3 := C2.fresh l3 (Qna hsz) hb3
       obtain ⟨x0, x20, x4⟩ := Qay hb3
       have y2 := (C3.nth 2 rfl).cellD 2 (u := .int .i64 tk) rfl)
    | (refine Qad ?hw 53 _ rfl (AvC ⟨⟨prt0, v.cm.kd, v.id, tk, QaC⟩, .slice none 0 0⟩) (by simp only [Qmy, QmQ, QmG]; exact hb1.out _ _ _) ?_; (case hw => rfl))
    | (refine Qab rfl rfl _ _ _ rfl w3.heap.size _ _ (AvC ⟨⟨prt0, v.cm.kd, v.id, tk, QaC⟩, .slice none 0 0⟩) (Blk.new w3 _ (AvC av0)) rfl rfl 24 Qas (Qac _) (Qac av0) (Qal _ _ _ _) ?_; intro w4 hb4 ho4
       have l4 := (Qaa w3 _).only ho4 (Qmx _)
       have C4 := C3.fresh l4 (Qmx _) hb4
       clear x0 x20 x4 y2
       obtain ⟨x0, x20, x4⟩ := Qay (C4.nth 1 rfl)
       have a5 := (C4.nth 0 rfl).cellD 5 (u := W8 v.cm.kd) rfl
       have y1 := (C4.nth 3 rfl).cellD 1 (u := .slice B 480 e) rfl)
    | fail)
   refine (hPa.out w4 (hb.later C4.lat)).mono ?_
   rintro x5 w5 ⟨A5, c5, rfl, hown5, l5⟩
   clear x0 x20 x4 y1 a5
   have C5 := C4.later l5
   by_cases hpe : PE = 0
   case neg =>
    obtain ⟨HE, HA⟩ := rb.out hpe
    replace HE := hid HE
    replace HA := hid HA
    have hp2 : ((PE : Int) != 0) = true := bne_iff_ne.2 (by omega)
    clear rb rt rg hPa hpe
    go_wp2_with (first
    | (refine Qam rfl rfl _ _ rfl (Blk.new w5 _ pz0) rfl rfl rfl rfl ?_; intro w6 hb6 ho6
       have l6 := (Qaa w5 _).only ho6 (Qmx _)
       have C6 := C5.fresh l6 (Qmx _) hb6)
    | (refine Qad ?hw 53 _ rfl (AvC av0) (by simp only [Qmy, QmG]; exact hb0.out) ?_; (case hw => rfl))
    | (refine Qab rfl rfl _ _ _ rfl (w.heap.size + 1) _ _ (AvC av0) (C6.nth 3 rfl) rfl rfl 24 Qas (Qac _) rfl (Qal _ _ _ _) ?_; intro w9 hb9 ho9)
    | fail)
    exact bodyPost_ret (Qae rfl _ _ _ _ _ _ hb9 rfl Tryz.underlying53 rfl (by rw [Qac]; exact Qas)) rfl ⟨none, 0, by rw [HE.out, HA.out]; rfl, by rw [HA.out]; exact Qav _ _ _, C6.lat.only ho9 (by omega)⟩
   replace rt := hid (rt.out hpe)
   replace rg := hid (rg.out hpe)
   subst hpe
   have hw34 := (C4.nth 0 rfl).lt
   have hw23 := (C3.nth 0 rfl).lt
   by_cases hk : P.kd = 2
   case neg =>
    obtain ⟨HE, HA⟩ := rt.out hk
    replace HE := hid HE
    replace HA := hid HA
    have p2 : (P.kd == 2) = false := beq_eq_false_iff_ne.2 hk
    clear rb rt rg hPa hk
    obtain ⟨pb, p1⟩ : ∃ pb, (P.kd == 1) = pb := ⟨_, rfl⟩
    cases pb
    all_goals
     go_wp2_with (first
     | (refine Qam rfl rfl _ _ rfl (Blk.new w5 _ pz0) rfl rfl rfl rfl ?_; intro w6 hb6 ho6
        have l6 := (Qaa w5 _).only ho6 (Qmx _)
        have C6 := C5.fresh l6 (Qmx _) hb6
        have a6 := (C6.nth 1 rfl).cellD 5 (u := W8 v.cm.kd) rfl
        have z0 := (C6.nth 0 rfl).cellD 0 (u := W8 P.kd) rfl)
     | (refine Qad ?hw 53 _ rfl (AvC av0) (by simp only [Qmy, QmG]; exact hb0.out) ?_; (case hw => rfl))
     | (refine Qab rfl rfl _ _ _ rfl (w.heap.size + 1) _ _ (AvC av0) (C6.nth 3 rfl) rfl rfl 24 Qas (Qac _) rfl (Qal _ _ _ _) ?_; intro w9 hb9 ho9)
     | fail)
     exact bodyPost_ret (Qae rfl _ _ _ _ _ _ hb9 rfl Tryz.underlying53 rfl (by rw [Qac]; exact Qas)) rfl ⟨none, 0, by rw [HE.out, HA.out]; rfl, by rw [HA.out]; exact Qav _ _ _, C6.lat.only ho9 (by omega)⟩
   obtain ⟨HE, HA⟩ := rg.out hk
   replace HE := hid HE
   replace HA := hid HA
   have p1 : (P.kd == 1) = false := by rw [hk]; rfl
   have p2 : (P.kd == 2) = true := beq_iff_eq.2 hk
   clear rb rt rg hPa hk
   go_wp2_with (first
    | (refine Qam rfl rfl _ _ rfl (Blk.new w5 _ pz0) rfl rfl rfl rfl ?_; intro w6 hb6 ho6
       have l6 := (Qaa w5 _).only ho6 (Qmx _)
       have C6 := C5.fresh l6 (Qmx _) hb6
       have a6 := (C6.nth 1 rfl).cellD 5 (u := W8 v.cm.kd) rfl
       have z0 := (C6.nth 0 rfl).cellD 0 (u := W8 P.kd) rfl)
    | (refine QaV ?hw _ rfl (C6.nth 0 rfl) rfl ?_; (case hw => rfl))
    | (refine Qaz rfl rfl _ _ _ rfl w3.heap.size 0 _ _ (PaC P (.slice A5 P.da.length c5)) (C6.nth 1 rfl) rfl rfl (by rw [Qah]; exact QaM) (by rw [Qac, Qah]; omega) (QbL _ rfl) ?_; intro w7 hb7 ho7
       rw [Qcl] at hb7
       have C7 := C6.write 1 rfl ho7 hb7)
    | (refine Qaf ?hw _ _ rfl w3.heap.size 0 (AvC ⟨⟨P, v.cm.kd, v.id, tk, QaC⟩, .slice A5 P.da.length c5⟩) (fun j v hv => by rw [QmU]; exact hb7.cellD j hv) rfl _ Tryz.underlying53 rfl (by rw [Qac]; exact Qas) ?_; (case hw => rfl))
    | (refine Qab rfl rfl _ _ _ rfl (w.heap.size + 1) _ _ (AvC ⟨⟨P, v.cm.kd, v.id, tk, QaC⟩, .slice A5 P.da.length c5⟩) (C7.nth 3 rfl) rfl rfl 24 Qas (Qac _) rfl (Qal _ _ _ _) ?_; intro w9 hb9 ho9)
    | fail)
   have o6 := QaK hown5 l6
   have o7 := Qa1 o6 ho7 (fun k hk => .inl (by simp only [Option.some.injEq] at hk; omega))
   have o9 := Qa1 o7 ho9 (fun k hk => .inl (by simp only [Option.some.injEq] at hk; omega))
   exact bodyPost_ret (Qae rfl _ _ _ _ _ _ hb9 rfl Tryz.underlying53 rfl (by rw [Qac]; exact Qas)) rfl ⟨A5, c5, by rw [HE.out, HA.out]; rfl, by rw [HA.out]; exact QaY o9 C4.lat.size, C7.lat.only ho9 (by omega)⟩
end Go.Proofs.YtkibgdigcgakfabGreat
namespace Go.Proofs.YtkibgdigcgakfabGreat
open Go.RowKit
open Go.BigFrame
theorem QhQ : (Tryz.prog.info? 45).map (·.size) = some 3 := by kernel_rfl
theorem Qhh (b : List UInt8) : (parP b).da.length ≤ b.length := by
 unfold parP
 split
 · unfold Qa3
   simp only [subB, QmW, Qnb]
   omega
 · simp [prt0]
theorem Qg5 (vs : List Vst) (b : List UInt8) (tk : Int) : (arvA vs b tk).pt.da.length ≤ b.length := by
 unfold arvA
 split
 · simp [arr0, prt0]
 split
 · simp [prt0]
 · exact Qhh b
set_option maxRecDepth 100000 in
set_option maxHeartbeats 4000000 in
theorem Qcg (A B : Option Addr) (n c m d : Nat) (xs : List Vst) (b : List UInt8) (tk : Int) (w : World) (hx : RdF VC 22 vst0 w A n xs) (hn : n ≤ 1048576) (hb : RdB w B m b) (hm : m ≤ 1048576) (hmd : m ≤ d) :
 Calls Tryz.prog 4 #[.agg (tr1 A n c B m d tk).toArray] w fun e w' => e = .returned (.bool true) ∧ Later w w' := by
 have C1 := QaU w 45 (tr1 A n c B m d tk)
 have hT := hid (fun w hx hb => Qjm A B n c m d xs b tk w hx hn hb hm)
 have hM := hid (fun A2 c2 B2 d2 w hx hb hd => Qg3 A2 B2 n c2 m d2 xs b tk w hx hn hb hd)
 have hR := hid (fun w hx hb => Qhu A B n c m d xs b tk w hx hn hb hmd)
 have hRl := Qg5 xs b tk
 rw [hb.len] at hRl
 generalize arvE xs b = E at *
 generalize arvA xs b tk = R at *
 go_enter Tryz.func4, Tryz.ntmps4
 go_wp2_with fail
 (with_reducible refine (QiE _).mono ?_); rintro e w1 ⟨rfl, j1⟩
 have D1 := C1.later j1
 go_wp2_with (first
  | (refine Qaf ?hw _ _ rfl w.heap.size 0 (tr1 A n c B m d tk) (fun j v hv => by rw [QmU]; exact (D1.nth 0 rfl).cellD j hv) rfl _ Tryz.underlying45 rfl QhQ ?_; (case hw => rfl))
  | fail)
 refine (hT.out w1 (hx.later D1.lat) (hb.later D1.lat)).mono ?_
 rintro e w2 ⟨A2, c2, B2, d2, rfl, rx2, rb2, hd2, j2⟩
 go_wp2_with fail
 refine (hM.out A2 c2 B2 d2 w2 rx2 rb2 hd2).mono ?_
 rintro e w3 ⟨A3, c3, rfl, own3, j3⟩
 have D3 := D1.later (j2.trans j3)
 go_wp2_with (first
  | (refine Qab rfl rfl _ _ _ rfl w3.heap.size _ _ (AvC ⟨R, .slice A3 R.pt.da.length c3⟩) (Blk.new w3 _ (AvC av0)) rfl rfl 24 Qau (Qac _) (Qac av0) (Qal _ _ _ _) ?_; intro w4 hb4 ho4
     have l4 := (Qaa w3 _).only ho4 (Qmx _)
     have D4 := D3.fresh l4 (Qmx _) hb4)
  | (refine Qaf ?hw _ _ rfl w.heap.size 0 (tr1 A n c B m d tk) (fun j v hv => by rw [QmU]; exact (D4.nth 1 rfl).cellD j hv) rfl _ Tryz.underlying45 rfl QhQ ?_; (case hw => rfl))
  | fail)
 refine (hR.out w4 (hx.later D4.lat) (hb.later D4.lat)).mono ?_
 rintro e w5 ⟨A5, c5, rfl, own5, j5⟩
 have D5 := D4.later j5
 go_wp2_with (first
  | (refine Qab rfl rfl _ _ _ rfl w5.heap.size _ _ (AvC ⟨R, .slice A5 R.pt.da.length c5⟩) (Blk.new w5 _ (AvC av0)) rfl rfl 24 Qas (Qac _) (Qac av0) (Qal _ _ _ _) ?_; intro w6 hb6 ho6
     have l6 := (Qaa w5 _).only ho6 (Qmx _)
     have D6 := D5.fresh l6 (Qmx _) hb6)
  | (refine Qaf ?hw _ _ rfl w3.heap.size 0 (AvC ⟨R, .slice A3 R.pt.da.length c3⟩) (fun j v hv => by rw [QmU]; exact (D6.nth 1 rfl).cellD j hv) rfl _ Tryz.underlying36 rfl (by rw [Qac]; exact Qau) ?_; (case hw => rfl))
  | (refine Qaf ?hw _ _ rfl w5.heap.size 0 (AvC ⟨R, .slice A5 R.pt.da.length c5⟩) (fun j v hv => by rw [QmU]; exact (D6.nth 0 rfl).cellD j hv) rfl _ Tryz.underlying53 rfl (by rw [Qac]; exact Qas) ?_; (case hw => rfl))
  | fail)
 refine (Qjb R A3 A5 _ c3 c5 w6 (own3.rd.later (l4.trans (j5.trans l6))) (own5.rd.later l6) (by omega)).mono ?_
 rintro e w7 ⟨rfl, j7⟩
 go_wp2_with fail
 go_ret
 exact ⟨rfl, D6.lat.trans j7⟩
end Go.Proofs.YtkibgdigcgakfabGreat
