/-
  Lemmas for the last text of this claim (part 16 of 20).
-/
import Derived.BigQuiet
import Derived.BigRegion
import Derived.ChangeOld
import Derived.Deep.RegionWith
import Derived.DeepKeys4
import Derived.JoinedCond
import Derived.LaidMore
import Derived.Laws.CopyOwn
import Derived.Laws.Externs
import Derived.Laws.IdiomStrings
import Derived.Laws.Tables
import Derived.Lib.AppendStr
import Derived.Lib.AppendZerosOnto
import Derived.Lib.Mul64
import Derived.Lib.SlBytesConst
import Derived.LoopN
import Derived.Maps.OwnSet
import Derived.OpenShut
import Derived.OrdersHeld
import Derived.ProofKit
import Derived.Shelf.Spec.BitsCarry
import Derived.ShutString
import Derived.Test.YtkibgdigcgakfabGreatProg
import Derived.Test.YtkibgdigcgakfabGreatRows
import Derived.WalkKit
import Derived.WalkLawsBesides
import Derived.WalkSpells
import Derived.Test.YtkibgdigcgakfabGreatPJ
import Derived.Test.YtkibgdigcgakfabGreatPK
open List renaming map_toArray → Qmy, getElem?_cons_succ → Qmz, replicate → QmC, length_map → QmD, getElem?_cons_zero → QmE, map_nil → QmG, cons_append → QmK, nil_append → QmN, map_cons → QmQ, length_take → QmW, length_drop → Qnb
open Nat renaming le_refl → Qmx, lt_of_lt_of_le → QmL, mod_eq_of_lt → Qm0
open Option renaming toList_some → QmI, map_some → Qnp
open UInt64 renaming ofNat → QmB, toNat_ofNat' → QmF
namespace Go.Proofs.YtkibgdigcgakfabGreat
open Go.RowKit
open Go.BigFrame
theorem Qdx (b : List UInt8) (hb : b.length = 480) : parE b = if allZ (b.take 16) = false then 7 else if b.getD 16 0 < 1 ∨ 3 < b.getD 16 0 then 1 else if b.getD 19 0 ≠ 0 ∨ 450 < QaG b then 3 else if prtE (Qa3 b) ≠ 0 ∨ allZ (b.drop (30 + QaG b)) = false then 3 else 0 := by
 have h1 : (b.take 16 ≠ QmC 16 0) = (allZ (b.take 16) = false) := by
  have := QbO (b.take 16)
  rw [show (b.take 16).length = 16 by rw [QmW]; omega] at this
  rw [Ne, ← this, Bool.not_eq_true]
 rw [parE, if_neg (by omega)]
 simp only [h1]
 by_cases hs : 450 < QaG b
 · rw [if_pos (show b.getD 19 0 ≠ 0 ∨ 450 < QaG b from .inr hs), if_pos (show b.getD 19 0 ≠ 0 ∨ 450 < QaG b from .inr hs)]
 · have h2 : (b.drop (30 + QaG b) ≠ QmC (450 - QaG b) 0) = (allZ (b.drop (30 + QaG b)) = false) := by
    have := QbO (b.drop (30 + QaG b))
    rw [show (b.drop (30 + QaG b)).length = 450 - QaG b by rw [Qnb]; omega] at this
    rw [Ne, ← this, Bool.not_eq_true]
   simp only [h2]
set_option maxRecDepth 100000 in
set_option maxHeartbeats 4000000 in
theorem Qfk (A : Option Addr) (c : Nat) (b : List UInt8) (w : World) (hb : RdB w A 480 b) (hc : 480 ≤ c) :
 Calls Tryz.prog 20 #[.slice A 480 c] w fun e w' => ∃ A' c', e = .returned (.tuple #[.agg (PaC (parP b) (.slice A' (parP b).da.length c')).toArray, .int .i64 (parE b : Nat)]) ∧ OwnB w' w.heap.size A' (parP b).da.length c' (parP b).da ∧ Later w w' := by
 have hbl := hb.len
 obtain ⟨b0, o, rfl, hb00, _⟩ := hb.2 (by omega)
 have hE := hid (Qdx b hbl)
 have hP : Hid (parP b = if parE b = 0 then Qa3 b else prt0) := hid rfl
 have hOf : Hid (Qa3 b = ⟨b.getD 16 0, QmB (beN (subB b 20 8) 0), ((b.getD 17 0).toNat : Int), ((b.getD 18 0).toNat : Int), subB b 30 (QaG b)⟩) := hid rfl
 have hsp : Hid (QaG b = beN (subB b 28 2) 0) := hid rfl
 have hs6 := Qfd b hbl
 have hZ1 := hid (fun (w : World) (h : RdB w (some ⟨b0, o, none⟩) 480 b) => Qff (some ⟨b0, o, none⟩) 16 c (b.take 16) w (h.take (by omega)) (by omega))
 have hG1 := hid (fun (w : World) (h : RdB w (some ⟨b0, o, none⟩) 480 b) => Qe7 (some ⟨b0, o, none⟩) 480 c 20 8 b w h (by omega) (by omega) (by omega) (by omega))
 have hG2 := hid (fun (w : World) (h : RdB w (some ⟨b0, o, none⟩) 480 b) => Qe7 (some ⟨b0, o, none⟩) 480 c 28 2 b w h (by omega) (by omega) (by omega) (by omega))
 rw [← hsp.out] at hG2
 have hcl := hid (fun (w : World) (h : RdB w (some ⟨b0, o, none⟩) 480 b) => (⟨QaL h 16 (by omega), QaL h 17 (by omega), QaL h 18 (by omega), QaL h 19 (by omega)⟩ : w.cell? ⟨b0, o + 16, none⟩ = some (W8 (b.getD 16 0)) ∧ w.cell? ⟨b0, o + 17, none⟩ = some (W8 (b.getD 17 0)) ∧ w.cell? ⟨b0, o + 18, none⟩ = some (W8 (b.getD 18 0)) ∧ w.cell? ⟨b0, o + 19, none⟩ = some (W8 (b.getD 19 0))))
 have hsl := hid (fun hs => Qcz b hbl hs)
 generalize parE b = E at *
 generalize parP b = PP at *
 generalize Qa3 b = P at *
 generalize hS : QaG b = S at *
 generalize QmB (beN (subB b 20 8) 0) = ID at *
 generalize b.getD 16 0 = x16 at *
 generalize b.getD 17 0 = x17 at *
 generalize b.getD 18 0 = x18 at *
 generalize b.getD 19 0 = x19 at *
 clear hsp hS
 have C1 := QaU w 32 pz0
 have hb0 := QdY
 generalize allZ (b.take 16) = F1 at *
 go_enter Tryz.func20, Tryz.ntmps20
 go_wp2_with fail
 (refine (hZ1.out _ (hb.later C1.lat)).mono ?_); rintro e w2 ⟨rfl, j2⟩
 have C2 := C1.later j2
 clear hZ1 j2 C1
 cases F1
 · have HE : E = 7 := hE.out.trans (if_pos rfl)
   have HP : PP = prt0 := by rw [hP.out, if_neg (by rw [HE]; decide)]
   replace HE := hid HE
   replace HP := hid HP
   clear hP hE hcl hG1 hG2
   go_wp2_with (first
    | (refine Qad rfl 32 _ rfl (PaC prt0 (.slice none 0 0)) (by simp only [Qmy, QmG]; exact hb0) ?_)
    | (refine Qam rfl rfl _ _ rfl (C2.nth 0 rfl) rfl rfl rfl rfl ?_; intro e7 eb7 eo7
       have E7 := C2.write 0 rfl eo7 eb7)
    | fail)
   exact bodyPost_ret (Qae rfl _ _ _ _ _ _ (E7.nth 0 rfl) rfl Tryz.underlying32 rfl (by rw [Qah]; exact QaM)) rfl ⟨none, 0, by rw [HE.out, HP.out]; rfl, by rw [HP.out]; exact Qav _ _ _, E7.lat⟩
 replace hE := hid (hE.out.trans (if_neg (by decide)))
 obtain ⟨k16, k17, k18, k19⟩ := hcl.out _ (hb.later C2.lat)
 have hb0lt : b0 < w2.heap.size := QmL hb00 C2.lat.size
 by_cases h1 : x16 < 1 ∨ 3 < x16
 · have h13 : (decide (x16 < 1) || decide (3 < x16)) = true := by simpa using h1
   by_cases h11 : x16 < 1
   all_goals
    have h33 : x16 < 1 ∨ 3 < x16 := h1
    simp only [h11, true_or, false_or] at h33
    have HE : E = 1 := hE.out.trans (if_pos h1)
    have HP : PP = prt0 := by rw [hP.out, if_neg (by rw [HE]; decide)]
    replace HE := hid HE
    replace HP := hid HP
    clear hP hE hcl hG1 hG2
    go_wp2_with (first
     | (refine Qad rfl 32 _ rfl (PaC prt0 (.slice none 0 0)) (by simp only [Qmy, QmG]; exact hb0) ?_)
     | (refine Qam rfl rfl _ _ rfl (C2.nth 0 rfl) rfl rfl rfl rfl ?_; intro e7 eb7 eo7
        have E7 := C2.write 0 rfl eo7 eb7)
     | fail)
    exact bodyPost_ret (Qae rfl _ _ _ _ _ _ (E7.nth 0 rfl) rfl Tryz.underlying32 rfl (by rw [Qah]; exact QaM)) rfl ⟨none, 0, by rw [HE.out, HP.out]; rfl, by rw [HP.out]; exact Qav _ _ _, E7.lat⟩
 have h11 : ¬ x16 < 1 := fun h => h1 (.inl h)
 have h13 : ¬ 3 < x16 := fun h => h1 (.inr h)
 replace hE := hid (hE.out.trans (if_neg h1))
 clear h1
 go_wp2_with fail
 (refine (hG1.out _ (hb.later C2.lat)).mono ?_); rintro e w3 ⟨rfl, j3⟩
 go_wp2_with fail
 (refine (hG2.out _ (hb.later (C2.lat.trans j3))).mono ?_); rintro e w4 ⟨rfl, j4⟩
 have C4 := (C2.later j3).later j4
 clear k16 k17 k18 k19 j3 j4 C2 hb0lt
 obtain ⟨k16, k17, k18, k19⟩ := hcl.out _ (hb.later C4.lat)
 have hb0lt : b0 < w4.heap.size := QmL hb00 C4.lat.size
 obtain ⟨z, hz⟩ : ∃ z, z = QmB S := ⟨_, rfl⟩
 have hzS : z.toNat = S := by rw [hz, QmF, Qm0 (by omega)]
 rw [← hz]
 clear hz
 have hlt450 : (450 : UInt64) < z ↔ 450 < S := by rw [UInt64.lt_iff_toNat_lt, hzS]; rfl
 by_cases hx : x19 ≠ 0 ∨ 450 < S
 · by_cases h19 : x19 = 0
   · have n1 : (x19 != 0) = false := by simpa using h19
     have n2 : (450 : UInt64) < z := hlt450.2 (hx.resolve_left (fun f => f h19))
     clear h19 hlt450
     have HE : E = 3 := hE.out.trans (if_pos hx)
     have HP : PP = prt0 := by rw [hP.out, if_neg (by rw [HE]; decide)]
     replace HE := hid HE
     replace HP := hid HP
     clear hP hE hcl hG1 hG2
     go_wp2_with (first
      | (refine Qad rfl 32 _ rfl (PaC prt0 (.slice none 0 0)) (by simp only [Qmy, QmG]; exact hb0) ?_)
      | (refine Qam rfl rfl _ _ rfl (C4.nth 0 rfl) rfl rfl rfl rfl ?_; intro e7 eb7 eo7
         have E7 := C4.write 0 rfl eo7 eb7)
      | fail)
     exact bodyPost_ret (Qae rfl _ _ _ _ _ _ (E7.nth 0 rfl) rfl Tryz.underlying32 rfl (by rw [Qah]; exact QaM)) rfl ⟨none, 0, by rw [HE.out, HP.out]; rfl, by rw [HP.out]; exact Qav _ _ _, E7.lat⟩
   · have n1 : (x19 != 0) = true := by simpa using h19
     clear h19 hlt450
     have HE : E = 3 := hE.out.trans (if_pos hx)
     have HP : PP = prt0 := by rw [hP.out, if_neg (by rw [HE]; decide)]
     replace HE := hid HE
     replace HP := hid HP
     clear hP hE hcl hG1 hG2
     go_wp2_with (first
      | (refine Qad rfl 32 _ rfl (PaC prt0 (.slice none 0 0)) (by simp only [Qmy, QmG]; exact hb0) ?_)
      | (refine Qam rfl rfl _ _ rfl (C4.nth 0 rfl) rfl rfl rfl rfl ?_; intro e7 eb7 eo7
         have E7 := C4.write 0 rfl eo7 eb7)
      | fail)
     exact bodyPost_ret (Qae rfl _ _ _ _ _ _ (E7.nth 0 rfl) rfl Tryz.underlying32 rfl (by rw [Qah]; exact QaM)) rfl ⟨none, 0, by rw [HE.out, HP.out]; rfl, by rw [HP.out]; exact Qav _ _ _, E7.lat⟩
 have n1 : (x19 != 0) = false := by
  cases e : (x19 != 0)
  · rfl
  · exact absurd (.inl (by simpa using e)) hx
 have hS4 : S ≤ 450 := by omega
 have n2 : ¬ (450 : UInt64) < z := fun h => by have := hlt450.1 h; omega
 replace hE := hid (hE.out.trans (if_neg hx))
 clear hx hlt450
 have w17 : IntKind.i64.wrap (x17.toNat : Int) = (x17.toNat : Int) := by have := x17.toNat_lt; rw [IntKind.wrap_i64]; omega
 have w18 : IntKind.i64.wrap (x18.toNat : Int) = (x18.toNat : Int) := by have := x18.toNat_lt; rw [IntKind.wrap_i64]; omega
 have wz : IntKind.i64.wrap (z.toNat : Int) = (S : Int) := by rw [hzS, IntKind.wrap_i64]; omega
 clear hzS
 have hP0 : P = ⟨x16, ID, (x17.toNat : Int), (x18.toNat : Int), subB b 30 S⟩ := hOf.out
 have hdl := hsl.out hS4
 have hCk := hid (fun (w : World) A' c' => Qdc P A' S c' hdl w)
 have hZ2 := hid (fun (w : World) A' c' (h : RdB w A' (480 - (30 + S)) (b.drop (30 + S))) => Qff A' (480 - (30 + S)) c' (b.drop (30 + S)) w h (by omega))
 have hR2 := hid (fun (w : World) (h : RdB w (some ⟨b0, o, none⟩) 480 b) => (⟨fun hne : c ≠ 30 + S => by
  have := h.cut (k := 30 + S) (c := c) (by omega) hc
  rw [cutA, if_neg hne] at this
  rw [show some (⟨b0, o + (30 + S), none⟩ : Addr) = (some (⟨b0, o, none⟩ : Addr)).map (·.add (30 + S)) by rw [Qnp, Qbj]]
  exact this, fun he : c = 30 + S => ⟨by rw [QmD, Qnb]; omega, fun h => absurd h (by omega)⟩⟩ : (c ≠ 30 + S → RdB w (some ⟨b0, o + (30 + S), none⟩) (480 - (30 + S)) (b.drop (30 + S))) ∧ (c = 30 + S → RdB w (some ⟨b0, o, none⟩) (480 - (30 + S)) (b.drop (30 + S)))))
 have hCp := hid (fun (w : World) (h : RdB w (some ⟨b0, o, none⟩) 480 b) => QcR (some ⟨b0, o + 30, none⟩) S (c - 30) (subB b 30 S) w (by
  by_cases h0 : S = 0
  · rw [h0]
    exact ⟨rfl, fun h => absurd h (by omega)⟩
  · exact QfY h 30 S (by omega) (by omega)) (by omega))
 have hda : Hid (P.da = subB b 30 S) := hid (by rw [hP0])
 generalize hD : subB b 30 S = D at *
 clear hOf hD
 generalize allZ (b.drop (30 + S)) = F2 at *
 generalize prtE P = CE at *
 have f0 : (0 : Int) ≤ (S : Int) := by omega
 have f1 : (S : Int) ≤ 450 := by omega
 have f2 : ((30 : Int) + (S : Int)).toNat = 30 + S := by omega
 go_wp2_with fail
 have C5 := C4.drew
 have m0 := hb.later C5.lat
 refine Qaj [([0, 1, 2, 3, 4, 5, 6, 7, 8, 9, 10, 11, 12], 13)] [] [14] (by as_aux_lemma => kernel_rfl) (by as_aux_lemma => kernel_rfl) (by intro _ _ d _ _ h; cases d <;> exact h) ?_
 simp only [QaF, pick, Qmz, QmE, QmI, QmK, QmN]
 repeat (first | go_big_quiet_skip | (go_big_quiet_want; (refine Qcw _ _ rfl (PaC ⟨x16, ID, (x17.toNat : Int), (x18.toNat : Int), []⟩ (.slice none 0 0)) (by simp only [Qmy, QmQ, QmG]; exact QfI _ _ _ _) ?_); simp only [Act.put, List.setIfInBounds_toArray, List.set_cons_succ, List.set_cons_zero]; go_big_quiet_on) | (go_big_quiet_step (fail)))
 refine wpQuiet_nil ?_
 go_wp2_with fail
 try refine ⟨by first | assumption | exact Qak _ | exact Qaa _ _ | exact Later.refl _, ?_⟩
 try simp only [QaF, pick, Qmz, QmE, QmI, QmK, QmN]
 repeat (go_big_quiet_step (fail))
 refine wpQuiet_nil ?_
 go_wp2_with (first
  | (refine Qam rfl rfl _ _ rfl (Blk.new w4.drew _ pz0) rfl rfl rfl rfl ?_; intro w6 hb6 ho6
     have C6 := C5.push (Qaa _ _) (Qmx _) ho6 hb6)
  | fail)
 (refine (hCp.out _ (hb.later C6.lat)).mono ?_); rintro e w7 ⟨rfl, hb7, j7⟩
 have C7 := C6.fresh j7 (Qmx _) hb7
 have hset : Hid ((PaC ⟨x16, ID, (x17.toNat : Int), (x18.toNat : Int), []⟩ (.slice none 0 0)).set 4 (.slice (some ⟨w6.heap.size, 0, none⟩) S S) = PaC P (.slice (some ⟨w6.heap.size, 0, none⟩) S S)) := hid (by rw [hP0]; rfl)
 clear hb7 j7 hb6 ho6 C4 C5 hCp m0 hP0
 by_cases hc0 : CE = 0
 · subst hc0
   go_wp2_with (first
    | (refine Qai rfl rfl _ _ _ rfl w4.drew.heap.size 4 _ _ (C7.nth 1 rfl) rfl (by rw [Qah]; omega) rfl (by kernel_rfl) ?_; intro v8 w8 hv8 hb8 ho8; simp [go_sem] at hv8; subst hv8; rw [hset.out] at hb8
       have C8 := C7.write 1 rfl ho8 hb8)
    | (refine QaV rfl _ rfl (C8.nth 1 rfl) rfl ?_)
    | fail)
   (refine (hCk.out _ _ _).mono ?_); rintro e w9 ⟨rfl, j9⟩
   have C9 := C8.later j9
   have hR9 := hid (hR2.out _ (hb.later C9.lat))
   by_cases hcs : c = 30 + S
   all_goals
    have hR10 := hid (by first | exact hR9.out.2 hcs | exact hR9.out.1 hcs)
    go_wp2_with fail
    (with_reducible refine (hZ2.out _ _ _ hR10.out).mono ?_); rintro e w10 ⟨rfl, j10⟩
    have C10 := C9.later j10
    cases F2
    · replace hE := hid (hE.out.trans (if_pos (.inr rfl)))
      have HE : E = 3 := hE.out
      have HP : PP = prt0 := by rw [hP.out, if_neg (by rw [HE]; decide)]
      replace HE := hid HE
      replace HP := hid HP
      clear hP hE
      go_wp2_with (first
       | (refine Qad rfl 32 _ rfl (PaC prt0 (.slice none 0 0)) (by simp only [Qmy, QmG]; exact hb0) ?_)
       | (refine Qam rfl rfl _ _ rfl (C10.nth 2 rfl) rfl rfl rfl rfl ?_; intro e7 eb7 eo7
          have E7 := C10.write 2 rfl eo7 eb7)
       | fail)
      exact bodyPost_ret (Qae rfl _ _ _ _ _ _ eb7 rfl Tryz.underlying32 rfl (by rw [Qah]; exact QaM)) rfl ⟨none, 0, by rw [HE.out, HP.out]; rfl, by rw [HP.out]; exact Qav _ _ _, E7.lat⟩
    · replace hE := hid (hE.out.trans (if_neg (by simp)))
      have HP : PP = P := by rw [hP.out, if_pos hE.out]
      replace HP := hid HP
      go_wp2_with (first
       | (refine QaV rfl _ rfl (C10.nth 1 rfl) rfl ?_)
       | (refine Qam rfl rfl _ _ rfl (C10.nth 2 rfl) rfl rfl rfl rfl ?_; intro e7 eb7 eo7
          have E7 := C10.write 2 rfl eo7 eb7)
       | fail)
      refine bodyPost_ret (Qae rfl _ _ _ _ _ _ eb7 rfl Tryz.underlying32 rfl (by rw [Qah]; exact QaM)) rfl ⟨some ⟨w6.heap.size, 0, none⟩, S, by rw [hE.out, HP.out, hdl]; rfl, ?_, E7.lat⟩
      rw [HP.out, hda.out]
      have hDl : D.length = S := by rw [← hda.out]; exact hdl
      have := QcQ (E7.nth 0 rfl) (E7.at_low 0 rfl) (by rw [QmD, hDl]; omega)
      rw [QmD, hDl] at this
      rw [hDl]
      exact this
 · have hne : ((CE : Int) != 0) = true := by simp; omega
   replace hE := hid (hE.out.trans (if_pos (.inl hc0)))
   clear hc0
   have HE : E = 3 := hE.out
   have HP : PP = prt0 := by rw [hP.out, if_neg (by rw [HE]; decide)]
   replace HE := hid HE
   replace HP := hid HP
   clear hP hE
   go_wp2_with (first
    | (refine Qai rfl rfl _ _ _ rfl w4.drew.heap.size 4 _ _ (C7.nth 1 rfl) rfl (by rw [Qah]; omega) rfl (by kernel_rfl) ?_; intro v8 w8 hv8 hb8 ho8; simp [go_sem] at hv8; subst hv8; rw [hset.out] at hb8
       have C8 := C7.write 1 rfl ho8 hb8)
    | (refine QaV rfl _ rfl (C8.nth 1 rfl) rfl ?_)
    | fail)
   (refine (hCk.out _ _ _).mono ?_); rintro e w9 ⟨rfl, j9⟩
   have C9 := C8.later j9
   go_wp2_with (first
    | (refine Qad rfl 32 _ rfl (PaC prt0 (.slice none 0 0)) (by simp only [Qmy, QmG]; exact hb0) ?_)
    | (refine Qam rfl rfl _ _ rfl (C9.nth 2 rfl) rfl rfl rfl rfl ?_; intro e7 eb7 eo7
       have E7 := C9.write 2 rfl eo7 eb7)
    | fail)
   exact bodyPost_ret (Qae rfl _ _ _ _ _ _ eb7 rfl Tryz.underlying32 rfl (by rw [Qah]; exact QaM)) rfl ⟨none, 0, by rw [HE.out, HP.out]; rfl, by rw [HP.out]; exact Qav _ _ _, E7.lat⟩
end Go.Proofs.YtkibgdigcgakfabGreat
