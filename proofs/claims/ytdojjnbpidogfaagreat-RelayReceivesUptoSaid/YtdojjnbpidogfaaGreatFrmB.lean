/-
  frame: noughts, copies, Parse.
-/
import Derived.Test.YtdojjnbpidogfaaGreatFrmA
import Derived.Test.YtdojjnbpidogfaaGreatRcF
namespace Go.Proofs.YtdojjnbpidogfaaGreat
open Go.RowKit
open Go.BigFrame

def allZ (bs : List UInt8) : Bool := bs.all (· == 0)
theorem allZ_iff : ∀ (bs : List UInt8), allZ bs = true ↔ bs = List.replicate bs.length 0
  | [] => by simp [allZ]
  | b :: bs => by
    have ih := allZ_iff bs
    rw [allZ] at ih
    rw [allZ, List.all_cons, Bool.and_eq_true, ih, List.length_cons, List.replicate_succ, List.cons.injEq, beq_iff_eq]
theorem allZ_no {bs : List UInt8} {k : Nat} (hk : k < bs.length) (h : bs.getD k 0 ≠ 0) : allZ bs = false := by
  rw [allZ, List.all_eq_false]
  refine ⟨bs[k], List.getElem_mem hk, ?_⟩
  rw [List.getD_eq_getElem?_getD, List.getElem?_eq_getElem hk] at h
  simpa using h
theorem allZ_yes {bs : List UInt8} (h : ∀ k, k < bs.length → bs.getD k 0 = 0) : allZ bs = true := by
  rw [allZ, List.all_eq_true]
  intro x hx
  obtain ⟨k, hk, rfl⟩ := List.getElem_of_mem hx
  have := h k hk
  rw [List.getD_eq_getElem?_getD, List.getElem?_eq_getElem hk] at this
  simpa using this
set_option maxRecDepth 100000 in
theorem allz_any (A : Option Addr) (n c : Nat) (bs : List UInt8) (w : World) (hb : RdB w A n bs) (hn : n ≤ 140737488355328) :
    Calls Tryz.prog 75 #[.slice A n c] w fun e w' => e = .returned (.bool (allZ bs)) ∧ Later w w' := by
  have hl := hb.len
  go_enter Tryz.func75, Tryz.ntmps75
  go_wp2
  go_loopw [7] (fun i wr => ∃ k : Nat, i = .int .i64 k ∧ k ≤ n ∧ Hid (∀ j, j < k → bs.getD j 0 = 0) ∧ Later w wr) (fun i _ => n - (intOf i).toNat)
  case atStart => exact ⟨0, rfl, by omega, hid (fun j hj => absurd hj (by omega)), Later.refl w⟩
  case round =>
    obtain ⟨k, rfl, hk, hp, L⟩ := hrel
    by_cases hlt : k < n
    · obtain ⟨b, o, rfl, hb2, hc2⟩ := RdB.at_ (hb.later L) (by omega)
      have c1 := hc2 k hlt
      have hno := hid (fun h => allZ_no (bs := bs) (k := k) (by omega) h)
      have hgo := hid (fun h : bs.getD k 0 = 0 => below_succ (p := fun j => bs.getD j 0 = 0) hp.out h)
      clear hc2
      generalize bs.getD k 0 = x at *
      cases hx : (x == 0)
      · have n1 : (x != 0) = true := by rw [bne, hx]; rfl
        have hE := hid (hno.out (by simpa using hx))
        go_wp2
        go_ret
        exact ⟨by rw [hE.out]; rfl, L⟩
      · have n1 : (x != 0) = false := by rw [bne, hx]; rfl
        have hG := hid (hgo.out (by simpa using hx))
        go_wp2
        exact ⟨⟨k + 1, by go_num, by omega, hG, L⟩, by simp [intOf]; omega⟩
    · obtain rfl : k = n := by omega
      have hE := hid (allZ_yes (bs := bs) (by rw [hl]; exact hp.out))
      go_wp2
      go_ret
      exact ⟨by rw [hE.out]; rfl, L⟩
set_option maxRecDepth 100000 in
theorem copied_any (A : Option Addr) (n c : Nat) (bs : List UInt8) (w : World) (hb : RdB w A n bs) (hn : n ≤ 1048576) :
    Calls Tryz.prog 77 #[.slice A n c] w fun e w' => e = .returned (.slice (some ⟨w.heap.size, 0, none⟩) n n) ∧ Blk w' w.heap.size 5 (bs.map W8) ∧ Later w w' := by
  have hl := hb.len
  go_enter Tryz.func77, Tryz.ntmps77
  go_wp2_with (first
    | (refine wpList_make_n rfl _ _ _ rfl 5 _ 1 Tryz.underlying22 info8 rfl _ _ _ _ n rfl rfl rfl rfl (by omega) (by omega) ?_; intro w1 hb1 hl1)
    | (refine wpList_copy_rd rfl _ _ _ _ rfl 5 Tryz.underlying22 size8 w.heap.size 0 n n _ _ hb1 A n c (bs.map W8) (RdB.later hb hl1) (w8_one _) rfl rfl (by simp) ?_; intro w4 hb4 ho4
       rw [List.take_of_length_le (by rw [List.length_map, hl]; omega), spliced_all _ _ (by rw [List.length_map, List.length_replicate, hl])] at hb4)
    | fail)
  go_ret
  exact ⟨rfl, hb4, hl1.only ho4 (Nat.le_refl _)⟩
theorem parE_bool (b : List UInt8) (hb : b.length = 480) : parE b = if allZ (b.take 16) = false then 7 else if b.getD 16 0 < 1 ∨ 3 < b.getD 16 0 then 1 else if b.getD 19 0 ≠ 0 ∨ 450 < sizeP b then 3 else if prtE (prtOf b) ≠ 0 ∨ allZ (b.drop (30 + sizeP b)) = false then 3 else 0 := by
  have h1 : (b.take 16 ≠ List.replicate 16 0) = (allZ (b.take 16) = false) := by
    have := allZ_iff (b.take 16)
    rw [show (b.take 16).length = 16 by rw [List.length_take]; omega] at this
    rw [Ne, ← this, Bool.not_eq_true]
  rw [parE, if_neg (by omega)]
  simp only [h1]
  by_cases hs : 450 < sizeP b
  · rw [if_pos (show b.getD 19 0 ≠ 0 ∨ 450 < sizeP b from .inr hs), if_pos (show b.getD 19 0 ≠ 0 ∨ 450 < sizeP b from .inr hs)]
  · have h2 : (b.drop (30 + sizeP b) ≠ List.replicate (450 - sizeP b) 0) = (allZ (b.drop (30 + sizeP b)) = false) := by
      have := allZ_iff (b.drop (30 + sizeP b))
      rw [show (b.drop (30 + sizeP b)).length = 450 - sizeP b by rw [List.length_drop]; omega] at this
      rw [Ne, ← this, Bool.not_eq_true]
    simp only [h2]
abbrev pz0 : List Value := [.int .u8 0, .int .u64 0, .int .i64 0, .int .i64 0, .slice none 0 0]
set_option maxRecDepth 100000 in
set_option maxHeartbeats 4000000 in
theorem fparse_any (A : Option Addr) (c : Nat) (b : List UInt8) (w : World) (hb : RdB w A 480 b) (hc : 480 ≤ c) :
    Calls Tryz.prog 48 #[.slice A 480 c] w fun e w' => ∃ A' c', e = .returned (.tuple #[.agg (PaC (parP b) (.slice A' (parP b).da.length c')).toArray, .int .i64 (parE b : Nat)]) ∧ OwnB w' w.heap.size A' (parP b).da.length c' (parP b).da ∧ Later w w' := by
  have hbl := hb.len
  obtain ⟨b0, o, rfl, hb00, _⟩ := hb.2 (by omega)
  have hE := hid (parE_bool b hbl)
  have hP : Hid (parP b = if parE b = 0 then prtOf b else prt0) := hid rfl
  have hOf : Hid (prtOf b = ⟨b.getD 16 0, UInt64.ofNat (beN (subB b 20 8) 0), ((b.getD 17 0).toNat : Int), ((b.getD 18 0).toNat : Int), subB b 30 (sizeP b)⟩) := hid rfl
  have hsp : Hid (sizeP b = beN (subB b 28 2) 0) := hid rfl
  have hs6 := sizeP_lt b hbl
  have hZ1 := hid (fun (w : World) (h : RdB w (some ⟨b0, o, none⟩) 480 b) => allz_any (some ⟨b0, o, none⟩) 16 c (b.take 16) w (h.take (by omega)) (by omega))
  have hG1 := hid (fun (w : World) (h : RdB w (some ⟨b0, o, none⟩) 480 b) => cget_any (some ⟨b0, o, none⟩) 480 c 20 8 b w h (by omega) (by omega) (by omega) (by omega))
  have hG2 := hid (fun (w : World) (h : RdB w (some ⟨b0, o, none⟩) 480 b) => cget_any (some ⟨b0, o, none⟩) 480 c 28 2 b w h (by omega) (by omega) (by omega) (by omega))
  rw [← hsp.out] at hG2
  have hcl := hid (fun (w : World) (h : RdB w (some ⟨b0, o, none⟩) 480 b) => (⟨getD_cell h 16 (by omega), getD_cell h 17 (by omega), getD_cell h 18 (by omega), getD_cell h 19 (by omega)⟩ : w.cell? ⟨b0, o + 16, none⟩ = some (W8 (b.getD 16 0)) ∧ w.cell? ⟨b0, o + 17, none⟩ = some (W8 (b.getD 17 0)) ∧ w.cell? ⟨b0, o + 18, none⟩ = some (W8 (b.getD 18 0)) ∧ w.cell? ⟨b0, o + 19, none⟩ = some (W8 (b.getD 19 0))))
  have hsl := hid (fun hs => prtOf_len b hbl hs)
  generalize parE b = E at *
  generalize parP b = PP at *
  generalize prtOf b = P at *
  generalize hS : sizeP b = S at *
  generalize UInt64.ofNat (beN (subB b 20 8) 0) = ID at *
  generalize b.getD 16 0 = x16 at *
  generalize b.getD 17 0 = x17 at *
  generalize b.getD 18 0 = x18 at *
  generalize b.getD 19 0 = x19 at *
  clear hsp hS
  have C1 := bag_new w 86 pz0
  have hb0 := built_pa0
  generalize allZ (b.take 16) = F1 at *
  go_enter Tryz.func48, Tryz.ntmps48
  go_wp2_with fail
  (refine (hZ1.out _ (hb.later C1.lat)).mono ?_); rintro e w2 ⟨rfl, j2⟩
  have C2 := C1.later j2
  clear hZ1 j2 C1
  cases F1
  · have HE : E = 7 := hE.out.trans (if_pos rfl)
    have HP : PP = prt0 := by rw [hP.out, if_neg (by rw [HE]; decide)]
    replace HE := hid HE
    replace HP := hid HP
    clear hP hE hcl hG1 hG2
    go_wp2_with (first
      | (refine wpList_build_w rfl 86 _ rfl (PaC prt0 (.slice none 0 0)) (by simp only [List.map_toArray, List.map_nil]; exact hb0) ?_)
      | (refine store_Pa rfl rfl _ _ rfl (C2.nth 0 rfl) rfl rfl rfl rfl ?_; intro e7 eb7 eo7
         have E7 := C2.write 0 rfl eo7 eb7)
      | fail)
    exact bodyPost_ret (results_blk_tmp rfl _ _ _ _ _ _ (E7.nth 0 rfl) rfl Tryz.underlying86 rfl (by rw [PaC_length]; exact size5p)) rfl ⟨none, 0, by rw [HE.out, HP.out]; rfl, by rw [HP.out]; exact own_nil _ _ _, E7.lat⟩
  replace hE := hid (hE.out.trans (if_neg (by decide)))
  obtain ⟨k16, k17, k18, k19⟩ := hcl.out _ (hb.later C2.lat)
  have hb0lt : b0 < w2.heap.size := Nat.lt_of_lt_of_le hb00 C2.lat.size
  by_cases h1 : x16 < 1 ∨ 3 < x16
  · have h13 : (decide (x16 < 1) || decide (3 < x16)) = true := by simpa using h1
    by_cases h11 : x16 < 1
    all_goals
      have h33 : x16 < 1 ∨ 3 < x16 := h1
      simp only [h11, true_or, false_or] at h33
      have HE : E = 1 := hE.out.trans (if_pos h1)
      have HP : PP = prt0 := by rw [hP.out, if_neg (by rw [HE]; decide)]
      replace HE := hid HE
      replace HP := hid HP
      clear hP hE hcl hG1 hG2
      go_wp2_with (first
        | (refine wpList_build_w rfl 86 _ rfl (PaC prt0 (.slice none 0 0)) (by simp only [List.map_toArray, List.map_nil]; exact hb0) ?_)
        | (refine store_Pa rfl rfl _ _ rfl (C2.nth 0 rfl) rfl rfl rfl rfl ?_; intro e7 eb7 eo7
           have E7 := C2.write 0 rfl eo7 eb7)
        | fail)
      exact bodyPost_ret (results_blk_tmp rfl _ _ _ _ _ _ (E7.nth 0 rfl) rfl Tryz.underlying86 rfl (by rw [PaC_length]; exact size5p)) rfl ⟨none, 0, by rw [HE.out, HP.out]; rfl, by rw [HP.out]; exact own_nil _ _ _, E7.lat⟩
  have h11 : ¬ x16 < 1 := fun h => h1 (.inl h)
  have h13 : ¬ 3 < x16 := fun h => h1 (.inr h)
  replace hE := hid (hE.out.trans (if_neg h1))
  clear h1
  go_wp2_with fail
  (refine (hG1.out _ (hb.later C2.lat)).mono ?_); rintro e w3 ⟨rfl, j3⟩
  go_wp2_with fail
  (refine (hG2.out _ (hb.later (C2.lat.trans j3))).mono ?_); rintro e w4 ⟨rfl, j4⟩
  have C4 := (C2.later j3).later j4
  clear k16 k17 k18 k19 j3 j4 C2 hb0lt
  obtain ⟨k16, k17, k18, k19⟩ := hcl.out _ (hb.later C4.lat)
  have hb0lt : b0 < w4.heap.size := Nat.lt_of_lt_of_le hb00 C4.lat.size
  obtain ⟨z, hz⟩ : ∃ z, z = UInt64.ofNat S := ⟨_, rfl⟩
  have hzS : z.toNat = S := by rw [hz, UInt64.toNat_ofNat', Nat.mod_eq_of_lt (by omega)]
  rw [← hz]
  clear hz
  have hlt450 : (450 : UInt64) < z ↔ 450 < S := by rw [UInt64.lt_iff_toNat_lt, hzS]; rfl
  by_cases hx : x19 ≠ 0 ∨ 450 < S
  · by_cases h19 : x19 = 0
    · have n1 : (x19 != 0) = false := by simpa using h19
      have n2 : (450 : UInt64) < z := hlt450.2 (hx.resolve_left (fun f => f h19))
      clear h19 hlt450
      have HE : E = 3 := hE.out.trans (if_pos hx)
      have HP : PP = prt0 := by rw [hP.out, if_neg (by rw [HE]; decide)]
      replace HE := hid HE
      replace HP := hid HP
      clear hP hE hcl hG1 hG2
      go_wp2_with (first
        | (refine wpList_build_w rfl 86 _ rfl (PaC prt0 (.slice none 0 0)) (by simp only [List.map_toArray, List.map_nil]; exact hb0) ?_)
        | (refine store_Pa rfl rfl _ _ rfl (C4.nth 0 rfl) rfl rfl rfl rfl ?_; intro e7 eb7 eo7
           have E7 := C4.write 0 rfl eo7 eb7)
        | fail)
      exact bodyPost_ret (results_blk_tmp rfl _ _ _ _ _ _ (E7.nth 0 rfl) rfl Tryz.underlying86 rfl (by rw [PaC_length]; exact size5p)) rfl ⟨none, 0, by rw [HE.out, HP.out]; rfl, by rw [HP.out]; exact own_nil _ _ _, E7.lat⟩
    · have n1 : (x19 != 0) = true := by simpa using h19
      clear h19 hlt450
      have HE : E = 3 := hE.out.trans (if_pos hx)
      have HP : PP = prt0 := by rw [hP.out, if_neg (by rw [HE]; decide)]
      replace HE := hid HE
      replace HP := hid HP
      clear hP hE hcl hG1 hG2
      go_wp2_with (first
        | (refine wpList_build_w rfl 86 _ rfl (PaC prt0 (.slice none 0 0)) (by simp only [List.map_toArray, List.map_nil]; exact hb0) ?_)
        | (refine store_Pa rfl rfl _ _ rfl (C4.nth 0 rfl) rfl rfl rfl rfl ?_; intro e7 eb7 eo7
           have E7 := C4.write 0 rfl eo7 eb7)
        | fail)
      exact bodyPost_ret (results_blk_tmp rfl _ _ _ _ _ _ (E7.nth 0 rfl) rfl Tryz.underlying86 rfl (by rw [PaC_length]; exact size5p)) rfl ⟨none, 0, by rw [HE.out, HP.out]; rfl, by rw [HP.out]; exact own_nil _ _ _, E7.lat⟩
  have n1 : (x19 != 0) = false := by
    cases e : (x19 != 0)
    · rfl
    · exact absurd (.inl (by simpa using e)) hx
  have hS4 : S ≤ 450 := by omega
  have n2 : ¬ (450 : UInt64) < z := fun h => by have := hlt450.1 h; omega
  replace hE := hid (hE.out.trans (if_neg hx))
  clear hx hlt450
  have w17 : IntKind.i64.wrap (x17.toNat : Int) = (x17.toNat : Int) := by have := x17.toNat_lt; rw [IntKind.wrap_i64]; omega
  have w18 : IntKind.i64.wrap (x18.toNat : Int) = (x18.toNat : Int) := by have := x18.toNat_lt; rw [IntKind.wrap_i64]; omega
  have wz : IntKind.i64.wrap (z.toNat : Int) = (S : Int) := by rw [hzS, IntKind.wrap_i64]; omega
  clear hzS
  have hP0 : P = ⟨x16, ID, (x17.toNat : Int), (x18.toNat : Int), subB b 30 S⟩ := hOf.out
  have hdl := hsl.out hS4
  have hCk := hid (fun (w : World) A' c' => fcheck_any P A' S c' hdl w)
  have hZ2 := hid (fun (w : World) A' c' (h : RdB w A' (480 - (30 + S)) (b.drop (30 + S))) => allz_any A' (480 - (30 + S)) c' (b.drop (30 + S)) w h (by omega))
  have hR2 := hid (fun (w : World) (h : RdB w (some ⟨b0, o, none⟩) 480 b) => (⟨fun hne : c ≠ 30 + S => by
    have := h.cut (k := 30 + S) (c := c) (by omega) hc
    rw [cutA, if_neg hne] at this
    rw [show some (⟨b0, o + (30 + S), none⟩ : Addr) = (some (⟨b0, o, none⟩ : Addr)).map (·.add (30 + S)) by rw [Option.map_some, add_at]]
    exact this, fun he : c = 30 + S => ⟨by rw [List.length_map, List.length_drop]; omega, fun h => absurd h (by omega)⟩⟩ : (c ≠ 30 + S → RdB w (some ⟨b0, o + (30 + S), none⟩) (480 - (30 + S)) (b.drop (30 + S))) ∧ (c = 30 + S → RdB w (some ⟨b0, o, none⟩) (480 - (30 + S)) (b.drop (30 + S)))))
  have hCp := hid (fun (w : World) (h : RdB w (some ⟨b0, o, none⟩) 480 b) => copied_any (some ⟨b0, o + 30, none⟩) S (c - 30) (subB b 30 S) w (by
    by_cases h0 : S = 0
    · rw [h0]
      exact ⟨rfl, fun h => absurd h (by omega)⟩
    · exact rdB_cut h 30 S (by omega) (by omega)) (by omega))
  have hda : Hid (P.da = subB b 30 S) := hid (by rw [hP0])
  generalize hD : subB b 30 S = D at *
  clear hOf hD
  generalize allZ (b.drop (30 + S)) = F2 at *
  generalize prtE P = CE at *
  have f0 : (0 : Int) ≤ (S : Int) := by omega
  have f1 : (S : Int) ≤ 450 := by omega
  have f2 : ((30 : Int) + (S : Int)).toNat = 30 + S := by omega
  go_wp2_with fail
  have C5 := C4.drew
  have m0 := hb.later C5.lat
  refine wp_region_parts [([0, 1, 2, 3, 4, 5, 6, 7, 8, 9, 10, 11, 12], 13)] [] [14] (by as_aux_lemma => kernel_rfl) (by as_aux_lemma => kernel_rfl) (by intro _ _ d _ _ h; cases d <;> exact h) ?_
  simp only [wpParts, pick, List.getElem?_cons_succ, List.getElem?_cons_zero, Option.toList_some, List.cons_append, List.nil_append]
  repeat (first | go_big_quiet_skip | (go_big_quiet_want; (refine quiet_build _ _ rfl (PaC ⟨x16, ID, (x17.toNat : Int), (x18.toNat : Int), []⟩ (.slice none 0 0)) (by simp only [List.map_toArray, List.map_cons, List.map_nil]; exact built_pa4 _ _ _ _) ?_); simp only [Act.put, List.setIfInBounds_toArray, List.set_cons_succ, List.set_cons_zero]; go_big_quiet_on) | (go_big_quiet_step (fail)))
  refine wpQuiet_nil ?_
  go_wp2_with fail
  try refine ⟨by first | assumption | exact later_drew _ | exact later_alloc _ _ | exact Later.refl _, ?_⟩
  try simp only [wpParts, pick, List.getElem?_cons_succ, List.getElem?_cons_zero, Option.toList_some, List.cons_append, List.nil_append]
  repeat (go_big_quiet_step (fail))
  refine wpQuiet_nil ?_
  go_wp2_with (first
    | (refine store_Pa rfl rfl _ _ rfl (Blk.new w4.drew _ pz0) rfl rfl rfl rfl ?_; intro w6 hb6 ho6
       have C6 := C5.push (later_alloc _ _) (Nat.le_refl _) ho6 hb6)
    | fail)
  (refine (hCp.out _ (hb.later C6.lat)).mono ?_); rintro e w7 ⟨rfl, hb7, j7⟩
  have C7 := C6.fresh j7 (Nat.le_refl _) hb7
  have hset : Hid ((PaC ⟨x16, ID, (x17.toNat : Int), (x18.toNat : Int), []⟩ (.slice none 0 0)).set 4 (.slice (some ⟨w6.heap.size, 0, none⟩) S S) = PaC P (.slice (some ⟨w6.heap.size, 0, none⟩) S S)) := hid (by rw [hP0]; rfl)
  clear hb7 j7 hb6 ho6 C4 C5 hCp m0 hP0
  by_cases hc0 : CE = 0
  · subst hc0
    go_wp2_with (first
      | (refine wpList_store_in rfl rfl _ _ _ rfl w4.drew.heap.size 4 _ _ (C7.nth 1 rfl) rfl (by rw [PaC_length]; omega) rfl (by kernel_rfl) ?_; intro v8 w8 hv8 hb8 ho8; simp [go_sem] at hv8; subst hv8; rw [hset.out] at hb8
         have C8 := C7.write 1 rfl ho8 hb8)
      | (refine load_Pa rfl _ rfl (C8.nth 1 rfl) rfl ?_)
      | fail)
    (refine (hCk.out _ _ _).mono ?_); rintro e w9 ⟨rfl, j9⟩
    have C9 := C8.later j9
    have hR9 := hid (hR2.out _ (hb.later C9.lat))
    by_cases hcs : c = 30 + S
    all_goals
      have hR10 := hid (by first | exact hR9.out.2 hcs | exact hR9.out.1 hcs)
      go_wp2_with fail
      (with_reducible refine (hZ2.out _ _ _ hR10.out).mono ?_); rintro e w10 ⟨rfl, j10⟩
      have C10 := C9.later j10
      cases F2
      · replace hE := hid (hE.out.trans (if_pos (.inr rfl)))
        have HE : E = 3 := hE.out
        have HP : PP = prt0 := by rw [hP.out, if_neg (by rw [HE]; decide)]
        replace HE := hid HE
        replace HP := hid HP
        clear hP hE
        go_wp2_with (first
          | (refine wpList_build_w rfl 86 _ rfl (PaC prt0 (.slice none 0 0)) (by simp only [List.map_toArray, List.map_nil]; exact hb0) ?_)
          | (refine store_Pa rfl rfl _ _ rfl (C10.nth 2 rfl) rfl rfl rfl rfl ?_; intro e7 eb7 eo7
             have E7 := C10.write 2 rfl eo7 eb7)
          | fail)
        exact bodyPost_ret (results_blk_tmp rfl _ _ _ _ _ _ eb7 rfl Tryz.underlying86 rfl (by rw [PaC_length]; exact size5p)) rfl ⟨none, 0, by rw [HE.out, HP.out]; rfl, by rw [HP.out]; exact own_nil _ _ _, E7.lat⟩
      · replace hE := hid (hE.out.trans (if_neg (by simp)))
        have HP : PP = P := by rw [hP.out, if_pos hE.out]
        replace HP := hid HP
        go_wp2_with (first
          | (refine load_Pa rfl _ rfl (C10.nth 1 rfl) rfl ?_)
          | (refine store_Pa rfl rfl _ _ rfl (C10.nth 2 rfl) rfl rfl rfl rfl ?_; intro e7 eb7 eo7
             have E7 := C10.write 2 rfl eo7 eb7)
          | fail)
        refine bodyPost_ret (results_blk_tmp rfl _ _ _ _ _ _ eb7 rfl Tryz.underlying86 rfl (by rw [PaC_length]; exact size5p)) rfl ⟨some ⟨w6.heap.size, 0, none⟩, S, by rw [hE.out, HP.out, hdl]; rfl, ?_, E7.lat⟩
        rw [HP.out, hda.out]
        have hDl : D.length = S := by rw [← hda.out]; exact hdl
        have := own_of_blk (E7.nth 0 rfl) (E7.at_low 0 rfl) (by rw [List.length_map, hDl]; omega)
        rw [List.length_map, hDl] at this
        rw [hDl]
        exact this
  · have hne : ((CE : Int) != 0) = true := by simp; omega
    replace hE := hid (hE.out.trans (if_pos (.inl hc0)))
    clear hc0
    have HE : E = 3 := hE.out
    have HP : PP = prt0 := by rw [hP.out, if_neg (by rw [HE]; decide)]
    replace HE := hid HE
    replace HP := hid HP
    clear hP hE
    go_wp2_with (first
      | (refine wpList_store_in rfl rfl _ _ _ rfl w4.drew.heap.size 4 _ _ (C7.nth 1 rfl) rfl (by rw [PaC_length]; omega) rfl (by kernel_rfl) ?_; intro v8 w8 hv8 hb8 ho8; simp [go_sem] at hv8; subst hv8; rw [hset.out] at hb8
         have C8 := C7.write 1 rfl ho8 hb8)
      | (refine load_Pa rfl _ rfl (C8.nth 1 rfl) rfl ?_)
      | fail)
    (refine (hCk.out _ _ _).mono ?_); rintro e w9 ⟨rfl, j9⟩
    have C9 := C8.later j9
    go_wp2_with (first
      | (refine wpList_build_w rfl 86 _ rfl (PaC prt0 (.slice none 0 0)) (by simp only [List.map_toArray, List.map_nil]; exact hb0) ?_)
      | (refine store_Pa rfl rfl _ _ rfl (C9.nth 2 rfl) rfl rfl rfl rfl ?_; intro e7 eb7 eo7
         have E7 := C9.write 2 rfl eo7 eb7)
      | fail)
    exact bodyPost_ret (results_blk_tmp rfl _ _ _ _ _ _ eb7 rfl Tryz.underlying86 rfl (by rw [PaC_length]; exact size5p)) rfl ⟨none, 0, by rw [HE.out, HP.out]; rfl, by rw [HP.out]; exact own_nil _ _ _, E7.lat⟩
end Go.Proofs.YtdojjnbpidogfaaGreat

