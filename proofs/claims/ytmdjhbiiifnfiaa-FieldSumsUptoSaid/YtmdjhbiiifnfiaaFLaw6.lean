/-
  shallotlaw05: list, FieldSums.
-/
import Derived.Test.YtmdjhbiiifnfiaaFLaw5
import Derived.Test.YtmdjhbiiifnfiaaAppend
namespace Go.Proofs.Ytmdjhbiiifnfiaa
open Go.RowKit

theorem infoE : (Try.prog.info? 28).map (fun i => (i.zero, i.size, i.bytes)) = some (some (.agg #[.int .u64 0, .int .u64 0, .int .u64 0, .int .u64 0]), 4, 32) := by kernel_rfl
theorem flat_take (ns : List Nat) (k : Nat) (h : k < ns.length) : (ns.take (k + 1)).flatMap EL = (ns.take k).flatMap EL ++ EL (ns.getD k 0) := by
  rw [List.take_succ_eq_append_getElem h, List.flatMap_append, List.getD_eq_getElem?_getD, List.getElem?_eq_getElem h]
  simp
set_option maxRecDepth 100000 in
set_option maxHeartbeats 2000000 in
theorem list_any (A : Option Addr) (n c : Nat) (ns : List Nat) (w : World) (hr : RdE w A n ns) (hn : n ≤ 1048576) :
    Calls Try.prog 37 #[.slice A n c] w fun e w' => ∃ A' c', e = .returned (.slice A' n c') ∧ n ≤ c' ∧ RdE w' A' n ns ∧ Later w w' := by
  have hnl := hr.1
  go_enter Try.func37, Try.ntmps37
  go_wp2
  go_loopw [3, 8] (fun v i wr => ∃ k : Nat, k ≤ n ∧ i = .int .i64 k ∧ wr.ownsRow w.heap.size 28 4 v k ((ns.take k).flatMap EL) ∧ Later w wr) (fun _ i _ => n - (intOf i).toNat)
  case atStart => exact ⟨0, by omega, rfl, World.ownsRow_nil w _ _ 4, Later.refl w⟩
  case round =>
    obtain ⟨k, hk, rfl, hown, L⟩ := hrel
    by_cases hlt : k < n
    · obtain ⟨b, o, rfl, hb, hc⟩ := (hr.later L).2 (by omega)
      have hc' := fun i v hv => hc k i v hlt hv
      have HT := hid (flat_take ns k (by omega))
      generalize ns.getD k 0 = x at *
      have HC := hid hc'
      clear hc hc' hr
      go_wp2_with (first
        | (refine wpList_load_agg rfl 24 _ rfl b (o + k * 4) (EL x) ?hc ?hx _ Try.underlying24 rfl ?hi ?_; (case hx => rfl); (case hi => rw [EL_length]; exact size4); (case hc => intro j v hv; exact HC.out j v hv))
        | (refine store_4 (g := wr.heap.size) rfl rfl _ _ rfl (Blk.new _ _ (List.replicate 4 (.int .u64 0))) rfl rfl rfl ?_; intro w3 hb3 ho3
           have L3 : Later wr w3 := (later_alloc _ _).only ho3 (by omega))
        | (refine load_4 rfl _ rfl hb3 rfl ?_)
        | (refine build_row1 rfl _ rfl x rfl ?_)
        | (refine wpList_append_s rfl _ _ _ rfl 28 _ 4 32 Try.underlying56 infoE rfl (by omega) w _ k _ (own_later_s hown (L3.trans (later_alloc _ _))) ((L.trans L3).trans (later_alloc _ _)) w3.heap.size 1 1 28 (EL x) (Blk.new _ _ _) (by rw [EL_length]) (EL_one x) rfl rfl (by omega) (by omega) ?_; intro v4 w4 hown4 hl4 hg4)
        | fail)
      go_roundw
      case rel => exact ⟨k + 1, by omega, by go_num, by rw [HT.out]; exact hown4, hl4⟩
      case measure => simp [intOf]; omega
    · rw [show k = n by omega, List.take_of_length_le (by omega)] at hown
      obtain ⟨A', c', rfl, hc'⟩ := own_shape_s hown
      have hkf : decide ((k : Int) < (n : Int)) = false := by simp; omega
      go_wp2
      go_ret
      exact ⟨A', c', rfl, hc', own_rdE hown hnl, L⟩
theorem sum_nil (w : World) : Calls Try.prog 35 #[.slice none 0 0] w fun e w' => e = .returned (E 0) ∧ Later w w' := by
  have := sum_any none 0 0 [] w (rdE_none w) (by simp) (by omega)
  simpa using this
theorem product_nil (w : World) : Calls Try.prog 25 #[.slice none 0 0] w fun e w' => e = .returned (E 1) ∧ Later w w' := by
  have := product_any none 0 0 [] w (rdE_none w) (by simp) (by omega) (by omega)
  rwa [show prodN [] % P25 = 1 from rfl] at this
set_option maxRecDepth 100000 in
set_option maxHeartbeats 4000000 in
theorem fieldSums_walk (A : Option Addr) (n c : Nat) (ns : List Nat) (w : World) (hr : RdE w A n ns) (hns : ∀ x ∈ ns, x < T256) (hn : n ≤ 1048576) :
    Calls Try.prog 6 #[.slice A n c] w fun e w' => e = .returned (.bool true) ∧ Later w w' := by
  have hnl := hr.1
  have hz0 : ∀ W, (binOp .neq 28 (E 0) (.agg #[.int .u64 0, .int .u64 0, .int .u64 0, .int .u64 0])).run Try.prog W = .ok (.bool false) W := fun W => run_neq_E 0 0 (by decide) (by decide) W
  have hz1 : ∀ W, (binOp .neq 28 (E 1) (.agg #[.int .u64 1, .int .u64 0, .int .u64 0, .int .u64 0])).run Try.prog W = .ok (.bool false) W := fun W => run_neq_E 1 1 (by decide) (by decide) W
  go_enter Try.func6, Try.ntmps6
  go_wp2_with fail
  (with_reducible refine (awake05 _).mono ?_); rintro e w2 ⟨rfl, hl2⟩
  go_wp2_with fail
  (with_reducible refine (sum_nil _).mono ?_); rintro e w3 ⟨rfl, hl3⟩
  go_wp2_with fail
  (with_reducible refine (product_nil _).mono ?_); rintro e w4 ⟨rfl, hl4⟩
  have L4 := (hl2.trans hl3).trans hl4
  clear hl2 hl3 hl4
  go_wp2_with (first
    | (refine store_N (g := w4.heap.size) (n := 0) rfl rfl _ _ rfl ((Blk.new w4 _ (List.replicate 8 (.int .u32 0))).later (later_alloc _ _)) rfl rfl rfl ?_; intro w5 hb5 ho5)
    | (refine store_N (g := w4.heap.size + 1) (n := 1) rfl rfl _ _ rfl ((Blk.new' _ _ (List.replicate 8 (.int .u32 0)) (by simp)).only ho5 (by omega)) rfl rfl rfl ?_; intro w6 hb6 ho6)
    | fail)
  have hS := hb5.only ho6 (by omega)
  have hP := hb6
  have L := (((L4.alloc _).alloc _).only ho5 (by have := L4.size; omega)).only ho6 (by have := L4.size; omega)
  have hgS : w.heap.size ≤ w4.heap.size := L4.size
  generalize w4.heap.size = g at *
  clear hb5 hb6 ho5 ho6 L4
  go_loopw [23] (fun i wr => ∃ k : Nat, k ≤ n ∧ i = .int .i64 k ∧ Blk wr g 35 (NL ((ns.take k).sum % P25)) ∧ Blk wr (g + 1) 35 (NL (prodN (ns.take k) % P25)) ∧ Later w wr) (fun i _ => n - (intOf i).toNat)
  case atStart => exact ⟨0, by omega, rfl, by rw [List.take_zero]; exact hS, by rw [List.take_zero]; exact hP, L⟩
  case round =>
    clear hS hP L
    obtain ⟨k, hk, rfl, hS, hP, L⟩ := hrel
    by_cases hlt : k < n
    · obtain ⟨b, o, rfl, hb, hc⟩ := (hr.later L).2 (by omega)
      have hc' := fun i v hv => hc k i v hlt hv
      have HTs := hid (take_sum ns k (by omega))
      have HTp := hid (take_prod ns k (by omega))
      have hx : ns.getD k 0 < T256 := hns _ (getD_mem (by omega))
      generalize ns.getD k 0 = x at *
      have HC := hid hc'
      clear hc hc' hr
      obtain ⟨s, hs⟩ : ∃ s, s = (ns.take k).sum % P25 := ⟨_, rfl⟩
      obtain ⟨p, hp⟩ : ∃ p, p = prodN (ns.take k) % P25 := ⟨_, rfl⟩
      rw [← hs] at hS
      rw [← hp] at hP
      have hsT : s < T256 := by rw [hs]; exact Nat.lt_trans (Nat.mod_lt _ P25_pos) (by decide)
      have hpT : p < T256 := by rw [hp]; exact Nat.lt_trans (Nat.mod_lt _ P25_pos) (by decide)
      have HAs := hid (show (s + x) % P25 = (ns.take (k + 1)).sum % P25 by rw [HTs.out, hs, Nat.mod_add_mod])
      have HAp := hid (show p * x % P25 = prodN (ns.take (k + 1)) % P25 by rw [HTp.out, hp, Nat.mod_mul_mod])
      clear hs hp
      have cA := hid (add_ref s x hsT hx)
      have cM := hid (mul_ref p x hpT hx)
      rw [HAs.out] at cA
      rw [HAp.out] at cM
      generalize hs1 : (ns.take (k + 1)).sum % P25 = s' at *
      generalize hp1 : prodN (ns.take (k + 1)) % P25 = p' at *
      have HS1 := hid hs1
      have HP1 := hid hp1
      clear hs1 hp1
      have hgl := hP.lt
      go_wp2_with (first
        | (refine wpList_load_agg rfl 24 _ rfl b (o + k * 4) (EL x) ?hc ?hx _ Try.underlying24 rfl ?hi ?_; (case hx => rfl); (case hi => rw [EL_length]; exact size4); (case hc => intro j v hv; exact HC.out j v hv))
        | (refine store_4 (g := wr.heap.size) rfl rfl _ _ rfl (Blk.new _ _ (List.replicate 4 (.int .u64 0))) rfl rfl rfl ?_; intro w3 hb3 ho3)
        | fail)
      have L3 : Later wr w3 := (later_alloc _ _).only ho3 (by omega)
      have hF := hb3.drew
      replace hS := (hS.later L3).drew
      replace hP := (hP.later L3).drew
      replace L := (L.trans L3).trans (later_drew _)
      refine wp_region_parts [([0, 1], 2)] [] [3, 4] (by as_aux_lemma => kernel_rfl) (by as_aux_lemma => kernel_rfl) (by intro _ _ d _ _ h; cases d <;> exact h) ?_
      simp only [wpParts, pick, List.getElem?_cons_succ, List.getElem?_cons_zero, Option.toList_some, List.cons_append, List.nil_append]
      repeat (first | go_big_quiet_skip | (go_big_quiet_want; (first | refine quiet_N _ rfl hS rfl ?_ | refine quiet_N _ rfl hP rfl ?_ | refine quiet_4 _ rfl hF rfl ?_); simp only [Act.put, List.setIfInBounds_toArray, List.set_cons_succ, List.set_cons_zero]; go_big_quiet_on) | (go_big_quiet_step (fail)))
      refine wpQuiet_nil ?_
      go_wp2_with fail
      (with_reducible refine (from_any x _).mono ?_); rintro e u1 ⟨rfl, k1⟩
      go_wp2_with fail
      try refine ⟨by first | assumption | exact later_drew _ | exact later_alloc _ _ | exact Later.refl _, ?_⟩
      try simp only [wpParts, pick, List.getElem?_cons_succ, List.getElem?_cons_zero, Option.toList_some, List.cons_append, List.nil_append]
      repeat (go_big_quiet_step (fail))
      refine wpQuiet_nil ?_
      go_wp2_with fail
      (with_reducible refine (cA.out _).mono ?_); rintro e u2 ⟨rfl, k2⟩
      go_wp2_with (first
        | (refine store_N rfl rfl _ _ rfl ((hS.later k1).later k2) rfl rfl (NL_length _) ?_; intro u3 hb4 ho4)
        | fail)
      have hF' := (((hF.later k1).later k2).only ho4 (by omega)).drew
      have hS' := hb4.drew
      have hP' := (((hP.later k1).later k2).only ho4 (by omega)).drew
      have L' := (((L.trans k1).trans k2).only ho4 hgS).trans (later_drew _)
      clear hF hS hP L k1 k2 hb4 ho4 hb3 ho3 L3
      refine wp_region_parts [([0, 1], 2)] [] [3, 4] (by as_aux_lemma => kernel_rfl) (by as_aux_lemma => kernel_rfl) (by intro _ _ d _ _ h; cases d <;> exact h) ?_
      simp only [wpParts, pick, List.getElem?_cons_succ, List.getElem?_cons_zero, Option.toList_some, List.cons_append, List.nil_append]
      repeat (first | go_big_quiet_skip | (go_big_quiet_want; (first | refine quiet_N _ rfl hS' rfl ?_ | refine quiet_N _ rfl hP' rfl ?_ | refine quiet_4 _ rfl hF' rfl ?_); simp only [Act.put, List.setIfInBounds_toArray, List.set_cons_succ, List.set_cons_zero]; go_big_quiet_on) | (go_big_quiet_step (fail)))
      refine wpQuiet_nil ?_
      go_wp2_with fail
      (with_reducible refine (from_any x _).mono ?_); rintro e u4 ⟨rfl, k4⟩
      go_wp2_with fail
      try refine ⟨by first | assumption | exact later_drew _ | exact later_alloc _ _ | exact Later.refl _, ?_⟩
      try simp only [wpParts, pick, List.getElem?_cons_succ, List.getElem?_cons_zero, Option.toList_some, List.cons_append, List.nil_append]
      repeat (go_big_quiet_step (fail))
      refine wpQuiet_nil ?_
      go_wp2_with fail
      (with_reducible refine (cM.out _).mono ?_); rintro e u5 ⟨rfl, k5⟩
      go_wp2_with (first
        | (refine store_N rfl rfl _ _ rfl ((hP'.later k4).later k5) rfl rfl (NL_length _) ?_; intro u6 hb7 ho7)
        | fail)
      go_roundw
      case rel => exact ⟨k + 1, by omega, by go_num, by rw [HS1.out]; exact ((hS'.later k4).later k5).only ho7 (by omega), by rw [HP1.out]; exact hb7, ((L'.trans k4).trans k5).only ho7 (by omega)⟩
      case measure => simp [intOf]; omega
    · rw [show k = n by omega, List.take_of_length_le (by omega)] at hS hP
      have hkf : decide ((k : Int) < (n : Int)) = false := by simp; omega
      have cI1 := hid (lawIs_eq (ns.sum % P25) (Nat.lt_trans (Nat.mod_lt _ P25_pos) (by decide)))
      have cI2 := hid (lawIs_eq (prodN ns % P25) (Nat.lt_trans (Nat.mod_lt _ P25_pos) (by decide)))
      have cS := hid (fun A c w h => sum_any A n c ns w h hns (by omega))
      have cP := hid (fun A c w h hc => product_any A n c ns w h hns hc (by omega))
      generalize ns.sum % P25 = s at *
      generalize prodN ns % P25 = p at *
      replace hS := hS.drew
      replace hP := hP.drew
      replace L := L.trans (later_drew _)
      go_wp2_with fail
      refine wp_region_parts [([0, 3], 1), ([], 2), ([], 4), ([5, 6, 9], 7), ([], 8), ([], 10)] [11, 12] [] (by as_aux_lemma => kernel_rfl) (by as_aux_lemma => kernel_rfl) (by intro _ _ d _ _ h; cases d <;> exact h) ?_
      simp only [wpParts, pick, List.getElem?_cons_succ, List.getElem?_cons_zero, Option.toList_some, List.cons_append, List.nil_append]
      repeat (first | go_big_quiet_skip | (go_big_quiet_want; (first | refine quiet_N _ rfl hS rfl ?_ | refine quiet_N _ rfl hP rfl ?_); simp only [Act.put, List.setIfInBounds_toArray, List.set_cons_succ, List.set_cons_zero]; go_big_quiet_on) | (go_big_quiet_step (fail)))
      refine wpQuiet_nil ?_
      go_wp2_with fail
      (with_reducible refine (list_any A n c ns _ (hr.later L) hn).mono ?_); rintro e u1 ⟨A1, c1, rfl, hc1, hr1, k1⟩
      go_wp2_with fail
      try refine ⟨by first | assumption | exact later_drew _ | exact later_alloc _ _ | exact Later.refl _, ?_⟩
      try simp only [wpParts, pick, List.getElem?_cons_succ, List.getElem?_cons_zero, Option.toList_some, List.cons_append, List.nil_append]
      repeat (go_big_quiet_step (fail))
      refine wpQuiet_nil ?_
      go_wp2_with fail
      (with_reducible refine (cS.out A1 c1 _ hr1).mono ?_); rintro e u2 ⟨rfl, k2⟩
      go_wp2_with fail
      try refine ⟨by first | assumption | exact later_drew _ | exact later_alloc _ _ | exact Later.refl _, ?_⟩
      try simp only [wpParts, pick, List.getElem?_cons_succ, List.getElem?_cons_zero, Option.toList_some, List.cons_append, List.nil_append]
      repeat (go_big_quiet_step (fail))
      refine wpQuiet_nil ?_
      go_wp2_with fail
      (with_reducible refine (cI1.out _).mono ?_); rintro e u3 ⟨rfl, k3⟩
      replace hS := ((hS.later k1).later k2).later k3
      replace hP := ((hP.later k1).later k2).later k3
      replace L := ((L.trans k1).trans k2).trans k3
      go_wp2_with fail
      try refine ⟨by first | assumption | exact later_drew _ | exact later_alloc _ _ | exact Later.refl _, ?_⟩
      try simp only [wpParts, pick, List.getElem?_cons_succ, List.getElem?_cons_zero, Option.toList_some, List.cons_append, List.nil_append]
      repeat (first | go_big_quiet_skip | (go_big_quiet_want; (first | refine quiet_N _ rfl hS rfl ?_ | refine quiet_N _ rfl hP rfl ?_); simp only [Act.put, List.setIfInBounds_toArray, List.set_cons_succ, List.set_cons_zero]; go_big_quiet_on) | (go_big_quiet_step (fail)))
      refine wpQuiet_nil ?_
      clear k1 k2 k3 hr1
      go_wp2_with fail
      (with_reducible refine (list_any A n c ns _ (hr.later L) hn).mono ?_); rintro e u4 ⟨A4, c4, rfl, hc4, hr4, k4⟩
      go_wp2_with fail
      try refine ⟨by first | assumption | exact later_drew _ | exact later_alloc _ _ | exact Later.refl _, ?_⟩
      try simp only [wpParts, pick, List.getElem?_cons_succ, List.getElem?_cons_zero, Option.toList_some, List.cons_append, List.nil_append]
      repeat (go_big_quiet_step (fail))
      refine wpQuiet_nil ?_
      go_wp2_with fail
      (with_reducible refine (cP.out A4 c4 _ hr4 hc4).mono ?_); rintro e u5 ⟨rfl, k5⟩
      go_wp2_with fail
      try refine ⟨by first | assumption | exact later_drew _ | exact later_alloc _ _ | exact Later.refl _, ?_⟩
      try simp only [wpParts, pick, List.getElem?_cons_succ, List.getElem?_cons_zero, Option.toList_some, List.cons_append, List.nil_append]
      repeat (go_big_quiet_step (fail))
      refine wpQuiet_nil ?_
      go_wp2_with fail
      (with_reducible refine (cI2.out _).mono ?_); rintro e u6 ⟨rfl, k6⟩
      go_wp2_with fail
      try refine ⟨by first | assumption | exact later_drew _ | exact later_alloc _ _ | exact Later.refl _, ?_⟩
      try simp only [wpParts, pick, List.getElem?_cons_succ, List.getElem?_cons_zero, Option.toList_some, List.cons_append, List.nil_append]
      repeat (go_big_quiet_step (fail))
      refine wpQuiet_nil ?_
      go_wp2
      go_ret
      exact ⟨rfl, ((L.trans k4).trans k5).trans k6⟩
end Go.Proofs.Ytmdjhbiiifnfiaa
