/-
  shallotlaw05: FieldReads, FieldSubs.
-/
import Derived.Test.YtmdjhbiiifnfiaaFLaw1
namespace Go.Proofs.Ytmdjhbiiifnfiaa
open Go.RowKit

theorem lawIs_eq (a : Nat) (ha : a < T256) (w : World) :
    Calls Try.prog 21 #[E a, NN a] w fun e w' => e = .returned (.bool true) ∧ Later w w' :=
  (lawIs_any a a ha ha w).mono fun e w' ⟨he, hl⟩ => ⟨by rw [he, beq_self_eq_true], hl⟩
theorem readN_lt (bs : List UInt8) : readN bs < P25 := by
  unfold readN
  split
  · exact Nat.mod_lt _ P25_pos
  · exact P25_pos
theorem readN_nb (x : Nat) (h : x < P25) : readN (nb x) = x := by
  have hT : x < T256 := Nat.lt_trans h (by decide)
  rw [readN, if_pos (nb_length x), num_nb x hT, Nat.mod_eq_of_lt (show x < T255 from Nat.lt_trans h (by decide)), Nat.mod_eq_of_lt h]
set_option maxRecDepth 100000 in
set_option maxHeartbeats 2000000 in
theorem fieldReads_walk (A : Option Addr) (n c : Nat) (bs : List UInt8) (w : World) (hr : RdB w A n bs) (hn : n ≤ 140737488355328) :
    Calls Try.prog 7 #[.slice A n c] w fun e w' => e = .returned (.bool true) ∧ Later w w' := by
  have hbl := hr.len
  have hlt := readN_lt bs
  have hltT : readN bs < T256 := Nat.lt_trans hlt (by decide)
  by_cases h32 : bs.length = 32
  · have hE : readE bs = 0 := by rw [readE, if_pos h32]
    have hRA := fun A n c w => read_any A n c bs w
    have hRR := fun A n c w => read_ref A n c bs w
    rw [hE] at hRA hRR
    have HRA := hid hRA
    have HRR := hid hRR
    have HNB := hid (readN_nb (readN bs) hlt)
    have HEB := hid (show readE (nb (readN bs)) = 0 by rw [readE, if_pos (nb_length _)])
    have HMM := hid (Nat.mod_eq_of_lt hlt)
    clear hRA hRR hE h32 hlt
    generalize readN bs = X at *
    go_enter Try.func7, Try.ntmps7
    go_wp2_with fail
    (with_reducible refine (awake05 _).mono ?_); rintro e w2 ⟨rfl, hl2⟩
    go_wp2_with fail
    (with_reducible refine (copy_any A n c bs _ (hr.later hl2) (by omega)).mono ?_); rintro e w3 ⟨A3, c3, rfl, hown3, hl3⟩
    go_wp2_with fail
    (with_reducible refine (HRA.out A3 n c3 w3 hown3.rd (by omega)).mono ?_); rintro e w4 ⟨rfl, hl4⟩
    go_wp2_with (first
      | (refine store_E rfl rfl _ _ rfl (Blk.new w4 _ (List.replicate 4 (.int .u64 0))) rfl rfl rfl ?_; intro w5 hb5 ho5
         have L5 : Later w w5 := (((hl2.trans hl3).trans hl4).alloc (.cells (List.replicate 4 (Value.int .u64 0)).toArray 28)).only ho5 (by have := ((hl2.trans hl3).trans hl4).size; omega)
         clear hl2 hl3 hl4 hown3 ho5)
      | fail)
    (with_reducible refine (HRR.out A n c w5 (hr.later L5) (by omega)).mono ?_); rintro e w6 ⟨rfl, hl6⟩
    go_wp2_with (first
      | (refine store_N rfl rfl _ _ rfl (Blk.new w6 _ (List.replicate 8 (.int .u32 0))) rfl rfl rfl ?_; intro w7 hb7 ho7
         have hx7 := ((hb5.later hl6).later (later_alloc _ (.cells (List.replicate 8 (Value.int .u32 0)).toArray 35))).only ho7 (Nat.ne_of_lt (hb5.later hl6).lt)
         have L7 : Later w w7 := ((L5.trans hl6).alloc (.cells (List.replicate 8 (Value.int .u32 0)).toArray 35)).only ho7 (by have := (L5.trans hl6).size; omega)
         clear hl6 ho7 L5)
      | (refine load_E rfl _ rfl hx7 rfl ?_)
      | (refine load_N rfl _ rfl hb7 rfl ?_)
      | fail)
    (with_reducible refine (lawIs_eq X hltT _).mono ?_); rintro e w8 ⟨rfl, hl8⟩
    have hx8 := hx7.later hl8
    have hy8 := hb7.later hl8
    have L8 := L7.trans hl8
    clear hx7 hb7 L7 hl8
    have hBy := hid (bytes_any X hltT)
    have hBr := hid (bytes_ref X hltT)
    rw [HMM.out] at hBy hBr
    go_wp2_with (first
      | (refine load_E rfl _ rfl hx8 rfl ?_)
      | fail)
    (with_reducible refine (hBy.out _).mono ?_); rintro e w9 ⟨rfl, hl9⟩
    go_wp2_with (first
      | (refine store_B rfl rfl _ _ rfl (Blk.new w9 _ (List.replicate 32 (.int .u8 0))) rfl rfl (nb_length _) rfl ?_; intro w10 hb10 ho10
         have hx10 := ((hx8.later hl9).later (later_alloc _ (.cells (List.replicate 32 (Value.int .u8 0)).toArray 42))).only ho10 (Nat.ne_of_lt (hx8.later hl9).lt)
         have hy10 := ((hy8.later hl9).later (later_alloc _ (.cells (List.replicate 32 (Value.int .u8 0)).toArray 42))).only ho10 (Nat.ne_of_lt (hy8.later hl9).lt)
         have L10 : Later w w10 := ((L8.trans hl9).alloc (.cells (List.replicate 32 (Value.int .u8 0)).toArray 42)).only ho10 (by have := (L8.trans hl9).size; omega)
         clear hl9 ho10 L8 hx8 hy8)
      | fail)
    have hRB := hid (read_any (some ⟨w9.heap.size, 0, none⟩) 32 32 (nb X) w10 (blk_rdB hb10 (nb_length X)) (by omega))
    rw [HNB.out, HEB.out] at hRB
    (with_reducible refine (hRB.out).mono ?_); rintro e w11 ⟨rfl, hl11⟩
    go_wp2_with (first
      | (refine store_E rfl rfl _ _ rfl (Blk.new w11 _ (List.replicate 4 (.int .u64 0))) rfl rfl rfl ?_; intro w12 hb12 ho12
         have hx12 := ((hx10.later hl11).later (later_alloc _ (.cells (List.replicate 4 (Value.int .u64 0)).toArray 28))).only ho12 (Nat.ne_of_lt (hx10.later hl11).lt)
         have hy12 := ((hy10.later hl11).later (later_alloc _ (.cells (List.replicate 4 (Value.int .u64 0)).toArray 28))).only ho12 (Nat.ne_of_lt (hy10.later hl11).lt)
         have hz12 := ((hb10.later hl11).later (later_alloc _ (.cells (List.replicate 4 (Value.int .u64 0)).toArray 28))).only ho12 (Nat.ne_of_lt (hb10.later hl11).lt)
         have L12 : Later w w12 := ((L10.trans hl11).alloc (.cells (List.replicate 4 (Value.int .u64 0)).toArray 28)).only ho12 (by have := (L10.trans hl11).size; omega)
         clear hl11 ho12 L10 hx10 hy10 hb10)
      | fail)
    refine wp_region_parts [([0, 1], 2)] [3, 4, 5, 6, 7, 8, 9, 10, 11, 12, 13] [] (by as_aux_lemma => kernel_rfl) (by as_aux_lemma => kernel_rfl) (by intro _ _ d _ _ h; cases d <;> exact h) ?_
    simp only [wpParts, pick, List.getElem?_cons_succ, List.getElem?_cons_zero, Option.toList_some, List.cons_append, List.nil_append]
    repeat (first | go_big_quiet_skip | (go_big_quiet_want; (first | refine quiet_B _ rfl hz12.drew (nb_length X) rfl ?_ | refine quiet_N _ rfl hy12.drew rfl ?_); simp only [Act.put, List.setIfInBounds_toArray, List.set_cons_succ, List.set_cons_zero]; go_big_quiet_on) | (go_big_quiet_step (fail)))
    refine wpQuiet_nil ?_
    go_wp2_with fail
    (with_reducible refine (hBr.out _).mono ?_); rintro e w13 ⟨rfl, hl13⟩
    have hx13 := (hx12.drew).later hl13
    have hb13 := (hb12.drew).later hl13
    go_wp2_with fail
    have hbb : ∀ W, (binOp .eql 42 (BB X) (BB X)).run Try.prog W = .ok (.bool true) W := fun W => by rw [run_eql_b32 _ _ (nb_length X) (nb_length X), beq_self_eq_true]
    try refine ⟨by first | assumption | exact later_drew _ | exact later_alloc _ _ | exact Later.refl _, ?_⟩
    try simp only [wpParts, pick, List.getElem?_cons_succ, List.getElem?_cons_zero, Option.toList_some, List.cons_append, List.nil_append]
    repeat (first | go_big_quiet_skip | (go_big_quiet_want; (first | refine quiet_E _ rfl hx13 rfl ?_ | refine quiet_E _ rfl hb13 rfl ?_); simp only [Act.put, List.setIfInBounds_toArray, List.set_cons_succ, List.set_cons_zero]; go_big_quiet_on) | (go_big_quiet_step (fail)))
    refine wpQuiet_nil ?_
    go_wp2
    go_ret
    exact ⟨rfl, ((L12.trans (later_drew _)).trans hl13)⟩
  · have hE : readE bs = 2 := by rw [readE, if_neg h32]
    have hX : readN bs = 0 := by rw [readN, if_neg h32]
    have hRA := fun A n c w => read_any A n c bs w
    have hRR := fun A n c w => read_ref A n c bs w
    rw [hE, hX] at hRA hRR
    have HRA := hid hRA
    have HRR := hid hRR
    clear hRA hRR hE h32 hX hlt hltT
    go_enter Try.func7, Try.ntmps7
    go_wp2_with fail
    (with_reducible refine (awake05 _).mono ?_); rintro e w2 ⟨rfl, hl2⟩
    go_wp2_with fail
    (with_reducible refine (copy_any A n c bs _ (hr.later hl2) (by omega)).mono ?_); rintro e w3 ⟨A3, c3, rfl, hown3, hl3⟩
    go_wp2_with fail
    (with_reducible refine (HRA.out A3 n c3 w3 hown3.rd (by omega)).mono ?_); rintro e w4 ⟨rfl, hl4⟩
    go_wp2_with (first
      | (refine store_E (n := 0) rfl rfl _ _ rfl (Blk.new w4 _ (List.replicate 4 (.int .u64 0))) rfl rfl rfl ?_; intro w5 hb5 ho5
         have L5 : Later w w5 := (((hl2.trans hl3).trans hl4).alloc (.cells (List.replicate 4 (Value.int .u64 0)).toArray 28)).only ho5 (by have := ((hl2.trans hl3).trans hl4).size; omega)
         clear hl2 hl3 hl4 hown3 ho5)
      | fail)
    (with_reducible refine (HRR.out A n c w5 (hr.later L5) (by omega)).mono ?_); rintro e w6 ⟨rfl, hl6⟩
    go_wp2_with (first
      | (refine store_N (n := 0) rfl rfl _ _ rfl (Blk.new w6 _ (List.replicate 8 (.int .u32 0))) rfl rfl rfl ?_; intro w7 hb7 ho7
         have hx7 := ((hb5.later hl6).later (later_alloc _ (.cells (List.replicate 8 (Value.int .u32 0)).toArray 35))).only ho7 (Nat.ne_of_lt (hb5.later hl6).lt)
         have L7 : Later w w7 := ((L5.trans hl6).alloc (.cells (List.replicate 8 (Value.int .u32 0)).toArray 35)).only ho7 (by have := (L5.trans hl6).size; omega)
         clear hl6 ho7 L5)
      | (refine load_E rfl _ rfl hx7 rfl ?_)
      | (refine load_N rfl _ rfl hb7 rfl ?_)
      | fail)
    (with_reducible refine (lawIs_eq 0 (by decide) _).mono ?_); rintro e w8 ⟨rfl, hl8⟩
    go_wp2
    go_ret
    exact ⟨rfl, L7.trans hl8⟩
end Go.Proofs.Ytmdjhbiiifnfiaa
