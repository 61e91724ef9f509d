/-
  shallotref05: Norm, high, folded.
-/
import Derived.Test.YtmdjhbiiifnfiaaNRef1
namespace Go.Proofs.Ytmdjhbiiifnfiaa
open Go.RowKit

/-- The number that lies in a block. -/
def decV : Option Value → Nat
  | some (.int _ x) => x.toNat
  | _ => 0
def lies (B k : Nat) (g : Nat) (w : World) : Nat := val B ((List.range k).map fun i => decV (w.cell? ⟨g, i, none⟩))
theorem range_dig (B n : Nat) : ∀ k, (List.range k).map (fun i => n / B ^ i % B) = dig B k n
  | 0 => rfl
  | k + 1 => by rw [List.range_succ, List.map_append, range_dig B n k, dig_snoc]; rfl
theorem lies_N {w : World} {g : Nat} {t : TypeId} {n : Nat} (h : Blk w g t (NL n)) (hn : n < T256) : lies B32 8 g w = n := by
  have e : (List.range 8).map (fun i => decV (w.cell? ⟨g, i, none⟩)) = dig B32 8 n := by
    rw [← range_dig]
    apply List.map_congr_left
    intro i hi
    rw [h.cellD i (NL_get n i (List.mem_range.1 hi)), n32_eq (n := lem n i) (Nat.mod_lt _ B32_pos)]
    show Int.toNat ((lem n i : Nat) : Int) = _
    rw [Int.toNat_natCast]
    rfl
  rw [lies, e, val_dig, B32_8, Nat.mod_eq_of_lt hn]
theorem lies_V {w : World} {g : Nat} {t : TypeId} {n : Nat} (h : Blk w g t (VL n)) (hn : n < B32 ^ 17) : lies B32 17 g w = n := by
  have e : (List.range 17).map (fun i => decV (w.cell? ⟨g, i, none⟩)) = dig B32 17 n := by
    rw [← range_dig]
    apply List.map_congr_left
    intro i hi
    rw [h.cellD i (VL_get n i (List.mem_range.1 hi)), n64_eq (n := lem n i) (Nat.lt_trans (Nat.mod_lt _ B32_pos) (by decide))]
    show Int.toNat ((lem n i : Nat) : Int) = _
    rw [Int.toNat_natCast]
    rfl
  rw [lies, e, val_dig, Nat.mod_eq_of_lt hn]
set_option maxRecDepth 100000 in
set_option maxHeartbeats 2000000 in
theorem norm_ref (n : Nat) (hn : n < T256) (w : World) :
    Calls Try.prog 26 #[NN n] w fun e w' => e = .returned (NN (n % P25)) ∧ Later w w' := by
  go_enter Try.func26, Try.ntmps26
  go_wp2
  go_loopw [] (fun wr => ∃ m : Nat, m < T256 ∧ Hid (m % P25 = n % P25) ∧ Blk wr w.heap.size 35 (NL m) ∧ Blk wr (w.heap.size + 1) 35 (List.replicate 8 (.int .u32 0)) ∧ Later w wr) (fun wr => lies B32 8 w.heap.size wr)
  case atStart => exact ⟨n, hn, hid rfl, (Blk.new _ _ _).later (later_alloc _ _), Blk.new' _ _ (List.replicate 8 (Value.int .u32 0)) (by simp), (later_alloc _ _).trans (later_alloc _ _)⟩
  case round =>
    obtain ⟨m, hm, HM, h1, h2, L⟩ := hrel
    have hmin := fun w => minus_any m P25 (by decide) w
    rw [owed_end m P25 8 (by rw [B32_8]; exact hm) (by decide)] at hmin
    have HMIN := hid hmin
    clear hmin
    go_wp2_with fail
    refine wp_region_makers [0] [([], 1, 1), ([], 1, 2), ([3, 4, 5], 2, 6)] [] [7, 8] [6] (fun _ => (fun g => .pointer (some ⟨g, 0, none⟩), .cells (List.replicate 8 (Value.int .u32 0)).toArray 35)) (by as_aux_lemma => kernel_rfl) (by as_aux_lemma => kernel_rfl) (by intro _ _ d _ _ h; cases d <;> exact h) (by intro _ _ d _ _ h; cases d <;> exact h) ?_
    simp only [pick, List.getElem?_cons_succ, List.getElem?_cons_zero, Option.toList_some, List.cons_append, List.nil_append]
    repeat (first | go_big_quiet_skip | (go_big_quiet_want; refine quiet_N _ rfl h1.drew rfl ?_; simp only [Act.put, List.setIfInBounds_toArray, List.set_cons_succ, List.set_cons_zero]; go_big_quiet_on) | (go_big_quiet_step (fail)))
    refine wpQuiet_nil ?_
    refine ⟨?mk, ?_⟩
    case mk =>
      refine ⟨fun o ho => ?_, trivial⟩
      simp only [List.getElem?_cons_succ, List.getElem?_cons_zero, Option.some.injEq] at ho
      subst ho
      refine ⟨rfl, fun W => ?_⟩
      unfold execOp
      simp [go_sem]
    simp only [wpPartsM, pick, List.getElem?_cons_succ, List.getElem?_cons_zero, Option.toList_some, List.cons_append, List.nil_append]
    refine wpQuiet_nil ?_
    intro w2 hl2
    go_wp2_with fail
    (with_reducible refine (prime_any _).mono ?_); rintro e w3 ⟨rfl, hl3⟩
    go_wp2_with fail
    try refine ⟨by first | assumption | exact later_drew _ | exact later_alloc _ _ | exact Later.refl _, ?_⟩
    try simp only [wpParts, pick, List.getElem?_cons_succ, List.getElem?_cons_zero, Option.toList_some, List.cons_append, List.nil_append]
    repeat (go_big_quiet_step (fail))
    refine wpQuiet_nil ?_
    intro w3' hl3'
    go_wp2_with fail
    (with_reducible refine (HMIN.out _).mono ?_); rintro e w4 ⟨rfl, hl4⟩
    obtain ⟨X, hX⟩ : ∃ X : Bool, X = ((if m < P25 then 1 else 0) == 1) := ⟨_, rfl⟩
    rw [← hX]
    have HX := hid hX
    clear hX
    go_wp2_with fail
    try refine ⟨by first | assumption | exact later_drew _ | exact later_alloc _ _ | exact Later.refl _, ?_⟩
    try simp only [wpParts, pick, List.getElem?_cons_succ, List.getElem?_cons_zero, Option.toList_some, List.cons_append, List.nil_append]
    repeat (go_big_quiet_step (fail))
    refine wpQuiet_nil ?_
    intro w6 g6 hl6 hg6 _ hb6
    refine wpQuiet_nil ?_
    intro w7 hl7
    have Lr : Later wr w7 := (((((later_drew _).trans hl2).trans hl3).trans hl3').trans hl4).trans (hl6.trans hl7)
    have hB : Blk w7 g6 35 (List.replicate 8 (Value.int .u32 0)) := Blk.later hb6 hl7
    have hA := h1.later Lr
    have hR := h2.later Lr
    have L7 := L.trans Lr
    have hlt1 := h1.lt
    have hlt2 := h2.lt
    have hgg := h1.lt
    clear h2 hl2 hl3 hl3' hl4 hl6 hl7 hb6 Lr
    rcases Nat.lt_or_ge m P25 with hmp | hmp
    · obtain rfl : X = true := by rw [HX.out, if_pos hmp]; rfl
      have hmn := HM.out
      rw [Nat.mod_eq_of_lt hmp] at hmn
      have HN := hid hmn
      clear hmn
      go_wp2_with (first
        | (refine store_N rfl rfl _ _ rfl hB rfl rfl rfl ?_; intro w8 hb8 ho8
           have hA8 := hA.only ho8 (by omega)
           have hR8 := hR.only ho8 (by omega)
           have L8 := L7.only ho8 (by omega))
        | (refine load_N rfl _ rfl hA8 rfl ?_)
        | (refine store_N rfl rfl _ _ rfl hR8 rfl rfl rfl ?_; intro w9 hb9 ho9)
        | fail)
      exact bodyPost_ret (ret_N rfl hb9 rfl) rfl ⟨by rw [← HN.out], L8.only ho9 (by omega)⟩
    · obtain rfl : X = false := by rw [HX.out, if_neg (by omega)]; rfl
      have hs1 : NL (m + T256 - P25) = NL (m - P25) := NL_cong (by unfold T256 P25 at *; omega)
      have HS := hid hs1
      clear hs1
      go_wp2_with (first
        | (refine store_N rfl rfl _ _ rfl hB rfl rfl rfl ?_; intro w8 hb8 ho8
           have hA8 := hA.only ho8 (by omega)
           have hR8 := hR.only ho8 (by omega)
           have L8 := L7.only ho8 (by omega))
        | (refine load_N rfl _ rfl hb8 rfl ?_)
        | (refine store_N rfl rfl _ _ rfl hA8 rfl rfl (NL_length _) ?_; intro w9 hb9 ho9)
        | fail)
      go_roundw
      case rel =>
        rw [HS.out] at hb9
        exact ⟨_, _, _, _, _, _, _, _, _, _, _, ⟨m - P25, by omega, hid (by rw [← HM.out]; exact (Nat.mod_eq_sub_mod hmp).symm), hb9, hR8.only ho9 (by omega), L8.only ho9 (by omega)⟩, rfl⟩
      case measure =>
        rw [HS.out] at hb9
        have e1 := lies_N hb9 (by omega)
        have e2 := lies_N h1 hm
        have := P25_pos
        omega
end Go.Proofs.Ytmdjhbiiifnfiaa
