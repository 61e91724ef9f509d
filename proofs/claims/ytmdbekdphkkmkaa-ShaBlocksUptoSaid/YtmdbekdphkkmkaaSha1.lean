/-
  sha's inner functions: rotation, tables, schedule, compression; and the reference's.
-/
import Derived.Test.YtmdbekdphkkmkaaProg
import Derived.Test.YtmdbekdphkkmkaaMem
namespace Go.Proofs.Ytmdbekdphkkmkaa
open Go.RowKit

def rotr (x : UInt32) (n : Nat) : UInt32 := shr32 x n ||| shl32 x (32 - n)
theorem ret_w32 {x y : UInt32} (h : x = y) : Ending.returned (W32 x) = .returned (W32 y) := by rw [h]

set_option maxHeartbeats 400000 in
theorem right_ref (x : UInt32) (n : Nat) (h0 : n ≤ 32) (w : World) :
    Calls Try.prog 66 #[W32 x, .int .i64 n] w fun e w' => e = .returned (W32 (rotr x n)) ∧ w.drew = w' := by
  go_enter Try.func66, Try.ntmps66
  go_wp2
  refine wp_region_parts [] [0,1,2,3,4,5,6,7,8] [] (by as_aux_lemma => kernel_rfl) (by as_aux_lemma => kernel_rfl) (by intro _ _ d _ _ h; cases d <;> exact h) ?_
  simp only [wpParts, pick, List.getElem?_cons_succ, List.getElem?_cons_zero, Option.toList_some, List.cons_append, List.nil_append]
  repeat (go_big_quiet_step (fail))
  refine wpQuiet_nil ?_
  go_wp2
  go_ret
  exact ⟨rfl, rfl⟩
theorem rot_count (n : Nat) (h0 : 0 < n) (h1 : n < 32) : cnt (-UInt64.ofInt (n : Int) &&& 31) = 32 - n ∧ cnt (32 - (-UInt64.ofInt (n : Int) &&& 31)) = n := by
  have : ∀ k : Fin 32, 0 < k.val → cnt (-UInt64.ofInt (k.val : Int) &&& 31) = 32 - k.val ∧ cnt (32 - (-UInt64.ofInt (k.val : Int) &&& 31)) = k.val := by decide
  exact this ⟨n, h1⟩ h0
theorem rotl_any (x : UInt32) (n : Nat) (h0 : 0 < n) (h1 : n < 32) (w : World) :
    Calls Try.prog 79 #[W32 x, .int .i64 (-(n : Int))] w fun e w' => e = .returned (W32 (rotr x n)) ∧ w = w' := by
  have hc := hid (rot_count n h0 h1)
  go_enter Try.func79, Try.ntmps79
  go_wp2
  go_ret
  exact ⟨ret_w32 (by rw [hc.out.1, hc.out.2, rotr, UInt32.or_comm]), rfl⟩
theorem right_any (x : UInt32) (n : Int) (h0 : 0 < n) (h1 : n < 32) (w : World) :
    Calls Try.prog 64 #[W32 x, .int .i64 n] w fun e w' => e = .returned (W32 (rotr x n.toNat)) ∧ w = w' := by
  obtain ⟨n, rfl⟩ := Int.eq_ofNat_of_zero_le (Int.le_of_lt h0)
  rw [Int.toNat_natCast]
  go_enter Try.func64, Try.ntmps64
  go_wp2_with (go_at_call 79; refine (rotl_any _ n (by omega) (by omega) _).mono ?_; rintro e w' ⟨rfl, rfl⟩)
  go_ret
  exact ⟨rfl, rfl⟩

/-! ### The schedule -/
def byteAt (bs : List UInt8) (i : Nat) : UInt8 := bs.getD i 0
def wordAt (bs : List UInt8) (t : Nat) : UInt32 := shl32 (byteAt bs (4 * t)).toUInt32 24 ||| shl32 (byteAt bs (4 * t + 1)).toUInt32 16 ||| shl32 (byteAt bs (4 * t + 2)).toUInt32 8 ||| (byteAt bs (4 * t + 3)).toUInt32
def ssig0 (x : UInt32) : UInt32 := rotr x 7 ^^^ rotr x 18 ^^^ shr32 x 3
def ssig1 (x : UInt32) : UInt32 := rotr x 17 ^^^ rotr x 19 ^^^ shr32 x 10
/-- Word i of a list. -/
def wAt (l : List UInt32) (i : Nat) : UInt32 := l.getD i 0
def nextW (bs : List UInt8) (l : List UInt32) (t : Nat) : UInt32 :=
  if t < 16 then wordAt bs t else ssig1 (wAt l (t - 2)) + wAt l (t - 7) + ssig0 (wAt l (t - 15)) + wAt l (t - 16)
def sched (bs : List UInt8) : Nat → List UInt32
  | 0 => []
  | t + 1 => sched bs t ++ [nextW bs (sched bs t) t]
theorem sched_length (bs : List UInt8) (t : Nat) : (sched bs t).length = t := by
  induction t with
  | zero => rfl
  | succ t ih => simp [sched, ih]
/-- The array of the schedule behind t rounds. -/
def schedArr (bs : List UInt8) (t : Nat) : List Value := (sched bs t).map W32 ++ List.replicate (64 - t) (W32 0)
theorem schedArr_length (bs : List UInt8) (t : Nat) (h : t ≤ 64) : (schedArr bs t).length = 64 := by
  simp [schedArr, sched_length]
  omega
theorem schedArr_get (bs : List UInt8) (t j : Nat) (h : j < t) : (schedArr bs t)[j]? = some (W32 (wAt (sched bs t) j)) := by
  have hl := sched_length bs t
  rw [schedArr, List.getElem?_append_left (by simp [hl, h]), List.getElem?_map, List.getElem?_eq_getElem (by omega)]
  simp [hl, h, wAt]
theorem schedArr_step (bs : List UInt8) (t : Nat) (h : t < 64) : (schedArr bs t).set t (W32 (nextW bs (sched bs t) t)) = schedArr bs (t + 1) := by
  have hl := sched_length bs t
  have e : 64 - t = (64 - (t + 1)) + 1 := by omega
  rw [schedArr, e, List.replicate_succ, List.set_append_right _ _ (by simp [hl])]
  simp [schedArr, sched, hl]
theorem schedArr_old (bs : List UInt8) (t : Nat) (h : t < 64) : (schedArr bs t)[t]? = some (W32 0) := by
  have hl := sched_length bs t
  rw [schedArr, List.getElem?_append_right (by simp [hl])]
  simp [hl]
  rw [List.getElem?_replicate, if_pos (by omega)]

set_option maxRecDepth 100000 in
set_option maxHeartbeats 1000000 in
theorem schedule_any (A : Option Addr) (c : Nat) (bs : List UInt8) (w : World) (hr : RdB w A 64 bs) :
    Calls Try.prog 63 #[.slice A 64 c] w fun e w' => e = .returned (.agg (schedArr bs 64).toArray) ∧ Later w w' := by
  obtain ⟨b, o, rfl, hb, hc⟩ := hr.at_ (by omega)
  clear hr
  go_enter Try.func63, Try.ntmps63
  go_wp2
  go_loopw [4] (fun i wr => ∃ k : Nat, k ≤ 16 ∧ i = .int .i64 k ∧ Later w wr ∧ Blk wr w.heap.size 33 (List.replicate 64 (W32 0)) ∧ Blk wr (w.heap.size + 1) 33 (schedArr bs k)) (fun i _ => 16 - (intOf i).toNat)
  case atStart => exact ⟨0, by omega, rfl, ((Later.refl w).alloc _).alloc _, (Blk.new w _ (List.replicate 64 (W32 0))).later (later_alloc _ _), Blk.new' _ _ (schedArr bs 0) (by simp)⟩
  case round =>
    obtain ⟨k, hk, rfl, hl, hb2, hb3⟩ := hrel
    by_cases hlt : k < 16
    · have c0 : wr.cell? ⟨b, o + 4 * k, none⟩ = some (W8 (byteAt bs (4 * k))) := (hl.below.cell (p := ⟨b, o + 4 * k, none⟩) hb).trans (hc _ (by omega))
      have c1 : wr.cell? ⟨b, o + (4 * k + 1), none⟩ = some (W8 (byteAt bs (4 * k + 1))) := (hl.below.cell (p := ⟨b, o + (4 * k + 1), none⟩) hb).trans (hc _ (by omega))
      have c2 : wr.cell? ⟨b, o + (4 * k + 2), none⟩ = some (W8 (byteAt bs (4 * k + 2))) := (hl.below.cell (p := ⟨b, o + (4 * k + 2), none⟩) hb).trans (hc _ (by omega))
      have c3 : wr.cell? ⟨b, o + (4 * k + 3), none⟩ = some (W8 (byteAt bs (4 * k + 3))) := (hl.below.cell (p := ⟨b, o + (4 * k + 3), none⟩) hb).trans (hc _ (by omega))
      have d0 := hb3.cellD k (schedArr_old bs k (by omega))
      have d1 := hb3.frozen k
      go_wp2
      refine wp_region_parts [] [0, 1, 2, 3, 4, 5, 6, 7, 8, 9, 10, 11, 12, 13, 14, 15, 16, 17, 18, 19, 20, 21, 22, 23, 24, 25, 26, 27, 28, 29, 30, 31, 32, 33, 34] [35] (by as_aux_lemma => kernel_rfl) (by as_aux_lemma => kernel_rfl) (by intro _ _ d _ _ h; cases d <;> exact h) ?_
      simp only [wpParts, pick, List.getElem?_cons_succ, List.getElem?_cons_zero, Option.toList_some, List.cons_append, List.nil_append]
      repeat (go_big_quiet_step (fail))
      refine wpQuiet_nil ?_
      go_wp2_with (refine wpList_store_one rfl rfl _ _ _ rfl _ rfl rfl (by kernel_rfl) ?sc ?sf ?_; (case sc => go_simp; done); (case sf => first | assumption | (go_simp; done)); intro v hv; simp [go_sem] at hv; subst hv)
      go_roundw
      case rel =>
        refine ⟨k + 1, by omega, by go_num, hl.drew.setCell (by simp) _, hb2.drew.far (by simp) _, ?_⟩
        rw [← schedArr_step bs k (by omega), nextW, if_pos hlt]
        exact hb3.drew.set_ k _
      case measure => simp [intOf]; omega
    · rw [show k = 16 by omega] at hb3
      go_wp2
      go_loopw [5] (fun i wr => ∃ k : Nat, 16 ≤ k ∧ k ≤ 64 ∧ i = .int .i64 k ∧ Later w wr ∧ Blk wr w.heap.size 33 (List.replicate 64 (W32 0)) ∧ Blk wr (w.heap.size + 1) 33 (schedArr bs k)) (fun i _ => 64 - (intOf i).toNat)
      case atStart => exact ⟨16, by omega, by omega, rfl, hl, hb2, hb3⟩
      case round =>
        clear hl hb2 hb3
        obtain ⟨k, hk0, hk, rfl, hl, hb2, hb3⟩ := hrel
        by_cases hlt : k < 64
        · have c15 := hb3.cellD (k - 15) (schedArr_get bs k (k - 15) (by omega))
          have c2 := hb3.cellD (k - 2) (schedArr_get bs k (k - 2) (by omega))
          have c7 := hb3.cellD (k - 7) (schedArr_get bs k (k - 7) (by omega))
          have c16 := hb3.cellD (k - 16) (schedArr_get bs k (k - 16) (by omega))
          have d0 := hb3.cellD k (schedArr_old bs k (by omega))
          have d1 := hb3.frozen k
          go_wp2
          refine wp_region_parts [] [0, 1, 2, 3, 4, 5, 6, 7, 8, 9] [] (by as_aux_lemma => kernel_rfl) (by as_aux_lemma => kernel_rfl) (by intro _ _ d _ _ h; cases d <;> exact h) ?_
          simp only [wpParts, pick, List.getElem?_cons_succ, List.getElem?_cons_zero, Option.toList_some, List.cons_append, List.nil_append]
          repeat (go_big_quiet_step (fail))
          refine wpQuiet_nil ?_
          go_wp2_with (go_at_call 64; refine (right_any _ _ (by omega) (by omega) _).mono ?_; rintro e w' ⟨rfl, rfl⟩)
          refine wp_region_parts [] [0, 1, 2, 3, 4, 5, 6, 7, 8, 9, 10, 11, 12, 13, 14] [15] (by as_aux_lemma => kernel_rfl) (by as_aux_lemma => kernel_rfl) (by intro _ _ d _ _ h; cases d <;> exact h) ?_
          simp only [wpParts, pick, List.getElem?_cons_succ, List.getElem?_cons_zero, Option.toList_some, List.cons_append, List.nil_append]
          repeat (go_big_quiet_step (fail))
          refine wpQuiet_nil ?_
          go_wp2_with (refine wpList_store_one rfl rfl _ _ _ rfl _ rfl rfl (by kernel_rfl) ?sc ?sf ?_; (case sc => go_simp; done); (case sf => first | assumption | (go_simp; done)); intro v hv; simp [go_sem] at hv; subst hv)
          go_roundw
          case rel =>
            refine ⟨k + 1, by omega, by omega, by go_num, ((hl.drewN 2)).setCell (by simp) _, Blk.far (l := List.replicate 64 (W32 0)) hb2 (by simp) _, ?_⟩
            rw [← schedArr_step bs k (by omega), nextW, if_neg (by omega)]
            exact Blk.set_ (l := schedArr bs k) hb3 k _
          case measure => simp [intOf]; omega
        · rw [show k = 64 by omega] at hb3
          go_wp2_with (first
            | (refine wpList_load_agg rfl 33 _ rfl (w.heap.size + 1) 0 (schedArr bs 64) (fun j v hv => by rw [Nat.zero_add]; exact hb3.cellD j hv) rfl _ Try.underlying33 rfl (by rw [schedArr_length bs 64 (by omega)]; kernel_rfl) ?_)
            | (refine wpList_store_agg rfl rfl 33 _ _ rfl w.heap.size 0 33 _ (schedArr bs 64) hb2 rfl rfl (by rw [schedArr_length bs 64 (by omega)]; kernel_rfl) (by rw [schedArr_length bs 64 (by omega)]; simp) (by intro v hv; simp [schedArr] at hv; obtain ⟨x, _, rfl⟩ := hv; rfl) ?_; intro w2 hb4 ho))
          refine bodyPost_ret (results_blk rfl _ _ _ _ (schedArr bs 64) _ (by rwa [spliced_all _ _ (by rw [schedArr_length bs 64 (by omega)]; simp)] at hb4) rfl Try.underlying33 rfl (by rw [schedArr_length bs 64 (by omega)]; kernel_rfl)) rfl ⟨rfl, hl.only ho (Nat.le_refl _)⟩
end Go.Proofs.Ytmdbekdphkkmkaa
