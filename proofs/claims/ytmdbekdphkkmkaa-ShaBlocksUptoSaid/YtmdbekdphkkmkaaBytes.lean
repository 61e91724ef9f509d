/-
  shallotref01's shape, Put; and both paddings.
-/
import Derived.Test.YtmdbekdphkkmkaaLists
namespace Go.Proofs.Ytmdbekdphkkmkaa
open Go.RowKit

theorem shape_ok (order width : Int) (ho : order = 1 ∨ order = 2) (h1 : 1 ≤ width) (h2 : width ≤ 8) (w : World) : Calls Try.prog 82 #[.int .i64 order, .int .i64 width] w fun e w' =>
    e = .returned (.bool true) ∧ w = w' := by
  rcases ho with rfl | rfl
  all_goals
    go_enter Try.func82, Try.ntmps82
    go_wp2
    go_ret
    exact ⟨rfl, rfl⟩

/-! ### The padding -/
def divk (n : UInt64) : Nat → UInt64
  | 0 => n
  | k + 1 => divk n k / 256
/-- The last k bytes, the greatest first. -/
def beB (n : UInt64) : Nat → List UInt8
  | 0 => []
  | k + 1 => (divk n k % 256).toUInt8 :: beB n k
theorem beB_length (n : UInt64) (k : Nat) : (beB n k).length = k := by
  induction k with
  | zero => rfl
  | succ k ih => simp [beB, ih]
theorem divk_toNat (n : UInt64) (k : Nat) : (divk n k).toNat = n.toNat / 256 ^ k := by
  induction k with
  | zero => simp [divk]
  | succ k ih => simp [divk, ih, Nat.div_div_eq_div_mul, Nat.pow_succ]
theorem divk_8 (n : UInt64) : divk n 8 = 0 := by
  apply UInt64.toNat_inj.1
  rw [divk_toNat]
  exact Nat.div_eq_of_lt (by have := n.toNat_lt; simpa using this)
theorem shr_divk (n : UInt64) (k : Nat) (hk : k < 8) : (shr64 n (cnt (8 * UInt64.ofInt (k : Int)))).toUInt8 = (divk n k % 256).toUInt8 := by
  have hc : cnt (8 * UInt64.ofInt (k : Int)) = 8 * k := by
    have : ∀ k : Fin 8, cnt (8 * UInt64.ofInt (k.val : Int)) = 8 * k.val := by decide
    exact this ⟨k, hk⟩
  rw [hc]
  apply UInt8.toNat_inj.1
  have e : (shr64 n (8 * k)).toNat = n.toNat / 2 ^ (8 * k) := by
    show (n.toBitVec >>> (8 * k)).toNat = _
    rw [BitVec.toNat_ushiftRight, Nat.shiftRight_eq_div_pow]
    rfl
  rw [UInt64.toNat_toUInt8, UInt64.toNat_toUInt8, UInt64.toNat_mod, divk_toNat, e, Nat.pow_mul]
  simp
/-- Zeros between the first byte and the length. -/
def padZ (n : Nat) : Nat := (119 - n % 64) % 64
def padB (n : Nat) : List UInt8 := 128 :: List.replicate (padZ n) 0 ++ beB (8 * UInt64.ofNat n) 8
theorem padB_length (n : Nat) : (padB n).length = padZ n + 9 := by simp [padB, beB_length]
/-- What lies there behind k rounds. -/
def padAt (n : UInt64) (k : Nat) : List UInt8 := 128 :: List.replicate (padZ n.toNat + (8 - k)) 0 ++ beB (8 * n) k
theorem padAt_length (n : UInt64) (k : Nat) (hk : k ≤ 8) : (padAt n k).length = padZ n.toNat + 9 := by
  simp [padAt, beB_length]
  omega
theorem padAt_step (n : UInt64) (k : Nat) (hk : k < 8) : (padAt n k).set (padZ n.toNat + 8 - k) (divk (8 * n) k % 256).toUInt8 = padAt n (k + 1) := by
  have e : padZ n.toNat + (8 - k) = (padZ n.toNat + (8 - (k + 1))) + 1 := by omega
  have e2 : padZ n.toNat + 8 - k = (padZ n.toNat + (8 - (k + 1))) + 1 := by omega
  rw [padAt, padAt, e, e2, List.replicate_succ', List.cons_append, List.set_cons_succ, List.append_assoc, List.set_append_right _ _ (by simp)]
  simp [beB]
theorem map_set8 (l : List UInt8) (i : Nat) (x : UInt8) : (l.map W8).set i (W8 x) = (l.set i x).map W8 := by rw [List.map_set]

set_option maxRecDepth 100000 in
set_option maxHeartbeats 1000000 in
theorem padding_any (n : UInt64) (w : World) : Calls Try.prog 59 #[W64 n] w fun e w' =>
    ∃ A c, e = .returned (.slice A (padZ n.toNat + 9) c) ∧ OwnB w' w.heap.size A (padZ n.toNat + 9) c (padAt n 8) ∧ Later w w' := by
  have hz : padZ n.toNat < 64 := Nat.mod_lt _ (by omega)
  have p0 : (List.replicate (padZ n.toNat + 9) (Value.int .u8 0)).set 0 (.int .u8 128) = (padAt n 0).map W8 := by
    rw [List.replicate_succ]
    simp [padAt, beB]
    exact ⟨rfl, rfl⟩
  have P0 := hid p0
  clear p0
  go_enter Try.func59, Try.ntmps59
  go_wp2_with (first
    | (refine wpList_make_n rfl _ _ _ rfl 5 _ 1 Try.underlying22 info8 rfl _ _ _ _ (padZ n.toNat + 9) rfl rfl ?hL ?hC (by omega) ?hz ?_; (case hL => simp only [padZ]; omega); (case hC => simp only [padZ]; omega); (case hz => omega); intro w1 hb1 hl1
       have d0 := hb1.cellD 0 (u := .int .u8 0) (by simp)
       have d1 := hb1.frozen 0))
  have hb2 := hb1.set_ 0 (.int .u8 128)
  rw [P0.out] at hb2
  have hl2 : Later w (w1.setCell ⟨w.heap.size, 0, none⟩ (.int .u8 128)) := hl1.setCell (Nat.le_refl _) _
  clear d0 d1 hb1 hl1
  go_loopw [5] (fun i wr => ∃ k : Nat, k ≤ 8 ∧ i = .int .i64 k ∧ Later w wr ∧ Blk wr w.heap.size 5 ((padAt n k).map W8)) (fun i _ => 8 - (intOf i).toNat)
  case atStart => exact ⟨0, by omega, rfl, hl2, hb2⟩
  case round =>
    clear hl2 hb2
    obtain ⟨k, hk, rfl, hl, hb⟩ := hrel
    by_cases hlt : k < 8
    · have hlen := padAt_length n k hk
      have d0 := hb.cellD (padZ n.toNat + 8 - k) (List.getElem?_eq_getElem (by simp; omega))
      have d1 := hb.frozen (padZ n.toNat + 8 - k)
      generalize ((padAt n k).map W8)[padZ n.toNat + 8 - k]'_ = old at d0
      have SD := hid (shr_divk (8 * n) k hlt)
      go_wp2_with (refine wpList_store_one rfl rfl _ _ _ rfl _ rfl rfl (by kernel_rfl) ?sc ?sf ?_; (case sc => go_simp; done); (case sf => first | assumption | (go_simp; done)); intro v hv; simp [go_sem] at hv; subst hv)
      go_roundw
      case rel =>
        refine ⟨k + 1, by omega, by go_num, hl.setCell (Nat.le_refl _) _, ?_⟩
        rw [← padAt_step n k hlt, ← SD.out, ← map_set8]
        exact hb.set_ (padZ n.toNat + 8 - k) (W8 (shr64 (8 * n) (cnt (8 * UInt64.ofInt (k : Int)))).toUInt8)
      case measure => simp [intOf]; omega
    · rw [show k = 8 by omega] at hb
      go_wp2
      go_ret
      have hlen := padAt_length n 8 (by omega)
      refine ⟨_, _, rfl, ?_, hl⟩
      have := own_of_blk hb (Nat.le_refl _) (by simp; omega)
      rwa [List.length_map, hlen] at this

/-- What Put has written behind k rounds. -/
def putAt (n : UInt64) (k : Nat) : List UInt8 := List.replicate (8 - k) 0 ++ beB n k
theorem putAt_length (n : UInt64) (k : Nat) (hk : k ≤ 8) : (putAt n k).length = 8 := by
  simp [putAt, beB_length]
  omega
theorem putAt_step (n : UInt64) (k : Nat) (hk : k < 8) : (putAt n k).set (7 - k) (divk n k % 256).toUInt8 = putAt n (k + 1) := by
  have e : 8 - k = (8 - (k + 1)) + 1 := by omega
  have e2 : 7 - k = 8 - (k + 1) := by omega
  rw [putAt, putAt, e, e2, List.replicate_succ', List.append_assoc, List.set_append_right _ _ (by simp)]
  simp [beB]
set_option maxRecDepth 100000 in
set_option maxHeartbeats 1000000 in
/-- Put with the greatest byte first, eight bytes. -/
theorem put_28 (n : UInt64) (w : World) : Calls Try.prog 75 #[.int .i64 2, .int .i64 8, W64 n] w fun e w' =>
    ∃ A c, e = .returned (.tuple #[.slice A 8 c, .int .i64 0]) ∧ OwnB w' w.heap.size A 8 c (beB n 8) ∧ Later w w' := by
  have D8 := hid (divk_8 n)
  go_enter Try.func75, Try.ntmps75
  go_wp2_with (first
    | (go_at_call 82; refine (shape_ok 2 8 (by omega) (by omega) (by omega) _).mono ?_; rintro e w' ⟨rfl, rfl⟩)
    | (refine wpList_make_n rfl _ _ _ rfl 5 _ 1 Try.underlying22 info8 rfl _ _ _ _ 8 rfl rfl ?hL ?hC (by omega) (by omega) ?_; (case hL => rfl); (case hC => rfl); intro w1 hb1 hl1))
  go_loopw [2, 9] (fun t i wr => ∃ k : Nat, k ≤ 8 ∧ i = .int .i64 k ∧ t = W64 (divk n k) ∧ Later w wr ∧ Blk wr w.heap.size 5 ((putAt n k).map W8)) (fun _ i _ => 8 - (intOf i).toNat)
  case atStart => exact ⟨0, by omega, rfl, rfl, hl1, hb1⟩
  case round =>
    clear hl1 hb1
    obtain ⟨k, hk, rfl, rfl, hl, hb⟩ := hrel
    by_cases hlt : k < 8
    · have hlen := putAt_length n k hk
      have d0 := hb.cellD (7 - k) (List.getElem?_eq_getElem (by simp; omega))
      have d1 := hb.frozen (7 - k)
      generalize ((putAt n k).map W8)[7 - k]'_ = old at d0
      go_wp2_with (refine wpList_store_one rfl rfl _ _ _ rfl _ rfl rfl (by kernel_rfl) ?sc ?sf ?_; (case sc => go_simp; done); (case sf => first | assumption | (go_simp; done)); intro v hv; simp [go_sem] at hv; subst hv)
      go_roundw
      case rel =>
        refine ⟨k + 1, by omega, by go_num, rfl, hl.setCell (Nat.le_refl _) _, ?_⟩
        rw [← putAt_step n k hlt, ← map_set8]
        exact hb.set_ (7 - k) _
      case measure => simp [intOf]; omega
    · have hk8 : k = 8 := by omega
      rw [hk8] at hb
      rw [hk8, D8.out]
      go_wp2
      go_ret2
      have hlen := putAt_length n 8 (by omega)
      refine ⟨_, _, rfl, ?_, hl⟩
      have := own_of_blk hb (Nat.le_refl _) (by simp; omega)
      rwa [List.length_map, hlen] at this

/-- The length in a slot, for a loop's measure. -/
def lenOf : Value → Nat
  | .slice _ n _ => n
  | _ => 0
theorem padAt_8 (n : Nat) (h : n < 18446744073709551616) : padAt (UInt64.ofNat n) 8 = padB n := by
  have : (UInt64.ofNat n).toNat = n := by rw [UInt64.toNat_ofNat']; exact Nat.mod_eq_of_lt h
  simp [padAt, padB, this]
set_option maxRecDepth 100000 in
set_option maxHeartbeats 1000000 in
theorem ref_padding (n : Nat) (hn : n ≤ 140737488355328) (w : World) : Calls Try.prog 60 #[.int .i64 n] w fun e w' =>
    ∃ A c, e = .returned (.slice A (padZ n + 9) c) ∧ OwnB w' w.heap.size A (padZ n + 9) c (padB n) ∧ Later w w' := by
  have hz : padZ n < 64 := Nat.mod_lt _ (by omega)
  have hz2 : (n + padZ n + 9) % 64 = 0 := by simp only [padZ]; omega
  go_enter Try.func60, Try.ntmps60
  go_wp2
  go_loopw [3] (fun v wr => ∃ (k : Nat) (A : Option Addr) (c : Nat), k ≤ padZ n ∧ v = .slice A (k + 1) c ∧ OwnB wr w.heap.size A (k + 1) c (128 :: List.replicate k 0) ∧ Later w wr) (fun v _ => 100 - lenOf v)
  case atStart => exact ⟨0, _, _, Nat.zero_le _, rfl, own_new w _ [W8 128] (by simp), (Later.refl w).alloc _⟩
  case round =>
    obtain ⟨k, A, c, hk, rfl, hown, hl⟩ := hrel
    by_cases hlt : k < padZ n
    · have hne : ¬ (n + k + 9) % 64 = 0 := by simp only [padZ] at *; omega
      clear hz2
      go_wp2_with (first
        | (refine wpList_append_rd rfl _ _ _ rfl 5 _ 1 Try.underlying22 info8 rfl w _ (k + 1) _ (OwnB.later hown (later_alloc _ _)) (hl.alloc _) _ 1 1 [W8 0] (own_rd (own_new wr _ [W8 0] (by simp))) (w8_one [0]) rfl rfl (by omega) (by omega) ?_; intro A' c' w' hown' hl' _ _))
      go_roundw
      case rel =>
        refine ⟨k + 1, A', c', by omega, rfl, own_eq hown' rfl ?_, hl'⟩
        rw [List.replicate_succ' (n := k)]
        simp
      case measure => simp [lenOf]; omega
    · have hkz : k = padZ n := by omega
      rw [hkz] at hown
      have he : (n + k + 9) % 64 = 0 := by rw [hkz]; exact hz2
      clear hz2
      have ho : UInt64.ofInt (n : Int) * 8 = 8 * UInt64.ofNat n := by
        rw [UInt64.mul_comm, ofIntNat_w64]
      have HO := hid ho
      clear ho
      have hkz' := hid hkz
      clear hkz
      go_wp2_with (first
        | (go_at_call 75; refine (put_28 _ _).mono ?_; rintro e w1 ⟨A1, c1, rfl, hown1, hl1⟩)
        | (refine wpList_append_rd rfl _ _ _ rfl 5 _ 1 Try.underlying22 info8 rfl w _ (padZ n + 1) _ (OwnB.later hown hl1) (hl.trans hl1) A1 8 c1 _ hown1.rd (w8_one _) ?hs rfl (by omega) (by omega) ?_; (case hs => rw [← hkz'.out]; rfl); intro A' c' w' hown' hl' _ _))
      go_ret
      refine ⟨A', c', rfl, own_eq hown' rfl ?_, hl'⟩
      rw [padB, HO.out]
      simp
end Go.Proofs.Ytmdbekdphkkmkaa
