/-
  shallotref01.Put with the least byte first, four bytes; what the twin's Block keeps.
-/
import Derived.Test.YtjohieongjnemaaCha6
namespace Go.Proofs.Ytjohieongjnemaa
open Go.RowKit
open Go.BigFrame

def putA (n : UInt64) (k : Nat) : List UInt8 := (List.range k).map (fun j => (divk n j % 256).toUInt8) ++ List.replicate (4 - k) 0
theorem putA_length (n : UInt64) (k : Nat) (h : k ≤ 4) : (putA n k).length = 4 := by simp [putA]; omega
theorem putA_step (n : UInt64) (k : Nat) (hk : k < 4) : (putA n k).set k (divk n k % 256).toUInt8 = putA n (k + 1) := by
  have := fill_step (0 : UInt8) [] (fun j => (divk n j % 256).toUInt8) k 4 hk
  simpa [putA] using this
theorem divk_nat (n : UInt64) : ∀ k, (divk n k).toNat = n.toNat / 256 ^ k
  | 0 => by simp [divk]
  | k + 1 => by
    have h : divk n (k + 1) = divk n k / 256 := rfl
    rw [h, UInt64.toNat_div, divk_nat n k, Nat.div_div_eq_div_mul, Nat.pow_succ]
    rfl
theorem putA_le4 (x : UInt32) : putA x.toUInt64 4 = le4 x := by
  have hx := x.toNat_lt
  have key : ∀ j, j < 4 → (divk x.toUInt64 j % 256).toUInt8 = (shr32 x (8 * j)).toUInt8 := by
    intro j hj
    apply UInt8.toNat_inj.1
    have e : (shr32 x (8 * j)).toNat = x.toNat / 2 ^ (8 * j) := by
      show (x.toBitVec >>> (8 * j)).toNat = _
      rw [BitVec.toNat_ushiftRight, Nat.shiftRight_eq_div_pow]
      rfl
    rw [UInt64.toNat_toUInt8, UInt32.toNat_toUInt8, UInt64.toNat_mod, divk_nat, e, UInt32.toNat_toUInt64, Nat.pow_mul]
    exact Nat.mod_mod_of_dvd _ (by decide)
  have k0 := key 0 (by omega)
  have k1 := key 1 (by omega)
  have k2 := key 2 (by omega)
  have k3 := key 3 (by omega)
  have e0 : shr32 x (8 * 0) = x := by
    apply UInt32.toBitVec_inj.1
    show x.toBitVec >>> 0 = x.toBitVec
    simp
  rw [e0] at k0
  show [(divk x.toUInt64 0 % 256).toUInt8, (divk x.toUInt64 1 % 256).toUInt8, (divk x.toUInt64 2 % 256).toUInt8, (divk x.toUInt64 3 % 256).toUInt8] ++ [] = _
  rw [k0, k1, k2, k3]
  rfl
theorem divk_4 (x : UInt32) : divk x.toUInt64 4 = 0 := by
  apply UInt64.toNat_inj.1
  have := x.toNat_lt
  rw [divk_nat, UInt32.toNat_toUInt64]
  exact Nat.div_eq_of_lt (by omega)
set_option maxRecDepth 100000 in
set_option maxHeartbeats 1000000 in
theorem put_14 (x : UInt32) (w : World) : Calls Try.prog 94 #[.int .i64 1, .int .i64 4, W64 x.toUInt64] w fun e w' =>
    ∃ A c, e = .returned (.tuple #[.slice A 4 c, .int .i64 0]) ∧ OwnB w' w.heap.size A 4 c (le4 x) ∧ Later w w' := by
  have D4 := hid (divk_4 x)
  have hE := hid (putA_le4 x)
  generalize x.toUInt64 = n at *
  go_enter Try.func94, Try.ntmps94
  go_wp2_with (first
    | (go_at_call 117; refine (shape_ok 1 4 (by omega) (by omega) (by omega) _).mono ?_; rintro e w' ⟨rfl, rfl⟩)
    | (refine wpList_make_n rfl _ _ _ rfl 5 _ 1 Try.underlying22 info8 rfl _ _ _ _ 4 rfl rfl ?hL ?hC (by omega) (by omega) ?_; (case hL => rfl); (case hC => rfl); intro w1 hb1 hl1))
  go_loopw [2, 9] (fun t i wr => ∃ k : Nat, k ≤ 4 ∧ i = .int .i64 k ∧ t = W64 (divk n k) ∧ Later w wr ∧ Blk wr w.heap.size 5 ((putA n k).map W8)) (fun _ i _ => 4 - (intOf i).toNat)
  case atStart => exact ⟨0, by omega, rfl, rfl, hl1, hb1⟩
  case round =>
    clear hl1 hb1
    obtain ⟨k, hk, rfl, rfl, hl, hb⟩ := hrel
    by_cases hlt : k < 4
    · have hlen := putA_length n k hk
      have d0 := hb.cellD k (List.getElem?_eq_getElem (by simp; omega))
      have d1 := hb.frozen k
      generalize ((putA n k).map W8)[k]'_ = old at d0
      go_wp2_with (refine wpList_store_one rfl rfl _ _ _ rfl _ rfl rfl (by kernel_rfl) ?sc ?sf ?_; (case sc => go_simp; done); (case sf => first | assumption | (go_simp; done)); intro v hv; simp [go_sem] at hv; subst hv)
      go_roundw
      case rel =>
        refine ⟨k + 1, by omega, by go_num, rfl, hl.setCell (Nat.le_refl _) _, ?_⟩
        rw [← putA_step n k hlt, ← map_set8]
        exact hb.set_ k _
      case measure => simp [intOf]; omega
    · have hk4 : k = 4 := by omega
      rw [hk4] at hb
      rw [hk4, D4.out]
      rw [hE.out] at hb
      go_wp2
      go_ret2
      refine ⟨_, _, rfl, ?_, hl⟩
      exact own_of_blk hb (Nat.le_refl _) (by simp [le4])
theorem put_14' (x : UInt32) (y : UInt64) (h : y = x.toUInt64) (w : World) : Calls Try.prog 94 #[.int .i64 1, .int .i64 4, W64 y] w fun e w' =>
    ∃ A c, e = .returned (.tuple #[.slice A 4 c, .int .i64 0]) ∧ OwnB w' w.heap.size A 4 c (le4 x) ∧ Later w w' := by
  subst h
  exact put_14 x w
end Go.Proofs.Ytjohieongjnemaa
