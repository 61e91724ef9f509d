/-
  Numbers as bytes: plain laws.
-/
import Derived.Test.YtmdjhbiiifnfiaaField7
import Derived.Test.YtmdjhbiiifnfiaaNRef5
namespace Go.Proofs.Ytmdjhbiiifnfiaa
open Go.RowKit

/-- The bytes of a number. -/
def nb (n : Nat) : List UInt8 := (dig 256 32 n).map UInt8.ofNat
abbrev BB (n : Nat) : Value := .agg ((nb n).map W8).toArray
theorem nb_length (n : Nat) : (nb n).length = 32 := by rw [nb, List.length_map, dig_length]
theorem nb_get (n i : Nat) (h : i < 32) : (nb n)[i]? = some (UInt8.ofNat (n / 256 ^ i % 256)) := by rw [nb, List.getElem?_map, dig_get _ _ _ _ h]; rfl
theorem map_toNat_ofNat : ∀ l : List Nat, (∀ x ∈ l, x < 256) → (l.map UInt8.ofNat).map UInt8.toNat = l
  | [], _ => rfl
  | x :: l, h => by
    rw [List.map_cons, List.map_cons, map_toNat_ofNat l (fun y hy => h y (by simp [hy])), UInt8.toNat_ofNat', Nat.mod_eq_of_lt (h x (by simp))]
theorem num_nb (n : Nat) (h : n < T256) : num (nb n) = n := by
  rw [num, nb, map_toNat_ofNat _ (dig_lt (by decide) 32 n), val_dig, Nat.mod_eq_of_lt (show n < 256 ^ 32 from h)]
theorem nb_num (bs : List UInt8) (h : bs.length = 32) : nb (num bs) = bs := by
  have e := dig_val (B := 256) (bs.map UInt8.toNat) (by intro x hx; obtain ⟨y, _, rfl⟩ := List.mem_map.1 hx; exact y.toNat_lt)
  rw [List.length_map, h] at e
  rw [nb, num, e, List.map_map]
  conv => rhs; rw [← List.map_id bs]
  apply List.map_congr_left
  intro x _
  exact UInt8.ofNat_toNat
theorem num_lt (bs : List UInt8) : num bs < 256 ^ bs.length := by
  have := val_lt (B := 256) (bs.map UInt8.toNat) (by intro x hx; obtain ⟨y, _, rfl⟩ := List.mem_map.1 hx; exact y.toNat_lt)
  rwa [List.length_map] at this
theorem num_take (bs : List UInt8) (k : Nat) (h : k < bs.length) : num (bs.take (k + 1)) = num (bs.take k) + 256 ^ k * (bs.getD k 0).toNat := by
  have := val_take_succ 256 (bs.map UInt8.toNat) k (by simpa using h)
  rw [← List.map_take, ← List.map_take] at this
  have e : (bs.map UInt8.toNat).getD k 0 = (bs.getD k 0).toNat := by
    rw [List.getD_eq_getElem?_getD, List.getD_eq_getElem?_getD, List.getElem?_map, List.getElem?_eq_getElem h]
    rfl
  rw [e] at this
  exact this
theorem pow_split (k : Nat) : 256 ^ k = B64 ^ (k / 8) * 256 ^ (k % 8) := by
  have e : B64 = 256 ^ 8 := by decide
  rw [e, ← Nat.pow_mul, ← Nat.pow_add, Nat.div_add_mod]
theorem pow_split4 (k : Nat) : 256 ^ k = B32 ^ (k / 4) * 256 ^ (k % 4) := by
  have e : B32 = 256 ^ 4 := by decide
  rw [e, ← Nat.pow_mul, ← Nat.pow_add, Nat.div_add_mod]
theorem mod_div_mod (x a b c : Nat) (ha : 0 < a) (h : b * c ∣ a) (_hb : 0 < b) : x % a / b % c = x / b % c := by
  obtain ⟨d, rfl⟩ := h
  rw [Nat.mul_assoc, Nat.mod_mul_right_div_self, Nat.mod_mul_right_mod]
/-- Byte k of a number by its limbs. -/
theorem byte_lim (n k : Nat) (_hk : k < 32) : lim n (k / 8) / 2 ^ (8 * (k % 8)) % 256 = n / 256 ^ k % 256 := by
  rw [pow_split k, ← Nat.div_div_eq_div_mul, lim, Nat.pow_mul]
  generalize n / B64 ^ (k / 8) = x
  refine mod_div_mod x B64 (256 ^ (k % 8)) 256 B64_pos ?_ (Nat.pow_pos (by decide))
  have : B64 = 256 ^ 8 := by decide
  rw [this, ← Nat.pow_succ]
  exact Nat.pow_dvd_pow 256 (by omega)
theorem byte_lem (n k : Nat) (_hk : k < 32) : lem n (k / 4) / 2 ^ (8 * (k % 4)) % 256 = n / 256 ^ k % 256 := by
  rw [pow_split4 k, ← Nat.div_div_eq_div_mul, lem, Nat.pow_mul]
  generalize n / B32 ^ (k / 4) = x
  refine mod_div_mod x B32 (256 ^ (k % 4)) 256 B32_pos ?_ (Nat.pow_pos (by decide))
  have : B32 = 256 ^ 4 := by decide
  rw [this, ← Nat.pow_succ]
  exact Nat.pow_dvd_pow 256 (by omega)
/-- One byte more into the limbs. -/
theorem EL_more (V x k : Nat) (_hk : k < 32) (hV : V < 256 ^ k) (hx : x < 256) : (EL V).set (k / 8) (n64 (lim V (k / 8) + x * 2 ^ (8 * (k % 8)))) = EL (V + 256 ^ k * x) := by
  have hp := pow_split k
  have hB : B64 = 256 ^ 8 := by decide
  have hlt : V + 256 ^ k * x < 256 ^ (k + 1) := by
    rw [Nat.pow_succ]
    have : 256 ^ k * x ≤ 256 ^ k * 255 := Nat.mul_le_mul_left _ (by omega)
    omega
  have hbound : 256 ^ (k + 1) ≤ B64 ^ (k / 8 + 1) := by
    rw [hB, ← Nat.pow_mul]
    exact Nat.pow_le_pow_right (by decide) (by omega)
  apply List.ext_getElem (by rw [List.length_set, EL_length, EL_length])
  intro j h1 h2
  rw [EL_length] at h2
  rw [List.getElem_set]
  split
  · rename_i hj
    subst hj
    rw [EL_at]
    congr 1
    rw [lim, lim, hp, Nat.mul_assoc, Nat.add_mul_div_left _ _ (Nat.pow_pos B64_pos), Nat.pow_mul]
    have hV1 : V / B64 ^ (k / 8) < 256 ^ (k % 8) := Nat.div_lt_of_lt_mul (by rw [← hp]; exact hV)
    have hle : 256 ^ (k % 8) * 256 ≤ B64 := by
      rw [hB, ← Nat.pow_succ]
      exact Nat.pow_le_pow_right (by decide) (by omega)
    have hxx : 256 ^ (k % 8) * x ≤ 256 ^ (k % 8) * 255 := Nat.mul_le_mul_left _ (by omega)
    have e : (2 : Nat) ^ 8 = 256 := by decide
    rw [e, Nat.mul_comm x]
    rw [Nat.mod_eq_of_lt (show V / B64 ^ (k / 8) < B64 by omega), Nat.mod_eq_of_lt (show V / B64 ^ (k / 8) + 256 ^ (k % 8) * x < B64 by omega)]
  · rename_i hj
    rw [EL_at, EL_at]
    congr 1
    rcases Nat.lt_or_ge j (k / 8) with hl | hl
    · rw [lim, lim, hp]
      obtain ⟨d, hd⟩ : ∃ d, k / 8 = j + 1 + d := ⟨k / 8 - j - 1, by omega⟩
      rw [hd, Nat.pow_add, Nat.pow_succ, Nat.mul_assoc, Nat.mul_assoc, Nat.mul_assoc, Nat.add_mul_div_left _ _ (Nat.pow_pos B64_pos), Nat.add_mul_mod_self_left]
    · have hjj : k / 8 + 1 ≤ j := by omega
      have hpp : B64 ^ (k / 8 + 1) ≤ B64 ^ j := Nat.pow_le_pow_right (by decide) hjj
      have hVk : V < B64 ^ j := Nat.lt_of_lt_of_le hV (Nat.le_trans (Nat.pow_le_pow_right (by decide) (by omega)) (Nat.le_trans hbound hpp))
      rw [lim, lim, Nat.div_eq_of_lt hVk, Nat.div_eq_of_lt (Nat.lt_of_lt_of_le hlt (Nat.le_trans hbound hpp))]
theorem or_add (a s y : Nat) (h : a < 2 ^ s) : a ||| (y * 2 ^ s) = a + y * 2 ^ s := by
  have := Nat.two_pow_add_eq_or_of_lt h y
  rw [Nat.or_comm, Nat.mul_comm y, ← this, Nat.add_comm]
theorem lim_low (V k : Nat) (hV : V < 256 ^ k) : lim V (k / 8) < 2 ^ (8 * (k % 8)) := by
  have hV1 : V / B64 ^ (k / 8) < 256 ^ (k % 8) := Nat.div_lt_of_lt_mul (by rw [← pow_split]; exact hV)
  rw [lim, Nat.pow_mul]
  exact Nat.lt_of_le_of_lt (Nat.mod_le _ _) hV1
end Go.Proofs.Ytmdjhbiiifnfiaa
