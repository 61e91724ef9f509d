/-
  The point of 9 has a prime order; clamped scalars are no multiples of it: what stands behind 9 is never nought. Nothing of the program.
-/
import Derived.Test.YtkibgdigcgakfaaEd1
import Derived.Test.YtkibgdigcgakfaaPrimeL
import Derived.Test.YtkibgdigcgakfaaFMid
namespace Go.Proofs.Ytkibgdigcgakfaa
namespace Ed

/-! ### Scalars as numbers -/
theorem kval_eq (K : List UInt8) (hK : K.length = 32) : ∀ j, j ≤ 255 → kval K j = num K / 2 ^ (255 - j) % 2 ^ j
  | 0, _ => by rw [Nat.pow_zero, Nat.mod_one]; rfl
  | j + 1, hj => by
    have ih := kval_eq K hK j (by omega)
    have hb := num_bit K (254 - j) (by omega)
    have e1 : (kbit K (254 - j)).toNat = num K / 2 ^ (254 - j) % 2 := by
      unfold kbit
      rw [hb]
      rcases Nat.mod_two_eq_zero_or_one ((K.getD ((254 - j) / 8) 0).toNat / 2 ^ ((254 - j) % 8)) with h | h <;> rw [h] <;> rfl
    show 2 * kval K j + (kbit K (254 - j)).toNat = _
    rw [e1, ih, show 255 - (j + 1) = 254 - j by omega, show 255 - j = (254 - j) + 1 by omega, Nat.pow_succ, ← Nat.div_div_eq_div_mul, Nat.pow_succ]
    generalize num K / 2 ^ (254 - j) = X
    rw [Nat.mul_comm (2 ^ j) 2, Nat.mod_mul]
    omega
theorem kval_all (K : List UInt8) (hK : K.length = 32) : kval K 255 = num K % 2 ^ 255 := by
  rw [kval_eq K hK 255 (Nat.le_refl _)]
  simp
theorem clamp_num (bs : List UInt8) : num (clampB bs) % 8 = 0 ∨ bs.length ≠ 32 := by
  by_cases h : bs.length = 32
  · left
    have h1 := num_cons (clampB bs) 0 (by rw [clampB_length]; omega)
    rw [List.drop_zero] at h1
    have h2 : (clampB bs).getD 0 0 = bs.getD 0 0 &&& 248 := by
      rw [clampB, if_pos h, List.getD_eq_getElem?_getD, List.getElem?_set_ne (by omega), List.getElem?_set_self (by omega)]
      rfl
    have h3 := (and_fact ⟨(bs.getD 0 0).toNat, (bs.getD 0 0).toNat_lt⟩).1
    simp only at h3
    rw [h1, h2, UInt8.toNat_and, show UInt8.toNat 248 = 248 from rfl, h3]
    omega
  · exact .inr h
theorem clamp_top (bs : List UInt8) (h : bs.length = 32) : 2 ^ 254 ≤ num (clampB bs) ∧ num (clampB bs) < 2 ^ 255 := by
  have h1 := num_take (clampB bs) 31 (by rw [clampB_length]; omega)
  rw [List.take_of_length_le (by rw [clampB_length]; omega)] at h1
  have h2 : (clampB bs).getD 31 0 = (bs.getD 31 0 &&& 127) ||| 64 := by
    rw [clampB, if_pos h, List.getD_eq_getElem?_getD, List.getElem?_set_self (by simp; omega)]
    rfl
  have h3 := (and_fact ⟨(bs.getD 31 0).toNat, (bs.getD 31 0).toNat_lt⟩).2
  simp only at h3
  have h4 : ((clampB bs).getD 31 0).toNat = (bs.getD 31 0).toNat % 64 + 64 := by
    rw [h2, UInt8.toNat_or, UInt8.toNat_and, show UInt8.toNat 127 = 127 from rfl, show UInt8.toNat 64 = 64 from rfl, h3]
  have h5 := num_lt ((clampB bs).take 31)
  rw [List.length_take, clampB_length] at h5
  rw [h4] at h1
  have e : (256 : Nat) ^ 31 * 64 = 2 ^ 254 := by decide
  have e2 : (256 : Nat) ^ 31 * 128 = 2 ^ 255 := by decide
  have h6 : (256 : Nat) ^ 31 * 64 ≤ 256 ^ 31 * ((bs.getD 31 0).toNat % 64 + 64) := Nat.mul_le_mul_left _ (by omega)
  have h7 : (256 : Nat) ^ 31 * ((bs.getD 31 0).toNat % 64 + 64) + 256 ^ 31 ≤ 256 ^ 31 * 128 := by
    have hy : (bs.getD 31 0).toNat % 64 + 64 + 1 ≤ 128 := by omega
    generalize (bs.getD 31 0).toNat % 64 + 64 = y at hy
    have := Nat.mul_le_mul_left (256 ^ 31) hy
    rw [Nat.mul_add, Nat.mul_one] at this
    exact this
  rw [Nat.min_eq_left (by omega)] at h5
  omega
/-! ### The order of the point of 9 -/
def ellN : Nat := 7237005577332262213973186563042994240857116359379907606001950938285454250989
def Kl : List UInt8 := [237, 211, 245, 92, 26, 99, 18, 88, 214, 156, 247, 162, 222, 249, 222, 20, 0, 0, 0, 0, 0, 0, 0, 0, 0, 0, 0, 0, 0, 0, 0, 16]
theorem kl_val : kval Kl 255 = ellN := by decide +kernel
set_option maxRecDepth 100000 in
theorem ord9 : (Lad.at 9 Kl 255).z2 = 0 := by decide +kernel
theorem alg_y2 {x y d : Fp} (h : x = 0) (on : x * x + y * y = 1 + d * x * x * y * y) : y * y = 1 := by grobner
theorem alg_t {x y d : Fp} (h : x = 0) : d * x * x * y * y = 0 := by grobner
theorem alg_n2 {x y t : Fp} (h : x = 0) : x * y + x * y = 0 * t := by grobner
theorem alg_m2 {x y : Fp} (h : x = 0) (hy : y * y = 1) : y * y - x * x = 1 := by grobner
section
variable {δ : Fp} (hδ : NonSq δ)
include hδ in
theorem pt_zero {Q : Pt δ} (h : 1 - Q.y = 0) : Q = Pt.zero := by
  have on := Q.on
  have hy : Q.y = 1 := by clear on; grobner
  have : Q.x * Q.x * (1 - δ) = 0 := by clear h; grobner
  have hx : Q.x = 0 := by
    rcases no_zero this with h1 | h1
    · exact (no_zero h1).elim id id
    · exact absurd h1 (one_sub_d hδ)
  exact Pt.ext hx hy
theorem null_dbl {Q : Pt δ} (h : Q.x = 0) : Q.add hδ Q = Pt.zero := by
  have hy : Q.y * Q.y = 1 := alg_y2 h Q.on
  have ht : tt Q Q = 0 := alg_t h
  apply Pt.ext
  · apply cancel (den_p hδ Q Q)
    rw [add_x]
    exact alg_n2 h
  · apply cancel (den_m hδ Q Q)
    rw [add_y, ht]
    exact (alg_m2 h hy).trans (show (1 : Fp) = 1 * (1 - 0) by decide)
theorem zero_mul (n : Nat) : (Pt.zero : Pt δ).mul hδ n = Pt.zero := by
  induction n with
  | zero => rfl
  | succ n ih => show ((Pt.zero : Pt δ).mul hδ n).add hδ Pt.zero = Pt.zero; rw [ih, add_zero']
/-- A prime order of the point of 9. -/
structure Ell (L : Nat) : Prop where
  kl : kval Kl 255 = L
  inv : ∀ n, n % L ≠ 0 → ∃ m, n * m % L = 1
  dbl : ∀ n, n % L ≠ 0 → (n + n) % L ≠ 0
  one : 1 % L ≠ 0
  clamp : ∀ bs : List UInt8, bs.length = 32 → kval (clampB bs) 255 % L ≠ 0
theorem ell_mul {L : Nat} (hL : Ell L) {s : Fp} {G : Pt δ} (hp : Par s δ) (hx : toF 9 * (1 - G.y) = s * (1 + G.y)) (hy : 1 + G.y ≠ 0) : G.mul hδ L = Pt.zero := by
  have h := (at_rep hδ hp hx hy Kl 255).1
  rw [hL.kl] at h
  obtain ⟨k, hk, _, hZ⟩ := h
  rw [ord9, toF_zero] at hZ
  have hs := par_sq hp
  have hsn : s ≠ 0 := by rintro rfl; revert hs; decide
  rcases no_zero hZ.symm with h1 | h1
  · exact absurd h1 (mul_ne hk hsn)
  · exact pt_zero hδ h1
theorem mul_not_null {L : Nat} (hL : Ell L) {s : Fp} {G : Pt δ} (hp : Par s δ) (hx : toF 9 * (1 - G.y) = s * (1 + G.y)) (hy : 1 + G.y ≠ 0) {n : Nat} (hn : n % L ≠ 0) : (G.mul hδ n).x ≠ 0 := by
  intro h0
  have h1 := null_dbl hδ h0
  rw [← mul_add'] at h1
  obtain ⟨m, hm⟩ := hL.inv _ (hL.dbl n hn)
  have h3 : G.mul hδ ((n + n) * m) = Pt.zero := by rw [mul_mul', h1, zero_mul]
  have h4 : (n + n) * m = L * ((n + n) * m / L) + 1 := by
    have := Nat.div_add_mod ((n + n) * m) L
    omega
  rw [h4, mul_add', mul_mul', ell_mul hδ hL hp hx hy, zero_mul, zero_add', mul_one'] at h3
  have hs := par_sq hp
  rw [h3] at hx hy
  have h5 : s * 2 = 0 := by
    have : toF 9 * (1 - 1) = s * (1 + 1) := hx
    clear hx hy hs hp h0 h1
    grobner
  rcases no_zero h5 with h6 | h6
  · subst h6
    revert hs
    decide
  · exact two_ne h6
end
theorem inv_of_prm {p n : Nat} (h : ∀ a, a % p ≠ 0 → a ^ (p - 1) % p = 1) (hp : 2 ≤ p) (hn : n % p ≠ 0) : ∃ m, n * m % p = 1 := by
  refine ⟨n ^ (p - 2), ?_⟩
  rw [← Nat.pow_succ', show (p - 2).succ = p - 1 by omega]
  exact h n hn
theorem fermat_l (a : Nat) (h : a % ellN ≠ 0) : a ^ (ellN - 1) % ellN = 1 := by
  have := prm_l.2 a (by unfold ellN at h; exact h)
  unfold ellN
  exact this
theorem inv_ell {n : Nat} (hn : n % ellN ≠ 0) : ∃ m, n * m % ellN = 1 := inv_of_prm (p := ellN) fermat_l (by unfold ellN; omega) hn
theorem clamp_ell (bs : List UInt8) (h : bs.length = 32) : kval (clampB bs) 255 % ellN ≠ 0 := by
  rw [kval_all _ (clampB_length bs)]
  have h1 := clamp_top bs h
  have h2 := (clamp_num bs).resolve_right (fun e => e h)
  rw [Nat.mod_eq_of_lt h1.2]
  intro h0
  obtain ⟨m, hm⟩ : ∃ m, num (clampB bs) = 8 * m := ⟨num (clampB bs) / 8, by omega⟩
  rw [hm] at h0 h1
  have h3 : m < ellN := by unfold ellN; omega
  have h4 : m % ellN ≠ 0 := by rw [Nat.mod_eq_of_lt h3]; omega
  obtain ⟨r, hr⟩ := inv_ell h4
  have h5 : (8 * m) * r % ellN = 0 := by rw [Nat.mul_mod, h0, Nat.zero_mul, Nat.zero_mod]
  rw [Nat.mul_assoc, Nat.mul_mod, hr] at h5
  revert h5
  decide
theorem dbl_ell (n : Nat) (h : n % ellN ≠ 0) : (n + n) % ellN ≠ 0 := by
  intro h0
  obtain ⟨r, hr⟩ := inv_ell (n := 2) (by decide)
  have h1 : n * (2 * r) % ellN = 0 := by rw [← Nat.mul_assoc, Nat.mul_two, Nat.mul_mod, h0, Nat.zero_mul, Nat.zero_mod]
  rw [Nat.mul_mod, hr, Nat.mul_one, Nat.mod_mod] at h1
  exact h h1
theorem ell : ∃ L, Ell L :=
  ⟨ellN, kl_val, fun _ h => inv_ell h, dbl_ell, by decide, clamp_ell⟩
theorem Ell.prod {L n m : Nat} (hL : Ell L) (hn : n % L ≠ 0) (hm : m % L ≠ 0) : n * m % L ≠ 0 := by
  intro h0
  obtain ⟨r, hr⟩ := hL.inv n hn
  have h1 : n * r * m % L = 0 := by rw [show n * r * m = n * m * r by rw [Nat.mul_assoc, Nat.mul_comm r m, Nat.mul_assoc], Nat.mul_mod, h0, Nat.zero_mul, Nat.zero_mod]
  rw [Nat.mul_mod, hr, Nat.one_mul, Nat.mod_mod] at h1
  exact hm h1
/-- What stands behind 9, multiplied by clamped scalars one behind the other. -/
def From9 (q : Nat) : Prop := q < P25 ∧ ∃ (L : Nat) (_ : Ell L) (s δ : Fp) (hδ : NonSq δ) (_ : Par s δ) (G : Pt δ) (n : Nat), toF 9 * (1 - G.y) = s * (1 + G.y) ∧ 1 + G.y ≠ 0 ∧ n % L ≠ 0 ∧ toF q = (G.mul hδ n).u s
theorem from9_ne {q : Nat} (h : From9 q) : q ≠ 0 := by
  obtain ⟨_, L, hL, s, δ, hδ, hp, G, n, hx, hy, hn, he⟩ := h
  rintro rfl
  exact mul_not_null hδ hL hp hx hy hn ((u_zero hδ hp).1 he.symm)
theorem from9_nine : From9 9 := by
  obtain ⟨s, δ, hδ, hp, G, hx, hy⟩ := exists_pt (u := toF 9) (by decide)
  obtain ⟨L, hL⟩ := ell
  refine ⟨by decide, L, hL, s, δ, hδ, hp, G, 1, hx, hy, hL.one, ?_⟩
  rw [mul_one']
  have h1 : 1 - G.y ≠ 0 := by
    intro h0
    have hs := par_sq hp
    have hsn : s ≠ 0 := by rintro rfl; revert hs; decide
    rw [h0] at hx
    have : s * (1 + G.y) = 0 := by rw [← hx]; clear hx hs hp hy; grobner
    exact mul_ne hsn hy this
  unfold Pt.u
  rw [if_neg h1, ← hx]
  have := mul_finv h1
  clear hx hy hp h1
  grobner
theorem from9_step {q : Nat} (h : From9 q) (ks : List UInt8) (hk : ks.length = 32) : From9 (multN q (clampB ks)) := by
  have hne := from9_ne h
  obtain ⟨hq, L, hL, s, δ, hδ, hp, G, n, hx, hy, hn, he⟩ := h
  have h0 : toF q ≠ 0 := fun h => hne (zero_of hq h)
  rw [he] at h0
  obtain ⟨b1, b2⟩ := u_back hp h0
  refine ⟨multN_lt _ _, L, hL, s, δ, hδ, hp, G, n * kval (clampB ks) 255, hx, hy, hL.prod hn (hL.clamp ks hk), ?_⟩
  rw [mul_mul']
  exact multN_u hδ hp (by rw [he]; exact b1) b2 (clampB ks)
end Ed
end Go.Proofs.Ytkibgdigcgakfaa
