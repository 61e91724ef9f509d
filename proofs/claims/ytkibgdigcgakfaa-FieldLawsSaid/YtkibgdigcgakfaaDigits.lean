/-
  Numbers by digits: plain laws, nothing of the program.
-/
import Derived.Test.YtkibgdigcgakfaaProg
namespace Go.Proofs.Ytkibgdigcgakfaa

def val (B : Nat) : List Nat → Nat
  | [] => 0
  | x :: l => x + B * val B l
def dig (B : Nat) : Nat → Nat → List Nat
  | 0, _ => []
  | k + 1, n => n % B :: dig B k (n / B)
theorem dig_length (B : Nat) : ∀ k n, (dig B k n).length = k
  | 0, _ => rfl
  | k + 1, n => by rw [dig, List.length_cons, dig_length B k]
theorem val_dig (B : Nat) : ∀ k n, val B (dig B k n) = n % B ^ k
  | 0, n => by simp [dig, val, Nat.mod_one]
  | k + 1, n => by rw [dig, val, val_dig B k, Nat.pow_succ', Nat.mod_mul]
theorem dig_lt {B : Nat} (hB : 0 < B) : ∀ k n, ∀ x ∈ dig B k n, x < B
  | 0, _, x, h => by cases h
  | k + 1, n, x, h => by
    rcases List.mem_cons.1 h with rfl | h
    · exact Nat.mod_lt _ hB
    · exact dig_lt hB k _ x h
theorem dig_val {B : Nat} : ∀ l : List Nat, (∀ x ∈ l, x < B) → dig B l.length (val B l) = l
  | [], _ => rfl
  | x :: l, h => by
    have hx : x < B := h x (by simp)
    rw [List.length_cons, val, dig, Nat.add_mul_mod_self_left, Nat.mod_eq_of_lt hx, Nat.add_mul_div_left _ _ (by omega), Nat.div_eq_of_lt hx, Nat.zero_add, dig_val l (fun y hy => h y (by simp [hy]))]
theorem val_lt {B : Nat} : ∀ l : List Nat, (∀ x ∈ l, x < B) → val B l < B ^ l.length
  | [], _ => by simp [val]
  | x :: l, h => by
    have hx : x < B := h x (by simp)
    have := val_lt l (fun y hy => h y (by simp [hy]))
    rw [val, List.length_cons, Nat.pow_succ']
    have h2 : B * (val B l + 1) ≤ B * B ^ l.length := Nat.mul_le_mul_left B this
    rw [Nat.mul_add, Nat.mul_one] at h2
    omega
theorem dig_get (B : Nat) : ∀ k n i, i < k → (dig B k n)[i]? = some (n / B ^ i % B)
  | 0, _, _, h => by omega
  | k + 1, n, 0, _ => by simp [dig]
  | k + 1, n, i + 1, h => by
    rw [dig, List.getElem?_cons_succ, dig_get B k _ i (by omega), Nat.div_div_eq_div_mul, ← Nat.pow_succ']
theorem dig_getD (B k n i : Nat) (h : i < k) : (dig B k n).getD i 0 = n / B ^ i % B := by
  rw [List.getD_eq_getElem?_getD, dig_get B k n i h]
  rfl
theorem dig_snoc (B : Nat) : ∀ k n, dig B (k + 1) n = dig B k n ++ [n / B ^ k % B]
  | 0, n => by simp [dig]
  | k + 1, n => by
    rw [dig, dig_snoc B k (n / B), dig, List.cons_append, Nat.div_div_eq_div_mul, ← Nat.pow_succ']
theorem val_append (B : Nat) : ∀ l m : List Nat, val B (l ++ m) = val B l + B ^ l.length * val B m
  | [], m => by simp [val]
  | x :: l, m => by
    rw [List.cons_append, val, val_append B l m, val, List.length_cons, Nat.pow_succ', Nat.mul_add, Nat.mul_assoc, Nat.add_assoc]
theorem val_set (B : Nat) : ∀ (l : List Nat) (i v : Nat), i < l.length → val B (l.set i v) + B ^ i * l.getD i 0 = val B l + B ^ i * v
  | [], _, _, h => by simp at h
  | x :: l, 0, v, _ => by simp [val]; omega
  | x :: l, i + 1, v, h => by
    have ih := val_set B l i v (by simpa using h)
    have e1 : B * (val B (l.set i v) + B ^ i * l.getD i 0) = B * (val B l + B ^ i * v) := by rw [ih]
    rw [List.set_cons_succ, val, val, List.getD_cons_succ, Nat.pow_succ', Nat.mul_assoc, Nat.mul_assoc]
    rw [Nat.mul_add, Nat.mul_add] at e1
    omega
theorem val_zeros (B : Nat) : ∀ n, val B (List.replicate n 0) = 0
  | 0 => rfl
  | n + 1 => by rw [List.replicate_succ, val, val_zeros B n, Nat.mul_zero]
theorem dig_zero (B : Nat) : ∀ k, dig B k 0 = List.replicate k 0
  | 0 => rfl
  | k + 1 => by rw [dig, Nat.zero_mod, Nat.zero_div, dig_zero B k, List.replicate_succ]
theorem val_inj {B : Nat} {l m : List Nat} (hl : ∀ x ∈ l, x < B) (hm : ∀ x ∈ m, x < B) (hlen : l.length = m.length) (h : val B l = val B m) : l = m := by
  rw [← dig_val l hl, ← dig_val m hm, hlen, h]
theorem dig_mod {B : Nat} : ∀ k n, dig B k (n % B ^ k) = dig B k n
  | 0, _ => rfl
  | k + 1, n => by
    rw [dig, dig, Nat.pow_succ', Nat.mod_mul_right_mod, Nat.mod_mul_right_div_self, dig_mod k]
theorem dig_inj {B k n m : Nat} (hn : n < B ^ k) (hm : m < B ^ k) (h : dig B k n = dig B k m) : n = m := by
  have := val_dig B k n
  rw [h, val_dig, Nat.mod_eq_of_lt hn, Nat.mod_eq_of_lt hm] at this
  exact this.symm

/-! ### Sums by digits -/
/-- What is carried into digit k. -/
def carr (B a b c k : Nat) : Nat := (a % B ^ k + b % B ^ k + c) / B ^ k
theorem carr_zero (B a b c : Nat) : carr B a b c 0 = c := by simp [carr, Nat.mod_one]
theorem mod_pow_succ (B a k : Nat) : a % B ^ (k + 1) = a % B ^ k + B ^ k * (a / B ^ k % B) := by rw [Nat.pow_succ, Nat.mod_mul]
theorem carr_succ {B : Nat} (hB : 0 < B) (a b c k : Nat) : (a / B ^ k % B + b / B ^ k % B + carr B a b c k) / B = carr B a b c (k + 1) := by
  have hp : 0 < B ^ k := Nat.pow_pos hB
  rw [carr, carr, mod_pow_succ, mod_pow_succ, Nat.pow_succ, ← Nat.div_div_eq_div_mul]
  congr 1
  have e : a % B ^ k + B ^ k * (a / B ^ k % B) + (b % B ^ k + B ^ k * (b / B ^ k % B)) + c = (a % B ^ k + b % B ^ k + c) + B ^ k * (a / B ^ k % B + b / B ^ k % B) := by rw [Nat.mul_add]; omega
  rw [e, Nat.add_mul_div_left _ _ hp, Nat.add_comm]
theorem sum_dig {B : Nat} (hB : 0 < B) (a b c k : Nat) : (a / B ^ k % B + b / B ^ k % B + carr B a b c k) % B = (a + b + c) / B ^ k % B := by
  have hp : 0 < B ^ k := Nat.pow_pos hB
  have ea := Nat.div_add_mod a (B ^ k)
  have eb := Nat.div_add_mod b (B ^ k)
  have e : a + b + c = (a % B ^ k + b % B ^ k + c) + B ^ k * (a / B ^ k + b / B ^ k) := by rw [Nat.mul_add]; omega
  rw [e, Nat.add_mul_div_left _ _ hp, ← carr, Nat.add_mod, Nat.add_mod (a / B ^ k % B), Nat.mod_mod, Nat.mod_mod, ← Nat.add_mod (a / B ^ k), ← Nat.add_mod, Nat.add_comm]
theorem carr_le {B : Nat} (hB : 0 < B) (a b c k : Nat) (hc : c ≤ 1) : carr B a b c k ≤ 1 := by
  have hp : 0 < B ^ k := Nat.pow_pos hB
  rw [carr]
  refine Nat.le_of_lt_succ (Nat.div_lt_of_lt_mul ?_)
  have := Nat.mod_lt a hp
  have := Nat.mod_lt b hp
  omega
theorem carr_end {B : Nat} (a b c k : Nat) (ha : a < B ^ k) (hb : b < B ^ k) : carr B a b c k = (a + b + c) / B ^ k := by rw [carr, Nat.mod_eq_of_lt ha, Nat.mod_eq_of_lt hb]

/-! ### Differences by digits -/
/-- What is owed at digit k. -/
def owed (B a b k : Nat) : Nat := if a % B ^ k < b % B ^ k then 1 else 0
theorem owed_zero (B a b : Nat) : owed B a b 0 = 0 := by simp [owed, Nat.mod_one]
theorem owed_le (B a b k : Nat) : owed B a b k ≤ 1 := by
  unfold owed
  split <;> omega
theorem owed_succ {B : Nat} (hB : 0 < B) (a b k : Nat) : owed B a b (k + 1) = if a / B ^ k % B < b / B ^ k % B + owed B a b k then 1 else 0 := by
  have hp : 0 < B ^ k := Nat.pow_pos hB
  rw [owed, owed, mod_pow_succ, mod_pow_succ]
  have ha := Nat.mod_lt a hp
  have hb := Nat.mod_lt b hp
  generalize a % B ^ k = x at *
  generalize b % B ^ k = y at *
  generalize a / B ^ k % B = p at *
  generalize b / B ^ k % B = q at *
  generalize B ^ k = M at *
  have e : ∀ p q : Nat, p + 1 ≤ q → M * p + M ≤ M * q := fun p q h => by
    have := Nat.mul_le_mul_left M h
    rwa [Nat.mul_add, Nat.mul_one] at this
  rcases Nat.lt_trichotomy p q with h | h | h
  · have := e p q h
    rw [if_pos (by omega), if_pos (by split <;> omega)]
  · subst h
    by_cases hxy : x < y
    · rw [if_pos (by omega), if_pos (by rw [if_pos hxy]; omega)]
    · rw [if_neg (by omega), if_neg (by rw [if_neg hxy]; omega)]
  · have := e q p h
    rw [if_neg (by omega), if_neg (by split <;> omega)]
theorem diff_aux (a b M N qa ra qb rb w : Nat) (ea : M * qa + ra = a) (eb : M * qb + rb = b) (hb : rb < M) (ha : ra < M) (hq : qb + 1 ≤ N) (hw : w = if ra < rb then 1 else 0) :
    a + M * N - b = (ra + w * M - rb) + M * (qa + N - qb - w) ∧ ra + w * M - rb < M := by
  obtain ⟨t, rfl⟩ : ∃ t, N = qb + 1 + t := ⟨N - qb - 1, by omega⟩
  subst ea
  subst eb
  subst hw
  by_cases h : ra < rb
  · rw [if_pos h, show qa + (qb + 1 + t) - qb - 1 = qa + t by omega]
    simp only [Nat.mul_add, Nat.mul_one, Nat.one_mul]
    omega
  · rw [if_neg h, show qa + (qb + 1 + t) - qb - 0 = qa + 1 + t by omega]
    simp only [Nat.mul_add, Nat.mul_one, Nat.zero_mul]
    omega
theorem diff_dig {B : Nat} (hB : 0 < B) (a b k n : Nat) (hk : k < n) (hb : b < B ^ n) : (a / B ^ k % B + B - b / B ^ k % B - owed B a b k) % B = (a + B ^ n - b) / B ^ k % B := by
  have hp : 0 < B ^ k := Nat.pow_pos hB
  obtain ⟨m, rfl⟩ : ∃ m, n = k + (m + 1) := ⟨n - k - 1, by omega⟩
  have hbk : b / B ^ k < B ^ (m + 1) := by
    rw [Nat.pow_add] at hb
    exact Nat.div_lt_of_lt_mul hb
  obtain ⟨key, hr⟩ := diff_aux a b (B ^ k) (B ^ (m + 1)) (a / B ^ k) (a % B ^ k) (b / B ^ k) (b % B ^ k) (owed B a b k) (Nat.div_add_mod a _) (Nat.div_add_mod b _) (Nat.mod_lt b hp) (Nat.mod_lt a hp) hbk rfl
  rw [← Nat.pow_add] at key
  rw [key, Nat.add_mul_div_left _ _ hp, Nat.div_eq_of_lt hr, Nat.zero_add]
  -- modulo B
  have hq : b / B ^ k % B < B := Nat.mod_lt _ hB
  have e3 := Nat.div_add_mod (a / B ^ k) B
  have e4 := Nat.div_add_mod (b / B ^ k) B
  have hle : b / B ^ k / B < B ^ m := Nat.div_lt_of_lt_mul (by rw [Nat.pow_succ'] at hbk; exact hbk)
  have hol := owed_le B a b k
  have key2 : a / B ^ k + B ^ (m + 1) - b / B ^ k - owed B a b k = (a / B ^ k % B + B - b / B ^ k % B - owed B a b k) + B * (a / B ^ k / B + B ^ m - b / B ^ k / B - 1) := by
    rw [Nat.pow_succ', Nat.mul_sub, Nat.mul_sub, Nat.mul_add, Nat.mul_one]
    have e1 : B * (b / B ^ k / B) + B ≤ B * B ^ m := by
      have := Nat.mul_le_mul_left B hle
      rwa [Nat.succ_eq_add_one, Nat.mul_add, Nat.mul_one] at this
    omega
  rw [key2, Nat.add_mul_mod_self_left]
theorem owed_end {B : Nat} (a b k : Nat) (ha : a < B ^ k) (hb : b < B ^ k) : owed B a b k = if a < b then 1 else 0 := by rw [owed, Nat.mod_eq_of_lt ha, Nat.mod_eq_of_lt hb]

/-! ### An array that is filled from the left -/
def filled {α : Type} (S A : List α) (k : Nat) : List α := S.take k ++ A.drop k
theorem filled_length {α : Type} (S A : List α) (k : Nat) (h : S.length = A.length) : (filled S A k).length = A.length := by
  simp [filled, h]
  omega
theorem filled_zero {α : Type} (S A : List α) : filled S A 0 = A := by simp [filled]
theorem filled_all {α : Type} (S A : List α) (k : Nat) (h : S.length = k) (h2 : A.length = k) : filled S A k = S := by simp [filled, ← h, List.drop_of_length_le, h2]
theorem filled_old {α : Type} (S A : List α) (k j : Nat) (h : S.length = A.length) (hk : k ≤ j) (hj : j < A.length) : (filled S A k)[j]? = A[j]? := by
  rw [filled, List.getElem?_append_right (by simp; omega), List.getElem?_drop]
  congr 1
  simp
  omega
theorem filled_step {α : Type} (S A : List α) (k : Nat) (v : α) (h : S.length = A.length) (hk : k < A.length) (hv : S[k]? = some v) : (filled S A k).set k v = filled S A (k + 1) := by
  rw [filled, filled, List.set_append_right _ _ (by simp; omega), List.take_add_one, hv, List.append_assoc]
  congr 1
  rw [List.drop_eq_getElem_cons hk]
  have : k - (S.take k).length = 0 := by simp; omega
  rw [this, List.set_cons_zero]
  rfl

/-! ### Products by digits, row by row -/
/-- Row i behind j steps: the digits and what is carried. -/
def rowAt (B x : Nat) (ys ws : List Nat) (i : Nat) : Nat → List Nat × Nat
  | 0 => (ws, 0)
  | j + 1 => ((rowAt B x ys ws i j).1.set (i + j) ((x * ys.getD j 0 + (rowAt B x ys ws i j).1.getD (i + j) 0 + (rowAt B x ys ws i j).2) % B),
      (x * ys.getD j 0 + (rowAt B x ys ws i j).1.getD (i + j) 0 + (rowAt B x ys ws i j).2) / B)
theorem rowAt_length (B x : Nat) (ys ws : List Nat) (i : Nat) : ∀ j, (rowAt B x ys ws i j).1.length = ws.length
  | 0 => rfl
  | j + 1 => by rw [rowAt, List.length_set, rowAt_length]
theorem set_lt {B : Nat} {l : List Nat} (h : ∀ x ∈ l, x < B) (i v : Nat) (hv : v < B) : ∀ x ∈ l.set i v, x < B := by
  intro x hx
  rcases List.mem_or_eq_of_mem_set hx with hx | rfl
  · exact h x hx
  · exact hv
theorem getD_lt {B : Nat} (hB : 0 < B) {l : List Nat} (h : ∀ x ∈ l, x < B) (i : Nat) : l.getD i 0 < B := by
  rw [List.getD_eq_getElem?_getD]
  rcases Nat.lt_or_ge i l.length with hi | hi
  · rw [List.getElem?_eq_getElem hi]
    exact h _ (List.getElem_mem hi)
  · rw [List.getElem?_eq_none hi]
    exact hB
theorem mac_lt {B x y w c : Nat} (hx : x < B) (hy : y < B) (hw : w < B) (hc : c < B) : (x * y + w + c) / B < B := by
  refine Nat.div_lt_of_lt_mul ?_
  have h1 : x * y ≤ (B - 1) * (B - 1) := Nat.mul_le_mul (by omega) (by omega)
  have h2 : (B - 1) * (B - 1) + (B - 1) + (B - 1) < B * B := by
    obtain ⟨k, rfl⟩ : ∃ k, B = k + 1 := ⟨B - 1, by omega⟩
    rw [Nat.add_sub_cancel, Nat.add_mul, Nat.mul_add]
    omega
  omega
theorem rowAt_lt {B : Nat} (x : Nat) (ys ws : List Nat) (i : Nat) (hx : x < B) (hy : ∀ y ∈ ys, y < B) (hw : ∀ y ∈ ws, y < B) : ∀ j, (∀ y ∈ (rowAt B x ys ws i j).1, y < B) ∧ (rowAt B x ys ws i j).2 < B
  | 0 => ⟨hw, by rw [rowAt]; omega⟩
  | j + 1 => by
    have hB : 0 < B := by omega
    obtain ⟨h1, h2⟩ := rowAt_lt x ys ws i hx hy hw j
    exact ⟨set_lt h1 _ _ (Nat.mod_lt _ hB), mac_lt hx (getD_lt hB hy j) (getD_lt hB h1 _) h2⟩
theorem rowAt_far (B x : Nat) (ys ws : List Nat) (i k : Nat) : ∀ j, i + j ≤ k → (rowAt B x ys ws i j).1[k]? = ws[k]?
  | 0, _ => rfl
  | j + 1, h => by rw [rowAt, List.getElem?_set_ne (by omega), rowAt_far B x ys ws i k j (by omega)]
theorem val_take_succ (B : Nat) (l : List Nat) (k : Nat) (h : k < l.length) : val B (l.take (k + 1)) = val B (l.take k) + B ^ k * l.getD k 0 := by
  rw [List.take_succ_eq_append_getElem h, val_append, List.length_take, Nat.min_eq_left (by omega), List.getD_eq_getElem?_getD, List.getElem?_eq_getElem h]
  simp [val]
theorem rowAt_val {B : Nat} (x : Nat) (ys ws : List Nat) (i : Nat) : ∀ j, j ≤ ys.length → i + j ≤ ws.length →
    val B (rowAt B x ys ws i j).1 + B ^ (i + j) * (rowAt B x ys ws i j).2 = val B ws + B ^ i * (x * val B (ys.take j))
  | 0, _, _ => by simp [rowAt, val]
  | j + 1, h1, h2 => by
    have ih := rowAt_val (B := B) x ys ws i j (by omega) (by omega)
    have hs := val_set B (rowAt B x ys ws i j).1 (i + j) ((x * ys.getD j 0 + (rowAt B x ys ws i j).1.getD (i + j) 0 + (rowAt B x ys ws i j).2) % B) (by rw [rowAt_length]; omega)
    have hd := Nat.div_add_mod (x * ys.getD j 0 + (rowAt B x ys ws i j).1.getD (i + j) 0 + (rowAt B x ys ws i j).2) B
    rw [rowAt, val_take_succ B ys j (by omega)]
    simp only
    generalize (rowAt B x ys ws i j).1.getD (i + j) 0 = w at *
    generalize (rowAt B x ys ws i j).2 = c at *
    generalize ys.getD j 0 = y at *
    generalize (x * y + w + c) / B = q at *
    generalize (x * y + w + c) % B = r at *
    generalize val B ((rowAt B x ys ws i j).1.set (i + j) r) = V at *
    generalize val B (rowAt B x ys ws i j).1 = U at *
    generalize val B (ys.take j) = Y at *
    generalize val B ws = W at *
    have e1 : B ^ (i + (j + 1)) = B ^ (i + j) * B := by rw [← Nat.add_assoc, Nat.pow_succ]
    have e2 : B ^ i * (x * (Y + B ^ j * y)) = B ^ i * (x * Y) + B ^ (i + j) * (x * y) := by
      rw [Nat.pow_add, Nat.mul_add, Nat.mul_add]
      congr 1
      rw [Nat.mul_assoc, Nat.mul_left_comm x]
    have e3 : B ^ (i + j) * (B * q + r) = B ^ (i + j) * (x * y + w + c) := by rw [hd]
    rw [e1, e2, Nat.mul_assoc]
    rw [Nat.mul_add, Nat.mul_add, Nat.mul_add] at e3
    generalize B ^ (i + j) * (B * q) = A1 at *
    generalize B ^ (i + j) * r = A2 at *
    generalize B ^ (i + j) * (x * y) = A3 at *
    generalize B ^ (i + j) * w = A4 at *
    generalize B ^ (i + j) * c = A5 at *
    generalize B ^ i * (x * Y) = A6 at *
    omega
/-- Behind i rows. -/
def prodAt (B : Nat) (xs ys : List Nat) (n : Nat) : Nat → List Nat
  | 0 => List.replicate n 0
  | i + 1 => (rowAt B (xs.getD i 0) ys (prodAt B xs ys n i) i ys.length).1.set (i + ys.length) (rowAt B (xs.getD i 0) ys (prodAt B xs ys n i) i ys.length).2
theorem prodAt_length (B : Nat) (xs ys : List Nat) (n : Nat) : ∀ i, (prodAt B xs ys n i).length = n
  | 0 => by simp [prodAt]
  | i + 1 => by rw [prodAt, List.length_set, rowAt_length, prodAt_length]
theorem prodAt_lt {B : Nat} (hB : 0 < B) (xs ys : List Nat) (n : Nat) (hx : ∀ x ∈ xs, x < B) (hy : ∀ y ∈ ys, y < B) : ∀ i, ∀ w ∈ prodAt B xs ys n i, w < B
  | 0, w, h => by
    have := List.eq_of_mem_replicate h
    omega
  | i + 1, w, h => by
    have := rowAt_lt (xs.getD i 0) ys (prodAt B xs ys n i) i (getD_lt hB hx i) hy (prodAt_lt hB xs ys n hx hy i) ys.length
    exact set_lt this.1 _ _ this.2 w h
theorem prodAt_far (B : Nat) (xs ys : List Nat) (n k : Nat) : ∀ i, i + ys.length ≤ k → k < n → (prodAt B xs ys n i)[k]? = some 0
  | 0, _, hk => by rw [prodAt, List.getElem?_replicate, if_pos hk]
  | i + 1, h, hk => by rw [prodAt, List.getElem?_set_ne (by omega), rowAt_far _ _ _ _ _ _ _ (by omega), prodAt_far B xs ys n k i (by omega) hk]
theorem prodAt_val {B : Nat} (xs ys : List Nat) (n : Nat) : ∀ i, i ≤ xs.length → i + ys.length ≤ n → val B (prodAt B xs ys n i) = val B (xs.take i) * val B ys
  | 0, _, _ => by simp [prodAt, val_zeros, val]
  | i + 1, h1, h2 => by
    have ih := prodAt_val (B := B) xs ys n i (by omega) (by omega)
    have hr := rowAt_val (B := B) (xs.getD i 0) ys (prodAt B xs ys n i) i ys.length (Nat.le_refl _) (by rw [prodAt_length]; omega)
    have hf := rowAt_far B (xs.getD i 0) ys (prodAt B xs ys n i) i (i + ys.length) ys.length (Nat.le_refl _)
    rw [prodAt_far B xs ys n _ i (Nat.le_refl _) (by omega)] at hf
    have hs := val_set B (rowAt B (xs.getD i 0) ys (prodAt B xs ys n i) i ys.length).1 (i + ys.length) (rowAt B (xs.getD i 0) ys (prodAt B xs ys n i) i ys.length).2 (by rw [rowAt_length, prodAt_length]; omega)
    have hf' : (rowAt B (xs.getD i 0) ys (prodAt B xs ys n i) i ys.length).1.getD (i + ys.length) 0 = 0 := by rw [List.getD_eq_getElem?_getD, hf]; rfl
    rw [hf', Nat.mul_zero, Nat.add_zero, hr, ih, List.take_length] at hs
    rw [prodAt, hs, val_take_succ B xs i (by omega), Nat.add_mul, Nat.mul_assoc]
end Go.Proofs.Ytkibgdigcgakfaa
