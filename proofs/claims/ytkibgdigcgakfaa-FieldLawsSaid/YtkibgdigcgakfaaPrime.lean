/-
  Powers modulo a number, and primes by certificates (Lucas): nothing of the program.
-/
import Derived.Test.YtkibgdigcgakfaaProg
namespace Go.Proofs.Ytkibgdigcgakfaa

def Prm (n : Nat) : Prop := 2 ≤ n ∧ ∀ d, d ∣ n → d = 1 ∨ d = n
def small (n : Nat) : Bool := decide (2 ≤ n) && (List.range n).all fun d => d ≤ 1 || n % d != 0
theorem prm_small {n : Nat} (h : small n = true) : Prm n := by
  simp only [small, Bool.and_eq_true, decide_eq_true_eq, List.all_eq_true, List.mem_range, Bool.or_eq_true, bne_iff_ne] at h
  refine ⟨h.1, fun d hd => ?_⟩
  have hle := Nat.le_of_dvd (by omega) hd
  by_cases he : d = n
  · exact .inr he
  · rcases h.2 d (by omega) with h1 | h1
    · rcases Nat.lt_or_ge 0 d with h0 | h0
      · exact .inl (by omega)
      · have : d = 0 := by omega
        subst this
        have := Nat.eq_zero_of_zero_dvd hd
        omega
    · exact absurd (Nat.mod_eq_zero_of_dvd hd) h1
/-- A power, by squares. -/
def pwm (m : Nat) : Nat → Nat → Nat → Nat
  | 0, _, _ => 1 % m
  | f + 1, b, e => if e = 0 then 1 % m else if e % 2 = 1 then b * pwm m f (b * b % m) (e / 2) % m else pwm m f (b * b % m) (e / 2)
theorem pow_mod_base (b e m : Nat) : (b % m) ^ e % m = b ^ e % m := (Nat.pow_mod b e m).symm
theorem pwm_eq (m : Nat) : ∀ (f b e : Nat), e < 2 ^ f → pwm m f b e = b ^ e % m
  | 0, b, e, h => by
    obtain rfl : e = 0 := by simpa using h
    rfl
  | f + 1, b, e, h => by
    have ih := pwm_eq m f (b * b % m) (e / 2) (by rw [Nat.pow_succ] at h; omega)
    rw [pow_mod_base] at ih
    have hb : (b * b) ^ (e / 2) = b ^ (2 * (e / 2)) := by rw [Nat.pow_mul, Nat.pow_two]
    rw [hb] at ih
    rw [pwm]
    split
    · rename_i h0
      rw [h0]
      rfl
    · split
      · rename_i h1
        rw [ih, Nat.mul_mod_mod, ← Nat.pow_succ']
        congr 2
        omega
      · rw [ih]
        congr 2
        omega
/-- A prime that divides no t is coprime to it; a number above 1 that divides a product of primes is divided by one of them. -/
theorem prime_of_prod (t : Nat) (ht : 1 < t) : ∀ fs : List Nat, (∀ q ∈ fs, Prm q) → t ∣ fs.foldr (· * ·) 1 → ∃ q ∈ fs, q ∣ t
  | [], _, h => by
    have := Nat.le_of_dvd (by decide) h
    simp at this
    omega
  | q :: fs, hp, h => by
    have hq := hp q (by simp)
    rcases hq.2 (Nat.gcd t q) (Nat.gcd_dvd_right t q) with h1 | h1
    · obtain ⟨r, hr, hd⟩ := prime_of_prod t ht fs (fun r hr => hp r (by simp [hr])) (Nat.Coprime.dvd_of_dvd_mul_left h1 h)
      exact ⟨r, by simp [hr], hd⟩
    · exact ⟨q, by simp, h1 ▸ Nat.gcd_dvd_left t q⟩
theorem length_le_of_nodup : ∀ (l m : List Nat), l.Nodup → (∀ x ∈ l, x ∈ m) → l.length ≤ m.length
  | [], _, _, _ => Nat.zero_le _
  | x :: l, m, h, hs => by
    rw [List.nodup_cons] at h
    have hx := hs x (by simp)
    have := length_le_of_nodup l (m.erase x) h.2 (fun y hy => (List.mem_erase_of_ne (fun e => by subst e; exact h.1 hy)).2 (hs y (by simp [hy])))
    rw [List.length_erase_of_mem hx] at this
    have := List.length_pos_of_mem hx
    simp only [List.length_cons]
    omega
/-- Among as many as there are, none is missing. -/
theorem mem_of_full (l : List Nat) (n : Nat) (hd : l.Nodup) (hl : l.length = n) (hb : ∀ x ∈ l, 0 < x ∧ x < n + 1) (a : Nat) (h0 : 0 < a) (h1 : a < n + 1) : a ∈ l := by
  refine Classical.byContradiction fun ha => ?_
  have := length_le_of_nodup (0 :: a :: l) (List.range (n + 1)) (by
    rw [List.nodup_cons, List.nodup_cons]
    refine ⟨?_, ha, hd⟩
    intro h
    rcases List.mem_cons.1 h with h | h
    · omega
    · have := hb 0 h
      omega) (by
    intro x hx
    rw [List.mem_range]
    rcases List.mem_cons.1 hx with rfl | hx
    · omega
    · rcases List.mem_cons.1 hx with rfl | hx
      · omega
      · exact (hb x hx).2)
  simp [hl] at this
  omega
theorem pow_mod_one {g n k : Nat} (hn : 2 ≤ n) (h : g ^ k % n = 1) (j : Nat) : g ^ (k * j) % n = 1 := by
  rw [Nat.pow_mul, Nat.pow_mod, h, Nat.one_pow]
  exact Nat.mod_eq_of_lt (by omega)
theorem mul_mod_one {a b n : Nat} (ha : a % n = 1) : a * b % n = b % n := by
  rw [Nat.mul_mod, ha, Nat.one_mul, Nat.mod_mod]
theorem nodup_map_range (f : Nat → Nat) : ∀ n, (∀ i j, i < j → j < n → f i ≠ f j) → ((List.range n).map f).Nodup
  | 0, _ => by simp
  | n + 1, h => by
    rw [List.range_succ, List.map_append, List.nodup_append]
    refine ⟨nodup_map_range f n fun i j hi hj => h i j hi (by omega), by simp, ?_⟩
    intro a ha b hb
    obtain ⟨i, hi, rfl⟩ := List.mem_map.1 ha
    rw [List.mem_range] at hi
    simp only [List.map_cons, List.map_nil, List.mem_singleton] at hb
    subst hb
    exact h i n hi (by omega)
theorem lucas (n g : Nat) (fs : List Nat) (hn : 2 ≤ n) (hprod : fs.foldr (· * ·) 1 = n - 1) (hpr : ∀ q ∈ fs, Prm q) (h1 : g ^ (n - 1) % n = 1) (h2 : ∀ q ∈ fs, g ^ ((n - 1) / q) % n ≠ 1) :
    Prm n ∧ ∀ a, a % n ≠ 0 → a ^ (n - 1) % n = 1 := by
  -- the order of g
  have hord : ∀ k, 0 < k → k < n - 1 → g ^ k % n ≠ 1 := by
    intro k
    induction k using Nat.strongRecOn with
    | _ m ih =>
      intro h0 hlt hg
      -- m is the least
      by_cases hr : (n - 1) % m = 0
      · have ht : m * ((n - 1) / m) = n - 1 := Nat.mul_div_cancel' (Nat.dvd_of_mod_eq_zero hr)
        generalize (n - 1) / m = t at ht
        have ht1 : 1 < t := by
          rcases Nat.lt_or_ge 1 t with h | h
          · exact h
          · have : m * t ≤ m * 1 := Nat.mul_le_mul_left m h
            omega
        obtain ⟨q, hq, u, hu⟩ := prime_of_prod t ht1 fs hpr (by rw [hprod, ← ht]; exact Nat.dvd_mul_left t m)
        have hqp := (hpr q hq).1
        refine h2 q hq ?_
        have : (n - 1) / q = m * u := by
          rw [← ht, hu, Nat.mul_left_comm]
          exact Nat.mul_div_cancel_left _ (by omega)
        rw [this]
        exact pow_mod_one hn hg u
      · refine ih ((n - 1) % m) (Nat.mod_lt _ h0) (by omega) (by have := Nat.mod_lt (n - 1) h0; omega) ?_
        have hd : g ^ (m * ((n - 1) / m)) * g ^ ((n - 1) % m) = g ^ (n - 1) := by rw [← Nat.pow_add, Nat.div_add_mod]
        have e := mul_mod_one (b := g ^ ((n - 1) % m)) (pow_mod_one hn hg ((n - 1) / m))
        rw [hd, h1] at e
        exact e.symm
  have hinv : ∀ i, i ≤ n - 1 → g ^ i * g ^ (n - 1 - i) % n = 1 := by
    intro i hi
    rw [← Nat.pow_add, show i + (n - 1 - i) = n - 1 by omega]
    exact h1
  have hnz : ∀ i, i ≤ n - 1 → g ^ i % n ≠ 0 := by
    intro i hi h
    have := hinv i hi
    rw [Nat.mul_mod, h, Nat.zero_mul, Nat.zero_mod] at this
    omega
  have hall : ∀ a, a % n ≠ 0 → ∃ i, i < n - 1 ∧ g ^ i % n = a % n := by
    intro a ha
    have := mem_of_full ((List.range (n - 1)).map fun i => g ^ i % n) (n - 1) (nodup_map_range _ _ (by
      intro i j hi hj he
      refine hord (j - i) (by omega) (by omega) ?_
      have e1 : g ^ j = g ^ i * g ^ (j - i) := by rw [← Nat.pow_add]; congr 1; omega
      have e2 := hinv i (by omega)
      have e3 : g ^ (n - 1 - i) * g ^ j % n = g ^ (n - 1 - i) * g ^ i % n := by rw [Nat.mul_mod, ← he, ← Nat.mul_mod]
      rw [e1, ← Nat.mul_assoc, Nat.mul_comm (g ^ (n - 1 - i)), mul_mod_one e2, e2] at e3
      exact e3)) (by simp) (by
      intro x hx
      obtain ⟨i, hi, rfl⟩ := List.mem_map.1 hx
      rw [List.mem_range] at hi
      have := hnz i (by omega)
      have := Nat.mod_lt (g ^ i) (show 0 < n by omega)
      omega) (a % n) (by omega) (by have := Nat.mod_lt a (show 0 < n by omega); omega)
    obtain ⟨i, hi, he⟩ := List.mem_map.1 this
    exact ⟨i, List.mem_range.1 hi, he⟩
  have hfer : ∀ a, a % n ≠ 0 → a ^ (n - 1) % n = 1 := by
    intro a ha
    obtain ⟨i, _, he⟩ := hall a ha
    rw [← pow_mod_base, ← he, pow_mod_base, ← Nat.pow_mul, Nat.mul_comm]
    exact pow_mod_one hn h1 i
  refine ⟨⟨hn, fun d hd => ?_⟩, hfer⟩
  by_cases hdn : d = n
  · exact .inr hdn
  · refine .inl ?_
    have hle := Nat.le_of_dvd (by omega) hd
    have hd0 : d ≠ 0 := fun h => by
      subst h
      have := Nat.eq_zero_of_zero_dvd hd
      omega
    have h3 := hfer d (by rw [Nat.mod_eq_of_lt (by omega)]; exact hd0)
    have h4 : d ∣ d ^ (n - 1) := by
      obtain ⟨k, hk⟩ : ∃ k, n - 1 = k + 1 := ⟨n - 2, by omega⟩
      rw [hk, Nat.pow_succ]
      exact Nat.dvd_mul_left d _
    have h5 : d ∣ d ^ (n - 1) % n := (Nat.dvd_mod_iff hd).2 h4
    rw [h3] at h5
    exact Nat.dvd_one.1 h5
/-- A certificate's check, by numbers alone. -/
def certB (n g : Nat) (fs : List Nat) : Bool :=
  decide (2 ≤ n) && decide (n < 2 ^ 256) && (fs.foldr (· * ·) 1 == n - 1) && (pwm n 256 g (n - 1) == 1) && fs.all fun q => pwm n 256 g ((n - 1) / q) != 1
theorem prm_cert (n g : Nat) (fs : List Nat) (h : certB n g fs = true) (hpr : ∀ q ∈ fs, Prm q) : Prm n ∧ ∀ a, a % n ≠ 0 → a ^ (n - 1) % n = 1 := by
  simp only [certB, Bool.and_eq_true, decide_eq_true_eq, beq_iff_eq, List.all_eq_true, bne_iff_ne] at h
  obtain ⟨⟨⟨⟨h1, h2⟩, h3⟩, h4⟩, h5⟩ := h
  refine lucas n g fs h1 h3 hpr ?_ ?_
  · rw [pwm_eq _ _ _ _ (by omega)] at h4
    exact h4
  · intro q hq
    have := h5 q hq
    rw [pwm_eq _ _ _ _ (Nat.lt_of_le_of_lt (Nat.div_le_self _ _) (by omega))] at this
    exact this
/-- The primes below 1000 that the certificates name. -/
def smallOnes : List Nat := [2, 3, 5, 7, 13, 17, 19, 23, 29, 31, 41, 43, 47, 59, 83, 97, 103, 107, 127, 131, 173, 223, 353, 419, 479, 487, 991]
theorem smallOnes_prm : ∀ q ∈ smallOnes, Prm q := fun q hq => prm_small (List.all_eq_true.1 (show smallOnes.all small = true by decide +kernel) q hq)
theorem prm_32573 : Prm 32573 ∧ ∀ a, a % 32573 ≠ 0 → a ^ (32573 - 1) % 32573 = 1 :=
  prm_cert 32573 2 [2, 2, 17, 479] (by decide +kernel) (by
    intro q hq
    simp only [List.mem_cons, List.not_mem_nil, or_false] at hq
    rcases hq with rfl | rfl | rfl | rfl
    · exact smallOnes_prm _ (by decide)
    · exact smallOnes_prm _ (by decide)
    · exact smallOnes_prm _ (by decide)
    · exact smallOnes_prm _ (by decide))
theorem prm_65147 : Prm 65147 ∧ ∀ a, a % 65147 ≠ 0 → a ^ (65147 - 1) % 65147 = 1 :=
  prm_cert 65147 2 [2, 32573] (by decide +kernel) (by
    intro q hq
    simp only [List.mem_cons, List.not_mem_nil, or_false] at hq
    rcases hq with rfl | rfl
    · exact smallOnes_prm _ (by decide)
    · exact prm_32573.1)
theorem prm_57467 : Prm 57467 ∧ ∀ a, a % 57467 ≠ 0 → a ^ (57467 - 1) % 57467 = 1 :=
  prm_cert 57467 2 [2, 59, 487] (by decide +kernel) (by
    intro q hq
    simp only [List.mem_cons, List.not_mem_nil, or_false] at hq
    rcases hq with rfl | rfl | rfl
    · exact smallOnes_prm _ (by decide)
    · exact smallOnes_prm _ (by decide)
    · exact smallOnes_prm _ (by decide))
theorem prm_132049 : Prm 132049 ∧ ∀ a, a % 132049 ≠ 0 → a ^ (132049 - 1) % 132049 = 1 :=
  prm_cert 132049 26 [2, 2, 2, 2, 3, 3, 7, 131] (by decide +kernel) (by
    intro q hq
    simp only [List.mem_cons, List.not_mem_nil, or_false] at hq
    rcases hq with rfl | rfl | rfl | rfl | rfl | rfl | rfl | rfl
    · exact smallOnes_prm _ (by decide)
    · exact smallOnes_prm _ (by decide)
    · exact smallOnes_prm _ (by decide)
    · exact smallOnes_prm _ (by decide)
    · exact smallOnes_prm _ (by decide)
    · exact smallOnes_prm _ (by decide)
    · exact smallOnes_prm _ (by decide)
    · exact smallOnes_prm _ (by decide))
theorem prm_3727 : Prm 3727 ∧ ∀ a, a % 3727 ≠ 0 → a ^ (3727 - 1) % 3727 = 1 :=
  prm_cert 3727 3 [2, 3, 3, 3, 3, 23] (by decide +kernel) (by
    intro q hq
    simp only [List.mem_cons, List.not_mem_nil, or_false] at hq
    rcases hq with rfl | rfl | rfl | rfl | rfl | rfl
    · exact smallOnes_prm _ (by decide)
    · exact smallOnes_prm _ (by decide)
    · exact smallOnes_prm _ (by decide)
    · exact smallOnes_prm _ (by decide)
    · exact smallOnes_prm _ (by decide)
    · exact smallOnes_prm _ (by decide))
theorem prm_1923133 : Prm 1923133 ∧ ∀ a, a % 1923133 ≠ 0 → a ^ (1923133 - 1) % 1923133 = 1 :=
  prm_cert 1923133 2 [2, 2, 3, 43, 3727] (by decide +kernel) (by
    intro q hq
    simp only [List.mem_cons, List.not_mem_nil, or_false] at hq
    rcases hq with rfl | rfl | rfl | rfl | rfl
    · exact smallOnes_prm _ (by decide)
    · exact smallOnes_prm _ (by decide)
    · exact smallOnes_prm _ (by decide)
    · exact smallOnes_prm _ (by decide)
    · exact prm_3727.1)
theorem prm_1723 : Prm 1723 ∧ ∀ a, a % 1723 ≠ 0 → a ^ (1723 - 1) % 1723 = 1 :=
  prm_cert 1723 3 [2, 3, 7, 41] (by decide +kernel) (by
    intro q hq
    simp only [List.mem_cons, List.not_mem_nil, or_false] at hq
    rcases hq with rfl | rfl | rfl | rfl
    · exact smallOnes_prm _ (by decide)
    · exact smallOnes_prm _ (by decide)
    · exact smallOnes_prm _ (by decide)
    · exact smallOnes_prm _ (by decide))
theorem prm_430751 : Prm 430751 ∧ ∀ a, a % 430751 ≠ 0 → a ^ (430751 - 1) % 430751 = 1 :=
  prm_cert 430751 17 [2, 5, 5, 5, 1723] (by decide +kernel) (by
    intro q hq
    simp only [List.mem_cons, List.not_mem_nil, or_false] at hq
    rcases hq with rfl | rfl | rfl | rfl | rfl
    · exact smallOnes_prm _ (by decide)
    · exact smallOnes_prm _ (by decide)
    · exact smallOnes_prm _ (by decide)
    · exact smallOnes_prm _ (by decide)
    · exact prm_1723.1)
theorem prm_4153 : Prm 4153 ∧ ∀ a, a % 4153 ≠ 0 → a ^ (4153 - 1) % 4153 = 1 :=
  prm_cert 4153 5 [2, 2, 2, 3, 173] (by decide +kernel) (by
    intro q hq
    simp only [List.mem_cons, List.not_mem_nil, or_false] at hq
    rcases hq with rfl | rfl | rfl | rfl | rfl
    · exact smallOnes_prm _ (by decide)
    · exact smallOnes_prm _ (by decide)
    · exact smallOnes_prm _ (by decide)
    · exact smallOnes_prm _ (by decide)
    · exact smallOnes_prm _ (by decide))
theorem prm_31757755568855353 : Prm 31757755568855353 ∧ ∀ a, a % 31757755568855353 ≠ 0 → a ^ (31757755568855353 - 1) % 31757755568855353 = 1 :=
  prm_cert 31757755568855353 10 [2, 2, 2, 3, 31, 107, 223, 4153, 430751] (by decide +kernel) (by
    intro q hq
    simp only [List.mem_cons, List.not_mem_nil, or_false] at hq
    rcases hq with rfl | rfl | rfl | rfl | rfl | rfl | rfl | rfl | rfl
    · exact smallOnes_prm _ (by decide)
    · exact smallOnes_prm _ (by decide)
    · exact smallOnes_prm _ (by decide)
    · exact smallOnes_prm _ (by decide)
    · exact smallOnes_prm _ (by decide)
    · exact smallOnes_prm _ (by decide)
    · exact smallOnes_prm _ (by decide)
    · exact prm_4153.1
    · exact prm_430751.1)
theorem prm_9463 : Prm 9463 ∧ ∀ a, a % 9463 ≠ 0 → a ^ (9463 - 1) % 9463 = 1 :=
  prm_cert 9463 3 [2, 3, 19, 83] (by decide +kernel) (by
    intro q hq
    simp only [List.mem_cons, List.not_mem_nil, or_false] at hq
    rcases hq with rfl | rfl | rfl | rfl
    · exact smallOnes_prm _ (by decide)
    · exact smallOnes_prm _ (by decide)
    · exact smallOnes_prm _ (by decide)
    · exact smallOnes_prm _ (by decide))
theorem prm_37853 : Prm 37853 ∧ ∀ a, a % 37853 ≠ 0 → a ^ (37853 - 1) % 37853 = 1 :=
  prm_cert 37853 2 [2, 2, 9463] (by decide +kernel) (by
    intro q hq
    simp only [List.mem_cons, List.not_mem_nil, or_false] at hq
    rcases hq with rfl | rfl | rfl
    · exact smallOnes_prm _ (by decide)
    · exact smallOnes_prm _ (by decide)
    · exact prm_9463.1)
theorem prm_75707 : Prm 75707 ∧ ∀ a, a % 75707 ≠ 0 → a ^ (75707 - 1) % 75707 = 1 :=
  prm_cert 75707 2 [2, 37853] (by decide +kernel) (by
    intro q hq
    simp only [List.mem_cons, List.not_mem_nil, or_false] at hq
    rcases hq with rfl | rfl
    · exact smallOnes_prm _ (by decide)
    · exact prm_37853.1)
theorem prm_2437 : Prm 2437 ∧ ∀ a, a % 2437 ≠ 0 → a ^ (2437 - 1) % 2437 = 1 :=
  prm_cert 2437 2 [2, 2, 3, 7, 29] (by decide +kernel) (by
    intro q hq
    simp only [List.mem_cons, List.not_mem_nil, or_false] at hq
    rcases hq with rfl | rfl | rfl | rfl | rfl
    · exact smallOnes_prm _ (by decide)
    · exact smallOnes_prm _ (by decide)
    · exact smallOnes_prm _ (by decide)
    · exact smallOnes_prm _ (by decide)
    · exact smallOnes_prm _ (by decide))
theorem prm_569003 : Prm 569003 ∧ ∀ a, a % 569003 ≠ 0 → a ^ (569003 - 1) % 569003 = 1 :=
  prm_cert 569003 2 [2, 7, 97, 419] (by decide +kernel) (by
    intro q hq
    simp only [List.mem_cons, List.not_mem_nil, or_false] at hq
    rcases hq with rfl | rfl | rfl | rfl
    · exact smallOnes_prm _ (by decide)
    · exact smallOnes_prm _ (by decide)
    · exact smallOnes_prm _ (by decide)
    · exact smallOnes_prm _ (by decide))
theorem prm_2773320623 : Prm 2773320623 ∧ ∀ a, a % 2773320623 ≠ 0 → a ^ (2773320623 - 1) % 2773320623 = 1 :=
  prm_cert 2773320623 5 [2, 2437, 569003] (by decide +kernel) (by
    intro q hq
    simp only [List.mem_cons, List.not_mem_nil, or_false] at hq
    rcases hq with rfl | rfl | rfl
    · exact smallOnes_prm _ (by decide)
    · exact prm_2437.1
    · exact prm_569003.1)
theorem prm_72106336199 : Prm 72106336199 ∧ ∀ a, a % 72106336199 ≠ 0 → a ^ (72106336199 - 1) % 72106336199 = 1 :=
  prm_cert 72106336199 7 [2, 13, 2773320623] (by decide +kernel) (by
    intro q hq
    simp only [List.mem_cons, List.not_mem_nil, or_false] at hq
    rcases hq with rfl | rfl | rfl
    · exact smallOnes_prm _ (by decide)
    · exact smallOnes_prm _ (by decide)
    · exact prm_2773320623.1)
theorem prm_8574133 : Prm 8574133 ∧ ∀ a, a % 8574133 ≠ 0 → a ^ (8574133 - 1) % 8574133 = 1 :=
  prm_cert 8574133 2 [2, 2, 3, 7, 103, 991] (by decide +kernel) (by
    intro q hq
    simp only [List.mem_cons, List.not_mem_nil, or_false] at hq
    rcases hq with rfl | rfl | rfl | rfl | rfl | rfl
    · exact smallOnes_prm _ (by decide)
    · exact smallOnes_prm _ (by decide)
    · exact smallOnes_prm _ (by decide)
    · exact smallOnes_prm _ (by decide)
    · exact smallOnes_prm _ (by decide)
    · exact smallOnes_prm _ (by decide))
theorem prm_1919519569386763 : Prm 1919519569386763 ∧ ∀ a, a % 1919519569386763 ≠ 0 → a ^ (1919519569386763 - 1) % 1919519569386763 = 1 :=
  prm_cert 1919519569386763 2 [2, 3, 7, 19, 47, 47, 127, 8574133] (by decide +kernel) (by
    intro q hq
    simp only [List.mem_cons, List.not_mem_nil, or_false] at hq
    rcases hq with rfl | rfl | rfl | rfl | rfl | rfl | rfl | rfl
    · exact smallOnes_prm _ (by decide)
    · exact smallOnes_prm _ (by decide)
    · exact smallOnes_prm _ (by decide)
    · exact smallOnes_prm _ (by decide)
    · exact smallOnes_prm _ (by decide)
    · exact smallOnes_prm _ (by decide)
    · exact smallOnes_prm _ (by decide)
    · exact prm_8574133.1)
theorem prm_75445702479781427272750846543864801 : Prm 75445702479781427272750846543864801 ∧ ∀ a, a % 75445702479781427272750846543864801 ≠ 0 → a ^ (75445702479781427272750846543864801 - 1) % 75445702479781427272750846543864801 = 1 :=
  prm_cert 75445702479781427272750846543864801 7 [2, 2, 2, 2, 2, 3, 3, 5, 5, 75707, 72106336199, 1919519569386763] (by decide +kernel) (by
    intro q hq
    simp only [List.mem_cons, List.not_mem_nil, or_false] at hq
    rcases hq with rfl | rfl | rfl | rfl | rfl | rfl | rfl | rfl | rfl | rfl | rfl | rfl
    · exact smallOnes_prm _ (by decide)
    · exact smallOnes_prm _ (by decide)
    · exact smallOnes_prm _ (by decide)
    · exact smallOnes_prm _ (by decide)
    · exact smallOnes_prm _ (by decide)
    · exact smallOnes_prm _ (by decide)
    · exact smallOnes_prm _ (by decide)
    · exact smallOnes_prm _ (by decide)
    · exact smallOnes_prm _ (by decide)
    · exact prm_75707.1
    · exact prm_72106336199.1
    · exact prm_1919519569386763.1)
theorem prm_74058212732561358302231226437062788676166966415465897661863160754340907 : Prm 74058212732561358302231226437062788676166966415465897661863160754340907 ∧ ∀ a, a % 74058212732561358302231226437062788676166966415465897661863160754340907 ≠ 0 → a ^ (74058212732561358302231226437062788676166966415465897661863160754340907 - 1) % 74058212732561358302231226437062788676166966415465897661863160754340907 = 1 :=
  prm_cert 74058212732561358302231226437062788676166966415465897661863160754340907 2 [2, 3, 353, 57467, 132049, 1923133, 31757755568855353, 75445702479781427272750846543864801] (by decide +kernel) (by
    intro q hq
    simp only [List.mem_cons, List.not_mem_nil, or_false] at hq
    rcases hq with rfl | rfl | rfl | rfl | rfl | rfl | rfl | rfl
    · exact smallOnes_prm _ (by decide)
    · exact smallOnes_prm _ (by decide)
    · exact smallOnes_prm _ (by decide)
    · exact prm_57467.1
    · exact prm_132049.1
    · exact prm_1923133.1
    · exact prm_31757755568855353.1
    · exact prm_75445702479781427272750846543864801.1)
theorem prm_p : Prm 57896044618658097711785492504343953926634992332820282019728792003956564819949 ∧ ∀ a, a % 57896044618658097711785492504343953926634992332820282019728792003956564819949 ≠ 0 → a ^ (57896044618658097711785492504343953926634992332820282019728792003956564819949 - 1) % 57896044618658097711785492504343953926634992332820282019728792003956564819949 = 1 :=
  prm_cert 57896044618658097711785492504343953926634992332820282019728792003956564819949 2 [2, 2, 3, 65147, 74058212732561358302231226437062788676166966415465897661863160754340907] (by decide +kernel) (by
    intro q hq
    simp only [List.mem_cons, List.not_mem_nil, or_false] at hq
    rcases hq with rfl | rfl | rfl | rfl | rfl
    · exact smallOnes_prm _ (by decide)
    · exact smallOnes_prm _ (by decide)
    · exact smallOnes_prm _ (by decide)
    · exact prm_65147.1
    · exact prm_74058212732561358302231226437062788676166966415465897661863160754340907.1)
end Go.Proofs.Ytkibgdigcgakfaa
