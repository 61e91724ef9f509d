/-
  The curve and its twist are groups of 8l and 4l' points (counted), and what one clamped scalar brings to nought, all do (lows). Nothing of the program.
-/
import Derived.Test.YtmdjhbiiifnfiaaEd2
namespace Go.Proofs.Ytmdjhbiiifnfiaa
namespace Ed

/-! ### Counting -/
theorem pigeon : ∀ (n : Nat) (f : Nat → Nat), (∀ i, i < n + 1 → f i < n) → (∀ i j, i < n + 1 → j < n + 1 → f i = f j → i = j) → False
  | 0, f, h, _ => by have := h 0 (by omega); omega
  | n + 1, f, h, hi => by
    refine pigeon n (fun i => if f i = n then f (n + 1) else f i) (fun i hn => ?_) (fun i j hn hm e => ?_)
    · show (if f i = n then f (n + 1) else f i) < n
      have h1 := h i (by omega)
      have h2 := h (n + 1) (by omega)
      split
      · rename_i e
        have : f (n + 1) ≠ n := fun e2 => by
          have := hi i (n + 1) (by omega) (by omega) (e.trans e2.symm)
          omega
        omega
      · omega
    · split at e
      · rename_i e1
        split at e
        · rename_i e2
          exact hi i j (by omega) (by omega) (e1.trans e2.symm)
        · have := hi (n + 1) j (by omega) (by omega) e
          omega
      · split at e
        · have := hi i (n + 1) (by omega) (by omega) e
          omega
        · exact hi i j (by omega) (by omega) e
section
variable {δ : Fp} (hδ : NonSq δ)
/-- Numbers that lead to the zero are multiples of the order. -/
theorem order_of {Q : Pt δ} {k l : Nat} (hk : k = 8 ∨ k = 4) (hl : Prm l) (hN : Q.mul hδ (k * l) = Pt.zero) (h2 : Q.mul hδ (k / 2 * l) ≠ Pt.zero) (h8 : Q.mul hδ k ≠ Pt.zero) : ∀ n, Q.mul hδ n = Pt.zero → k * l ∣ n := by
  have hex : ∃ d, 0 < d ∧ Q.mul hδ d = Pt.zero := ⟨k * l, Nat.mul_pos (by omega) (by have := hl.1; omega), hN⟩
  obtain ⟨d, ⟨hd0, hd⟩, hmin⟩ : ∃ d, (0 < d ∧ Q.mul hδ d = Pt.zero) ∧ ∀ m, m < d → ¬ (0 < m ∧ Q.mul hδ m = Pt.zero) := by
    obtain ⟨d0, h0⟩ := hex
    induction d0 using Nat.strongRecOn with
    | _ d ih =>
      by_cases h : ∃ m, m < d ∧ 0 < m ∧ Q.mul hδ m = Pt.zero
      · obtain ⟨m, hm, hm2⟩ := h
        exact ih m hm hm2
      · exact ⟨d, h0, fun m hm h2 => h ⟨m, hm, h2⟩⟩
  have hdiv : ∀ n, Q.mul hδ n = Pt.zero → d ∣ n := by
    intro n hn
    have e := Nat.div_add_mod n d
    rw [← e, mul_add', mul_mul', hd, zero_mul, zero_add'] at hn
    rcases Nat.eq_zero_or_pos (n % d) with h | h
    · exact Nat.dvd_of_mod_eq_zero h
    · exact absurd ⟨h, hn⟩ (hmin _ (Nat.mod_lt _ hd0))
  have hback : ∀ n, d ∣ n → Q.mul hδ n = Pt.zero := by
    rintro n ⟨m, rfl⟩
    rw [mul_mul', hd, zero_mul]
  have h1 := hdiv _ hN
  have hlpos : 0 < l := by have := hl.1; omega
  have hld : l ∣ d := by
    rcases hl.2 (Nat.gcd d l) (Nat.gcd_dvd_right d l) with hg | hg
    · exact absurd (hback k (Nat.Coprime.dvd_of_dvd_mul_right hg h1)) h8
    · rw [← hg]
      exact Nat.gcd_dvd_left d l
  obtain ⟨e, rfl⟩ := hld
  rw [Nat.mul_comm k l] at h1
  have he : e ∣ k := Nat.dvd_of_mul_dvd_mul_left hlpos h1
  have hek : e = k := by
    have hle := Nat.le_of_dvd (by omega) he
    have hne : ¬ e ∣ k / 2 := fun h => h2 (hback _ (by rw [Nat.mul_comm (k / 2) l]; exact Nat.mul_dvd_mul_left l h))
    rcases hk with rfl | rfl
    · have : ∀ e : Fin 9, e.1 ∣ 8 → ¬ e.1 ∣ 8 / 2 → e.1 = 8 := by decide
      exact this ⟨e, by omega⟩ he hne
    · have : ∀ e : Fin 5, e.1 ∣ 4 → ¬ e.1 ∣ 4 / 2 → e.1 = 4 := by decide
      exact this ⟨e, by omega⟩ he hne
  intro n hn
  have := hdiv n hn
  rw [hek, Nat.mul_comm l k] at this
  exact this
theorem mul_inj {Q : Pt δ} {N : Nat} (ho : ∀ n, Q.mul hδ n = Pt.zero → N ∣ n) {i j : Nat} (hi : i < N) (hj : j < N) (h : Q.mul hδ i = Q.mul hδ j) : i = j := by
  have key : ∀ a b, a ≤ b → b < N → Q.mul hδ a = Q.mul hδ b → a = b := by
    intro a b hab hb h
    obtain ⟨c, rfl⟩ := Nat.le.dest hab
    rw [mul_add'] at h
    have h1 : Q.mul hδ c = Pt.zero := by
      have h2 : ((Q.mul hδ a).add hδ (Q.mul hδ c)).add hδ (Q.mul hδ a).neg = (Q.mul hδ a).add hδ (Q.mul hδ a).neg := by rw [← h]
      rw [add_comm' hδ (Q.mul hδ a) (Q.mul hδ c), add_sub', add_neg'] at h2
      exact h2
    have h3 := ho c h1
    rcases Nat.eq_zero_or_pos c with h0 | h0
    · omega
    · have := Nat.le_of_dvd h0 h3
      omega
  rcases Nat.le_total i j with h1 | h1
  · exact key i j h1 hj h
  · exact (key j i h1 hi h.symm).symm
end
/-! ### The two curves -/
def d1 : Fp := 121665 * finv 121666
def d2 : Fp := 121666 * finv 121665
theorem par1' : Par 1 d1 := par1
theorem par2' : Par (-1) d2 := par2
theorem ns1 : NonSq d1 := nonsq1
theorem ns2 : NonSq d2 := nonsq2
theorem dd1 : d1 * 121666 = 121665 := by have := mul_finv c66; unfold d1; grobner
theorem dd2 : d2 * 121665 = 121666 := by have := mul_finv c65; unfold d2; grobner
theorem alg_e1 {u m : Fp} (h : (u + 1) * m = 1) : u * (1 - (u - 1) * m) = 1 * (1 + (u - 1) * m) ∧ 1 + (u - 1) * m = 2 * u * m := by constructor <;> grobner
theorem alg_e2 {u m : Fp} (h : (u - 1) * m = 1) : u * (1 - (u + 1) * m) = -1 * (1 + (u + 1) * m) ∧ 1 + (u + 1) * m = 2 * u * m := by constructor <;> grobner
theorem inv_ne {a b : Fp} (h : a * b = 1) : b ≠ 0 := by
  rintro rfl
  have : (0 : Fp) = 1 := by rw [← h]; clear h; grobner
  exact one_ne this.symm
theorem pt1 {u : Fp} (hu : u ≠ 0) (h1 : fpow (u * (u * u + 486662 * u + 1)) Hp = 1) : ∃ P : Pt d1, u * (1 - P.y) = 1 * (1 + P.y) ∧ 1 + P.y ≠ 0 := by
  obtain ⟨i, hi⟩ := sqrt_m1
  have hn := mul_finv (quad_ne u)
  obtain ⟨r, hr⟩ := half_sq hi (show fpow (121666 * (u * (u * u + 486662 * u + 1))) Hp = 1 by rw [fpow_mulb, h66, h1]; decide)
  have hu1 : u + 1 ≠ 0 := by
    intro h0
    have : u * (u * u + 486662 * u + 1) = 4 * 121665 := (alg_u1 h0).trans (by decide)
    rw [this, fpow_mulb, h4, h65] at h1
    revert h1
    decide
  have hm := mul_finv hu1
  obtain ⟨e1, e2⟩ := alg_e1 hm
  refine ⟨⟨_, _, pt_alg1 rfl hn hm hr dd1⟩, e1, ?_⟩
  show 1 + (u - 1) * finv (u + 1) ≠ 0
  rw [e2]
  exact mul_ne (mul_ne two_ne hu) (inv_ne hm)
theorem pt2 {u : Fp} (hu : u ≠ 0) (h1 : fpow (u * (u * u + 486662 * u + 1)) Hp = -1) : ∃ P : Pt d2, u * (1 - P.y) = -1 * (1 + P.y) ∧ 1 + P.y ≠ 0 := by
  obtain ⟨i, hi⟩ := sqrt_m1
  have hn := mul_finv (quad_ne u)
  obtain ⟨r, hr⟩ := half_sq hi (show fpow (121665 * (u * (u * u + 486662 * u + 1))) Hp = 1 by rw [fpow_mulb, h65, h1]; decide)
  have hu1 : u - 1 ≠ 0 := by
    intro h0
    have : u * (u * u + 486662 * u + 1) = 4 * 121666 := (alg_u2 h0).trans (by decide)
    rw [this, fpow_mulb, h4, h66] at h1
    revert h1
    decide
  have hm := mul_finv hu1
  obtain ⟨e1, e2⟩ := alg_e2 hm
  refine ⟨⟨_, _, pt_alg2 rfl hn hm hr dd2⟩, e1, ?_⟩
  show 1 + (u + 1) * finv (u - 1) ≠ 0
  rw [e2]
  exact mul_ne (mul_ne two_ne hu) (inv_ne hm)
/-- The scalars 4l, 2l', 8 and 4. -/
def K4l : List UInt8 := [180, 79, 215, 115, 105, 140, 73, 96, 89, 115, 222, 139, 122, 231, 123, 83, 0, 0, 0, 0, 0, 0, 0, 0, 0, 0, 0, 0, 0, 0, 0, 64]
def K2t : List UInt8 := [58, 176, 40, 140, 150, 115, 182, 159, 166, 140, 33, 116, 133, 24, 132, 172, 255, 255, 255, 255, 255, 255, 255, 255, 255, 255, 255, 255, 255, 255, 255, 63]
def K8 : List UInt8 := 8 :: List.replicate 31 0
def K4 : List UInt8 := 4 :: List.replicate 31 0
theorem k8_val : kval K8 255 = 8 := by decide +kernel
theorem k4_val : kval K4 255 = 4 := by decide +kernel
set_option maxRecDepth 100000 in
theorem lad1 : (Lad.at 6 K4l 255).x2 = 0 ∧ (Lad.at 6 K8 255).z2 % P25 ≠ 0 := by decide +kernel
set_option maxRecDepth 100000 in
theorem lad2 : (Lad.at 3 K2t 255).x2 = 0 ∧ (Lad.at 3 K4 255).z2 % P25 ≠ 0 := by decide +kernel
def tauN : Nat := 14474011154664524427946373126085988481603263447650325797860494125407373907997
theorem k4l_val : kval K4l 255 = 4 * ellN := by decide +kernel
theorem k2t_val : kval K2t 255 = 2 * tauN := by decide +kernel
/-- The two primes. -/
structure Two (L T : Nat) : Prop where
  k1 : kval K4l 255 = 4 * L
  k2 : kval K2t 255 = 2 * T
  p1 : Prm L
  p2 : Prm T
  tot : 8 * L + 4 * T = 2 * P25 + 2
section
variable {δ : Fp} (hδ : NonSq δ)
theorem alg_yx {y : Fp} {k : Fp} (hk : k ≠ 0) (h : (0 : Fp) = k * (1 + y)) : 1 + y = 0 := (no_zero h.symm).elim (fun e => absurd e hk) id
theorem alg_ym {x y : Fp} (h : 1 + y = 0) (on : x * x + y * y = 1 + δ * x * x * y * y) : x * x * (1 - δ) = 0 := by grobner
theorem half_facts {s : Fp} {x1 : Nat} {G : Pt δ} (hp : Par s δ) (hx : toF x1 * (1 - G.y) = s * (1 + G.y)) (hy : 1 + G.y ≠ 0) {K : List UInt8} {n : Nat} (hk : kval K 255 = n) (h0 : (Lad.at x1 K 255).x2 = 0) :
    G.mul hδ n ≠ Pt.zero ∧ (G.mul hδ n).x = 0 := by
  have h := (at_rep hδ hp hx hy K 255).1
  rw [hk] at h
  obtain ⟨k, hkn, hX, _⟩ := h
  rw [h0, toF_zero] at hX
  have hy1 := alg_yx hkn hX
  constructor
  · intro e
    rw [e] at hy1
    revert hy1
    show ¬ ((1 : Fp) + 1 = 0)
    decide
  · rcases no_zero (alg_ym hy1 (G.mul hδ n).on) with h1 | h1
    · exact (no_zero h1).elim id id
    · exact absurd h1 (one_sub_d hδ)
theorem small_ne {s : Fp} {x1 : Nat} {G : Pt δ} (hp : Par s δ) (hx : toF x1 * (1 - G.y) = s * (1 + G.y)) (hy : 1 + G.y ≠ 0) {K : List UInt8} {n : Nat} (hk : kval K 255 = n) (h0 : (Lad.at x1 K 255).z2 % P25 ≠ 0) : G.mul hδ n ≠ Pt.zero := by
  intro e
  have h := (at_rep hδ hp hx hy K 255).1
  rw [hk, e] at h
  obtain ⟨k, _, _, hZ⟩ := h
  apply h0
  apply toF_eq_zero.1
  rw [hZ]
  show k * s * (1 - 1) = 0
  clear hZ hx hy hp h0 e hk
  grobner
end
theorem gen1 {L T : Nat} (h : Two L T) : ∃ Q : Pt d1, Q.mul ns1 (8 * L) = Pt.zero ∧ ∀ n, Q.mul ns1 n = Pt.zero → 8 * L ∣ n := by
  obtain ⟨Q, hx, hy⟩ := pt1 (u := toF 6) (by decide) (by rw [fpow_pwm _ _ (by decide)]; decide +kernel)
  have a := half_facts ns1 par1' hx hy h.k1 lad1.1
  have b := small_ne ns1 par1' hx hy k8_val lad1.2
  have hN : Q.mul ns1 (8 * L) = Pt.zero := by
    have := null_dbl ns1 a.2
    rw [← mul_add'] at this
    rw [show 8 * L = 4 * L + 4 * L by omega]
    exact this
  exact ⟨Q, hN, order_of ns1 (.inl rfl) h.p1 hN a.1 b⟩
theorem gen2 {L T : Nat} (h : Two L T) : ∃ Q : Pt d2, Q.mul ns2 (4 * T) = Pt.zero ∧ ∀ n, Q.mul ns2 n = Pt.zero → 4 * T ∣ n := by
  obtain ⟨Q, hx, hy⟩ := pt2 (u := toF 3) (by decide) (by rw [fpow_pwm _ _ (by decide)]; decide +kernel)
  have a := half_facts ns2 par2' hx hy h.k2 lad2.1
  have b := small_ne ns2 par2' hx hy k4_val lad2.2
  have hN : Q.mul ns2 (4 * T) = Pt.zero := by
    have := null_dbl ns2 a.2
    rw [← mul_add'] at this
    rw [show 4 * T = 2 * T + 2 * T by omega]
    exact this
  exact ⟨Q, hN, order_of ns2 (.inr rfl) h.p2 hN a.1 b⟩
/-! ### Every point is a multiple of its curve's generator -/
def code1 (P : Pt d1) : Nat := if 1 - P.y = 0 then 2 * P25 else if P.x = 0 then 2 * (P.u 1).val else 2 * (P.u 1).val + P.x.val % 2
def code2 (P : Pt d2) : Nat := if 1 - P.y = 0 then 2 * P25 + 1 else if P.x = 0 then 2 * (P.u (-1)).val + 1 else 2 * (P.u (-1)).val + P.x.val % 2
theorem code1_lt (P : Pt d1) : code1 P < 2 * P25 + 2 := by
  have := (P.u 1).isLt
  unfold code1
  repeat' split
  all_goals omega
theorem code2_lt (P : Pt d2) : code2 P < 2 * P25 + 2 := by
  have := (P.u (-1)).isLt
  unfold code2
  repeat' split
  all_goals omega
theorem alg_uy {u y s : Fp} (hs : s * s = 1) (h : u * (1 - y) = s * (1 + y)) : (u + s) * y = u - s := by grobner
theorem alg_uy0 {u y s : Fp} (hs : s * s = 1) (h : (u + s) * y = u - s) (h0 : u + s = 0) : 2 * s = 0 := by grobner
section
variable {δ : Fp} (hδ : NonSq δ)
theorem u_eq {s : Fp} {P : Pt δ} (h : ¬ 1 - P.y = 0) : P.u s * (1 - P.y) = s * (1 + P.y) := by
  have := mul_finv h
  unfold Pt.u
  rw [if_neg h]
  clear h
  grobner
theorem y_of_u {s : Fp} (hs : s * s = 1) {P P' : Pt δ} (h : ¬ 1 - P.y = 0) (h' : ¬ 1 - P'.y = 0) (e : P.u s = P'.u s) : P.y = P'.y := by
  have a := alg_uy hs (u_eq (s := s) h)
  have b := alg_uy hs (u_eq (s := s) h')
  rw [← e] at b
  by_cases h0 : P.u s + s = 0
  · have h2 := alg_uy0 hs a h0
    rcases no_zero h2 with h3 | h3
    · exact absurd h3 two_ne
    · rw [h3] at hs
      exact absurd hs (by decide)
  · apply cancel h0
    clear hs h h' e h0
    grobner
theorem alg_x2 {x y : Fp} (on : x * x + y * y = 1 + δ * x * x * y * y) : x * x * (1 - δ * y * y) = 1 - y * y := by grobner
include hδ in
theorem x_of_y {P P' : Pt δ} (e : P.y = P'.y) : P.x = P'.x ∨ P.x = -P'.x := by
  have a := alg_x2 P.on
  have b := alg_x2 P'.on
  rw [e] at a
  have h := cancel (one_sub_sq hδ P'.y) (a.trans b.symm)
  have : (P.x - P'.x) * (P.x + P'.x) = 0 := by clear a b e; grobner
  rcases no_zero this with h1 | h1
  · left; clear this h a b; grobner
  · right; clear this h a b; grobner
end
theorem neg_parity {x : Fp} (h : x ≠ 0) : (-x).val % 2 ≠ x.val % 2 := by
  have h1 : (-x).val + x.val = P25 := by
    have h2 : ((-x) + x) = 0 := by grobner
    have h3 := congrArg Fin.val h2
    rw [Fin.val_add] at h3
    have h4 : (0 : Fp).val = 0 := rfl
    rw [h4] at h3
    have l1 := (-x).isLt
    have l2 := x.isLt
    have hx0 : x.val ≠ 0 := fun e => h (Fin.ext e)
    obtain ⟨q, hq⟩ := Nat.dvd_of_mod_eq_zero h3
    have hq1 : q = 1 := by
      have : q < 2 := by
        rcases Nat.lt_or_ge q 2 with h5 | h5
        · exact h5
        · have := Nat.mul_le_mul_left P25 h5
          omega
      have : q ≠ 0 := by rintro rfl; omega
      omega
    rw [hq, hq1, Nat.mul_one]
  have h2 : P25 % 2 = 1 := by decide
  omega
theorem code1_inj {P P' : Pt d1} (e : code1 P = code1 P') : P = P' := by
  have l1 := (P.u 1).isLt
  have l2 := (P'.u 1).isLt
  unfold code1 at e
  by_cases h : 1 - P.y = 0
  · by_cases h' : 1 - P'.y = 0
    · rw [pt_zero ns1 h, pt_zero ns1 h']
    · rw [if_pos h, if_neg h'] at e
      split at e <;> omega
  · by_cases h' : 1 - P'.y = 0
    · rw [if_neg h, if_pos h'] at e
      split at e <;> omega
    · rw [if_neg h, if_neg h'] at e
      have hu : P.u 1 = P'.u 1 := Fin.ext (by split at e <;> split at e <;> omega)
      have hy := y_of_u (by decide) h h' hu
      refine Pt.ext ?_ hy
      rcases x_of_y ns1 hy with hx | hx
      · exact hx
      · by_cases h0 : P'.x = 0
        · rw [hx, h0]; decide
        · have hn : P.x ≠ 0 := by
            intro h1
            apply h0
            rw [h1] at hx
            clear e hu hy l1 l2 h h'
            grobner
          rw [if_neg hn, if_neg h0, hx, hu] at e
          have := neg_parity h0
          omega
theorem code2_inj {P P' : Pt d2} (e : code2 P = code2 P') : P = P' := by
  have l1 := (P.u (-1)).isLt
  have l2 := (P'.u (-1)).isLt
  unfold code2 at e
  by_cases h : 1 - P.y = 0
  · by_cases h' : 1 - P'.y = 0
    · rw [pt_zero ns2 h, pt_zero ns2 h']
    · rw [if_pos h, if_neg h'] at e
      split at e <;> omega
  · by_cases h' : 1 - P'.y = 0
    · rw [if_neg h, if_pos h'] at e
      split at e <;> omega
    · rw [if_neg h, if_neg h'] at e
      have hu : P.u (-1) = P'.u (-1) := Fin.ext (by split at e <;> split at e <;> omega)
      have hy := y_of_u (by decide) h h' hu
      refine Pt.ext ?_ hy
      rcases x_of_y ns2 hy with hx | hx
      · exact hx
      · by_cases h0 : P'.x = 0
        · rw [hx, h0]; decide
        · have hn : P.x ≠ 0 := by
            intro h1
            apply h0
            rw [h1] at hx
            clear e hu hy l1 l2 h h'
            grobner
          rw [if_neg hn, if_neg h0, hx, hu] at e
          have := neg_parity h0
          omega
theorem alg_xu1 {d x y u : Fp} (hd : d * 121666 = 121665) (on : x * x * (1 - d * y * y) = 1 - y * y) (hu : u * (1 - y) = 1 * (1 + y)) : x * x * (u * u + 486662 * u + 1) * ((1 - y) * (1 - y)) = 4 * 121666 * u * ((1 - y) * (1 - y)) := by
  have e1 : u * ((1 - y) * (1 - y)) = (1 + y) * (1 - y) := by clear on hd; grobner
  have e2 : u * u * ((1 - y) * (1 - y)) = (1 + y) * (1 + y) := by clear on hd e1; grobner
  have e3 : (u * u + 486662 * u + 1) * ((1 - y) * (1 - y)) = 4 * (121666 - 121665 * (y * y)) := by
    clear on hd hu
    grobner
  have e4 : 121666 * (1 - d * y * y) = 121666 - 121665 * (y * y) := by clear on hu e1 e2 e3; grobner
  have e5 : x * x * (121666 - 121665 * (y * y)) = 121666 * (1 - y * y) := by rw [← e4, ← on]; clear on hu hd e1 e2 e3 e4; grobner
  clear on hu hd e2 e4
  grobner
theorem alg_xu2 {d x y u : Fp} (hd : d * 121665 = 121666) (on : x * x * (1 - d * y * y) = 1 - y * y) (hu : u * (1 - y) = -1 * (1 + y)) : x * x * (u * u + 486662 * u + 1) * ((1 - y) * (1 - y)) = 4 * 121665 * u * ((1 - y) * (1 - y)) := by
  have e1 : u * ((1 - y) * (1 - y)) = -((1 + y) * (1 - y)) := by clear on hd; grobner
  have e2 : u * u * ((1 - y) * (1 - y)) = (1 + y) * (1 + y) := by clear on hd e1; grobner
  have e3 : (u * u + 486662 * u + 1) * ((1 - y) * (1 - y)) = -(4 * (121665 - 121666 * (y * y))) := by
    clear on hd hu
    grobner
  have e4 : 121665 * (1 - d * y * y) = 121665 - 121666 * (y * y) := by clear on hu e1 e2 e3; grobner
  have e5 : x * x * (121665 - 121666 * (y * y)) = 121665 * (1 - y * y) := by rw [← e4, ← on]; clear on hu hd e1 e2 e3 e4; grobner
  clear on hu hd e2 e4
  grobner
theorem alg_both {x x' h u a b : Fp} (e1 : x * x * h = 4 * a * u) (e2 : x' * x' * h = 4 * b * u) : (x * x' * h) * (x * x' * h) = 16 * (b * a) * (u * u) := by grobner
theorem alg_quot {A B i w : Fp} (h : w * w = 16 * A * (B * B)) (hi : 4 * B * i = 1) : (w * i) * (w * i) = A := by
  have : (w * i) * (w * i) = 16 * A * (B * B) * (i * i) := by rw [← h]; clear h hi; grobner
  rw [this]
  clear h this
  grobner
theorem code_ne (P : Pt d1) (P' : Pt d2) : code1 P ≠ code2 P' := by
  intro e
  have l1 := (P.u 1).isLt
  have l2 := (P'.u (-1)).isLt
  unfold code1 code2 at e
  by_cases h : 1 - P.y = 0
  · rw [if_pos h] at e
    split at e
    · omega
    · split at e <;> omega
  · rw [if_neg h] at e
    by_cases h' : 1 - P'.y = 0
    · rw [if_pos h'] at e
      split at e <;> omega
    · rw [if_neg h'] at e
      have hu : P.u 1 = P'.u (-1) := Fin.ext (by split at e <;> split at e <;> omega)
      have n1 : (1 - P.y) * (1 - P.y) ≠ 0 := mul_ne h h
      have n2 : (1 - P'.y) * (1 - P'.y) ≠ 0 := mul_ne h' h'
      have a := cancel n1 (alg_xu1 dd1 (alg_x2 P.on) (u_eq (s := 1) h))
      have b := cancel n2 (alg_xu2 dd2 (alg_x2 P'.on) (u_eq (s := -1) h'))
      rw [← hu] at b
      by_cases h0 : P.u 1 = 0
      · have x1 : P.x = 0 := (u_zero ns1 par1').1 h0
        have x2 : P'.x = 0 := (u_zero ns2 par2').1 (by rw [← hu]; exact h0)
        rw [if_pos x1, if_pos x2] at e
        omega
      · have n3 : 4 * P.u 1 ≠ 0 := mul_ne (by decide) h0
        exact nonsq_prod _ (alg_quot (alg_both a b) (mul_finv n3))
theorem all_1 {L T : Nat} (h : Two L T) (Q1 : Pt d1) (Q2 : Pt d2) (h1 : ∀ n, Q1.mul ns1 n = Pt.zero → 8 * L ∣ n) (h2 : ∀ n, Q2.mul ns2 n = Pt.zero → 4 * T ∣ n) (G : Pt d1) : ∃ i, G = Q1.mul ns1 i := by
  by_cases hG : ∃ i, G = Q1.mul ns1 i
  · exact hG
  exfalso
  have ht := h.tot
  refine pigeon (2 * P25 + 2) (fun i => if i < 8 * L then code1 (Q1.mul ns1 i) else if i < 8 * L + 4 * T then code2 (Q2.mul ns2 (i - 8 * L)) else code1 G) (fun i _ => ?_) (fun i j hi hj e => ?_)
  · show (if i < 8 * L then code1 (Q1.mul ns1 i) else if i < 8 * L + 4 * T then code2 (Q2.mul ns2 (i - 8 * L)) else code1 G) < 2 * P25 + 2
    split
    · exact code1_lt _
    · split
      · exact code2_lt _
      · exact code1_lt _
  · have e' : (if i < 8 * L then code1 (Q1.mul ns1 i) else if i < 8 * L + 4 * T then code2 (Q2.mul ns2 (i - 8 * L)) else code1 G) = (if j < 8 * L then code1 (Q1.mul ns1 j) else if j < 8 * L + 4 * T then code2 (Q2.mul ns2 (j - 8 * L)) else code1 G) := e
    clear e
    by_cases a1 : i < 8 * L
    · rw [if_pos a1] at e'
      by_cases b1 : j < 8 * L
      · rw [if_pos b1] at e'
        exact mul_inj ns1 h1 a1 b1 (code1_inj e')
      · rw [if_neg b1] at e'
        by_cases b2 : j < 8 * L + 4 * T
        · rw [if_pos b2] at e'
          exact absurd e' (code_ne _ _)
        · rw [if_neg b2] at e'
          exact absurd ⟨i, (code1_inj e').symm⟩ hG
    · rw [if_neg a1] at e'
      by_cases a2 : i < 8 * L + 4 * T
      · rw [if_pos a2] at e'
        by_cases b1 : j < 8 * L
        · rw [if_pos b1] at e'
          exact absurd e'.symm (code_ne _ _)
        · rw [if_neg b1] at e'
          by_cases b2 : j < 8 * L + 4 * T
          · rw [if_pos b2] at e'
            have := mul_inj ns2 h2 (i := i - 8 * L) (j := j - 8 * L) (by omega) (by omega) (code2_inj e')
            omega
          · rw [if_neg b2] at e'
            exact absurd e'.symm (code_ne _ _)
      · rw [if_neg a2] at e'
        by_cases b1 : j < 8 * L
        · rw [if_pos b1] at e'
          exact absurd ⟨j, code1_inj e'⟩ hG
        · rw [if_neg b1] at e'
          by_cases b2 : j < 8 * L + 4 * T
          · rw [if_pos b2] at e'
            exact absurd e' (code_ne _ _)
          · omega
theorem all_2 {L T : Nat} (h : Two L T) (Q1 : Pt d1) (Q2 : Pt d2) (h1 : ∀ n, Q1.mul ns1 n = Pt.zero → 8 * L ∣ n) (h2 : ∀ n, Q2.mul ns2 n = Pt.zero → 4 * T ∣ n) (G : Pt d2) : ∃ i, G = Q2.mul ns2 i := by
  by_cases hG : ∃ i, G = Q2.mul ns2 i
  · exact hG
  exfalso
  have ht := h.tot
  refine pigeon (2 * P25 + 2) (fun i => if i < 8 * L then code1 (Q1.mul ns1 i) else if i < 8 * L + 4 * T then code2 (Q2.mul ns2 (i - 8 * L)) else code2 G) (fun i _ => ?_) (fun i j hi hj e => ?_)
  · show (if i < 8 * L then code1 (Q1.mul ns1 i) else if i < 8 * L + 4 * T then code2 (Q2.mul ns2 (i - 8 * L)) else code2 G) < 2 * P25 + 2
    split
    · exact code1_lt _
    · split
      · exact code2_lt _
      · exact code2_lt _
  · have e' : (if i < 8 * L then code1 (Q1.mul ns1 i) else if i < 8 * L + 4 * T then code2 (Q2.mul ns2 (i - 8 * L)) else code2 G) = (if j < 8 * L then code1 (Q1.mul ns1 j) else if j < 8 * L + 4 * T then code2 (Q2.mul ns2 (j - 8 * L)) else code2 G) := e
    clear e
    by_cases a1 : i < 8 * L
    · rw [if_pos a1] at e'
      by_cases b1 : j < 8 * L
      · rw [if_pos b1] at e'
        exact mul_inj ns1 h1 a1 b1 (code1_inj e')
      · rw [if_neg b1] at e'
        by_cases b2 : j < 8 * L + 4 * T
        · rw [if_pos b2] at e'
          exact absurd e' (code_ne _ _)
        · rw [if_neg b2] at e'
          exact absurd e' (code_ne _ _)
    · rw [if_neg a1] at e'
      by_cases a2 : i < 8 * L + 4 * T
      · rw [if_pos a2] at e'
        by_cases b1 : j < 8 * L
        · rw [if_pos b1] at e'
          exact absurd e'.symm (code_ne _ _)
        · rw [if_neg b1] at e'
          by_cases b2 : j < 8 * L + 4 * T
          · rw [if_pos b2] at e'
            have := mul_inj ns2 h2 (i := i - 8 * L) (j := j - 8 * L) (by omega) (by omega) (code2_inj e')
            omega
          · rw [if_neg b2] at e'
            exact absurd ⟨i - 8 * L, (code2_inj e').symm⟩ hG
      · rw [if_neg a2] at e'
        by_cases b1 : j < 8 * L
        · rw [if_pos b1] at e'
          exact absurd e'.symm (code_ne _ _)
        · rw [if_neg b1] at e'
          by_cases b2 : j < 8 * L + 4 * T
          · rw [if_pos b2] at e'
            exact absurd ⟨j - 8 * L, code2_inj e'⟩ hG
          · omega
/-! ### What one clamped scalar brings to nought, all do -/
theorem fermat_t (a : Nat) (h : a % tauN ≠ 0) : a ^ (tauN - 1) % tauN = 1 := by
  have := prm_t.2 a (by unfold tauN at h; exact h)
  unfold tauN
  exact this
theorem two : ∃ L T, Two L T ∧ (∀ n, n % L ≠ 0 → ∃ m, n * m % L = 1) ∧ (∀ n, n % T ≠ 0 → ∃ m, n * m % T = 1) ∧
    ∀ bs : List UInt8, bs.length = 32 → ∃ m, kval (clampB bs) 255 = 8 * m ∧ (2 * m) % L ≠ 0 ∧ m % T ≠ 0 := by
  have iT : ∀ n, n % tauN ≠ 0 → ∃ m, n * m % tauN = 1 := fun n hn => inv_of_prm (p := tauN) fermat_t (by unfold tauN; omega) hn
  refine ⟨ellN, tauN, ⟨k4l_val, k2t_val, prm_l.1, prm_t.1, by decide⟩, fun _ h => inv_ell h, iT, fun bs hb => ?_⟩
  rw [kval_all _ (clampB_length bs)]
  have h1 := clamp_top bs hb
  have h2 := (clamp_num bs).resolve_right (fun e => e hb)
  rw [Nat.mod_eq_of_lt h1.2]
  obtain ⟨m, hm⟩ : ∃ m, num (clampB bs) = 8 * m := ⟨num (clampB bs) / 8, by omega⟩
  rw [hm] at h1
  refine ⟨m, hm, ?_, ?_⟩
  · have h3 : m % ellN ≠ 0 := by
      have : m < ellN := by unfold ellN; omega
      rw [Nat.mod_eq_of_lt this]
      omega
    rw [Nat.two_mul]
    exact dbl_ell m h3
  · have : m < tauN := by unfold tauN; omega
    rw [Nat.mod_eq_of_lt this]
    omega
section
variable {δ : Fp} (hδ : NonSq δ)
theorem alg_y0a {x y d : Fp} (h : y = 0) (on : x * x + y * y = 1 + d * x * x * y * y) : x * x = 1 := by grobner
theorem alg_y0b {x y d : Fp} (h : y = 0) (b : y * y - x * x = 1 - d * x * x * y * y) : -(x * x) = 1 := by grobner
theorem alg_one {a b : Fp} (h : 1 * a = b) : b = a := by grobner
include hδ in
/-- Twice it is the zero: its x is nought. -/
theorem null_of_dbl {Q : Pt δ} (h : Q.add hδ Q = Pt.zero) : Q.x = 0 := by
  have a := add_x hδ Q Q
  have b := add_y hδ Q Q
  rw [h] at a b
  have a' : Q.x * Q.y + Q.x * Q.y = 0 := by
    rw [← a]
    show (0 : Fp) * _ = 0
    clear a b h
    grobner
  have b' : Q.y * Q.y - Q.x * Q.x = 1 - δ * Q.x * Q.x * Q.y * Q.y := alg_one b
  have on := Q.on
  have hxy := no_zero (show Q.x * Q.y * 2 = 0 by clear a b b' h on; grobner)
  rcases hxy with h1 | h1
  · rcases no_zero h1 with h2 | h2
    · exact h2
    · have e1 := alg_y0a h2 on
      have e2 := alg_y0b h2 b'
      rw [e1] at e2
      exact absurd e2.symm hm1
  · exact absurd h1 two_ne
theorem zero_of_mul {Q : Pt δ} {N i : Nat} {G : Pt δ} (hG : G = Q.mul hδ i) (hN : Q.mul hδ N = Pt.zero) : G.mul hδ N = Pt.zero := by
  rw [hG, ← mul_mul', Nat.mul_comm, mul_mul', hN, zero_mul]
/-- 16 times it is the zero: every multiple by eight has no x. -/
theorem null_16 {G : Pt δ} (h : G.mul hδ 16 = Pt.zero) (m : Nat) : (G.mul hδ (8 * m)).x = 0 := by
  rw [mul_mul']
  apply mul_null
  apply null_of_dbl hδ
  rw [← mul_add']
  exact h
theorem to_16 {G : Pt δ} {n N a : Nat} (hn : (G.mul hδ n).x = 0) (hN : G.mul hδ N = Pt.zero) {r t : Nat} (e : (n + n) * r = a + N * t) : G.mul hδ a = Pt.zero := by
  have h1 := null_dbl hδ hn
  rw [← mul_add'] at h1
  have h2 : G.mul hδ ((n + n) * r) = Pt.zero := by rw [mul_mul', h1, zero_mul]
  rw [e, mul_add', mul_mul', hN, zero_mul, add_zero'] at h2
  exact h2
end
theorem lows (x1 : Nat) (bs cs : List UInt8) (hb : bs.length = 32) (hc : cs.length = 32) (h : multN x1 (clampB bs) = 0) : multN x1 (clampB cs) = 0 := by
  by_cases h0 : toF x1 = 0
  · exact multN_nought h0 _
  obtain ⟨L, T, hT, iL, iT, hcl⟩ := two
  obtain ⟨Q1, z1, q1⟩ := gen1 hT
  obtain ⟨Q2, z2, q2⟩ := gen2 hT
  obtain ⟨m, em, m1, m2⟩ := hcl bs hb
  obtain ⟨m', em', _, _⟩ := hcl cs hc
  have hg : toF x1 * (toF x1 * toF x1 + 486662 * toF x1 + 1) ≠ 0 := mul_ne h0 (quad_ne _)
  rcases fpow_half hg with hs | hs
  · obtain ⟨G, hx, hy⟩ := pt1 h0 hs
    obtain ⟨i, hi⟩ := all_1 hT Q1 Q2 q1 q2 G
    have e1 := multN_u ns1 par1' hx hy (clampB bs)
    rw [h, toF_zero, em] at e1
    have n1 := (u_zero ns1 par1').1 e1.symm
    obtain ⟨r, hr⟩ := iL _ m1
    obtain ⟨q, hq⟩ : ∃ q, 2 * m * r = L * q + 1 := ⟨2 * m * r / L, by have := Nat.div_add_mod (2 * m * r) L; rw [hr] at this; exact this.symm⟩
    have h8 : G.mul ns1 8 = Pt.zero := to_16 ns1 n1 (zero_of_mul ns1 hi z1) (r := r) (t := q) (a := 8) (by
      have e : (8 * m + 8 * m) * r = 8 * (2 * m * r) := by rw [show 8 * m + 8 * m = 8 * (2 * m) by omega, Nat.mul_assoc]
      rw [e, hq, Nat.mul_add, Nat.mul_one, ← Nat.mul_assoc, Nat.add_comm])
    have h16 : G.mul ns1 16 = Pt.zero := by rw [show 16 = 8 + 8 by rfl, mul_add', h8, add_zero']
    apply zero_of (multN_lt _ _)
    rw [multN_u ns1 par1' hx hy (clampB cs), em']
    exact (u_zero ns1 par1').2 (null_16 ns1 h16 m')
  · obtain ⟨G, hx, hy⟩ := pt2 h0 hs
    obtain ⟨i, hi⟩ := all_2 hT Q1 Q2 q1 q2 G
    have e1 := multN_u ns2 par2' hx hy (clampB bs)
    rw [h, toF_zero, em] at e1
    have n1 := (u_zero ns2 par2').1 e1.symm
    obtain ⟨r, hr⟩ := iT _ m2
    obtain ⟨q, hq⟩ : ∃ q, m * r = T * q + 1 := ⟨m * r / T, by have := Nat.div_add_mod (m * r) T; rw [hr] at this; exact this.symm⟩
    have h16 : G.mul ns2 16 = Pt.zero := to_16 ns2 n1 (zero_of_mul ns2 hi z2) (r := r) (t := 4 * q) (a := 16) (by
      have e : (8 * m + 8 * m) * r = 16 * (m * r) := by rw [show 8 * m + 8 * m = 16 * m by omega, Nat.mul_assoc]
      rw [e, hq, Nat.mul_mul_mul_comm, Nat.mul_add]
      omega)
    apply zero_of (multN_lt _ _)
    rw [multN_u ns2 par2' hx hy (clampB cs), em']
    exact (u_zero ns2 par2').2 (null_16 ns2 h16 m')
end Ed
end Go.Proofs.Ytmdjhbiiifnfiaa
