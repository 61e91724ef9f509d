/-
  Lemmas for the last text of this claim (part 6 of 20).
-/
import Derived.BigQuiet
import Derived.BigRegion
import Derived.ChangeOld
import Derived.Deep.RegionWith
import Derived.JoinedCond
import Derived.LaidMore
import Derived.Laws.CopyOwn
import Derived.Laws.Externs
import Derived.Laws.IdiomStrings
import Derived.Laws.Tables
import Derived.Lib.AppendStr
import Derived.Lib.AppendZerosOnto
import Derived.Lib.Mul64
import Derived.Lib.SlBytesConst
import Derived.LoopN
import Derived.OpenShut
import Derived.OrdersHeld
import Derived.ProofKit
import Derived.Shelf.Spec.BitsCarry
import Derived.ShutString
import Derived.Test.YtadfeclgoclalaaGreatProg
import Derived.Test.YtadfeclgoclalaaGreatRows
import Derived.WalkKit
import Derived.WalkLawsBesides
import Derived.WalkSpells
open List renaming replicate → QCK, getElem?_cons_succ → QCL, cons_append → QCO, getElem?_eq_getElem → QCR, getD_eq_getElem?_getD → QCS, set_cons_zero → QCV, set_cons_succ → QCW, mem_cons → QC2, append_assoc → QC3, getElem?_append_right → QC4, length_take → QDe, take_succ_eq_append_getElem → QDl, set_append_right → QDp, getElem?_eq_none → QDz, length_set → QDA, length_cons → QDC, drop_eq_getElem_cons → QDE, getElem?_drop → QDW, drop_of_length_le → QDZ, getElem_mem → QD6, getElem?_replicate → QEy, replicate_succ → QEG
open Nat renaming le_refl → QCX, mod_eq_of_lt → QC5, zero_add → QDf, mod_lt → QDg, div_div_eq_div_mul → QDu, div_eq_of_lt → QDB, pow_succ → QDJ, div_lt_of_lt_mul → QDN, min_eq_left → QDO, div_add_mod → QDP, lt_or_ge → QDS, mul_assoc → QD0, mul_add → QD1, pow_add → QD9, add_zero → QEc, mul_le_mul_left → QEe, mod_mod → QEf, add_mul_div_left → QEg, mul_one → QEv, pow_succ' → QEB, add_comm → QEE, pow_pos → QEH, zero_mul → QEP, mul_left_comm → QEQ, add_assoc → QEW, add_mod → QEY, mod_one → QE0
namespace Go.Proofs.YtadfeclgoclalaaGreat
def val (B : Nat) : List Nat → Nat
 | [] => 0
 | x :: l => x + B * val B l
def dig (B : Nat) : Nat → Nat → List Nat
 | 0, _ => []
 | k + 1, n => n % B :: dig B k (n / B)
theorem QaQ (B : Nat) : ∀ k n, (dig B k n).length = k
 | 0, _ => rfl
 | k + 1, n => by rw [dig, QDC, QaQ B k]
theorem Qeu (B : Nat) : ∀ k n, val B (dig B k n) = n % B ^ k
 | 0, n => by simp [dig, val, QE0]
 | k + 1, n => by rw [dig, val, Qeu B k, QEB, Nat.mod_mul]
theorem Qep {B : Nat} (hB : 0 < B) : ∀ k n, ∀ x ∈ dig B k n, x < B
 | 0, _, x, h => by cases h
 | k + 1, n, x, h => by
   rcases QC2.1 h with rfl | h
   · exact QDg _ hB
   · exact Qep hB k _ x h
theorem QkR {B : Nat} : ∀ l : List Nat, (∀ x ∈ l, x < B) → dig B l.length (val B l) = l
 | [], _ => rfl
 | x :: l, h => by
   have hx : x < B := h x (by simp)
   rw [QDC, val, dig, Nat.add_mul_mod_self_left, QC5 hx, QEg _ _ (by omega), QDB hx, QDf, QkR l (fun y hy => h y (by simp [hy]))]
theorem Qv0 {B : Nat} : ∀ l : List Nat, (∀ x ∈ l, x < B) → val B l < B ^ l.length
 | [], _ => by simp [val]
 | x :: l, h => by
   have hx : x < B := h x (by simp)
   have := Qv0 l (fun y hy => h y (by simp [hy]))
   rw [val, QDC, QEB]
   have h2 : B * (val B l + 1) ≤ B * B ^ l.length := QEe B this
   rw [QD1, QEv] at h2
   omega
theorem Qgz (B : Nat) : ∀ k n i, i < k → (dig B k n)[i]? = some (n / B ^ i % B)
 | 0, _, _, h => by omega
 | k + 1, n, 0, _ => by simp [dig]
 | k + 1, n, i + 1, h => by
   rw [dig, QCL, Qgz B k _ i (by omega), QDu, ← QEB]
theorem QdI (B k n i : Nat) (h : i < k) : (dig B k n).getD i 0 = n / B ^ i % B := by
 rw [QCS, Qgz B k n i h]
 rfl
theorem QfP (B : Nat) : ∀ k n, dig B (k + 1) n = dig B k n ++ [n / B ^ k % B]
 | 0, n => by simp [dig]
 | k + 1, n => by
   rw [dig, QfP B k (n / B), dig, QCO, QDu, ← QEB]
theorem Qhm (B : Nat) : ∀ l m : List Nat, val B (l ++ m) = val B l + B ^ l.length * val B m
 | [], m => by simp [val]
 | x :: l, m => by
   rw [QCO, val, Qhm B l m, val, QDC, QEB, QD1, QD0, QEW]
theorem Qm4 (B : Nat) : ∀ (l : List Nat) (i v : Nat), i < l.length → val B (l.set i v) + B ^ i * l.getD i 0 = val B l + B ^ i * v
 | [], _, _, h => by simp at h
 | x :: l, 0, v, _ => by simp [val]; omega
 | x :: l, i + 1, v, h => by
   have ih := Qm4 B l i v (by simpa using h)
   have e1 : B * (val B (l.set i v) + B ^ i * l.getD i 0) = B * (val B l + B ^ i * v) := by rw [ih]
   rw [QCW, val, val, List.getD_cons_succ, QEB, QD0, QD0]
   rw [QD1, QD1] at e1
   omega
theorem Qlo (B : Nat) : ∀ n, val B (QCK n 0) = 0
 | 0 => rfl
 | n + 1 => by rw [QEG, val, Qlo B n, Nat.mul_zero]
theorem Qgp {B : Nat} : ∀ k n, dig B k (n % B ^ k) = dig B k n
 | 0, _ => rfl
 | k + 1, n => by
   rw [dig, dig, QEB, Nat.mod_mul_right_mod, Nat.mod_mul_right_div_self, Qgp k]
theorem QtJ {B k n m : Nat} (hn : n < B ^ k) (hm : m < B ^ k) (h : dig B k n = dig B k m) : n = m := by
 have := Qeu B k n
 rw [h, Qeu, QC5 hn, QC5 hm] at this
 exact this.symm
def carr (B a b c k : Nat) : Nat := (a % B ^ k + b % B ^ k + c) / B ^ k
theorem Qmz (B a b c : Nat) : carr B a b c 0 = c := by simp [carr, QE0]
theorem Qb6 (B a k : Nat) : a % B ^ (k + 1) = a % B ^ k + B ^ k * (a / B ^ k % B) := by rw [QDJ, Nat.mod_mul]
theorem Qie {B : Nat} (hB : 0 < B) (a b c k : Nat) : (a / B ^ k % B + b / B ^ k % B + carr B a b c k) / B = carr B a b c (k + 1) := by
 have hp : 0 < B ^ k := QEH hB
 rw [carr, carr, Qb6, Qb6, QDJ, ← QDu]
 congr 1
 have e : a % B ^ k + B ^ k * (a / B ^ k % B) + (b % B ^ k + B ^ k * (b / B ^ k % B)) + c = (a % B ^ k + b % B ^ k + c) + B ^ k * (a / B ^ k % B + b / B ^ k % B) := by rw [QD1]; omega
 rw [e, QEg _ _ hp, QEE]
theorem QnL {B : Nat} (hB : 0 < B) (a b c k : Nat) : (a / B ^ k % B + b / B ^ k % B + carr B a b c k) % B = (a + b + c) / B ^ k % B := by
 have hp : 0 < B ^ k := QEH hB
 have ea := QDP a (B ^ k)
 have eb := QDP b (B ^ k)
 have e : a + b + c = (a % B ^ k + b % B ^ k + c) + B ^ k * (a / B ^ k + b / B ^ k) := by rw [QD1]; omega
 rw [e, QEg _ _ hp, ← carr, QEY, QEY (a / B ^ k % B), QEf, QEf, ← QEY (a / B ^ k), ← QEY, QEE]
theorem QnR {B : Nat} (hB : 0 < B) (a b c k : Nat) (hc : c ≤ 1) : carr B a b c k ≤ 1 := by
 have hp : 0 < B ^ k := QEH hB
 rw [carr]
 refine Nat.le_of_lt_succ (QDN ?_)
 have := QDg a hp
 have := QDg b hp
 omega
theorem Qve {B : Nat} (a b c k : Nat) (ha : a < B ^ k) (hb : b < B ^ k) : carr B a b c k = (a + b + c) / B ^ k := by rw [carr, QC5 ha, QC5 hb]
def owed (B a b k : Nat) : Nat := if a % B ^ k < b % B ^ k then 1 else 0
theorem QlN (B a b : Nat) : owed B a b 0 = 0 := by simp [owed, QE0]
theorem QkM (B a b k : Nat) : owed B a b k ≤ 1 := by
 unfold owed
 split <;> omega
theorem Qmq {B : Nat} (hB : 0 < B) (a b k : Nat) : owed B a b (k + 1) = if a / B ^ k % B < b / B ^ k % B + owed B a b k then 1 else 0 := by
 have hp : 0 < B ^ k := QEH hB
 rw [owed, owed, Qb6, Qb6]
 have ha := QDg a hp
 have hb := QDg b hp
 generalize a % B ^ k = x at *
 generalize b % B ^ k = y at *
 generalize a / B ^ k % B = p at *
 generalize b / B ^ k % B = q at *
 generalize B ^ k = M at *
 have e : ∀ p q : Nat, p + 1 ≤ q → M * p + M ≤ M * q := fun p q h => by
  have := QEe M h
  rwa [QD1, QEv] at this
 rcases Nat.lt_trichotomy p q with h | h | h
 · have := e p q h
   rw [if_pos (by omega), if_pos (by split <;> omega)]
 · subst h
   by_cases hxy : x < y
   · rw [if_pos (by omega), if_pos (by rw [if_pos hxy]; omega)]
   · rw [if_neg (by omega), if_neg (by rw [if_neg hxy]; omega)]
 · have := e q p h
   rw [if_neg (by omega), if_neg (by split <;> omega)]
theorem QuO (a b M N qa ra qb rb w : Nat) (ea : M * qa + ra = a) (eb : M * qb + rb = b) (hb : rb < M) (ha : ra < M) (hq : qb + 1 ≤ N) (hw : w = if ra < rb then 1 else 0) :
 a + M * N - b = (ra + w * M - rb) + M * (qa + N - qb - w) ∧ ra + w * M - rb < M := by
 obtain ⟨t, rfl⟩ : ∃ t, N = qb + 1 + t := ⟨N - qb - 1, by omega⟩
 subst ea
 subst eb
 subst hw
 by_cases h : ra < rb
 · rw [if_pos h, show qa + (qb + 1 + t) - qb - 1 = qa + t by omega]
   simp only [QD1, QEv, Nat.one_mul]
   omega
 · rw [if_neg h, show qa + (qb + 1 + t) - qb - 0 = qa + 1 + t by omega]
   simp only [QD1, QEv, QEP]
   omega
theorem QoB {B : Nat} (hB : 0 < B) (a b k n : Nat) (hk : k < n) (hb : b < B ^ n) : (a / B ^ k % B + B - b / B ^ k % B - owed B a b k) % B = (a + B ^ n - b) / B ^ k % B := by
 have hp : 0 < B ^ k := QEH hB
 obtain ⟨m, rfl⟩ : ∃ m, n = k + (m + 1) := ⟨n - k - 1, by omega⟩
 have hbk : b / B ^ k < B ^ (m + 1) := by
  rw [QD9] at hb
  exact QDN hb
 obtain ⟨key, hr⟩ := QuO a b (B ^ k) (B ^ (m + 1)) (a / B ^ k) (a % B ^ k) (b / B ^ k) (b % B ^ k) (owed B a b k) (QDP a _) (QDP b _) (QDg b hp) (QDg a hp) hbk rfl
 rw [← QD9] at key
 rw [key, QEg _ _ hp, QDB hr, QDf]
 have hq : b / B ^ k % B < B := QDg _ hB
 have e3 := QDP (a / B ^ k) B
 have e4 := QDP (b / B ^ k) B
 have hle : b / B ^ k / B < B ^ m := QDN (by rw [QEB] at hbk; exact hbk)
 have hol := QkM B a b k
 have key2 : a / B ^ k + B ^ (m + 1) - b / B ^ k - owed B a b k = (a / B ^ k % B + B - b / B ^ k % B - owed B a b k) + B * (a / B ^ k / B + B ^ m - b / B ^ k / B - 1) := by
  rw [QEB, Nat.mul_sub, Nat.mul_sub, QD1, QEv]
  have e1 : B * (b / B ^ k / B) + B ≤ B * B ^ m := by
   have := QEe B hle
   rwa [Nat.succ_eq_add_one, QD1, QEv] at this
  omega
 rw [key2, Nat.add_mul_mod_self_left]
theorem QoW {B : Nat} (a b k : Nat) (ha : a < B ^ k) (hb : b < B ^ k) : owed B a b k = if a < b then 1 else 0 := by rw [owed, QC5 ha, QC5 hb]
def QbI {α : Type} (S A : List α) (k : Nat) : List α := S.take k ++ A.drop k
theorem Qav {α : Type} (S A : List α) (k : Nat) (h : S.length = A.length) : (QbI S A k).length = A.length := by
 simp [QbI, h]
 omega
theorem Qbt {α : Type} (S A : List α) : QbI S A 0 = A := by simp [QbI]
theorem Qb0 {α : Type} (S A : List α) (k : Nat) (h : S.length = k) (h2 : A.length = k) : QbI S A k = S := by simp [QbI, ← h, QDZ, h2]
theorem QeF {α : Type} (S A : List α) (k j : Nat) (h : S.length = A.length) (hk : k ≤ j) (hj : j < A.length) : (QbI S A k)[j]? = A[j]? := by
 rw [QbI, QC4 (by simp; omega), QDW]
 congr 1
 simp
 omega
theorem QaV {α : Type} (S A : List α) (k : Nat) (v : α) (h : S.length = A.length) (hk : k < A.length) (hv : S[k]? = some v) : (QbI S A k).set k v = QbI S A (k + 1) := by
 rw [QbI, QbI, QDp _ _ (by simp; omega), List.take_add_one, hv, QC3]
 congr 1
 rw [QDE hk]
 have : k - (S.take k).length = 0 := by simp; omega
 rw [this, QCV]
 rfl
def QbA (B x : Nat) (ys ws : List Nat) (i : Nat) : Nat → List Nat × Nat
 | 0 => (ws, 0)
 | j + 1 => ((QbA B x ys ws i j).1.set (i + j) ((x * ys.getD j 0 + (QbA B x ys ws i j).1.getD (i + j) 0 + (QbA B x ys ws i j).2) % B),
     (x * ys.getD j 0 + (QbA B x ys ws i j).1.getD (i + j) 0 + (QbA B x ys ws i j).2) / B)
theorem QcQ (B x : Nat) (ys ws : List Nat) (i : Nat) : ∀ j, (QbA B x ys ws i j).1.length = ws.length
 | 0 => rfl
 | j + 1 => by rw [QbA, QDA, QcQ]
theorem Qws {B : Nat} {l : List Nat} (h : ∀ x ∈ l, x < B) (i v : Nat) (hv : v < B) : ∀ x ∈ l.set i v, x < B := by
 intro x hx
 rcases List.mem_or_eq_of_mem_set hx with hx | rfl
 · exact h x hx
 · exact hv
theorem Qif {B : Nat} (hB : 0 < B) {l : List Nat} (h : ∀ x ∈ l, x < B) (i : Nat) : l.getD i 0 < B := by
 rw [QCS]
 rcases QDS i l.length with hi | hi
 · rw [QCR hi]
   exact h _ (QD6 hi)
 · rw [QDz hi]
   exact hB
theorem Qz9 {B x y w c : Nat} (hx : x < B) (hy : y < B) (hw : w < B) (hc : c < B) : (x * y + w + c) / B < B := by
 refine QDN ?_
 have h1 : x * y ≤ (B - 1) * (B - 1) := Nat.mul_le_mul (by omega) (by omega)
 have h2 : (B - 1) * (B - 1) + (B - 1) + (B - 1) < B * B := by
  obtain ⟨k, rfl⟩ : ∃ k, B = k + 1 := ⟨B - 1, by omega⟩
  rw [Nat.add_sub_cancel, Nat.add_mul, QD1]
  omega
 omega
theorem Qh4 {B : Nat} (x : Nat) (ys ws : List Nat) (i : Nat) (hx : x < B) (hy : ∀ y ∈ ys, y < B) (hw : ∀ y ∈ ws, y < B) : ∀ j, (∀ y ∈ (QbA B x ys ws i j).1, y < B) ∧ (QbA B x ys ws i j).2 < B
 | 0 => ⟨hw, by rw [QbA]; omega⟩
 | j + 1 => by
   have hB : 0 < B := by omega
   obtain ⟨h1, h2⟩ := Qh4 x ys ws i hx hy hw j
   exact ⟨Qws h1 _ _ (QDg _ hB), Qz9 hx (Qif hB hy j) (Qif hB h1 _) h2⟩
theorem Qiu (B x : Nat) (ys ws : List Nat) (i k : Nat) : ∀ j, i + j ≤ k → (QbA B x ys ws i j).1[k]? = ws[k]?
 | 0, _ => rfl
 | j + 1, h => by rw [QbA, List.getElem?_set_ne (by omega), Qiu B x ys ws i k j (by omega)]
theorem Qe0 (B : Nat) (l : List Nat) (k : Nat) (h : k < l.length) : val B (l.take (k + 1)) = val B (l.take k) + B ^ k * l.getD k 0 := by
 rw [QDl h, Qhm, QDe, QDO (by omega), QCS, QCR h]
 simp [val]
theorem Qmj {B : Nat} (x : Nat) (ys ws : List Nat) (i : Nat) : ∀ j, j ≤ ys.length → i + j ≤ ws.length →
 val B (QbA B x ys ws i j).1 + B ^ (i + j) * (QbA B x ys ws i j).2 = val B ws + B ^ i * (x * val B (ys.take j))
 | 0, _, _ => by simp [QbA, val]
 | j + 1, h1, h2 => by
   have ih := Qmj (B := B) x ys ws i j (by omega) (by omega)
   have hs := Qm4 B (QbA B x ys ws i j).1 (i + j) ((x * ys.getD j 0 + (QbA B x ys ws i j).1.getD (i + j) 0 + (QbA B x ys ws i j).2) % B) (by rw [QcQ]; omega)
   have hd := QDP (x * ys.getD j 0 + (QbA B x ys ws i j).1.getD (i + j) 0 + (QbA B x ys ws i j).2) B
   rw [QbA, Qe0 B ys j (by omega)]
   simp only
   generalize (QbA B x ys ws i j).1.getD (i + j) 0 = w at *
   generalize (QbA B x ys ws i j).2 = c at *
   generalize ys.getD j 0 = y at *
   generalize (x * y + w + c) / B = q at *
   generalize (x * y + w + c) % B = r at *
   generalize val B ((QbA B x ys ws i j).1.set (i + j) r) = V at *
   generalize val B (QbA B x ys ws i j).1 = U at *
   generalize val B (ys.take j) = Y at *
   generalize val B ws = W at *
   have e1 : B ^ (i + (j + 1)) = B ^ (i + j) * B := by rw [← QEW, QDJ]
   have e2 : B ^ i * (x * (Y + B ^ j * y)) = B ^ i * (x * Y) + B ^ (i + j) * (x * y) := by
    rw [QD9, QD1, QD1]
    congr 1
    rw [QD0, QEQ x]
   have e3 : B ^ (i + j) * (B * q + r) = B ^ (i + j) * (x * y + w + c) := by rw [hd]
   rw [e1, e2, QD0]
   rw [QD1, QD1, QD1] at e3
   generalize B ^ (i + j) * (B * q) = A1 at *
   generalize B ^ (i + j) * r = A2 at *
   generalize B ^ (i + j) * (x * y) = A3 at *
   generalize B ^ (i + j) * w = A4 at *
   generalize B ^ (i + j) * c = A5 at *
   generalize B ^ i * (x * Y) = A6 at *
   omega
def QbW (B : Nat) (xs ys : List Nat) (n : Nat) : Nat → List Nat
 | 0 => QCK n 0
 | i + 1 => (QbA B (xs.getD i 0) ys (QbW B xs ys n i) i ys.length).1.set (i + ys.length) (QbA B (xs.getD i 0) ys (QbW B xs ys n i) i ys.length).2
theorem Qcb (B : Nat) (xs ys : List Nat) (n : Nat) : ∀ i, (QbW B xs ys n i).length = n
 | 0 => by simp [QbW]
 | i + 1 => by rw [QbW, QDA, QcQ, Qcb]
theorem QfG {B : Nat} (hB : 0 < B) (xs ys : List Nat) (n : Nat) (hx : ∀ x ∈ xs, x < B) (hy : ∀ y ∈ ys, y < B) : ∀ i, ∀ w ∈ QbW B xs ys n i, w < B
 | 0, w, h => by
   have := List.eq_of_mem_replicate h
   omega
 | i + 1, w, h => by
   have := Qh4 (xs.getD i 0) ys (QbW B xs ys n i) i (Qif hB hx i) hy (QfG hB xs ys n hx hy i) ys.length
   exact Qws this.1 _ _ this.2 w h
theorem QjM (B : Nat) (xs ys : List Nat) (n k : Nat) : ∀ i, i + ys.length ≤ k → k < n → (QbW B xs ys n i)[k]? = some 0
 | 0, _, hk => by rw [QbW, QEy, if_pos hk]
 | i + 1, h, hk => by rw [QbW, List.getElem?_set_ne (by omega), Qiu _ _ _ _ _ _ _ (by omega), QjM B xs ys n k i (by omega) hk]
theorem Qhn {B : Nat} (xs ys : List Nat) (n : Nat) : ∀ i, i ≤ xs.length → i + ys.length ≤ n → val B (QbW B xs ys n i) = val B (xs.take i) * val B ys
 | 0, _, _ => by simp [QbW, Qlo, val]
 | i + 1, h1, h2 => by
   have ih := Qhn (B := B) xs ys n i (by omega) (by omega)
   have hr := Qmj (B := B) (xs.getD i 0) ys (QbW B xs ys n i) i ys.length (QCX _) (by rw [Qcb]; omega)
   have hf := Qiu B (xs.getD i 0) ys (QbW B xs ys n i) i (i + ys.length) ys.length (QCX _)
   rw [QjM B xs ys n _ i (QCX _) (by omega)] at hf
   have hs := Qm4 B (QbA B (xs.getD i 0) ys (QbW B xs ys n i) i ys.length).1 (i + ys.length) (QbA B (xs.getD i 0) ys (QbW B xs ys n i) i ys.length).2 (by rw [QcQ, Qcb]; omega)
   have hf' : (QbA B (xs.getD i 0) ys (QbW B xs ys n i) i ys.length).1.getD (i + ys.length) 0 = 0 := by rw [QCS, hf]; rfl
   rw [hf', Nat.mul_zero, QEc, hr, ih, List.take_length] at hs
   rw [QbW, hs, Qe0 B xs i (by omega), Nat.add_mul, QD0]
end Go.Proofs.YtadfeclgoclalaaGreat
