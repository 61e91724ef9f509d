/-
  Lemmas for the last text of this claim (part 16 of 20).
-/
import Derived.BigQuiet
import Derived.BigRegion
import Derived.ChangeOld
import Derived.Deep.RegionWith
import Derived.JoinedCond
import Derived.LaidMore
import Derived.Laws.CopyOwn
import Derived.Laws.Externs
import Derived.Laws.IdiomStrings
import Derived.Laws.Tables
import Derived.Lib.AppendStr
import Derived.Lib.AppendZerosOnto
import Derived.Lib.Mul64
import Derived.Lib.SlBytesConst
import Derived.LoopN
import Derived.OpenShut
import Derived.OrdersHeld
import Derived.ProofKit
import Derived.Shelf.Spec.BitsCarry
import Derived.ShutString
import Derived.Test.YtadfeclgoclalaaGreatProg
import Derived.Test.YtadfeclgoclalaaGreatRows
import Derived.WalkKit
import Derived.WalkLawsBesides
import Derived.WalkSpells
import Derived.Test.YtadfeclgoclalaaGreatPE
import Derived.Test.YtadfeclgoclalaaGreatPH
import Derived.Test.YtadfeclgoclalaaGreatPM
import Derived.Test.YtadfeclgoclalaaGreatPO
open List renaming replicate → QCK, length_map → QCP, nil_append → QCQ, getElem?_eq_getElem → QCR, getD_eq_getElem?_getD → QCS, length_append → QCU, length_replicate → QCY, map_toArray → QC0, not_mem_nil → QC1, mem_cons → QC2, append_assoc → QC3, getElem?_append_right → QC4, getElem?_map → QC6, getElem?_append_left → QC8, map_nil → QC9, getElem?_eq_some_iff → QDa, length_drop → QDc, length_take → QDe, map_cons → QDh, take_append_drop → QDi, map_append → QDm, eq_nil_of_length_eq_zero → QDq, drop_left' → QDt, range → QDw, getElem?_eq_none → QDz, drop_eq_getElem_cons → QDE, mem_map → QDI, take_append_of_le_length → QDK, take_left' → QDR, getElem?_drop → QDW, mem_singleton → QDX, drop_drop → QD3, getElem_mem → QD6, drop_succ_cons → QEl, getElem?_range → QEm, drop_eq_nil_of_le → QEr, drop_zero → QEu, mem_append → QEz, range_succ → QEA, take_zero → QEO, map_congr_left → QEU
open Nat renaming le_refl → QCX, mod_eq_of_lt → QC5, zero_add → QDf, le_trans → QDy, pow_succ → QDJ, min_eq_left → QDO, mul_comm → QDQ, le_mul_of_pos_right → QEp, add_comm → QEE, pow_zero → QEX, mod_one → QE0
open UInt32 renaming ofNat → QDn, ofInt → QDH
open UInt64 renaming ofNat → QDd, toNat_ofNat' → QDk
open UInt8 renaming ofInt → QDj, ofNat → QDo, toNat_inj → QDx, toNat_ofNat' → QDV, lt_iff_toNat_lt → QEw
namespace Go.Proofs.YtadfeclgoclalaaGreat
open Go.RowKit
open Go.BigFrame
def bigB : Nat → Nat → List UInt8
 | 0, _ => []
 | w + 1, n => bigB w (n / 256) ++ [QDo n]
theorem QaJ : ∀ w n, (bigB w n).length = w
 | 0, _ => rfl
 | w + 1, n => by rw [bigB, QCU, QaJ w]; rfl
theorem QgF : ∀ w n, beN (bigB w n) 0 = n % 256 ^ w
 | 0, n => by rw [bigB, beN, QEX, QE0]
 | w + 1, n => by
   rw [bigB, QfO, QgF w]
   show n / 256 % 256 ^ w * 256 + (QDo n).toNat = _
   rw [QDV, show 2 ^ 8 = 256 from rfl, QDJ, QDQ (256 ^ w), Nat.mod_mul]
   omega
def encB (c : Cmd) : List UInt8 := [c.kd, c.fl] ++ (bigB 4 c.dl.toNat ++ (bigB 8 c.nx.toNat ++ (c.ma.val ++ [0, 0])))
theorem Qdj (c : Cmd) : (encB c).length = 32 := by simp [encB, QaJ, c.ma.2]
theorem Qyg {a b : Cmd} (h1 : a.kd = b.kd) (h2 : a.fl = b.fl) (h3 : a.dl = b.dl) (h4 : a.nx = b.nx) (h5 : a.ma.val = b.ma.val) : a = b := by
 cases a
 cases b
 simp only at h1 h2 h3 h4
 subst h1 h2 h3 h4
 congr
 exact Subtype.ext h5
theorem Ql2 (c : Cmd) : Qgu (encB c) = c := by
 have hm := c.ma.2
 refine Qyg rfl rfl ?_ ?_ ?_
 · show QDn (beN (subB (encB c) 2 4) 0) = c.dl
   rw [encB, Qb1 _ _ _ 2 4 rfl (QaJ _ _), QgF, QC5 (by have := c.dl.toNat_lt; omega), UInt32.ofNat_toNat]
 · show QDd (beN (subB (encB c) 6 8) 0) = c.nx
   rw [encB, ← QC3, Qb1 _ _ _ 6 8 (by rw [QCU, QaJ]; rfl) (QaJ _ _), QgF, QC5 (by have := c.nx.toNat_lt; omega), UInt64.ofNat_toNat]
 · rw [Qj4 _ (Qdj c), encB, ← QC3, ← QC3, Qb1 _ _ _ 14 16 (by rw [QCU, QCU, QaJ, QaJ]; rfl) hm]
theorem QlM (c : Cmd) : (encB c).getD 30 0 = 0 ∧ (encB c).getD 31 0 = 0 := by
 have h : encB c = ([c.kd, c.fl] ++ bigB 4 c.dl.toNat ++ bigB 8 c.nx.toNat ++ c.ma.val) ++ [0, 0] := by simp [encB]
 have hl : ([c.kd, c.fl] ++ bigB 4 c.dl.toNat ++ bigB 8 c.nx.toNat ++ c.ma.val).length = 30 := by simp [QaJ, c.ma.2]
 rw [h]
 constructor
 · rw [QCS, QC4 (by omega), hl]; rfl
 · rw [QCS, QC4 (by omega), hl]; rfl
theorem Qph (c : Cmd) : decE (encB c) = cmdE c := by
 rw [decE, Ql2, (QlM c).1, (QlM c).2, if_neg (fun h => by have := h.2; simp at this)]
theorem QuN (c : Cmd) (h : cmdE c = 0) : decC (encB c) = c := by rw [decC, Qph, if_pos h, Ql2]
theorem Qlf (key : List UInt8) (n : Nat) (h : n ≤ 288) : chaS key n = (chaS key 288).take n := by
 rw [Qfx key n 5 (by omega), Qfx key 288 5 (by omega), List.take_take, QDO h]
theorem QnX {p q s t : List UInt8} (h : p.length = s.length) : xorB (p ++ q) (s ++ t) = xorB p s ++ xorB q t := List.zipWith_append h
theorem QmO (p q : List UInt8) (k : Nat) : (xorB p q).drop k = xorB (p.drop k) (q.drop k) := List.drop_zipWith
theorem Qis (p q : List UInt8) (k : Nat) : (xorB p q).take k = xorB (p.take k) (q.take k) := List.take_zipWith
def Qf5 (st : Nat → List UInt8) : Nat → List UInt8
 | 0 => []
 | k + 1 => xorB (Qf5 st k ++ QCK 48 0) ((chaS (kStr (st k)) 288).drop (288 - 48 * (k + 1)))
theorem Qdo (st : Nat → List UInt8) : ∀ k, k ≤ 5 → (Qf5 st k).length = 48 * k
 | 0, _ => rfl
 | k + 1, h => by
   have ih := Qdo st k (by omega)
   rw [Qf5, QaU (by simp [ih, Qau]; omega), QDc, Qau]
   omega
def betA (n : Nat) (sl st : Nat → List UInt8) : Nat → List UInt8
 | 0 => xorB (sl (n - 1) ++ QCK (208 - 48 * (n - 1)) 0) (chaS (kStr (st (n - 1))) (240 - 48 * (n - 1))) ++ Qf5 st (n - 1)
 | j + 1 => xorB (sl (n - 2 - j) ++ (tagB (kMac (st (n - 1 - j))) (kAlp (st (n - 1 - j))) (betA n sl st j) ++ (betA n sl st j).take 192)) (chaS (kStr (st (n - 2 - j))) 240)
def tagA (n : Nat) (sl st : Nat → List UInt8) (j : Nat) : List UInt8 := tagB (kMac (st (n - 1 - j))) (kAlp (st (n - 1 - j))) (betA n sl st j)
def hdrA (n : Nat) (sl st : Nat → List UInt8) (j : Nat) : List UInt8 := kAlp (st (n - 1 - j)) ++ (tagA n sl st j ++ betA n sl st j)
theorem Qdi (k al be : List UInt8) : (tagB k al be).length = 16 := by rw [tagB, QDe, QaD]; rfl
section
variable {n : Nat} {sl st : Nat → List UInt8} (hn1 : 1 ≤ n) (hn5 : n ≤ 5) (hsl : ∀ k, (sl k).length = 32)
include hn1 hn5 hsl
theorem Qcq : ∀ j, (betA n sl st j).length = 240
 | 0 => by
   have := Qdo st (n - 1) (by omega)
   rw [betA, QCU, QaU (by rw [QCU, hsl, QCY, Qau]; omega), Qau, this]
   omega
 | j + 1 => by
   have ih := Qcq j
   rw [betA, QaU (by rw [QCU, hsl, QCU, Qdi, QDe, ih, Qau]; omega), Qau]
theorem Qqn (j : Nat) : xorB (betA n sl st (j + 1)) (chaS (kStr (st (n - 2 - j))) 240) = sl (n - 2 - j) ++ (tagA n sl st j ++ (betA n sl st j).take 192) := by
 have ih := Qcq (st := st) hn1 hn5 hsl j
 rw [betA, QeG (by rw [QCU, hsl, QCU, Qdi, QDe, ih, Qau]; omega)]
 rfl
theorem Qmk : ∀ j, j + 1 ≤ n → (betA n sl st j).drop (240 - 48 * (n - 1 - j)) = Qf5 st (n - 1 - j)
 | 0, _ => by
   rw [betA, Nat.sub_zero, QDt (by rw [QaU (by rw [QCU, hsl, QCY, Qau]; omega), Qau])]
 | j + 1, hj => by
   have ih := Qmk j (by omega)
   have hbl := Qcq (st := st) hn1 hn5 hsl j
   obtain ⟨i, hi⟩ : ∃ i, i = n - 2 - j := ⟨_, rfl⟩
   have hi1 : n - 1 - j = i + 1 := by omega
   have hi2 : n - 1 - (j + 1) = i := by omega
   have hfl := Qdo st i (by omega)
   rw [hi1] at ih
   have hX : (chaS (kStr (st i)) 240).drop (240 - 48 * i) = ((chaS (kStr (st i)) 288).drop (240 - 48 * i)).take (48 * i) := by
    rw [Qlf _ 240 (by omega), List.drop_take, show 240 - (240 - 48 * i) = 48 * i by omega]
   have hB : ((betA n sl st j).take 192).drop (192 - 48 * i) = xorB (Qf5 st i) (((chaS (kStr (st i)) 288).drop (240 - 48 * i)).take (48 * i)) := by
    rw [List.drop_take, show 192 - (192 - 48 * i) = 48 * i by omega, show 192 - 48 * i = 240 - 48 * (i + 1) by omega, ih, Qf5, Qis, QDR hfl, show 288 - 48 * (i + 1) = 240 - 48 * i by omega]
   have hcut : (sl i ++ (tagB (kMac (st (n - 1 - j))) (kAlp (st (n - 1 - j))) (betA n sl st j) ++ (betA n sl st j).take 192)).drop (240 - 48 * i) = ((betA n sl st j).take 192).drop (192 - 48 * i) := by
    rw [← QC3, List.drop_append, QEr (by rw [QCU, hsl, Qdi]; omega), QCQ, QCU, hsl, Qdi, show 240 - 48 * i - (32 + 16) = 192 - 48 * i by omega]
   rw [hi2, betA, ← hi, QmO, hcut, hB, hX, QeG (by rw [hfl, QDe, QDc, Qau]; omega)]
theorem QnU (j : Nat) (ha : (kAlp (st (n - 1 - j))).length = 32) : subB (hdrA n sl st j) 0 32 = kAlp (st (n - 1 - j)) ∧ subB (hdrA n sl st j) 32 16 = tagA n sl st j ∧ subB (hdrA n sl st j) 48 240 = betA n sl st j := by
 have ht : (tagA n sl st j).length = 16 := Qdi _ _ _
 have hb := Qcq (st := st) hn1 hn5 hsl j
 refine ⟨Qj3 _ _ _ ha, Qb1 _ _ _ _ _ ha ht, ?_⟩
 rw [hdrA, ← QC3, QiH _ _ _ _ (by rw [QCU, ha, ht]) hb]
theorem Qno (j : Nat) (ha : (kAlp (st (n - 1 - j))).length = 32) : (hdrA n sl st j).length = 288 := by
 have hb := Qcq (st := st) hn1 hn5 hsl j
 rw [hdrA, QCU, QCU, ha, hb, tagA, Qdi]
theorem QxE (j : Nat) (ha : (kAlp (st (n - 1 - j))).length = 32) : Qmy (hdrA n sl st j) (st (n - 1 - j)) = true := by
 obtain ⟨h1, h2, h3⟩ := QnU (sl := sl) hn1 hn5 hsl j ha
 rw [Qmy, h1, h2, h3]
 exact decide_eq_true rfl
theorem QtO (ha : (kAlp (st (n - 1))).length = 32) : (Qcx (hdrA n sl st 0) (st (n - 1))).take 32 = sl (n - 1) := by
 have h3 := (QnU (sl := sl) hn1 hn5 hsl 0 (by rw [Nat.sub_zero]; exact ha)).2.2
 have hb := Qcq (st := st) hn1 hn5 hsl 0
 rw [Qcx, h3, Qis, QDK (by omega), betA]
 have h1 : (xorB (sl (n - 1) ++ QCK (208 - 48 * (n - 1)) 0) (chaS (kStr (st (n - 1))) (240 - 48 * (n - 1)))).length = 240 - 48 * (n - 1) := by
  rw [QaU (by rw [QCU, hsl, QCY, Qau]; omega), Qau]
 rw [QDK (by rw [h1]; omega), Qis, QDR (hsl _), Qlf _ (240 - 48 * (n - 1)) (by omega), List.take_take, QDO (by omega)]
 exact QeG (by rw [hsl, QDe, Qau]; omega)
theorem QuQ (j : Nat) (hj : j + 1 < n) (ha : (kAlp (st (n - 1 - (j + 1)))).length = 32) : Qcx (hdrA n sl st (j + 1)) (st (n - 1 - (j + 1))) = sl (n - 1 - (j + 1)) ++ (tagA n sl st j ++ betA n sl st j) := by
 have h3 := (QnU (sl := sl) hn1 hn5 hsl (j + 1) ha).2.2
 have hb := Qcq (st := st) hn1 hn5 hsl j
 have hb1 := Qcq (st := st) hn1 hn5 hsl (j + 1)
 have hf := Qmk (st := st) hn1 hn5 hsl j (by omega)
 obtain ⟨i, hi⟩ : ∃ i, i = n - 2 - j := ⟨_, rfl⟩
 have hi1 : n - 1 - j = i + 1 := by omega
 have hi2 : n - 1 - (j + 1) = i := by omega
 have hfl := Qdo st i (by omega)
 have hpl := Qqn (st := st) hn1 hn5 hsl j
 rw [hi1] at hf
 rw [← hi] at hpl
 rw [hi2]
 rw [Qcx, h3]
 have hS : chaS (kStr (st i)) 288 = chaS (kStr (st i)) 240 ++ (chaS (kStr (st i)) 288).drop 240 := by rw [Qlf _ 240 (by omega), QDi]
 have hd : (betA n sl st j).drop 192 = (chaS (kStr (st i)) 288).drop 240 := by
  have h4 : (betA n sl st j).drop 192 = (Qf5 st (i + 1)).drop (48 * i) := by rw [← hf, QD3, show 240 - 48 * (i + 1) + 48 * i = 192 by omega]
  rw [h4, Qf5, QmO, QDt hfl, QD3, show 288 - 48 * (i + 1) + 48 * i = 240 by omega, Qhe _ _ (by rw [QDc, Qau])]
 rw [hS, QnX (by rw [hb1, Qau]), hpl, Qhe _ _ (by rw [QDc, Qau]), QC3, QC3, ← hd, QDi]
end
end Go.Proofs.YtadfeclgoclalaaGreat
namespace Go.Proofs.YtadfeclgoclalaaGreat
open Go.RowKit
open Go.BigFrame
structure Prt where
 kd : UInt8
 id : UInt64
 ix : Int
 ct : Int
 da : List UInt8
def prt0 : Prt := ⟨0, 0, 0, 0, []⟩
def PaC (p : Prt) (v : Value) : List Value := [W8 p.kd, W64 p.id, .int .i64 p.ix, .int .i64 p.ct, v]
def prtE (p : Prt) : Nat :=
 if p.kd < 1 ∨ 3 < p.kd then 1 else if 450 < p.da.length then 2 else if p.ct < 1 ∨ 16 < p.ct ∨ p.ix < 0 ∨ p.ct ≤ p.ix then 3
 else if p.kd ≠ 1 ∧ p.ct ≠ 1 then 3 else if p.kd = 2 ∧ (p.id ≠ 0 ∨ p.da.length ≠ 0) then 3 else 0
def QcA (b : List UInt8) : Nat := beN (subB b 28 2) 0
def Qhw (b : List UInt8) : Prt := ⟨b.getD 16 0, QDd (beN (subB b 20 8) 0), ((b.getD 17 0).toNat : Int), ((b.getD 18 0).toNat : Int), subB b 30 (QcA b)⟩
def parE (b : List UInt8) : Nat :=
 if b.length ≠ 480 then 2 else if b.take 16 ≠ QCK 16 0 then 7 else if b.getD 16 0 < 1 ∨ 3 < b.getD 16 0 then 1
 else if b.getD 19 0 ≠ 0 ∨ 450 < QcA b then 3 else if prtE (Qhw b) ≠ 0 ∨ b.drop (30 + QcA b) ≠ QCK (450 - QcA b) 0 then 3 else 0
def parP (b : List UInt8) : Prt := if parE b = 0 then Qhw b else prt0
def recE (k p : List UInt8) : Nat :=
 if unwE k p ≠ 0 then unwE k p else if (unwC k p).kd = 1 then 10 else if (unwC k p).kd = 4 then 0 else if parE (unwB k p) ≠ 0 then parE (unwB k p)
 else if (parP (unwB k p)).kd ≠ (if (unwC k p).kd = 3 then 2 else 1) then 10 else 0
end Go.Proofs.YtadfeclgoclalaaGreat
namespace Go.Proofs.YtadfeclgoclalaaGreat
open Go.RowKit
open Go.BigFrame
theorem Qg0 (d : Int) (h0 : 0 ≤ d) (h1 : d < 4294967296) : ((QDH d).toNat : Int) = d := by
 rw [Qmi]
 omega
theorem Qd5 (d : Int) (h0 : 0 ≤ d) (h1 : d < 256) : ((QDj d).toNat : Int) = d := by
 rw [QoL]
 omega
def Qa4 (p : Prt) : List UInt8 := QCK 16 0 ++ ([p.kd, QDj p.ix, QDj p.ct, 0] ++ (bigB 8 p.id.toNat ++ (bigB 2 p.da.length ++ (p.da ++ QCK (450 - p.da.length) 0))))
theorem Qei (p : Prt) (h : p.da.length ≤ 450) : (Qa4 p).length = 480 := by
 simp [Qa4, QaJ]
 omega
theorem Qow : ∀ (l : List UInt8) (k : Nat), l.length = k → bigB k (beN l 0) = l := by
 intro l k h
 induction k generalizing l with
 | zero => rw [QDq h]; rfl
 | succ k ih =>
   have hne : l ≠ [] := by rintro rfl; cases h
   obtain ⟨q, b, rfl⟩ : ∃ q b, l = q ++ [b] := ⟨l.dropLast, l.getLast hne, (List.dropLast_concat_getLast hne).symm⟩
   have hq : q.length = k := by simpa using h
   have hb := b.toNat_lt
   have e : beN (q ++ [b]) 0 = beN q 0 * 256 + b.toNat := by rw [QfO]; rfl
   rw [bigB, e, show (beN q 0 * 256 + b.toNat) / 256 = beN q 0 by omega, ih q hq]
   congr 2
   apply QDx.1
   rw [QDV]
   show (beN q 0 * 256 + b.toNat) % 256 = _
   omega
theorem Qrl (b : List UInt8) (hb : b.length = 480) (n : Nat) (_hn : n ≤ 450) :
 b = b.take 16 ++ ([b.getD 16 0, b.getD 17 0, b.getD 18 0, b.getD 19 0] ++ (subB b 20 8 ++ (subB b 28 2 ++ (subB b 30 n ++ b.drop (30 + n))))) := by
 have h1 : subB b 30 n ++ b.drop (30 + n) = b.drop 30 := by rw [subB, ← QD3, QDi]
 have h2 : subB b 28 2 ++ b.drop 30 = b.drop 28 := by rw [subB, show b.drop 30 = (b.drop 28).drop 2 by rw [QD3], QDi]
 have h3 : subB b 20 8 ++ b.drop 28 = b.drop 20 := by rw [subB, show b.drop 28 = (b.drop 20).drop 8 by rw [QD3], QDi]
 have g : ∀ i (h : i < b.length), b.getD i 0 = b[i] := fun i h => by rw [QCS, QCR h]; rfl
 have h4 : [b.getD 16 0, b.getD 17 0, b.getD 18 0, b.getD 19 0] ++ b.drop 20 = b.drop 16 := by
  rw [g 16 (by omega), g 17 (by omega), g 18 (by omega), g 19 (by omega), QDE (i := 16) (by omega), QDE (i := 17) (by omega), QDE (i := 18) (by omega), QDE (i := 19) (by omega)]
  rfl
 rw [h1, h2, h3, h4, QDi]
theorem Quu (b : List UInt8) (hb : b.length = 480) : QcA b < 65536 := by
 have := QsA (subB b 28 2) 0 1 (by omega)
 rw [Qaq (by omega)] at this
 unfold QcA
 omega
theorem Qjz (b : UInt8) : QDj (b.toNat : Int) = b := by
 apply QDx.1
 have := b.toNat_lt
 have := Qd5 (b.toNat : Int) (by omega) (by omega)
 omega
theorem Qmh (b : List UInt8) (hb : b.length = 480) (hs : QcA b ≤ 450) : (Qhw b).da.length = QcA b := Qaq (by omega)
theorem QnJ (b : List UInt8) (hb : b.length = 480) (h16 : b.take 16 = QCK 16 0) (hs : QcA b ≤ 450) :
 Qa4 (Qhw b) = b ↔ b.getD 19 0 = 0 ∧ b.drop (30 + QcA b) = QCK (450 - QcA b) 0 := by
 have hc := Qrl b hb (QcA b) hs
 have hl := Qmh b hb hs
 have e1 : bigB 8 (Qhw b).id.toNat = subB b 20 8 := by
  show bigB 8 (QDd (beN (subB b 20 8) 0)).toNat = _
  have h8 : (subB b 20 8).length = 8 := Qaq (by omega)
  have := QsA (subB b 20 8) 0 1 (by omega)
  rw [h8] at this
  rw [QDk, QC5 (by omega)]
  exact Qow _ _ h8
 have e2 : bigB 2 (Qhw b).da.length = subB b 28 2 := by
  rw [hl]
  exact Qow _ _ (Qaq (by omega))
 have e3 : Qa4 (Qhw b) = b.take 16 ++ ([b.getD 16 0, b.getD 17 0, b.getD 18 0, 0] ++ (subB b 20 8 ++ (subB b 28 2 ++ (subB b 30 (QcA b) ++ QCK (450 - QcA b) 0)))) := by
  rw [Qa4, e1, e2, hl, h16]
  show _ ++ ([b.getD 16 0, QDj ((b.getD 17 0).toNat : Int), QDj ((b.getD 18 0).toNat : Int), 0] ++ _) = _
  rw [Qjz, Qjz]
  rfl
 constructor
 · intro h
   have h' : Qa4 (Qhw b) = b.take 16 ++ ([b.getD 16 0, b.getD 17 0, b.getD 18 0, b.getD 19 0] ++ (subB b 20 8 ++ (subB b 28 2 ++ (subB b 30 (QcA b) ++ b.drop (30 + QcA b))))) := h.trans hc
   rw [e3] at h'
   have h2 := List.append_cancel_left h'
   have h3 := List.append_inj h2 rfl
   have h4 := List.append_cancel_left h3.2
   have h5 := List.append_cancel_left (List.append_cancel_left h4)
   refine ⟨?_, h5.symm⟩
   have := h3.1
   simp only [List.cons.injEq, and_true, true_and] at this
   exact this.symm
 · rintro ⟨h1, h2⟩
   rw [e3]
   conv => rhs; rw [hc]
   rw [h1, h2]
theorem Qw4 {a b : Prt} (h1 : a.kd = b.kd) (h2 : a.id = b.id) (h3 : a.ix = b.ix) (h4 : a.ct = b.ct) (h5 : a.da = b.da) : a = b := by
 cases a
 cases b
 simp only at h1 h2 h3 h4 h5
 subst h1 h2 h3 h4 h5
 rfl
theorem Qfj {p : Prt} (h : prtE p = 0) : ¬ (p.kd < 1 ∨ 3 < p.kd) ∧ p.da.length ≤ 450 ∧ 1 ≤ p.ct ∧ p.ct ≤ 16 ∧ 0 ≤ p.ix ∧ p.ix < p.ct := by
 unfold prtE at h
 split at h
 · cases h
 · rename_i h1
   split at h
   · cases h
   · rename_i h2
     split at h
     · cases h
     · rename_i h3
       exact ⟨h1, by omega, by omega, by omega, by omega, by omega⟩
theorem QmY (p : Prt) (h : prtE p = 0) : parE (Qa4 p) = 0 ∧ parP (Qa4 p) = p := by
 obtain ⟨h1, h2, h3, h4, h5, h6⟩ := Qfj h
 have hl := Qei p h2
 have g : ∀ i x, (Qa4 p)[i]? = some x → (Qa4 p).getD i 0 = x := fun i x h => by rw [QCS, h]; rfl
 have t16 : (Qa4 p).take 16 = QCK 16 0 := QDR (by simp)
 have d16 : (Qa4 p).drop 16 = [p.kd, QDj p.ix, QDj p.ct, 0] ++ (bigB 8 p.id.toNat ++ (bigB 2 p.da.length ++ (p.da ++ QCK (450 - p.da.length) 0))) := QDt (by simp)
 have a16 : (Qa4 p).getD 16 0 = p.kd ∧ (Qa4 p).getD 17 0 = QDj p.ix ∧ (Qa4 p).getD 18 0 = QDj p.ct ∧ (Qa4 p).getD 19 0 = 0 := by
  have e : ∀ i, (Qa4 p)[16 + i]? = ((Qa4 p).drop 16)[i]? := fun i => by rw [QDW]
  exact ⟨g 16 _ (by rw [show 16 = 16 + 0 from rfl, e, d16]; rfl), g 17 _ (by rw [show 17 = 16 + 1 from rfl, e, d16]; rfl), g 18 _ (by rw [show 18 = 16 + 2 from rfl, e, d16]; rfl), g 19 _ (by rw [show 19 = 16 + 3 from rfl, e, d16]; rfl)⟩
 have s20 : subB (Qa4 p) 20 8 = bigB 8 p.id.toNat := by
  rw [Qa4, ← QC3, Qb1 _ _ _ 20 8 (by simp) (QaJ _ _)]
 have s28 : subB (Qa4 p) 28 2 = bigB 2 p.da.length := by
  rw [Qa4, ← QC3, ← QC3, Qb1 _ _ _ 28 2 (by simp [QaJ]) (QaJ _ _)]
 have hs : QcA (Qa4 p) = p.da.length := by
  rw [QcA, s28, QgF]
  omega
 have s30 : subB (Qa4 p) 30 p.da.length = p.da := by
  rw [Qa4, ← QC3, ← QC3, ← QC3, Qb1 _ _ _ 30 _ (by simp [QaJ]) rfl]
 have hof : Qhw (Qa4 p) = p := by
  refine Qw4 a16.1 ?_ ?_ ?_ ?_
  · show QDd (beN (subB (Qa4 p) 20 8) 0) = p.id
    rw [s20, QgF, QC5 (by have := p.id.toNat_lt; omega), UInt64.ofNat_toNat]
  · show (((Qa4 p).getD 17 0).toNat : Int) = p.ix
    rw [a16.2.1, Qd5 _ (by omega) (by omega)]
  · show (((Qa4 p).getD 18 0).toNat : Int) = p.ct
    rw [a16.2.2.1, Qd5 _ (by omega) (by omega)]
  · show subB (Qa4 p) 30 (QcA (Qa4 p)) = p.da
    rw [hs, s30]
 have hag := (QnJ (Qa4 p) hl t16 (by omega)).1 (by rw [hof])
 have hE : parE (Qa4 p) = 0 := by
  rw [parE, if_neg (by omega), if_neg (fun f => f t16), a16.1, if_neg h1, if_neg (by rw [hag.1, hs]; simp; omega), hof, h, if_neg (by rw [hag.2]; simp)]
 exact ⟨hE, by rw [parP, if_pos hE, hof]⟩
end Go.Proofs.YtadfeclgoclalaaGreat
namespace Go.Proofs.YtadfeclgoclalaaGreat
open Go.RowKit
structure Hp where
 nod : Nod
 delay : Int
 flags : Int
def hp0 : Hp := ⟨nod0, 0, 0⟩
def HC (x : Hp) : List Value := NC x.nod ++ [.int .i64 x.delay, .int .i64 x.flags]
theorem Qc4 (x : Hp) : (HC x).length = 68 := by rw [HC, QCU, Qa9]; rfl
theorem QwQ (x : Hp) : ∀ u ∈ HC x, u.oneCell' = true := by
 intro u hu
 rw [HC] at hu
 rcases QEz.1 hu with h | h
 · exact Qy4 _ u h
 · simp only [QC2, QC1, or_false] at h
   rcases h with rfl | rfl <;> rfl
abbrev RdH : World → Option Addr → Nat → List Hp → Prop := RdF HC 68 hp0
theorem QmA (x : Hp) {i : Nat} {v : Value} (h : (NC x.nod)[i]? = some v) : (HC x)[i]? = some v := by
 rw [HC, QC8 (QDa.1 h).1]
 exact h
theorem Qh9 (x : Hp) : (HC x)[66]? = some (.int .i64 x.delay) := by
 rw [HC, QC4 (by rw [Qa9]; omega), Qa9]
 rfl
theorem Qh8 (x : Hp) : (HC x)[67]? = some (.int .i64 x.flags) := by
 rw [HC, QC4 (by rw [Qa9]; omega), Qa9]
 rfl
end Go.Proofs.YtadfeclgoclalaaGreat
namespace Go.Proofs.YtadfeclgoclalaaGreat
open Go.RowKit
open Go.BigFrame
def stA (x : List UInt8) (ps : List (List UInt8)) : Nat → List UInt8 × List (List UInt8)
 | 0 => (QbF x (nb 9), [x])
 | k + 1 => (QbF (derB (QcD (ps.getD k []) (stA x ps k).2).1 QbR) (stA x ps k).1, (stA x ps k).2 ++ [derB (QcD (ps.getD k []) (stA x ps k).2).1 QbR])
def secA (x : List UInt8) (ps : List (List UInt8)) (k : Nat) : List UInt8 := (QcD (ps.getD k []) (stA x ps k).2).1
def errA (x : List UInt8) (ps : List (List UInt8)) (k : Nat) : Nat := (QcD (ps.getD k []) (stA x ps k).2).2
def QcR (x : List UInt8) (ps : List (List UInt8)) (k : Nat) : List UInt8 := Qk8 (stA x ps k).1 (secA x ps k)
def goE (x : List UInt8) (ps : List (List UInt8)) : Nat → Nat → Nat
 | 0, _ => 0
 | r + 1, k => if errA x ps k = 0 then goE x ps r (k + 1) else errA x ps k
def fitS (x : List UInt8) (ps : List (List UInt8)) : Prop := x.length = 32 ∧ 1 ≤ ps.length ∧ ps.length ≤ 5 ∧ ∀ p ∈ ps, p.length = 32
open Classical in
noncomputable def QeN (x : List UInt8) (ps : List (List UInt8)) : Nat := if fitS x ps then goE x ps ps.length 0 else 2
def Qef (x : List UInt8) (ps : List (List UInt8)) (k : Nat) : List (List UInt8) := (QDw k).map (QcR x ps)
theorem Qez (x : List UInt8) (ps : List (List UInt8)) (k : Nat) : (stA x ps k).1.length = 32 := by
 cases k <;> exact Qa2 _ _
theorem QiE (x : List UInt8) (ps : List (List UInt8)) (k : Nat) : (secA x ps k).length = 32 := Qk0 _ _
theorem Qdq (x : List UInt8) (ps : List (List UInt8)) (k : Nat) : (QcR x ps k).length = 192 := Qhy _ _ (Qez x ps k) (QiE x ps k)
theorem Qf9 (x : List UInt8) (ps : List (List UInt8)) : ∀ k, (stA x ps k).2.length = k + 1
 | 0 => rfl
 | k + 1 => by
   rw [stA]
   simp [Qf9 x ps k]
theorem Qhi (x : List UInt8) (hx : x.length = 32) (ps : List (List UInt8)) : ∀ k, ∀ p ∈ (stA x ps k).2, p.length = 32
 | 0, p, h => by
   rw [stA, QDX] at h
   rw [h, hx]
 | k + 1, p, h => by
   rw [stA] at h
   rcases QEz.1 h with h | h
   · exact Qhi x hx ps k p h
   · rw [QDX.1 h, Qay]
theorem QoP (x : List UInt8) (hx : x.length = 32) (ps : List (List UInt8)) : ∀ k, ∃ q, Ed.From9 q ∧ (stA x ps k).1 = nb q
 | 0 => ⟨_, Ed.from9_step Ed.from9_nine x hx, (Qg7 x 9 hx QzL).1⟩
 | k + 1 => by
   obtain ⟨q, hq, e⟩ := QoP x hx ps k
   refine ⟨_, Ed.from9_step hq (derB (QcD (ps.getD k []) (stA x ps k).2).1 QbR) (Qay _ _), ?_⟩
   rw [stA, e]
   exact (Qg7 _ q (Qay _ _) hq.1).1
theorem Qu9 (x : List UInt8) (hx : x.length = 32) (ps : List (List UInt8)) (k : Nat) (b : List UInt8) (hb : b.length = 32) : Qbe b (stA x ps k).1 = 0 := by
 obtain ⟨q, hq, e⟩ := QoP x hx ps k
 rw [e, (Qg7 b q hb hq.1).2, if_neg (Ed.from9_ne (Ed.from9_step hq b hb))]
theorem Qnv (x : List UInt8) (ps : List (List UInt8)) (k : Nat) : Qef x ps (k + 1) = Qef x ps k ++ [QcR x ps k] := by
 rw [Qef, QEA, QDm]
 rfl
theorem Qle (x : List UInt8) (ps : List (List UInt8)) (k : Nat) : (Qef x ps k).length = k := by simp [Qef]
theorem QjL (x : List UInt8) (ps : List (List UInt8)) (k : Nat) : ∀ s ∈ Qef x ps k, s.length = 192 := by
 intro s hs
 obtain ⟨j, _, rfl⟩ := QDI.1 hs
 exact Qdq x ps j
theorem Qn5 (x : List UInt8) (ps : List (List UInt8)) (k : Nat) : (Qef x ps (k + 1)).flatten.map W8 = (Qef x ps k).flatten.map W8 ++ (QcR x ps k).map W8 := by
 rw [Qnv, List.flatten_append, QDm]
 simp
theorem Qig (x : List UInt8) (ps : List (List UInt8)) (k : Nat) : subB (QcR x ps k) 96 32 = derB (secA x ps k) QbR := Qnm _ _
theorem Qe9 (x : List UInt8) (ps : List (List UInt8)) (k : Nat) : subB (QcR x ps k) 128 32 = (stA x ps k).1 := Qof _ _ (Qez x ps k)
def ScP (w0 : World) (g8 : Nat) (w : World) (v : Value) (p : List UInt8) : Prop :=
 (∃ A c, v = .slice A 32 c ∧ 32 ≤ c ∧ RdB w0 A 32 p) ∨ (∃ b, v = .slice (some ⟨b, 0, none⟩) 32 32 ∧ b ≠ g8 ∧ p.length = 32 ∧ Blk w b 31 (p.map W8)) ∨ (∃ A c base, v = .slice A 32 c ∧ OwnB w base A 32 c p)
structure ScRow (w0 : World) (g8 : Nat) (w : World) (v : Value) (sc : List (List UInt8)) (vs : List Value) : Prop where
 own : w.ownsRow w0.heap.size 22 1 v sc.length vs
 len : vs.length = sc.length
 each : ∀ (j : Nat) u p, vs[j]? = some u → sc[j]? = some p → ScP w0 g8 w u p
theorem Qul : (31 : TypeId) ≠ 22 := by decide
theorem ne8L : (5 : TypeId) ≠ 22 := by decide
theorem QBZ : (5 : TypeId) ≠ 31 := by decide
theorem ScP.later {w0 w w' : World} {g8 : Nat} {v : Value} {p : List UInt8} (h : ScP w0 g8 w v p) (j : Later w w') : ScP w0 g8 w' v p := by
 rcases h with h | ⟨b, h1, h2, h3, h4⟩ | ⟨A, c, base, h1, h2⟩
 · exact .inl h
 · exact .inr (.inl ⟨b, h1, h2, h3, h4.later j⟩)
 · exact .inr (.inr ⟨A, c, base, h1, Qao h2 j⟩)
theorem ScP.part {w0 w : World} {g8 : Nat} {v : Value} {p : List UInt8} (h : ScP w0 g8 w v p) (j : Later w0 w) : Part w (fun _ => False) v p := by
 rcases h with ⟨A, c, rfl, hc, h⟩ | ⟨b, rfl, _, h3, h4⟩ | ⟨A, c, base, rfl, h2⟩
 · exact QcY (h.later j) hc
 · exact QcY (Qe7 h4 h3) (QCX _)
 · exact QcY h2.rd h2.cap
theorem ScP.only {w0 w w' : World} {g8 : Nat} {v : Value} {p : List UInt8} {l : List Value} (h : ScP w0 g8 w v p) (hg : Blk w g8 31 l) (ho : Only g8 w w') : ScP w0 g8 w' v p := by
 rcases h with h | ⟨b, h1, h2, h3, h4⟩ | ⟨A, c, base, h1, h2⟩
 · exact .inl h
 · exact .inr (.inl ⟨b, h1, h2, h3, h4.only ho h2⟩)
 · exact .inr (.inr ⟨A, c, base, h1, QaC h2 hg (fun e => QBZ e.symm) ho⟩)
theorem ScP.grown {w0 w w' : World} {g8 base sz : Nat} {v v2 : Value} {p : List UInt8} {e : TypeId} {n : Nat} {vs : List Value} (h : ScP w0 g8 w v p) (hown : w.ownsRow base e sz v2 n vs) (h1 : 31 ≠ e) (h2 : 5 ≠ e) (hg : w.grownBy w' v2.ownBlock) : ScP w0 g8 w' v p := by
 rcases h with h | ⟨b, k1, k2, k3, k4⟩ | ⟨A, c, base', k1, k2⟩
 · exact .inl h
 · exact .inr (.inl ⟨b, k1, k2, k3, QdR k4 hown h1 hg⟩)
 · exact .inr (.inr ⟨A, c, base', k1, QeC k2 hown h2 hg⟩)
theorem ScRow.later {w0 w w' : World} {g8 : Nat} {v : Value} {sc : List (List UInt8)} {vs : List Value} (h : ScRow w0 g8 w v sc vs) (j : Later w w') : ScRow w0 g8 w' v sc vs :=
 ⟨Qao h.own j, h.len, fun k u p hu hp => (h.each k u p hu hp).later j⟩
theorem ScRow.only {w0 w w' : World} {g8 : Nat} {v : Value} {sc : List (List UInt8)} {vs : List Value} {l : List Value} (h : ScRow w0 g8 w v sc vs) (hg : Blk w g8 31 l) (ho : Only g8 w w') : ScRow w0 g8 w' v sc vs :=
 ⟨QaC h.own hg Qul ho, h.len, fun k u p hu hp => (h.each k u p hu hp).only hg ho⟩
theorem ScRow.grown {w0 w w' : World} {g8 base sz : Nat} {v v2 : Value} {sc : List (List UInt8)} {us vs : List Value} {e : TypeId} {n : Nat} (h : ScRow w0 g8 w v sc us) (hown : w.ownsRow base e sz v2 n vs) (h0 : 22 ≠ e) (h1 : 31 ≠ e) (h2 : 5 ≠ e) (hg : w.grownBy w' v2.ownBlock) : ScRow w0 g8 w' v sc us :=
 ⟨QeC h.own hown h0 hg, h.len, fun k u p hu hp => (h.each k u p hu hp).grown hown h1 h2 hg⟩
theorem ScRow.snoc {w0 w w' : World} {g8 : Nat} {v v' u : Value} {sc : List (List UInt8)} {vs : List Value} {p : List UInt8} (h : ScRow w0 g8 w v sc vs) (hu : ScP w0 g8 w u p) (hg : w.grownBy w' v.ownBlock) (hown : w'.ownsRow w0.heap.size 22 1 v' (sc.length + 1) (vs ++ [u])) : ScRow w0 g8 w' v' (sc ++ [p]) (vs ++ [u]) := by
 refine ⟨by rw [QCU]; exact hown, by simp [h.len], fun j x q hx hq => ?_⟩
 by_cases hj : j < vs.length
 · rw [QC8 hj] at hx
   rw [QC8 (by rw [← h.len]; exact hj)] at hq
   exact (h.each j x q hx hq).grown h.own Qul ne8L hg
 · rw [QC4 (by omega)] at hx
   rw [QC4 (by rw [← h.len]; omega), ← h.len] at hq
   have h0 : j - vs.length = 0 := by
    have := (QDa.1 hx).1
    simp at this
    omega
   rw [h0] at hx hq
   cases hx
   cases hq
   exact hu.grown h.own Qul ne8L hg
theorem ScRow.parts {w0 w : World} {g8 : Nat} {A : Option Addr} {n c : Nat} {sc : List (List UInt8)} {vs : List Value} (h : ScRow w0 g8 w (.slice A n c) sc vs) (hn : sc.length = n) (j : Later w0 w) : Parts w (fun _ => False) A n sc := by
 have ho := h.own
 rw [hn] at ho
 exact ⟨vs, Qcc ho, fun _ _ _ h => h, h.len, fun k u p hu hp => (h.each k u p hu hp).part j⟩
section
variable {P : Program} {ops : Array Oper} {rest : List Oper} {o : Oper} {a : Act} {w : World} {Q : Exit → Act → World → Prop}
end
end Go.Proofs.YtadfeclgoclalaaGreat
namespace Go.Proofs.YtadfeclgoclalaaGreat
open Go.RowKit
section
variable {P : Program} {ops : Array Oper} {rest : List Oper} {o : Oper} {a : Act} {w : World} {Q : Exit → Act → World → Prop}
theorem QfL (hgd : o.guard = none) (s x : Operand) (t : TypeId) (ho : o.op = .call { callee := .builtin .append, args := #[s, x], argTypes := #[t, t] })
 (e : TypeId) (z : Value) (sz bytes : Nat) (ht : P.underlying t = some (.slice e)) (hinfo : (P.info? e).map (fun i => (i.zero, i.size, i.bytes)) = some (some z, sz, bytes)) (hzs : z.cells.size = sz) (hs0 : 0 < sz)
 (w0 : World) (v : Value) (n : Nat) (vs : List Value) (hown : w.ownsRow w0.heap.size e sz v n vs) (hl : Later w0 w)
 (g m c : Nat) (t2 : TypeId) (news : List Value) (hb : Blk w g t2 news) (hnl : news.length = m * sz) (h1 : ∀ u ∈ news, u.oneCell' = true) (hs : a.eval s = v) (hx : a.eval x = .slice (some ⟨g, 0, none⟩) m c) (hsz : (n + m) * bytes ≤ 140737488355328) (hby : 0 < bytes)
 (h : ∀ v' w', w'.ownsRow w0.heap.size e sz v' (n + m) (vs ++ news) → Later w0 w' → w.grownBy w' v.ownBlock → wpList P ops Q rest (a.put o.dst v') w') :
 wpList P ops Q (o :: rest) a w := by
 obtain ⟨i, hi, hz, hsize, hbytes⟩ := info_parts hinfo
 have hnm : n + m ≤ 140737488355328 := QDy (QEp _ hby) hsz
 have hmax : n + m ≤ maxLen := by unfold maxLen; omega
 have hcells : ∀ j u, news[j]? = some u → w.cell? ((⟨g, 0, none⟩ : Addr).add j) = some u := by
  intro j u hu
  rw [Qdr, QDf]
  exact hb.cellD j hu
 obtain ⟨v', w', hrun, h2, h3, _⟩ := run_append_own (P := P) w w0.heap.size t o.type e i z sz bytes ht hi hz hsize hbytes hzs hs0 v n vs hown ⟨g, 0, none⟩ m c news hnl hcells h1 hmax hsz hl.size
 refine wpList_plain hgd fun K hK => ?_
 unfold Oper.wp execOp
 simp only [ho, resolve, invoke, builtin, Sem.run_bind, Sem.run_pure, Result.andThen_ok, QC0, QDh, QC9, hs, hx, hrun]
 exact hK _ _ (h v' w' h2 (hl.grownBy h3 (fun k hk => (hown.lt k hk).1)) h3)
end
end Go.Proofs.YtadfeclgoclalaaGreat
namespace Go.Proofs.YtadfeclgoclalaaGreat
open Go.RowKit
open Go.BigFrame
theorem QjD {x : List UInt8} {ps : List (List UInt8)} (h : ¬ fitS x ps) : QeN x ps = 2 := by rw [QeN, if_neg h]
theorem Qqm {x : List UInt8} {ps : List (List UInt8)} (h : fitS x ps) : QeN x ps = goE x ps ps.length 0 := by rw [QeN, if_pos h]
theorem Qne {w : World} {base sz : Nat} {e : TypeId} {v : Value} {n : Nat} {vs : List Value} (h : w.ownsRow base e sz v n vs) : ∀ b, v.ownBlock = some b → b < w.heap.size := fun b hb => (h.lt b hb).2
end Go.Proofs.YtadfeclgoclalaaGreat
namespace Go.Proofs.YtadfeclgoclalaaGreat
open Go.RowKit
def mulF (f : Nat → List UInt8 → Nat) : Nat → List (List UInt8) → Nat
 | q, [] => q
 | q, s :: sc => mulF f (f q s) sc
theorem QlY (f : Nat → List UInt8 → Nat) (s : List UInt8) : ∀ (sc : List (List UInt8)) (q : Nat), mulF f q (sc ++ [s]) = f (mulF f q sc) s
 | [], _ => rfl
 | t :: sc, q => QlY f s sc (f q t)
theorem Qlr (f : Nat → List UInt8 → Nat) (hf : ∀ q a b, f (f q a) b = f (f q b) a) (p : List UInt8) : ∀ (sc : List (List UInt8)) (q : Nat), mulF f (f q p) sc = f (mulF f q sc) p
 | [], _ => rfl
 | s :: sc, q => by
   rw [mulF, mulF, hf, Qlr f hf p sc]
theorem Qki (f : Nat → List UInt8 → Nat) (P : Nat → Prop) (hP : ∀ q s, P q → s.length = 32 → P (f q s)) : ∀ (sc : List (List UInt8)) (q : Nat), P q → (∀ s ∈ sc, s.length = 32) → P (mulF f q sc)
 | [], _, h, _ => h
 | s :: sc, q, h, hs => Qki f P hP sc _ (hP q s h (hs s (by simp))) (fun t ht => hs t (by simp [ht]))
theorem Qmo (f : Nat → List UInt8 → Nat) (P : Nat → Prop) (hP : ∀ q s, P q → s.length = 32 → P (f q s)) (hB : ∀ q s, P q → s.length = 32 → QbF s (nb q) = nb (f q s)) (hE : ∀ q s, P q → s.length = 32 → Qbe s (nb q) = 0) :
 ∀ (sc : List (List UInt8)) (q : Nat), P q → (∀ s ∈ sc, s.length = 32) → Qew sc (nb q) = (nb (mulF f q sc), 0)
 | [], _, _, _ => rfl
 | s :: sc, q, hq, hs => by
   have h32 := hs s (by simp)
   rw [Qew, hE q s hq h32, hB q s hq h32, if_pos rfl, Qmo f P hP hB hE sc _ (hP q s hq h32) (fun t ht => hs t (by simp [ht])), mulF]
def mS (q : Nat) (s : List UInt8) : Nat := Ed.multN q (QaT s)
theorem Qyy (q : Nat) (a b : List UInt8) : mS (mS q a) b = mS (mS q b) a := Ed.multN_comm q (QaT a) (QaT b)
theorem Qkt (q : Nat) (s : List UInt8) (h : Ed.From9 q) (hs : s.length = 32) : Ed.From9 (mS q s) := Ed.from9_step h s hs
theorem mS_B (q : Nat) (s : List UInt8) (h : Ed.From9 q) (hs : s.length = 32) : QbF s (nb q) = nb (mS q s) := (Qg7 s q hs h.1).1
theorem mS_E (q : Nat) (s : List UInt8) (h : Ed.From9 q) (hs : s.length = 32) : Qbe s (nb q) = 0 := by
 rw [(Qg7 s q hs h.1).2, if_neg (Ed.from9_ne (Ed.from9_step h s hs))]
theorem Qm0 (q : Nat) (sc : List (List UInt8)) (hq : Ed.From9 q) (hs : ∀ s ∈ sc, s.length = 32) : QcD (nb q) sc = (nb (mulF mS q sc), 0) := by
 have h := Qmo mS Ed.From9 Qkt mS_B mS_E sc q hq hs
 have h2 := Qpc q hq.1
 rw [QcD, if_pos ⟨Qcd _, hs⟩, h2, h]
theorem Qpa (x : List UInt8) (hx : x.length = 32) (ps : List (List UInt8)) : ∀ k, (stA x ps k).1 = nb (mulF mS 9 (stA x ps k).2)
 | 0 => by
   have e1 : (stA x ps 0).1 = QbF x (nb 9) := rfl
   have e2 : (stA x ps 0).2 = [x] := rfl
   have e3 : mulF mS 9 [x] = mS 9 x := by rw [mulF, mulF]
   rw [e1, e2, e3]
   exact mS_B 9 x Ed.from9_nine hx
 | k + 1 => by
   have h9 := Qki mS Ed.From9 Qkt (stA x ps k).2 9 Ed.from9_nine (Qhi x hx ps k)
   have ih := Qpa x hx ps k
   have e1 : (stA x ps (k + 1)).1 = QbF (derB (secA x ps k) QbR) (stA x ps k).1 := rfl
   have e2 : (stA x ps (k + 1)).2 = (stA x ps k).2 ++ [derB (secA x ps k) QbR] := rfl
   have hl := Qay (secA x ps k) QbR
   rw [e1, e2]
   clear e1 e2
   generalize derB (secA x ps k) QbR = bl at *
   generalize (stA x ps k).1 = al at *
   generalize (stA x ps k).2 = sc at *
   rw [ih, QlY, mS_B _ bl h9 hl]
def Qco (ks : List (List UInt8)) : List (List UInt8) := ks.map fun p => QbF p (nb 9)
theorem QnW (ks : List (List UInt8)) (k : Nat) (h : k < ks.length) : (Qco ks).getD k [] = QbF (ks.getD k []) (nb 9) := by
 rw [Qco, QCS, QC6, QCS, QCR h]
 rfl
theorem QoO (x : List UInt8) (hx : x.length = 32) (ks : List (List UInt8)) (hk : ∀ p ∈ ks, p.length = 32) (k : Nat) (h : k < ks.length) :
 errA x (Qco ks) k = 0 ∧ secA x (Qco ks) k = QbF (ks.getD k []) (stA x (Qco ks) k).1 ∧ Qbe (ks.getD k []) (stA x (Qco ks) k).1 = 0 := by
 have hp : (ks.getD k []).length = 32 := hk _ (QeQ ks k h)
 have hs := Qhi x hx (Qco ks) k
 have ha := Qpa x hx (Qco ks) k
 have hpub := QnW ks k h
 have e1 : errA x (Qco ks) k = (QcD ((Qco ks).getD k []) (stA x (Qco ks) k).2).2 := rfl
 have e2 : secA x (Qco ks) k = (QcD ((Qco ks).getD k []) (stA x (Qco ks) k).2).1 := rfl
 rw [e1, e2, hpub]
 clear e1 e2 hpub
 generalize (stA x (Qco ks) k).1 = al at *
 generalize (stA x (Qco ks) k).2 = sc at *
 generalize ks.getD k [] = p at *
 have h9a := Qki mS Ed.From9 Qkt sc 9 Ed.from9_nine hs
 have hc := Qm0 (mS 9 p) sc (Qkt 9 p Ed.from9_nine hp) hs
 have hm := Qlr mS Qyy p sc 9
 rw [mS_B 9 p Ed.from9_nine hp, hc, ha, mS_B _ p h9a hp, mS_E _ p h9a hp, hm]
 exact ⟨rfl, rfl, rfl⟩
theorem QrI (x : List UInt8) (hx : x.length = 32) (ks : List (List UInt8)) (hk : ∀ p ∈ ks, p.length = 32) (k : Nat) (h : k < ks.length) :
 Qdv (ks.getD k []) (stA x (Qco ks) k).1 = QcR x (Qco ks) k := by
 obtain ⟨_, h2, h3⟩ := QoO x hx ks hk k h
 rw [Qdv, if_pos h3, QcR, h2]
end Go.Proofs.YtadfeclgoclalaaGreat
namespace Go.Proofs.YtadfeclgoclalaaGreat
open Go.RowKit
open Go.BigFrame
def badH (h : Hp) : Bool := decide (h.delay < 0) || decide (1000000 < h.delay) || decide (h.flags < 0) || decide (255 < h.flags)
def Qvn (c : Cmd) : Bool := decide (c.kd < 2) || decide (4 < c.kd)
def Qf4 (c : Cmd) (hs : List Hp) : Nat :=
 if Qvn c = true then 1 else if hs.any badH = true then 1 else if hs.length < 1 ∨ 5 < hs.length then 2 else if Qc7 c = false then 3 else if (hs.drop 1).any (fun h => h.nod.id == 0) = true then 3 else 0
def Qb9 (c : Cmd) (hs : List Hp) (i : Nat) : Cmd :=
 if i + 1 < hs.length then ⟨1, QDj (hs.getD i hp0).flags, QDH (hs.getD i hp0).delay, (hs.getD (i + 1) hp0).nod.id, QaS⟩
 else ⟨c.kd, QDj (hs.getD i hp0).flags, QDH (hs.getD i hp0).delay, 0, c.ma⟩
theorem QsJ {h : Hp} (e : badH h = false) : 0 ≤ h.delay ∧ h.delay ≤ 1000000 ∧ 0 ≤ h.flags ∧ h.flags ≤ 255 := by
 simp only [badH, Bool.or_eq_false_iff, decide_eq_false_iff_not] at e
 omega
theorem QzC {hs : List Hp} {p : Hp → Bool} (h : hs.any p = false) {i : Nat} (hi : i < hs.length) : p (hs.getD i hp0) = false := by
 rw [List.any_eq_false] at h
 rw [QCS, QCR hi]
 simpa using h _ (QD6 hi)
theorem QeB {c : Cmd} {hs : List Hp} (h : Qf4 c hs = 0) : Qvn c = false ∧ hs.any badH = false ∧ 1 ≤ hs.length ∧ hs.length ≤ 5 ∧ Qc7 c = true ∧ (hs.drop 1).any (fun h => h.nod.id == 0) = false := by
 unfold Qf4 at h
 split at h
 · cases h
 · split at h
   · cases h
   · split at h
     · cases h
     · split at h
       · cases h
       · split at h
         · cases h
         · rename_i h1 h2 h3 h4 h5
           exact ⟨by simpa using h1, by simpa using h2, by omega, by omega, by simpa using h4, by simpa using h5⟩
theorem Qkm {c : Cmd} {hs : List Hp} (h : Qf4 c hs = 0) {i : Nat} (hi : i < hs.length) : cmdE (Qb9 c hs i) = 0 ∧ ((Qb9 c hs i).kd = 1 ↔ i + 1 < hs.length) := by
 obtain ⟨h1, h2, _, _, h5, h6⟩ := QeB h
 have hb := QsJ (QzC h2 hi)
 have hd : ¬ (1000000 : UInt32) < QDH (hs.getD i hp0).delay := by
  rw [UInt32.lt_iff_toNat_lt]
  have := Qg0 (hs.getD i hp0).delay hb.1 (by omega)
  show ¬ (1000000 < (QDH (hs.getD i hp0).delay).toNat)
  omega
 have hkd : c.kd ≠ 1 ∧ ¬ (c.kd < 1 ∨ 4 < c.kd) := by
  simp only [Qvn, Bool.or_eq_false_iff, decide_eq_false_iff_not, QEw] at h1
  rw [QEw, QEw, Ne, ← QDx]
  have e1 : (1 : UInt8).toNat = 1 := rfl
  have e2 : (2 : UInt8).toNat = 2 := rfl
  have e4 : (4 : UInt8).toNat = 4 := rfl
  omega
 unfold Qb9
 by_cases hlt : i + 1 < hs.length
 · rw [if_pos hlt]
   refine ⟨?_, fun _ => hlt, fun _ => rfl⟩
   have hid : (hs.getD (i + 1) hp0).nod.id ≠ 0 := by
    rw [List.any_eq_false] at h6
    have := h6 (hs.getD (i + 1) hp0) (by
     rw [QCS, QCR hlt]
     rw [List.mem_iff_getElem?]
     exact ⟨i, by rw [QDW, QEE 1 i, QCR hlt]; rfl⟩)
    simpa using this
   unfold cmdE
   rw [if_neg (by
    show ¬ ((1 : UInt8) < 1 ∨ 4 < (1 : UInt8))
    decide), if_neg (by
    have h0 : ((hs.getD (i + 1) hp0).nod.id != 0) = true := by simpa using hid
    simp only [Qc7, h0, QaS]
    decide), if_neg hd]
 · rw [if_neg hlt]
   refine ⟨?_, fun e => absurd e hkd.1, fun e => absurd e hlt⟩
   have hs2 : Qc7 ⟨c.kd, QDj (hs.getD i hp0).flags, QDH (hs.getD i hp0).delay, 0, c.ma⟩ = true := by
    have hk := hkd.1
    simp only [Qc7] at h5 ⊢
    have e1 : (c.kd == 1) = false := by simpa using hk
    rw [e1] at h5 ⊢
    cases hx : (c.nx != 0)
    · rw [hx] at h5
      simpa using h5
    · rw [hx] at h5
      simp at h5
   unfold cmdE
   rw [if_neg hkd.2, if_neg (by rw [hs2]; decide), if_neg hd]
def seaA (n : Nat) (st : Nat → List UInt8) (body : List UInt8) : Nat → List UInt8
 | 0 => body
 | j + 1 => QcL (kPay (st (n - 1 - j))) (seaA n st body j) rsS
def pktA (n : Nat) (sl st : Nat → List UInt8) (body : List UInt8) (i : Nat) : List UInt8 := hdrA n sl st (n - 1 - i) ++ seaA n st body (n - i)
theorem QmE {st : Nat → List UInt8} (hst : ∀ k, (st k).length = 192) (k : Nat) {bs : List UInt8} (hb : bs.length = 480) : QeT (kPay (st k)) bs rsS = 0 :=
 Qfy okS ⟨Qaq (by have := hst k; omega), by omega, by omega⟩
theorem Qe6 {n : Nat} {st : Nat → List UInt8} {body : List UInt8} (hst : ∀ k, (st k).length = 192) (hb : body.length = 480) : ∀ j, (seaA n st body j).length = 480
 | 0 => hb
 | j + 1 => by
   have ih := Qe6 (n := n) hst hb j
   rw [seaA, (Ql8 (QmE hst _ ih)).1, ih]
theorem QrM {n : Nat} {st : Nat → List UInt8} {body : List UInt8} (hst : ∀ k, (st k).length = 192) (hb : body.length = 480) (j : Nat) : QcL (kPay (st (n - 1 - j))) (seaA n st body (j + 1)) rsO = seaA n st body j := by
 have ih := Qe6 (n := n) hst hb j
 have := (Ql8 (QmE hst (n - 1 - j) ih)).2.2
 rw [show rsS.reverse = rsO by decide] at this
 rw [seaA]
 exact this
theorem QgL {s : List UInt8} (h : s.length = 192) : (kAlp s).length = 32 := Qaq (by omega)
section
variable {n : Nat} {sl st : Nat → List UInt8} (hn1 : 1 ≤ n) (hn5 : n ≤ 5) (hsl : ∀ k, (sl k).length = 32) (hst : ∀ k, (st k).length = 192) {body : List UInt8} (hb : body.length = 480)
include hn1 hn5 hsl hst hb
theorem QoI (i : Nat) : (pktA n sl st body i).take 288 = hdrA n sl st (n - 1 - i) ∧ (pktA n sl st body i).drop 288 = seaA n st body (n - i) ∧ (pktA n sl st body i).length = 768 := by
 have h1 := Qno (st := st) hn1 hn5 hsl (n - 1 - i) (QgL (hst _))
 have h2 := Qe6 (n := n) hst hb (n - i)
 exact ⟨QDR h1, QDt h1, by rw [pktA, QCU, h1, h2]⟩
theorem QpR (i : Nat) (hi : i < n) : (pktA n sl st body i).take 32 = kAlp (st i) := by
 have _ := And.intro (hsl 0) hb
 rw [pktA, hdrA, QC3, QDR (QgL (hst _)), show n - 1 - (n - 1 - i) = i by omega]
theorem QqM (cs : Nat → Cmd) (hcs : ∀ k, sl k = encB (cs k)) (k : List UInt8) (i : Nat) (hi : i < n) (hpe : Qbe k (kAlp (st i)) = 0) (hpb : Qdv k (kAlp (st i)) = st i) (hc : cmdE (cs i) = 0) (hk : (cs i).kd = 1 ↔ i + 1 < n)
 (hnx : i + 1 < n → QmQ (st i) = 0 ∧ Qjm (st i) = kAlp (st (i + 1))) :
 unwE k (pktA n sl st body i) = 0 ∧ unwC k (pktA n sl st body i) = cs i ∧ unwP k (pktA n sl st body i) = (if i + 1 < n then pktA n sl st body (i + 1) else QCK 768 0) ∧ unwB k (pktA n sl st body i) = (if i + 1 < n then [] else body) := by
 obtain ⟨c1, c2, _⟩ := QoI (sl := sl) hn1 hn5 hsl hst hb i
 have ha := QpR (sl := sl) hn1 hn5 hsl hst hb i hi
 have hj : n - 1 - (n - 1 - i) = i := by omega
 have hfit := QxE (st := st) hn1 hn5 hsl (n - 1 - i) (QgL (hst _))
 rw [hj] at hfit
 have hpl : (Qcx (hdrA n sl st (n - 1 - i)) (st i)).take 32 = encB (cs i) ∧ (i + 1 < n → (Qcx (hdrA n sl st (n - 1 - i)) (st i)).drop 32 = tagA n sl st (n - 1 - (i + 1)) ++ betA n sl st (n - 1 - (i + 1))) := by
  by_cases hlt : i + 1 < n
  · have h := QuQ (st := st) hn1 hn5 hsl (n - 1 - (i + 1)) (by omega) (QgL (hst _))
    rw [show n - 1 - (i + 1) + 1 = n - 1 - i by omega, hj] at h
    rw [h]
    exact ⟨by rw [QDR (hsl _), hcs], fun _ => QDt (hsl _)⟩
  · have h := QtO (st := st) hn1 hn5 hsl (QgL (hst _))
    have hin : i = n - 1 := by omega
    refine ⟨?_, fun h => absurd h hlt⟩
    rw [show n - 1 - i = 0 by omega, hin, h, hcs]
 have hd : decE (encB (cs i)) = 0 := by rw [Qph, hc]
 have hdc := QuN (cs i) hc
 have hE : QhX (hdrA n sl st (n - 1 - i)) (st i) = 0 := by
  rw [QhX, hfit, if_neg (by decide), hpl.1, hd, if_neg (by decide), hdc]
  split
  · rename_i h1
    exact (hnx (hk.1 h1)).1
  · rfl
 have hC : QkA (hdrA n sl st (n - 1 - i)) (st i) = cs i := by rw [QkA, if_pos hE, hpl.1, hdc]
 have hrE : relE (st i) (pktA n sl st body i) = 0 := by rw [relE, c1, hE]
 have hrC : relC (st i) (pktA n sl st body i) = cs i := by rw [relC, c1, hC]
 have hrB : Qdy (st i) (pktA n sl st body i) = seaA n st body (n - 1 - i) := by
  have := QrM (n := n) hst hb (n - 1 - i)
  rw [hj, show n - 1 - i + 1 = n - i by omega] at this
  rw [Qdy, c2, this]
 refine ⟨by rw [unwE, ha, if_pos hpe, hpb, hrE], by rw [unwC, ha, if_pos hpe, hpb, hrC], ?_, ?_⟩
 · rw [unwP, ha, if_pos hpe, hpb, relP, hrE, hrC]
   by_cases hlt : i + 1 < n
   · rw [if_pos ⟨rfl, hk.2 hlt⟩, if_pos hlt, hrB, c1, Qjg, if_pos ⟨hE, by rw [hpl.1, hdc]; exact hk.2 hlt⟩, hpl.2 hlt, (hnx hlt).2, pktA, hdrA, show n - 1 - (n - 1 - (i + 1)) = i + 1 by omega, show n - (i + 1) = n - 1 - i by omega]
   · rw [if_neg (fun h => hlt (hk.1 h.2)), if_neg hlt]
 · rw [unwB, ha, if_pos hpe, hpb, relB, hrE, hrC]
   by_cases hlt : i + 1 < n
   · rw [if_neg (fun h => h.2 (hk.2 hlt)), if_pos hlt]
   · rw [if_pos ⟨rfl, fun h => hlt (hk.1 h)⟩, if_neg hlt, hrB, show n - 1 - i = 0 by omega, seaA]
end
def QdG (l : List Nat) : Nat := l.foldl (fun a e => if e ≠ 0 ∧ (a = 0 ∨ e < a) then e else a) 0
theorem QfF : ∀ (l : List Nat) (a : Nat), l.foldl (fun a e => if e ≠ 0 ∧ (a = 0 ∨ e < a) then e else a) a = 0 ↔ a = 0 ∧ ∀ e ∈ l, e = 0
 | [], a => by simp
 | e :: l, a => by
   rw [List.foldl_cons, QfF l]
   constructor
   · rintro ⟨h1, h2⟩
     split at h1
     · rename_i h
       exact absurd h1 h.1
     · rename_i h
       refine ⟨h1, ?_⟩
       intro e' he
       rcases QC2.1 he with rfl | he
       · by_cases hz : e' = 0
         · exact hz
         · exact absurd ⟨hz, .inl h1⟩ h
       · exact h2 _ he
   · rintro ⟨rfl, h2⟩
     have he := h2 e (by simp)
     exact ⟨by rw [if_neg (fun h => h.1 he)], fun e' h' => h2 _ (by simp [h'])⟩
theorem Qda (l : List Nat) : QdG l = 0 ↔ ∀ e ∈ l, e = 0 := by
 rw [QdG, QfF]
 simp
def pubH (hs : List Hp) : List (List UInt8) := hs.map fun h => h.nod.pub.val
noncomputable def Qc6 (x : List UInt8) (c : Cmd) (body : List UInt8) (hs : List Hp) : Nat := QdG [Qf4 c hs, QeN x (pubH hs), if body.length = 480 then 0 else 2]
def QiO (x : List UInt8) (c : Cmd) (body : List UInt8) (hs : List Hp) : List UInt8 := pktA hs.length (fun i => encB (Qb9 c hs i)) (QcR x (pubH hs)) body 0
def Qds (p : Prt) : Cmd := ⟨if p.kd = 2 then 3 else 2, 0, 0, 0, QaS⟩
def frmE (p : Prt) : Nat := if prtE p = 0 ∧ p.kd = 3 then 3 else prtE p
def QfU (p : Prt) : List UInt8 := if frmE p = 0 then Qa4 p else QCK 480 0
noncomputable def Qhr (x : List UInt8) (p : Prt) (hs : List Hp) : Nat := QdG [frmE p, Qc6 x (Qds p) (QfU p) hs]
def QkQ (x : List UInt8) (p : Prt) (hs : List Hp) : List UInt8 := QiO x (Qds p) (QfU p) hs
theorem QpE (x : List UInt8) (hx : x.length = 32) (ps : List (List UInt8)) (k : Nat) : QmQ (QcR x ps k) = 0 ∧ Qjm (QcR x ps k) = kAlp (QcR x ps (k + 1)) := by
 have h1 : kBli (QcR x ps k) = derB (secA x ps k) QbR := Qig x ps k
 have h2 : kAlp (QcR x ps k) = (stA x ps k).1 := Qe9 x ps k
 have h3 : kAlp (QcR x ps (k + 1)) = (stA x ps (k + 1)).1 := Qe9 x ps (k + 1)
 rw [QmQ, Qjm, h1, h2, h3]
 exact ⟨Qu9 x hx ps k _ (Qay _ _), rfl⟩
theorem QxY {hs : List Hp} (h : ∀ i, i < hs.length → QbF (hs.getD i hp0).nod.priv.val (nb 9) = (hs.getD i hp0).nod.pub.val) : pubH hs = Qco (hs.map fun h => h.nod.priv.val) := by
 rw [pubH, Qco, List.map_map]
 refine QEU fun h' hm => ?_
 obtain ⟨i, hi, rfl⟩ := List.getElem_of_mem hm
 have := h i hi
 rw [QCS, QCR hi] at this
 exact this.symm
theorem Qmn (x : List UInt8) (c : Cmd) (body : List UInt8) (hs : List Hp) (he : Qc6 x c body hs = 0) (hfit : ∀ i, i < hs.length → QbF (hs.getD i hp0).nod.priv.val (nb 9) = (hs.getD i hp0).nod.pub.val) (i : Nat) (hi : i < hs.length) :
 unwE (hs.getD i hp0).nod.priv.val (pktA hs.length (fun i => encB (Qb9 c hs i)) (QcR x (pubH hs)) body i) = 0 ∧ unwC (hs.getD i hp0).nod.priv.val (pktA hs.length (fun i => encB (Qb9 c hs i)) (QcR x (pubH hs)) body i) = Qb9 c hs i ∧
 unwP (hs.getD i hp0).nod.priv.val (pktA hs.length (fun i => encB (Qb9 c hs i)) (QcR x (pubH hs)) body i) = (if i + 1 < hs.length then pktA hs.length (fun i => encB (Qb9 c hs i)) (QcR x (pubH hs)) body (i + 1) else QCK 768 0) ∧
 unwB (hs.getD i hp0).nod.priv.val (pktA hs.length (fun i => encB (Qb9 c hs i)) (QcR x (pubH hs)) body i) = (if i + 1 < hs.length then [] else body) := by
 rw [Qc6, Qda] at he
 have h1 : Qf4 c hs = 0 := he _ (by simp)
 have h2 : QeN x (pubH hs) = 0 := he _ (by simp)
 have h3 : (if body.length = 480 then 0 else 2) = 0 := he _ (by simp)
 have hb : body.length = 480 := by
  split at h3
  · assumption
  · cases h3
 obtain ⟨_, _, h4, h5, _, _⟩ := QeB h1
 have hx : x.length = 32 := by
  rw [QeN] at h2
  split at h2
  · rename_i h; exact h.1
  · cases h2
 obtain ⟨ks, hks⟩ : ∃ ks, ks = hs.map fun h => h.nod.priv.val := ⟨_, rfl⟩
 have hp : pubH hs = Qco ks := by rw [hks]; exact QxY hfit
 have hk32 : ∀ p ∈ ks, p.length = 32 := by
  intro p hpm
  rw [hks] at hpm
  obtain ⟨h', _, rfl⟩ := QDI.1 hpm
  exact h'.nod.priv.2
 have hkl : ks.length = hs.length := by rw [hks, QCP]
 have hkg : ks.getD i [] = (hs.getD i hp0).nod.priv.val := by
  rw [hks, QCS, QC6, QCS, QCR hi]
  rfl
 have m1 := QrI x hx ks hk32 i (by omega)
 have m2 := (QoO x hx ks hk32 i (by omega)).2.2
 rw [hkg] at m1 m2
 rw [hp]
 have ha : kAlp (QcR x (Qco ks) i) = (stA x (Qco ks) i).1 := Qe9 x _ i
 exact QqM (sl := fun i => encB (Qb9 c hs i)) h4 h5 (fun _ => Qdj _) (fun _ => Qdq _ _ _) hb (Qb9 c hs) (fun _ => rfl) _ i hi (by rw [ha]; exact m2) (by rw [ha]; exact m1) (Qkm h1 hi).1 (Qkm h1 hi).2 (fun _ => QpE x hx _ i)
end Go.Proofs.YtadfeclgoclalaaGreat
namespace Go.Proofs.YtadfeclgoclalaaGreat
open Go.ChangeShapes Go.WideShapes Go.ChangeAt Go.RowKit
open _root_.Go.Proofs.YtadfeclgoclalaaGreat.Rows (uptoBulk uptoBulkAll uptoSmall)
section
variable {H : Type} {enc : TypeId × Value → H} {w : World} {base b0 : Nat} {sp : Nat → Bool} {held : Bool} {r : Reach}
set_option maxRecDepth 100000 in
theorem QtT {fuel : Nat} {cs : List Value} {x : DataW H × List MemPlace} (h : DataW.trod enc Tryz.prog w base sp held fuel 35 cs = some x) : ∃ y : Hp, cs = HC y := by
 obtain ⟨xs, m, rfl, rfl, hl, hxl, he⟩ := DataW.trod_struct Tryz.underlying35 h
 have hn : Tryz.prog.cellsOf 35 = 68 := by kernel_rfl
 have hN : Tryz.prog.cellsOf 33 = 66 := by kernel_rfl
 have hI : Tryz.prog.cellsOf 3 = 1 := by kernel_rfl
 rw [hn] at hl
 have hxl3 : xs.length = 3 := hxl
 have e0 : DataW.trod enc Tryz.prog w base sp held m 33 ((cs.drop 0).take (Tryz.prog.cellsOf 33)) = xs[0]? := he 0 _ rfl
 have e1 : DataW.trod enc Tryz.prog w base sp held m 3 ((cs.drop 66).take (Tryz.prog.cellsOf 3)) = xs[1]? := he 1 _ rfl
 have e2 : DataW.trod enc Tryz.prog w base sp held m 3 ((cs.drop 67).take (Tryz.prog.cellsOf 3)) = xs[2]? := he 2 _ rfl
 rw [hN, QCR (by omega)] at e0
 rw [hI, QCR (by omega)] at e1 e2
 obtain ⟨y, hy, _⟩ := QuV e0
 obtain ⟨z1, hz1, _, _⟩ := DataW.trod_int Tryz.underlying3 e1
 obtain ⟨z2, hz2, _, _⟩ := DataW.trod_int Tryz.underlying3 e2
 have c1 := QeH hz1
 have c2 := QeH hz2
 refine ⟨⟨y, z1, z2⟩, ?_⟩
 have hd : cs.drop 66 = [.int .i64 z1, .int .i64 z2] := by
  apply List.ext_getElem?
  intro i
  rw [QDW]
  rcases i with _ | _ | i
  · exact c1
  · exact c2
  · rw [QDz (by omega), QDz (by simp)]
 rw [HC, ← hd]
 rw [QEu] at hy
 show cs = NC y ++ cs.drop 66
 rw [← hy, QDi]
theorem QtI {fuel : Nat} {v : Value} {x : DataW H × List MemPlace} (h : DataW.trod enc Tryz.prog w base sp held fuel 26 [v] = some x) :
 ∃ A n c xs, v = .slice A n c ∧ n ≤ c ∧ RdH w A n xs ∧ n + 1 ≤ uptoBulk x.1 := by
 rcases DataW.trod_slice Tryz.underlying26 h with ⟨hcs, rfl⟩ | ⟨a, len, cap, elems, rest, n, rfl, hcs, rfl, hb, hl, hm, hlen, hel, hsp, hns⟩
 · obtain rfl : v = .slice none 0 0 := by simpa using hcs
   exact ⟨none, 0, 0, [], rfl, QCX _, Qui w, by simp [uptoBulk]⟩
 · obtain rfl : v = .slice (some a) len cap := by simpa using hcs
   have hc : Tryz.prog.cellsOf 35 = 68 := by kernel_rfl
   have each : ∀ i, ∃ y : Hp, i < len → w.cells? base (a.add (i * 68)) 68 = some (HC y) := by
    intro i
    by_cases hi : i < len
    · have hE := hel i hi
      rw [hc] at hE
      have hy : elems[i]? = some (elems[i]'(by omega)) := QCR _
      rw [hy, Option.bind_eq_some_iff] at hE
      obtain ⟨c1, hc1, hy1⟩ := hE
      obtain ⟨y, rfl⟩ := QtT hy1
      exact ⟨y, fun _ => hc1⟩
    · exact ⟨hp0, fun h => absurd h hi⟩
   obtain ⟨f, hf⟩ := Classical.axiomOfChoice each
   have hfl : ∀ j, j < len → ((QDw len).map f).getD j hp0 = f j := by
    intro j hj
    rw [QCS, QC6, QEm hj]
    rfl
   have e2 := Qo5 (elems.map (·.1))
   rw [QCP, hlen] at e2
   refine ⟨some a, len, cap, (QDw len).map f, rfl, hl, ⟨by simp, fun h0 => ?_⟩, ?_⟩
   · have e0 : a.add (0 * 68) = a := by simp [Addr.add]
     have h00 := (Qkh (hf 0 h0)).2 0 (by omega)
     rw [e0] at h00
     have e1 : a.add 0 = a := by simp [Addr.add]
     rw [e1, show (HC (f 0))[0]? = some (.string (f 0).nod.nm) from rfl] at h00
     obtain ⟨h1, h2⟩ := Qlk h00
     obtain ⟨b, o, s⟩ := a
     simp only at h1
     subst h1
     refine ⟨b, o, rfl, h2, fun j i v hj hv => ?_⟩
     rw [hfl j hj] at hv
     have hi : i < 68 := by
      have := (QDa.1 hv).1
      rwa [Qc4] at this
     have := (Qkh (hf j hj)).2 i hi
     rw [Qdr, Qdr] at this
     rw [this]
     exact hv
   · simp only [uptoBulk]
     omega
set_option maxRecDepth 100000 in
theorem Qrm {v : Value} {d : DataW H} {ps : List MemPlace} (ht : Tryz.prog.underlying 26 = some (.slice 35)) (hval : Value.okWide Tryz.prog w r b0 26 v) (h : DataW.Trod enc Tryz.prog w base sp held 26 v d ps) :
 ∃ A n c xs, v = .slice A n c ∧ n ≤ c ∧ RdH w A n xs ∧ n + 1 ≤ uptoBulk d := by
 obtain ⟨A, n, c, rfl⟩ := okWide_slice ht hval
 obtain ⟨f, hf⟩ := h
 obtain ⟨A', n', c', ns, h1, h2, h3, h4⟩ := QtI hf
 exact ⟨A', n', c', ns, h1, h2, h3, h4⟩
set_option maxRecDepth 100000 in
theorem QsB {fuel : Nat} {cs : List Value} {x : DataW H × List MemPlace} (h : DataW.trod enc Tryz.prog w base sp held fuel 25 cs = some x) : ∃ (p : Prt) (A : Option Addr) (n c : Nat), cs = PaC p (.slice A n c) ∧ RdB w A n p.da ∧ n + 1 ≤ uptoBulk x.1 := by
 obtain ⟨xs, m, rfl, rfl, hl, hxl, he⟩ := DataW.trod_struct Tryz.underlying25 h
 have hn : Tryz.prog.cellsOf 25 = 5 := by kernel_rfl
 have h8 : Tryz.prog.cellsOf 5 = 1 := by kernel_rfl
 have h64 : Tryz.prog.cellsOf 23 = 1 := by kernel_rfl
 have hI : Tryz.prog.cellsOf 3 = 1 := by kernel_rfl
 have hB : Tryz.prog.cellsOf 22 = 1 := by kernel_rfl
 rw [hn] at hl
 have hxl5 : xs.length = 5 := hxl
 have e0 : DataW.trod enc Tryz.prog w base sp held m 5 ((cs.drop 0).take (Tryz.prog.cellsOf 5)) = xs[0]? := he 0 _ rfl
 have e1 : DataW.trod enc Tryz.prog w base sp held m 23 ((cs.drop 1).take (Tryz.prog.cellsOf 23)) = xs[1]? := he 1 _ rfl
 have e2 : DataW.trod enc Tryz.prog w base sp held m 3 ((cs.drop 2).take (Tryz.prog.cellsOf 3)) = xs[2]? := he 2 _ rfl
 have e3 : DataW.trod enc Tryz.prog w base sp held m 3 ((cs.drop 3).take (Tryz.prog.cellsOf 3)) = xs[3]? := he 3 _ rfl
 have e4 : DataW.trod enc Tryz.prog w base sp held m 22 ((cs.drop 4).take (Tryz.prog.cellsOf 22)) = xs[4]? := he 4 _ rfl
 rw [h8, QCR (by omega)] at e0
 rw [h64, QCR (by omega)] at e1
 rw [hI, QCR (by omega)] at e2 e3
 rw [hB, QCR (by omega)] at e4
 obtain ⟨z0, hz0, _, w0⟩ := DataW.trod_int Tryz.underlying5 e0
 obtain ⟨z1, hz1, _, w1⟩ := DataW.trod_int Tryz.underlying23 e1
 obtain ⟨z2, hz2, _, _⟩ := DataW.trod_int Tryz.underlying3 e2
 obtain ⟨z3, hz3, _, _⟩ := DataW.trod_int Tryz.underlying3 e3
 have r0 : 0 ≤ z0 ∧ z0 ≤ 255 := by simpa [Lit.wf, IntKind.min, IntKind.max, IntKind.signed, IntKind.bits] using w0
 have r1 : 0 ≤ z1 ∧ z1 ≤ 18446744073709551615 := by simpa [Lit.wf, IntKind.min, IntKind.max, IntKind.signed, IntKind.bits] using w1
 match cs, hl with
 | [a, b, c, d, v], _ =>
   simp only [QEu, QEl, List.take_succ_cons, QEO] at hz0 hz1 hz2 hz3 e4
   obtain ⟨A, n, cp, bs, rfl, h1, h2, h3, h4⟩ := QjR Tryz.underlying22 Tryz.underlying5 QwE e4
   obtain rfl : a = W8 (QDo z0.toNat) := by rw [← QbK z0 r0.1 (by omega)]; simpa using hz0
   obtain rfl : b = W64 (QDd z1.toNat) := by rw [← Qbc z1 r1.1 (by omega)]; simpa using hz1
   obtain rfl : c = .int .i64 z2 := by simpa using hz2
   obtain rfl : d = .int .i64 z3 := by simpa using hz3
   refine ⟨⟨QDo z0.toNat, QDd z1.toNat, z2, z3, bs⟩, A, n, cp, rfl, h3, ?_⟩
   have hbl := h3.len
   have := QoZ (d := xs[4].1) (l := xs.map (·.1)) (QDI.2 ⟨_, QD6 _, rfl⟩)
   simp only [uptoBulk]
   omega
set_option maxRecDepth 100000 in
theorem Qsq {v : Value} {d : DataW H} {pl : List MemPlace} (hval : Value.okWide Tryz.prog w r b0 25 v) (h : DataW.Trod enc Tryz.prog w base sp held 25 v d pl) : ∃ (p : Prt) (A : Option Addr) (n c : Nat), v = .agg (PaC p (.slice A n c)).toArray ∧ RdB w A n p.da ∧ n + 1 ≤ uptoBulk d := by
 simp only [Value.okWide, Tryz.underlying25] at hval
 obtain ⟨cs, rfl, h2, _⟩ := hval
 obtain ⟨fuel, hf⟩ := h
 obtain ⟨p, A, n, c, hy, h3, h4⟩ := QsB hf
 have hy' : cs.toList = PaC p (.slice A n c) := hy
 exact ⟨p, A, n, c, by rw [← hy'], h3, h4⟩
end
end Go.Proofs.YtadfeclgoclalaaGreat
