/-
  Frames of parts: what is framed is read again; what is framed anew and the same.
-/
import Derived.Test.YtdojjnbpidogfaaGreatRelM
import Derived.Test.YtdojjnbpidogfaaGreatRelF
namespace Go.Proofs.YtdojjnbpidogfaaGreat
open Go.RowKit
open Go.BigFrame

theorem ofInt8_toNat (d : Int) (h0 : 0 ≤ d) (h1 : d < 256) : ((UInt8.ofInt d).toNat : Int) = d := by
  rw [ofInt_w8]
  omega
/-- The frame of a part. -/
def framB (p : Prt) : List UInt8 := List.replicate 16 0 ++ ([p.kd, UInt8.ofInt p.ix, UInt8.ofInt p.ct, 0] ++ (bigB 8 p.id.toNat ++ (bigB 2 p.da.length ++ (p.da ++ List.replicate (450 - p.da.length) 0))))
theorem framB_length (p : Prt) (h : p.da.length ≤ 450) : (framB p).length = 480 := by
  simp [framB, bigB_length]
  omega
theorem bigB_beN : ∀ (l : List UInt8) (k : Nat), l.length = k → bigB k (beN l 0) = l := by
  intro l k h
  induction k generalizing l with
  | zero => rw [List.eq_nil_of_length_eq_zero h]; rfl
  | succ k ih =>
    have hne : l ≠ [] := by rintro rfl; cases h
    obtain ⟨q, b, rfl⟩ : ∃ q b, l = q ++ [b] := ⟨l.dropLast, l.getLast hne, (List.dropLast_concat_getLast hne).symm⟩
    have hq : q.length = k := by simpa using h
    have hb := b.toNat_lt
    have e : beN (q ++ [b]) 0 = beN q 0 * 256 + b.toNat := by rw [beN_append]; rfl
    rw [bigB, e, show (beN q 0 * 256 + b.toNat) / 256 = beN q 0 by omega, ih q hq]
    congr 2
    apply UInt8.toNat_inj.1
    rw [UInt8.toNat_ofNat']
    show (beN q 0 * 256 + b.toNat) % 256 = _
    omega
/-- 480 bytes, cut where a frame has its pieces. -/
theorem frame_cut (b : List UInt8) (hb : b.length = 480) (n : Nat) (_hn : n ≤ 450) :
    b = b.take 16 ++ ([b.getD 16 0, b.getD 17 0, b.getD 18 0, b.getD 19 0] ++ (subB b 20 8 ++ (subB b 28 2 ++ (subB b 30 n ++ b.drop (30 + n))))) := by
  have h1 : subB b 30 n ++ b.drop (30 + n) = b.drop 30 := by rw [subB, ← List.drop_drop, List.take_append_drop]
  have h2 : subB b 28 2 ++ b.drop 30 = b.drop 28 := by rw [subB, show b.drop 30 = (b.drop 28).drop 2 by rw [List.drop_drop], List.take_append_drop]
  have h3 : subB b 20 8 ++ b.drop 28 = b.drop 20 := by rw [subB, show b.drop 28 = (b.drop 20).drop 8 by rw [List.drop_drop], List.take_append_drop]
  have g : ∀ i (h : i < b.length), b.getD i 0 = b[i] := fun i h => by rw [List.getD_eq_getElem?_getD, List.getElem?_eq_getElem h]; rfl
  have h4 : [b.getD 16 0, b.getD 17 0, b.getD 18 0, b.getD 19 0] ++ b.drop 20 = b.drop 16 := by
    rw [g 16 (by omega), g 17 (by omega), g 18 (by omega), g 19 (by omega), List.drop_eq_getElem_cons (i := 16) (by omega), List.drop_eq_getElem_cons (i := 17) (by omega), List.drop_eq_getElem_cons (i := 18) (by omega), List.drop_eq_getElem_cons (i := 19) (by omega)]
    rfl
  rw [h1, h2, h3, h4, List.take_append_drop]
theorem sizeP_lt (b : List UInt8) (hb : b.length = 480) : sizeP b < 65536 := by
  have := beN_lt (subB b 28 2) 0 1 (by omega)
  rw [subB_length (by omega)] at this
  unfold sizeP
  omega
theorem ofInt_byte (b : UInt8) : UInt8.ofInt (b.toNat : Int) = b := by
  apply UInt8.toNat_inj.1
  have := b.toNat_lt
  have := ofInt8_toNat (b.toNat : Int) (by omega) (by omega)
  omega
theorem prtOf_len (b : List UInt8) (hb : b.length = 480) (hs : sizeP b ≤ 450) : (prtOf b).da.length = sizeP b := subB_length (by omega)
/-- Framed anew it is the same just if the rest is noughts. -/
theorem frame_again (b : List UInt8) (hb : b.length = 480) (h16 : b.take 16 = List.replicate 16 0) (hs : sizeP b ≤ 450) :
    framB (prtOf b) = b ↔ b.getD 19 0 = 0 ∧ b.drop (30 + sizeP b) = List.replicate (450 - sizeP b) 0 := by
  have hc := frame_cut b hb (sizeP b) hs
  have hl := prtOf_len b hb hs
  have e1 : bigB 8 (prtOf b).id.toNat = subB b 20 8 := by
    show bigB 8 (UInt64.ofNat (beN (subB b 20 8) 0)).toNat = _
    have h8 : (subB b 20 8).length = 8 := subB_length (by omega)
    have := beN_lt (subB b 20 8) 0 1 (by omega)
    rw [h8] at this
    rw [UInt64.toNat_ofNat', Nat.mod_eq_of_lt (by omega)]
    exact bigB_beN _ _ h8
  have e2 : bigB 2 (prtOf b).da.length = subB b 28 2 := by
    rw [hl]
    exact bigB_beN _ _ (subB_length (by omega))
  have e3 : framB (prtOf b) = b.take 16 ++ ([b.getD 16 0, b.getD 17 0, b.getD 18 0, 0] ++ (subB b 20 8 ++ (subB b 28 2 ++ (subB b 30 (sizeP b) ++ List.replicate (450 - sizeP b) 0)))) := by
    rw [framB, e1, e2, hl, h16]
    show _ ++ ([b.getD 16 0, UInt8.ofInt ((b.getD 17 0).toNat : Int), UInt8.ofInt ((b.getD 18 0).toNat : Int), 0] ++ _) = _
    rw [ofInt_byte, ofInt_byte]
    rfl
  constructor
  · intro h
    have h' : framB (prtOf b) = b.take 16 ++ ([b.getD 16 0, b.getD 17 0, b.getD 18 0, b.getD 19 0] ++ (subB b 20 8 ++ (subB b 28 2 ++ (subB b 30 (sizeP b) ++ b.drop (30 + sizeP b))))) := h.trans hc
    rw [e3] at h'
    have h2 := List.append_cancel_left h'
    have h3 := List.append_inj h2 rfl
    have h4 := List.append_cancel_left h3.2
    have h5 := List.append_cancel_left (List.append_cancel_left h4)
    refine ⟨?_, h5.symm⟩
    have := h3.1
    simp only [List.cons.injEq, and_true, true_and] at this
    exact this.symm
  · rintro ⟨h1, h2⟩
    rw [e3]
    conv => rhs; rw [hc]
    rw [h1, h2]
theorem prtE_zero {p : Prt} (h : prtE p = 0) : ¬ (p.kd < 1 ∨ 3 < p.kd) ∧ p.da.length ≤ 450 ∧ 1 ≤ p.ct ∧ p.ct ≤ 16 ∧ 0 ≤ p.ix ∧ p.ix < p.ct := by
  unfold prtE at h
  split at h
  · cases h
  · rename_i h1
    split at h
    · cases h
    · rename_i h2
      split at h
      · cases h
      · rename_i h3
        exact ⟨h1, by omega, by omega, by omega, by omega, by omega⟩
end Go.Proofs.YtdojjnbpidogfaaGreat

