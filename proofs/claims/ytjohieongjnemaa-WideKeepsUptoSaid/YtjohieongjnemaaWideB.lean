/-
  wide: fits, Rounds.
-/
import Derived.Test.YtjohieongjnemaaWideA
import Derived.Test.YtjohieongjnemaaEnts
namespace Go.Proofs.Ytjohieongjnemaa
open Go.RowKit
open Go.BigFrame

abbrev lab1 : ByteArray := ⟨#[119, 105, 100, 101, 49]⟩
abbrev lab2 : ByteArray := ⟨#[119, 105, 100, 101, 50]⟩
abbrev lab3 : ByteArray := ⟨#[119, 105, 100, 101, 51]⟩
abbrev lab4 : ByteArray := ⟨#[119, 105, 100, 101, 52]⟩
def labW (r : Int) : ByteArray := if r = 1 then lab1 else if r = 2 then lab2 else if r = 3 then lab3 else lab4
def okR (rs : List Int) : Prop := ∀ r ∈ rs, 1 ≤ r ∧ r ≤ 4
instance (rs : List Int) : Decidable (okR rs) := by unfold okR; infer_instance
def fitW (key bs : List UInt8) : Prop := key.length = 32 ∧ 32 ≤ bs.length ∧ bs.length ≤ 4096
instance (key bs : List UInt8) : Decidable (fitW key bs) := by unfold fitW; infer_instance
/-- Round by round. -/
def foldW (key : List UInt8) (rs : List Int) (bs : List UInt8) : List UInt8 := rs.foldl (fun b r => turnB (derB key (labW r)) r.toNat b) bs
theorem foldW_length (key : List UInt8) : ∀ (rs : List Int) (bs : List UInt8), 32 ≤ bs.length → (foldW key rs bs).length = bs.length
  | [], _, _ => rfl
  | r :: rs, bs, h => by
    show (foldW key rs (turnB _ _ bs)).length = _
    have := turnB_length (derB key (labW r)) r.toNat bs h
    rw [foldW_length key rs _ (by omega), this]
theorem foldW_append (key : List UInt8) (rs rs' : List Int) (bs : List UInt8) : foldW key (rs ++ rs') bs = foldW key rs' (foldW key rs bs) := by rw [foldW, List.foldl_append]; rfl
/-- The same rounds backwards undo them. -/
theorem foldW_back (key : List UInt8) : ∀ (rs : List Int) (bs : List UInt8), 32 ≤ bs.length → foldW key rs.reverse (foldW key rs bs) = bs
  | [], _, _ => rfl
  | r :: rs, bs, h => by
    have hl := turnB_length (derB key (labW r)) r.toNat bs h
    rw [List.reverse_cons, foldW_append]
    show foldW key [r] (foldW key rs.reverse (foldW key rs (turnB (derB key (labW r)) r.toNat bs))) = bs
    rw [foldW_back key rs _ (by omega)]
    exact turnB_twice _ _ _ h
def wideE (key bs : List UInt8) (rs : List Int) : Nat := if okR rs then (if fitW key bs then 0 else 2) else 1
def wideB (key bs : List UInt8) (rs : List Int) : List UInt8 := if okR rs then (if fitW key bs then foldW key rs bs else []) else []
theorem fitsBlock_any (B : Option Addr) (m d : Nat) (w : World) :
    Calls Try.prog 63 #[.slice B m d] w fun e w' => e = .returned (.bool (decide (32 ≤ m ∧ m ≤ 4096))) ∧ w' = w := by
  by_cases h1 : 32 ≤ m
  · by_cases h2 : m ≤ 4096
    · have e1 : (32 : Int) ≤ (m : Int) := by omega
      have e2 : (m : Int) ≤ 4096 := by omega
      rw [decide_eq_true (show 32 ≤ m ∧ m ≤ 4096 from ⟨h1, h2⟩)]
      go_enter Try.func63, Try.ntmps63
      go_wp2
      go_ret
      exact ⟨rfl, rfl⟩
    · have e1 : (32 : Int) ≤ (m : Int) := by omega
      have e2 : ¬ (m : Int) ≤ 4096 := by omega
      rw [decide_eq_false (show ¬ (32 ≤ m ∧ m ≤ 4096) from fun h => h2 h.2)]
      go_enter Try.func63, Try.ntmps63
      go_wp2
      go_ret
      exact ⟨rfl, rfl⟩
  · have e1 : ¬ (32 : Int) ≤ (m : Int) := by omega
    rw [decide_eq_false (show ¬ (32 ≤ m ∧ m ≤ 4096) from fun h => h1 h.1)]
    go_enter Try.func63, Try.ntmps63
    go_wp2
    go_ret
    exact ⟨rfl, rfl⟩
theorem fits_wide (A B : Option Addr) (n c m d : Nat) (w : World) :
    Calls Try.prog 45 #[.slice A n c, .slice B m d] w fun e w' => e = .returned (.bool (decide (n = 32 ∧ 32 ≤ m ∧ m ≤ 4096))) ∧ w' = w := by
  have hf := hid (fitsBlock_any B m d)
  by_cases h0 : n = 32
  · subst h0
    rw [show decide (32 = 32 ∧ 32 ≤ m ∧ m ≤ 4096) = decide (32 ≤ m ∧ m ≤ 4096) by simp]
    go_enter Try.func45, Try.ntmps45
    go_wp2_with fail
    (with_reducible refine (hf.out _).mono ?_); rintro e w1 ⟨rfl, rfl⟩
    go_wp2_with fail
    go_ret
    exact ⟨by simp, rfl⟩
  · have e1 : ((n : Int) == 32) = false := by simp; omega
    rw [decide_eq_false (show ¬ (n = 32 ∧ 32 ≤ m ∧ m ≤ 4096) from fun h => h0 h.1)]
    go_enter Try.func45, Try.ntmps45
    go_wp2_with fail
    go_ret
    exact ⟨by simp, rfl⟩
end Go.Proofs.Ytjohieongjnemaa
