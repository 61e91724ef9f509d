/-
  mac: block, masked, the tagger, Tag, Short, Check; codec.Looks, Same, Join.
-/
import Derived.Test.YtmdbekdphkkmkaaLabels
namespace Go.Proofs.Ytmdbekdphkkmkaa
open Go.RowKit

def keyOr (key : List UInt8) : List UInt8 := if 64 < key.length then shaSum key else key
def macKey (key : List UInt8) : List UInt8 := keyOr key ++ List.replicate (64 - (keyOr key).length) 0
theorem keyOr_length (key : List UInt8) : (keyOr key).length ≤ 64 := by
  unfold keyOr
  split
  · rw [shaSum_length]; omega
  · omega
theorem macKey_length (key : List UInt8) : (macKey key).length = 64 := by
  have := keyOr_length key
  simp [macKey]
  omega
def maskB (k : List UInt8) (m : UInt8) : List UInt8 := k.map (· ^^^ m)
theorem maskB_length (k : List UInt8) (m : UInt8) : (maskB k m).length = k.length := by simp [maskB]
def macIn (key bs : List UInt8) : List UInt8 := shaSum (maskB (macKey key) 54 ++ bs)
def macTag (key bs : List UInt8) : List UInt8 := shaSum (maskB (macKey key) 92 ++ macIn key bs)
theorem macTag_length (key bs : List UInt8) : (macTag key bs).length = 32 := shaSum_length _

theorem looks_any (A B : Option Addr) (n m c d : Nat) (xs ys : List UInt8) (w : World) (hx : RdB w A n xs) (hy : RdB w B m ys) (hn : n ≤ 140737488355328) (hm : m ≤ 140737488355328) :
    Calls Try.prog 81 #[.slice A n c, .slice B m d] w fun e w' => ∃ k, e = .returned (.tuple #[.bool (decide (xs = ys)), .int .i64 k]) ∧ Later w w' := by
  have lx := hx.len
  have ly := hy.len
  by_cases hnm : n = m
  · subst hnm
    have hr : ∀ x : UInt8, (x = 0 ↔ xs = ys) → decide (xs = ys) = (x == 0) := by
      intro x hb
      rw [Bool.eq_iff_iff, decide_eq_true_iff, beq_iff_eq]
      exact hb.symm
    have HR := hid hr
    clear hr
    generalize decide (xs = ys) = R at *
    go_enter Try.func81, Try.ntmps81
    go_wp2
    go_loopw [6, 7, 16] (fun v6 v7 i wr => ∃ (k : Nat) (x : UInt8), k ≤ n ∧ i = .int .i64 k ∧ v7 = .int .i64 k ∧ v6 = W8 x ∧ Later w wr ∧ Hid (x = 0 ↔ ∀ j, j < k → xs.getD j 0 = ys.getD j 0)) (fun _ _ i _ => n - (intOf i).toNat)
    case atStart => exact ⟨0, 0, by omega, rfl, rfl, rfl, Later.refl w, hid ⟨fun _ j hj => absurd hj (by omega), fun _ => rfl⟩⟩
    case round =>
      obtain ⟨k, x, hk, rfl, rfl, rfl, hl, he⟩ := hrel
      by_cases hlt : k < n
      · obtain ⟨b1, o1, rfl, hb1, hc1⟩ := hx.at_ (by omega)
        obtain ⟨b2, o2, rfl, hb2, hc2⟩ := hy.at_ (by omega)
        have c1 : wr.cell? ⟨b1, o1 + k, none⟩ = some (W8 (xs.getD k 0)) := (hl.below.cell (p := ⟨b1, o1 + k, none⟩) hb1).trans (hc1 k hlt)
        have c2 : wr.cell? ⟨b2, o2 + k, none⟩ = some (W8 (ys.getD k 0)) := (hl.below.cell (p := ⟨b2, o2 + k, none⟩) hb2).trans (hc2 k hlt)
        clear hc1 hc2 hx hy
        generalize hX : xs.getD k 0 = X at *
        generalize hY : ys.getD k 0 = Y at *
        have HX := hid hX
        have HY := hid hY
        clear hX hY
        go_wp2
        refine wp_region_parts [] [0, 1, 2, 3, 4, 5, 6, 7, 8, 9, 10, 11] [] (by as_aux_lemma => kernel_rfl) (by as_aux_lemma => kernel_rfl) (by intro _ _ d _ _ h; cases d <;> exact h) ?_
        simp only [wpParts, pick, List.getElem?_cons_succ, List.getElem?_cons_zero, Option.toList_some, List.cons_append, List.nil_append]
        repeat (go_big_quiet_step (fail))
        refine wpQuiet_nil ?_
        go_wp2
        refine ⟨⟨k + 1, x ||| (X ^^^ Y), by omega, by go_num, by go_num, rfl, hl.drew, hid ?_⟩, by simp only [intOf]; omega⟩
        have e : ∀ a b c : UInt8, (a ||| (b ^^^ c)) = 0 ↔ a = 0 ∧ b = c := by
          intro a b c
          rw [UInt8.or_eq_zero_iff, UInt8.xor_eq_zero_iff]
        rw [e, he.out]
        constructor
        · rintro ⟨h1, h2⟩ j hj
          by_cases hjk : j = k
          · subst hjk
            rw [HX.out, HY.out, h2]
          · exact h1 j (by omega)
        · intro h
          exact ⟨fun j hj => h j (by omega), by rw [← HX.out, ← HY.out]; exact h k (by omega)⟩
      · go_wp2
        go_ret2
        have hR : R = (x == 0) := by
          refine HR.out x (he.out.trans ⟨fun h => ?_, fun h => ?_⟩)
          · apply List.ext_getElem (by omega)
            intro j h1 h2
            have := h j (by omega)
            rw [List.getD_eq_getElem?_getD, List.getD_eq_getElem?_getD, List.getElem?_eq_getElem h1, List.getElem?_eq_getElem h2] at this
            exact this
          · intro j _
            rw [h]
        refine ⟨k, ?_, hl⟩
        rw [hR]
        rfl
  · have hne : ((n : Int) != (m : Int)) = true := by simp; omega
    have hf : decide (xs = ys) = false := decide_eq_false (fun h => hnm (by rw [← lx, ← ly, h]))
    have HF := hid hf
    clear hf
    generalize decide (xs = ys) = R at *
    go_enter Try.func81, Try.ntmps81
    go_wp2
    go_ret2
    exact ⟨0, by rw [HF.out]; rfl, Later.refl w⟩
theorem same_any (A B : Option Addr) (n m c d : Nat) (xs ys : List UInt8) (w : World) (hx : RdB w A n xs) (hy : RdB w B m ys) (hn : n ≤ 140737488355328) (hm : m ≤ 140737488355328) :
    Calls Try.prog 72 #[.slice A n c, .slice B m d] w fun e w' => e = .returned (.bool (decide (xs = ys))) ∧ Later w w' := by
  have h := hid (looks_any A B n m c d xs ys w hx hy hn hm)
  generalize decide (xs = ys) = R at *
  go_enter Try.func72, Try.ntmps72
  go_wp2_with (first | (go_at_call 81; refine h.out.mono ?_; rintro e w1 ⟨k, rfl, hl⟩))
  go_ret
  exact ⟨rfl, hl⟩
end Go.Proofs.Ytmdbekdphkkmkaa
