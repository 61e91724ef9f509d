/-
  shallotref03.Expand.
-/
import Derived.Test.YtmdbekdphkkmkaaExpand2
namespace Go.Proofs.Ytmdbekdphkkmkaa
open Go.RowKit

/-- An elder row grows, a younger one stays. -/
theorem own_younger {w w' : World} {b1 B : Nat} {e1 : TypeId} {v1 v2 : Value} {n1 : Nat} {x1 : List Value} (h1 : w.ownsRow b1 e1 1 v1 n1 x1) (hB : B ≤ b1) (h2 : ∀ b, v2.ownBlock = some b → b < B)
    (hg : w.grownBy w' v2.ownBlock) : w'.ownsRow b1 e1 1 v1 n1 x1 := by
  refine h1.kept hg ?_
  cases hb : v1.ownBlock with
  | none => exact .inl rfl
  | some b =>
    refine .inr fun he => ?_
    have := h2 b he.symm
    have := (h1.lt b hb).1
    omega
set_option maxRecDepth 100000 in
set_option maxHeartbeats 2000000 in
theorem refExpand_ok (A B : Option Addr) (n c m d : Nat) (N : Nat) (key F : List UInt8) (w : World) (hx : RdB w A n key) (hn : n ≤ 70368744177664) (hi : RdB w B m F) (hm : m ≤ 17592186044416) (hN : N ≤ 8160) :
    Calls Try.prog 50 #[.slice A n c, .int .i64 N, .slice B m d] w fun e w' => ∃ A' c', e = .returned (.tuple #[.slice A' N c', .int .i64 0]) ∧ OwnB w' w.heap.size A' N c' (expB key F N) ∧ Later w w' := by
  have hFl := hi.len
  go_enter Try.func50, Try.ntmps50
  go_wp2
  go_loopw [8, 9, 10] (fun out last i wr => ∃ (k : Nat) (A8 : Option Addr) (c8 : Nat) (A9 : Option Addr) (l9 c9 : Nat), i = .int .i64 ((k : Int) + 1) ∧ (k = 0 ∨ 32 * (k - 1) < N) ∧ out = .slice A8 (32 * k) c8 ∧ last = .slice A9 l9 c9 ∧ OwnB wr w.heap.size A9 l9 c9 (hkT key F k) ∧ OwnB wr w.heap.size A8 (32 * k) c8 (hkO key F k) ∧ Later w wr) (fun _ _ i _ => 8200 - 32 * (intOf i).toNat)
  case atStart => exact ⟨0, _, _, _, _, _, rfl, .inl rfl, rfl, rfl, own_nil _ _ _, own_nil _ _ _, Later.refl w⟩
  case round =>
    obtain ⟨k, A8, c8, A9, l9, c9, rfl, hkN, rfl, rfl, hlast, hown, hl⟩ := hrel
    have hcap8 := hown.cap
    by_cases hlt : 32 * k < N
    · have hkl := hkT_length key F k
      have hl9 := hlast.len
      have hT : (hkT key F (k + 1)).length = 32 := by rw [hkT, macTag_length]
      have ht := fun B d w h1 h2 => refTag_any A B n c (l9 + m + 1) d key (hkT key F k ++ F ++ [UInt8.ofInt (k : Int) + 1]) w h1 hn h2 (by omega)
      have he : macTag key (hkT key F k ++ F ++ [UInt8.ofInt (k : Int) + 1]) = hkT key F (k + 1) := by rw [hkT]
      rw [he] at ht
      have ho' : hkO key F (k + 1) = hkO key F k ++ hkT key F (k + 1) := rfl
      have HT := hid ht
      have HO := hid ho'
      clear ht he ho'
      generalize hT1 : hkT key F (k + 1) = T at *
      generalize hkT key F k = Tk at *
      generalize hkO key F k = O at *
      have HT1 := hid hT1
      clear hT1
      have hltN : ((32 * k : Nat) : Int) < (N : Int) := by omega
      have hlt8 := own_below hown
      go_wp2_with fail
      refine (copy_any A9 l9 c9 Tk _ hlast.rd (by omega)).mono ?_
      rintro e w1 ⟨A1, c1, rfl, hown1, hl1⟩
      go_wp2_with (first
        | (refine wpList_append_rd rfl _ _ _ rfl 5 _ 1 Try.underlying22 info8 rfl wr _ l9 _ hown1 hl1 B m d _ (hi.later (hl.trans hl1)) (w8_one _) rfl rfl (by omega) (by omega) ?_; intro A2 c2 w2 hown2 hl2 _ _)
        | (refine wpList_append_rd rfl _ _ _ rfl 5 _ 1 Try.underlying22 info8 rfl wr _ (l9 + m) _ (own_later hown2 (later_alloc _ _)) (hl2.alloc _) _ 1 1 [W8 (UInt8.ofInt (k : Int) + 1)] (own_rd (own_new w2 _ [W8 (UInt8.ofInt (k : Int) + 1)] (by simp))) (w8_one [_]) rfl rfl (by omega) (by omega) ?_; intro A3 c3 w3 hown3 hl3 _ _
           have hown3' : OwnB w3 wr.heap.size A3 (l9 + m + 1) c3 (Tk ++ F ++ [UInt8.ofInt (k : Int) + 1]) := own_eq hown3 rfl (by simp))
        | (go_at_call 45; refine (HT.out A3 c3 _ (hx.later (hl.trans hl3)) hown3'.rd).mono ?_; rintro e w4 ⟨rfl, hl4⟩)
        | (refine wpList_store_agg rfl rfl 39 _ _ rfl w4.heap.size 0 39 (List.replicate 32 (W8 0)) (T.map W8) ?bk ?hx ?hy ?hi ?hf ?h1 ?_; (case hx => rfl); (case hy => rfl); (case hi => rw [List.length_map, hT]; kernel_rfl); (case hf => simp [hT]); (case h1 => exact w8_one _); (case bk => exact Blk.new _ _ _); intro w5 hb5 ho5
           rw [spliced_all _ _ (by simp [hT])] at hb5
           have L4 := hl3.trans hl4
           have hl5 := ((L4.alloc _).only ho5 L4.size)
           have hown5 := own_later hown hl5)
        | (go_at_call 29; refine (copy_any (some ⟨w4.heap.size, 0, none⟩) 32 32 T _ (hb5.rd (by simp [hT])) (by omega)).mono ?_; rintro e w6 ⟨A6, c6, rfl, hown6, hl6⟩
           have hout6 := own_later hown5 hl6)
        | (refine wpList_append_rd rfl _ _ _ rfl 5 _ 1 Try.underlying22 info8 rfl w _ (32 * k) _ hout6 ((hl.trans hl5).trans hl6) A6 32 c6 _ hown6.rd (w8_one _) rfl rfl (by omega) (by omega) ?_; intro A7 c7 w7 hown7 hl7 hg7 _; have hlast7 : OwnB w7 w5.heap.size A6 32 c6 T := own_younger hown6 (Nat.le_refl _) (fun b hb => by have := hlt8 b hb; have := hl5.size; omega) hg7; have hown7' := own_cut hown7 rfl (show 32 * k + 32 = 32 * (k + 1) by omega)))
      refine ⟨⟨k + 1, A7, c7, A6, 32, c6, by go_num, .inr (by omega), by rw [show 32 * k + 32 = 32 * (k + 1) by omega], rfl, ?_, ?_, hl7⟩, by simp only [intOf]; omega⟩
      · rw [HT1.out]
        exact hlast7.mono (hl.trans hl5).size
      · rw [HO.out]
        exact hown7'
    · have hk : k = (N + 31) / 32 := by omega
      have hltN : ¬ ((32 * k : Nat) : Int) < (N : Int) := by omega
      have hNc : N ≤ c8 := by omega
      have hr := (RdB.take hown.rd (m := N) (by omega))
      have he : (hkO key F k).take N = expB key F N := by rw [expB, ← hk]
      rw [he] at hr
      generalize hE : expB key F N = E at *
      have HE := hid hE
      clear hE
      go_wp2_with (first | (go_at_call 29; refine (copy_any A8 N c8 E _ hr (by omega)).mono ?_; rintro e w1 ⟨A1, c1, rfl, hown1, hl1⟩))
      go_ret2
      exact ⟨A1, c1, rfl, by rw [HE.out]; exact hown1.mono hl.size, hl.trans hl1⟩
theorem refExpand_bad (A B : Option Addr) (n c m d : Nat) (N : Int) (w : World) (hN : N < 0 ∨ 8160 < N) :
    Calls Try.prog 50 #[.slice A n c, .int .i64 N, .slice B m d] w fun e w' => e = .returned (.tuple #[.slice none 0 0, .int .i64 1]) ∧ w' = w := by
  by_cases h0 : N < 0
  · go_enter Try.func50, Try.ntmps50
    go_wp2
    go_ret2
    exact ⟨rfl, rfl⟩
  · have h1 : 8160 < N := by omega
    go_enter Try.func50, Try.ntmps50
    go_wp2
    go_ret2
    exact ⟨rfl, rfl⟩
end Go.Proofs.Ytmdbekdphkkmkaa
