/-
  Both Pads, and the law ShaPads.
-/
import Derived.Test.YtmdbekdphkkmkaaShaA
namespace Go.Proofs.Ytmdbekdphkkmkaa
open Go.RowKit

theorem pad_ok (n : Nat) (hn : n ≤ 16777216) (w : World) : Calls Try.prog 16 #[.int .i64 n] w fun e w' =>
    ∃ A c, e = .returned (.tuple #[.slice A (padZ n + 9) c, .int .i64 0]) ∧ OwnB w' w.heap.size A (padZ n + 9) c (padB n) ∧ Later w w' := by
  have e1 : (UInt64.ofInt (n : Int)).toNat = n := by rw [ofInt_w64]; omega
  have e2 := padAt_8 n (by omega)
  rw [← ofIntNat_w64] at e2
  have E1 := hid e1
  have E2 := hid e2
  clear e1 e2
  go_enter Try.func16, Try.ntmps16
  go_wp2_with (first | (go_at_call 59; refine (padding_any _ _).mono ?_; rintro e w1 ⟨A, c, rfl, hown, hl⟩))
  go_ret2
  rw [E1.out, E2.out] at hown
  refine ⟨A, c, ?_, hown, hl⟩
  rw [← E1.out]
  exact congrArg (fun m => Ending.returned (.tuple #[.slice A (padZ m + 9) c, .int .i64 0])) (by rw [E1.out, E1.out])
theorem pad_bad (n : Int) (hn : n < 0 ∨ 16777216 < n) (w : World) : Calls Try.prog 16 #[.int .i64 n] w fun e w' =>
    e = .returned (.tuple #[.slice none 0 0, .int .i64 1]) ∧ w = w' := by
  rcases hn with hn | hn
  · go_enter Try.func16, Try.ntmps16
    go_wp2
    go_ret2
    exact ⟨rfl, rfl⟩
  · have h0 : ¬ n < 0 := by omega
    go_enter Try.func16, Try.ntmps16
    go_wp2
    go_ret2
    exact ⟨rfl, rfl⟩
theorem ref_pad_ok (n : Nat) (hn : n ≤ 16777216) (w : World) : Calls Try.prog 17 #[.int .i64 n] w fun e w' =>
    ∃ A c, e = .returned (.tuple #[.slice A (padZ n + 9) c, .int .i64 0]) ∧ OwnB w' w.heap.size A (padZ n + 9) c (padB n) ∧ Later w w' := by
  go_enter Try.func17, Try.ntmps17
  go_wp2_with (first | (go_at_call 60; refine (ref_padding n (by omega) _).mono ?_; rintro e w1 ⟨A, c, rfl, hown, hl⟩))
  go_ret2
  exact ⟨A, c, rfl, hown, hl⟩
theorem ref_pad_bad (n : Int) (hn : n < 0 ∨ 16777216 < n) (w : World) : Calls Try.prog 17 #[.int .i64 n] w fun e w' =>
    e = .returned (.tuple #[.slice none 0 0, .int .i64 1]) ∧ w = w' := by
  rcases hn with hn | hn
  · go_enter Try.func17, Try.ntmps17
    go_wp2
    go_ret2
    exact ⟨rfl, rfl⟩
  · have h0 : ¬ n < 0 := by omega
    go_enter Try.func17, Try.ntmps17
    go_wp2
    go_ret2
    exact ⟨rfl, rfl⟩

theorem rdb_nil (w : World) : RdB w none 0 [] := ⟨rfl, fun h => absurd h (by omega)⟩
theorem pad_55 (w : World) : Calls Try.prog 16 #[.int .i64 55] w fun e w' =>
    ∃ b o c, e = .returned (.tuple #[.slice (some ⟨b, o, none⟩) 9 c, .int .i64 0]) ∧ w'.cell? ⟨b, o, none⟩ = some (W8 128) ∧ w'.cell? ⟨b, o + 8, none⟩ = some (W8 184) ∧ Later w w' := by
  refine (pad_ok 55 (by omega) w).mono ?_
  rintro e w' ⟨A, c, rfl, hown, hl⟩
  have hz : padZ 55 = 0 := by decide
  rw [hz] at hown
  obtain ⟨b, o, rfl, hb, hc⟩ := hown.rd.at_ (by omega)
  have h0 := hc 0 (by omega)
  have h8 := hc 8 (by omega)
  have e0 : (padB 55).getD 0 0 = 128 := by decide
  have e8 : (padB 55).getD 8 0 = 184 := by decide
  rw [e0] at h0
  rw [e8] at h8
  exact ⟨b, o, c, by rw [hz], h0, h8, hl⟩
set_option maxRecDepth 100000 in
set_option maxHeartbeats 1000000 in
theorem shaPads_ok (n : Nat) (hn : n ≤ 16777216) (w : World) :
    Calls Try.prog 3 #[.int .i64 n] w fun e w' => e = .returned (.bool true) ∧ Later w w' := by
  have hz : (n + padZ n + 9) % 64 = 0 := by simp only [padZ]; omega
  have hz0 : padZ n < 64 := Nat.mod_lt _ (by omega)
  have hz1 : (n : Int) % 64 + ((padZ n : Int) + 9) < 200 := by omega
  have hz2 : ((n : Int) % 64 + ((padZ n : Int) + 9)) % 64 = 0 := by omega
  go_enter Try.func3, Try.ntmps3
  go_wp2_with fail
  refine (pad_55 _).mono ?_
  rintro e w1 ⟨b, o, c, rfl, c0, c8, hl1⟩
  go_wp2_with fail
  refine (pad_ok n hn _).mono ?_
  rintro e w2 ⟨A2, d2, rfl, hown2, hl2⟩
  go_wp2_with fail
  refine (ref_pad_ok n hn _).mono ?_
  rintro e w3 ⟨A3, d3, rfl, hown3, hl3⟩
  go_wp2_with fail
  refine (equal_any A2 A3 _ _ d2 d3 (padB n) (padB n) _ (hown2.later hl3).rd hown3.rd (by omega) (by omega)).mono ?_
  rintro e w4 ⟨rfl, hl4⟩
  have ht : decide (padB n = padB n) = true := by simp
  rw [ht]
  go_wp2
  go_ret
  exact ⟨rfl, ((hl1.trans hl2).trans hl3).trans hl4⟩
set_option maxRecDepth 100000 in
set_option maxHeartbeats 1000000 in
theorem shaPads_bad (n : Int) (hn : n < 0 ∨ 16777216 < n) (w : World) :
    Calls Try.prog 3 #[.int .i64 n] w fun e w' => e = .returned (.bool true) ∧ Later w w' := by
  go_enter Try.func3, Try.ntmps3
  go_wp2_with fail
  refine (pad_55 _).mono ?_
  rintro e w1 ⟨b, o, c, rfl, c0, c8, hl1⟩
  go_wp2_with fail
  refine (pad_bad n hn _).mono ?_
  rintro e w2 ⟨rfl, rfl⟩
  go_wp2_with fail
  refine (ref_pad_bad n hn _).mono ?_
  rintro e w3 ⟨rfl, rfl⟩
  go_wp2_with fail
  refine (equal_any none none 0 0 0 0 [] [] _ (rdb_nil _) (rdb_nil _) (by omega) (by omega)).mono ?_
  rintro e w4 ⟨rfl, hl4⟩
  have ht : decide (([] : List UInt8) = []) = true := by simp
  rw [ht]
  go_wp2
  go_ret
  exact ⟨rfl, hl1.trans hl4⟩
theorem shaPads_walk (n : Int) (_hlo : -9223372036854775808 ≤ n) (_hhi : n ≤ 9223372036854775807) (w : World) :
    Calls Try.prog 3 #[.int .i64 n] w fun e w' => e = .returned (.bool true) ∧ Later w w' := by
  by_cases h : n < 0 ∨ 16777216 < n
  · exact shaPads_bad n h w
  · obtain ⟨m, rfl⟩ := Int.eq_ofNat_of_zero_le (show 0 ≤ n by omega)
    exact shaPads_ok m (by omega) w
end Go.Proofs.Ytmdbekdphkkmkaa
