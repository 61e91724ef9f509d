/-
  shallotref04: left, Quarter, words.
-/
import Derived.Test.YtjohieongjnemaaCha4
import Derived.Test.YtjohieongjnemaaFMid
namespace Go.Proofs.Ytjohieongjnemaa
open Go.RowKit
open Go.BigFrame

theorem byteW (x : UInt8) : x.toUInt32.toNat = x.toNat := by simp
theorem shlW (x : UInt8) (n : Nat) (h : n ≤ 24) : (shl32 x.toUInt32 n).toNat = 2 ^ n * x.toNat := by
  have hx := x.toNat_lt
  show (x.toUInt32.toBitVec <<< n).toNat = _
  rw [BitVec.toNat_shiftLeft, Nat.shiftLeft_eq, Nat.mod_eq_of_lt]
  · rw [Nat.mul_comm]
    congr 1
  · have e : x.toUInt32.toBitVec.toNat = x.toNat := byteW x
    rw [e]
    have : 2 ^ n ≤ 2 ^ 24 := Nat.pow_le_pow_right (by omega) h
    calc x.toNat * 2 ^ n ≤ x.toNat * 2 ^ 24 := Nat.mul_le_mul_left _ this
      _ < 2 ^ 32 := by omega
theorem orW (a b : Nat) (i : Nat) (h : b < 2 ^ i) : b ||| 2 ^ i * a = b + 2 ^ i * a := by
  rw [Nat.or_comm, ← Nat.two_pow_add_eq_or_of_lt h, Nat.add_comm]
theorem leW_nat (bs : List UInt8) (k : Nat) (h : 4 * k + 4 ≤ bs.length) : (leW bs k).toNat = quad bs k 4 := by
  rw [quad_succ bs k 3 (by omega), quad_succ bs k 2 (by omega), quad_succ bs k 1 (by omega), quad_succ bs k 0 (by omega), show quad bs k 0 = 0 from by rw [quad]; rfl]
  unfold leW byteAt
  rw [Nat.add_zero]
  generalize bs.getD (4 * k) 0 = x0
  generalize bs.getD (4 * k + 1) 0 = x1
  generalize bs.getD (4 * k + 2) 0 = x2
  generalize bs.getD (4 * k + 3) 0 = x3
  have b0 := x0.toNat_lt
  have b1 := x1.toNat_lt
  have b2 := x2.toNat_lt
  have b3 := x3.toNat_lt
  rw [UInt32.toNat_or, UInt32.toNat_or, UInt32.toNat_or, byteW, shlW _ _ (by omega), shlW _ _ (by omega), shlW _ _ (by omega), orW _ _ 8 (by omega), orW _ _ 16 (by omega), orW _ _ 24 (by omega)]
  omega
theorem leW_n32 (bs : List UInt8) (k : Nat) (h : 4 * k + 4 ≤ bs.length) : n32 (quad bs k 4) = W32 (leW bs k) := by
  rw [← leW_nat bs k h, n32]
  congr 1
  simp
set_option maxHeartbeats 400000 in
theorem left_any (x : UInt32) (n : Nat) (h0 : n ≤ 32) (w : World) :
    Calls Try.prog 116 #[W32 x, .int .i64 n] w fun e w' => e = .returned (W32 (rotl x n)) ∧ Later w w' := by
  go_enter Try.func116, Try.ntmps116
  go_wp2
  refine wp_region_parts [] [0,1,2,3,4,5,6,7,8] [] (by as_aux_lemma => kernel_rfl) (by as_aux_lemma => kernel_rfl) (by intro _ _ d _ _ h; cases d <;> exact h) ?_
  simp only [wpParts, pick, List.getElem?_cons_succ, List.getElem?_cons_zero, Option.toList_some, List.cons_append, List.nil_append]
  repeat (go_big_quiet_step (fail))
  refine wpQuiet_nil ?_
  go_wp2
  go_ret
  exact ret_w32' rfl _ (later_drew _)
theorem left_at (x : UInt32) (n : Nat) (i : Int) (hi : i = (n : Int)) (h0 : n ≤ 32) (w : World) :
    Calls Try.prog 116 #[W32 x, .int .i64 i] w fun e w' => e = .returned (W32 (rotl x n)) ∧ Later w w' := by
  subst hi
  exact left_any x n h0 w
theorem infoW : (Try.prog.info? 94).map (fun i => (i.zero, i.size, i.bytes)) = some (some (.int .u32 0), 1, 4) := by kernel_rfl
/-- The words of a list of bytes. -/
def wordsL (bs : List UInt8) (k : Nat) : List UInt32 := (List.range k).map (leW bs)
theorem wordsL_length (bs : List UInt8) (k : Nat) : (wordsL bs k).length = k := by simp [wordsL]
set_option maxHeartbeats 2000000 in
set_option maxRecDepth 100000 in
theorem words_any (A : Option Addr) (n c K : Nat) (bs : List UInt8) (w : World) (hr : RdB w A n bs) (hn : n = 4 * K) (hK : K ≤ 1048576) :
    Calls Try.prog 92 #[.slice A n c] w fun e w' => ∃ A' c', e = .returned (.slice A' K c') ∧ w'.ownsRow w.heap.size 94 1 (.slice A' K c') K ((wordsL bs K).map W32) ∧ Later w w' := by
  have hbl := hr.len
  have hnb : n ≤ 140737488355328 := by omega
  replace hn := hid hn
  have hg := hid (fun k (w' : World) (hl : Later w w') hk => get_any A n c bs k w' (hr.later hl) hk hnb)
  have hq := hid (fun k hk => leW_n32 bs k hk)
  have hs := hid (fun k => show (wordsL bs (k + 1)).map W32 = (wordsL bs k).map W32 ++ [W32 (leW bs k)] by simp [wordsL, List.range_succ])
  go_enter Try.func92, Try.ntmps92
  go_wp2_with fail
  go_loopw [3, 4] (fun v i wr => ∃ (k : Nat) (A' : Option Addr) (c' : Nat), k ≤ K ∧ i = .int .i64 (4 * (k : Int)) ∧ v = .slice A' k c' ∧ wr.ownsRow w.heap.size 94 1 (.slice A' k c') k ((wordsL bs k).map W32) ∧ Later w wr) (fun _ i _ => 4 * K - (intOf i).toNat)
  case atStart => exact ⟨0, none, 0, by omega, rfl, rfl, World.ownsRow_nil w _ _ 1, Later.refl w⟩
  case round =>
    obtain ⟨k, A1, c1, hk, rfl, rfl, hown, L⟩ := hrel
    by_cases hlt : k < K
    · have hcmp : 4 * (k : Int) + 3 < (n : Int) := by have := hn.out; omega
      have HS := hid (hs.out k)
      go_wp2_with fail
      (refine (hg.out k _ L (by have := hn.out; omega)).mono ?_); rintro e w2 ⟨rfl, j2⟩
      have HQ := hid (hq.out k (by have := hn.out; omega))
      generalize quad bs k 4 = Q at *
      have J := later_alloc w2 (.cells #[n32 Q] 94)
      go_wp2_with (first
        | (refine wpList_append_rd rfl _ _ _ rfl 94 _ 4 Try.underlying133 infoW rfl w _ k _ ((own_later hown j2 |> fun h => own_later h J)) ((L.trans j2).trans J) _ 1 1 _ ((Blk.new w2 94 [n32 Q]).rd rfl) (by intro u hu; rw [List.mem_singleton.1 hu]; rfl) rfl rfl (by omega) (by omega) ?_; intro A3 c3 w3 hown3 hl3 hg3 _)
        | fail)
      rw [HQ.out, ← HS.out] at hown3
      go_roundw
      case rel => exact ⟨k + 1, A3, c3, by omega, by go_num, rfl, hown3, hl3⟩
      case measure => simp [intOf]; omega
    · obtain rfl : K = k := by omega
      have hcmp : ¬ 4 * (K : Int) + 3 < (n : Int) := by have := hn.out; omega
      go_wp2_with fail
      go_ret
      exact ⟨_, _, rfl, hown, L⟩
end Go.Proofs.Ytjohieongjnemaa
