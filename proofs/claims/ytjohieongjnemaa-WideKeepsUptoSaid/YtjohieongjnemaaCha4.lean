/-
  chacha: piece, Stream.
-/
import Derived.Test.YtjohieongjnemaaCha3
import Derived.Test.YtjohieongjnemaaBagMore
namespace Go.Proofs.Ytjohieongjnemaa
open Go.RowKit
open Go.BigFrame

/-- The first k blocks of a key's stream. -/
def chaF (key : List UInt8) (k : Nat) : List UInt8 := (List.range k).flatMap fun i => chaB key (List.replicate 12 0) (UInt32.ofNat i)
theorem chaF_succ (key : List UInt8) (k : Nat) : chaF key (k + 1) = chaF key k ++ chaB key (List.replicate 12 0) (UInt32.ofNat k) := by simp [chaF, List.range_succ]
theorem chaF_length (key : List UInt8) : ∀ k, (chaF key k).length = 64 * k
  | 0 => rfl
  | k + 1 => by rw [chaF_succ, List.length_append, chaF_length key k, chaB_length]; omega
/-- The first n bytes. -/
def chaS (key : List UInt8) (n : Nat) : List UInt8 := (chaF key ((n + 63) / 64)).take n
theorem chaS_length (key : List UInt8) (n : Nat) : (chaS key n).length = n := by
  rw [chaS, List.length_take, chaF_length]
  omega
theorem chaF_more (key : List UInt8) (k : Nat) : ∀ j, ∃ r, chaF key (k + j) = chaF key k ++ r
  | 0 => ⟨[], by simp⟩
  | j + 1 => by
    obtain ⟨r, h⟩ := chaF_more key k j
    exact ⟨r ++ chaB key (List.replicate 12 0) (UInt32.ofNat (k + j)), by rw [← Nat.add_assoc, chaF_succ, h, List.append_assoc]⟩
theorem chaS_take (key : List UInt8) (n k : Nat) (h : n ≤ 64 * k) : chaS key n = (chaF key k).take n := by
  obtain ⟨r, hr⟩ := chaF_more key ((n + 63) / 64) (k - (n + 63) / 64)
  rw [Nat.add_sub_cancel' (by omega)] at hr
  rw [hr, chaS, List.take_append_of_le_length (by rw [chaF_length]; omega)]
theorem take_more {α : Type} (l r : List α) (m n : Nat) (h : l.length = m) (hm : m ≤ n) : (l ++ r).take n = l ++ r.take (n - m) := by
  rw [List.take_append, h, List.take_of_length_le (by omega)]
theorem convert_quo (k : Nat) (w : World) : (convert 3 94 (.int .i64 (k : Int))).run Try.prog w = .ok (W32 (UInt32.ofNat k)) w := by
  have h := run_convert_int (P := Try.prog) (w := w) 3 94 .i64 (k : Int) (by rw [Try.underlying3]; rfl) (by unfold Program.intKind; rw [Try.underlying94])
  have e : Try.prog.intKind 94 = .u32 := by unfold Program.intKind; rw [Try.underlying94]
  rw [e] at h
  refine h.trans ?_
  congr 1
set_option maxRecDepth 100000 in
set_option maxHeartbeats 4000000 in
theorem piece_any (A : Option Addr) (c n : Nat) (key : List UInt8) (w : World) (hk : RdB w A 32 key) (hn : n ≤ 65536) :
    Calls Try.prog 91 #[.slice A 32 c, .int .i64 0, .int .i64 n] w fun e w' => ∃ A' c', e = .returned (.slice A' n c') ∧ OwnB w' w.heap.size A' n c' (chaS key n) ∧ Later w w' := by
  have hB := hid (fun B d ctr (w' : World) (hl : Later w w') hn => block_cha A B c d key (List.replicate 12 0) ctr w' (hk.later hl) hn)
  have hs1 := hid (chaF_succ key)
  have hl1 := hid (chaF_length key)
  have hS := hid (chaS_take key n)
  have hbl := hid (fun ctr => chaB_length key (List.replicate 12 0) ctr)
  have h0 := hid (show (chaF key 0).take 0 = [] from rfl)
  go_enter Try.func91, Try.ntmps91
  go_wp2_with (first
    | (refine wpList_make_n rfl _ _ _ rfl 5 _ 1 Try.underlying22 info8 rfl _ _ _ _ 12 rfl rfl rfl rfl (by omega) (by omega) ?_; intro w1 hb1 hl1')
    | (refine wpList_make_cap rfl _ _ _ rfl 5 _ 1 Try.underlying22 info8 rfl _ _ _ _ 0 n rfl rfl rfl rfl (by omega) (by omega) (by omega) ?_; intro w2 hown2 hl2)
    | fail)
  have hz1 := hl1'.size
  have hlt1 := hb1.lt
  have L2 := hl1'.trans hl2
  have hbase : w.heap.size < w1.heap.size := hlt1
  have hown3 : OwnB w2 w1.heap.size (some ⟨w1.heap.size, 0, none⟩) 0 n ((chaF key 0).take 0) := by
    rw [h0.out]
    exact hown2
  have hno : RdB w1 (some ⟨w.heap.size, 0, none⟩) 12 (List.replicate 12 0) := hb1.rd rfl
  clear hb1 hown2 L2 hz1
  have hL1 := hl2
  go_loopw [1, 8] (fun at_ v wr => ∃ (k m : Nat) (A' : Option Addr) (c' : Nat), at_ = .int .i64 m ∧ v = .slice A' m c' ∧ m ≤ n ∧ m ≤ 64 * k ∧ (m < n → m = 64 * k) ∧ OwnB wr w1.heap.size A' m c' ((chaF key k).take m) ∧ Later w1 wr) (fun _ v _ => n - lenOf v)
  case atStart => exact ⟨0, 0, _, _, rfl, rfl, by omega, by omega, fun _ => rfl, hown3, hL1⟩
  case round =>
    clear hown3 hL1 hl2
    obtain ⟨k, m, A6, c6, rfl, rfl, hmn, hmk, hm64, hown, L⟩ := hrel
    by_cases hlt : m < n
    · have hm := hm64 hlt
      have hq : (m : Int) / 64 = (k : Int) := by omega
      have hr : (m : Int) % 64 = 0 := by omega
      have hcv := convert_quo k
      have hb := hid (hs1.out k)
      have hBl := hid (hbl.out (UInt32.ofNat k))
      have HM := hid hm
      have HFl := hid (hl1.out k)
      clear hm hm64
      go_wp2_with fail
      (with_reducible refine (hB.out _ _ _ _ (hl1'.trans L) (hno.later L)).mono ?_); rintro e w4 ⟨A9, c9, rfl, hown9, j9⟩
      have hrd9 := hown9.rd
      have hcap := hown9.cap
      have hcut : ∀ W, (Instr.sliceAt 22 (.slice A9 64 c9) (some (.int .i64 0)) none none).run Try.prog W = .ok (.slice A9 64 c9) W := fun W => by
        have h := cut8_from A9 64 c9 .i64 0 (by omega) W
        simpa [cutA_zero] using h
      generalize chaB key (List.replicate 12 0) (UInt32.ofNat k) = Bk at *
      generalize chaF key k = Fk at *
      by_cases hbig : n - m < 64
      · obtain ⟨q, hqn⟩ : ∃ q, n = m + q := ⟨n - m, by omega⟩
        have hb1 : ((n : Int) - (m : Int)) < 64 := by omega
        have hcut2 : ∀ W, (Instr.sliceAt 22 (.slice A9 64 c9) none (some (.int .i64 ((n : Int) - (m : Int)))) none).run Try.prog W = .ok (.slice A9 q c9) W := fun W => by
          rw [show (n : Int) - (m : Int) = (q : Int) by omega]
          exact cut8_to A9 64 c9 .i64 q (by omega) W
        have hq64 : q < 64 := by omega
        have hrq := hrd9.take (m := q) (by omega)
        have hmq : m + q ≤ 65536 := by omega
        replace hqn := hid hqn
        go_wp2_with (first
          | (refine wpList_append_rd rfl _ _ _ rfl 5 _ 1 Try.underlying22 info8 rfl w1 _ m _ (hown.later j9) (L.trans j9) A9 q c9 _ hrq (w8_one _) rfl rfl (by omega) (by omega) ?_; intro A7 c7 w7 hown7 hl7 hg7 _)
          | fail)
        have hown8 := own_glue hown7
        go_roundw
        case rel =>
          refine ⟨k + 1, m + q, A7, c7, by go_num, rfl, by have := hqn.out; omega, by have := HM.out; omega, fun h => by have := hqn.out; omega, ?_, hl7⟩
          rw [hb.out, take_more _ _ _ _ HFl.out (by have := HM.out; omega), show m + q - 64 * k = q by have := HM.out; omega]
          rw [List.take_of_length_le (by rw [HFl.out, HM.out]; omega)] at hown8
          exact hown8
        case measure => have := hqn.out; simp [lenOf]; omega
      · have hb1 : ¬ ((n : Int) - (m : Int)) < 64 := by omega
        go_wp2_with (first
          | (refine wpList_append_rd rfl _ _ _ rfl 5 _ 1 Try.underlying22 info8 rfl w1 _ m _ (hown.later j9) (L.trans j9) A9 64 c9 _ hrd9 (w8_one _) rfl rfl (by omega) (by omega) ?_; intro A7 c7 w7 hown7 hl7 hg7 _)
          | fail)
        have hown8 := own_glue hown7
        go_roundw
        case rel =>
          refine ⟨k + 1, m + 64, A7, c7, by go_num, rfl, by omega, by have := HM.out; omega, fun h => by have := HM.out; omega, ?_, hl7⟩
          rw [hb.out, take_more _ _ _ _ HFl.out (by have := HM.out; omega), show m + 64 - 64 * k = 64 by have := HM.out; omega, List.take_of_length_le (by rw [hBl.out]; omega)]
          rw [List.take_of_length_le (by rw [HFl.out, HM.out]; omega)] at hown8
          exact hown8
        case measure => simp [lenOf]; omega
    · obtain rfl : n = m := by omega
      have hE := hid (hS.out k hmk)
      rw [← hE.out] at hown
      go_wp2_with fail
      go_ret
      exact ⟨_, _, rfl, hown.mono (Nat.le_of_lt hbase), hl1'.trans L⟩
theorem stream_any (A : Option Addr) (c n : Nat) (key : List UInt8) (w : World) (hk : RdB w A 32 key) (hn : n ≤ 65536) :
    Calls Try.prog 68 #[.slice A 32 c, .int .i64 n] w fun e w' => ∃ A' c', e = .returned (.tuple #[.slice A' n c', .int .i64 0]) ∧ OwnB w' w.heap.size A' n c' (chaS key n) ∧ Later w w' := by
  have hp := hid (fun c (w : World) h => piece_any A c n key w h hn)
  go_enter Try.func68, Try.ntmps68
  go_wp2_with fail
  (with_reducible refine (hp.out _ _ hk).mono ?_); rintro e w1 ⟨A1, c1, rfl, ho1, j1⟩
  go_wp2_with fail
  go_ret2
  exact ⟨_, _, rfl, ho1, j1⟩
end Go.Proofs.Ytjohieongjnemaa
