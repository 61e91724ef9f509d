/-
  wide: Seal, Open; shallotref07: Seal, Open; shallotlaw07: told, awake; the law WideSeals, walked.
-/
import Derived.Test.YtjohieongjnemaaWideE
import Derived.Deep.RegionWith
namespace Go.Proofs.Ytjohieongjnemaa
open Go.RowKit
open Go.BigFrame

def rsS : List Int := [1, 2, 3, 4]
def rsO : List Int := [4, 3, 2, 1]
theorem okS : okR rsS := by decide
theorem okO : okR rsO := by decide
theorem wideE_SO (key bs : List UInt8) : wideE key bs rsO = wideE key bs rsS := by rw [wideE, wideE, if_pos okS, if_pos okO]
theorem wideE_zero {key bs : List UInt8} {rs : List Int} (h : wideE key bs rs = 0) : okR rs ∧ fitW key bs := by
  unfold wideE at h
  split at h
  · split at h
    · exact ⟨by assumption, by assumption⟩
    · cases h
  · cases h
theorem wide_back {key bs : List UInt8} {rs : List Int} (h : wideE key bs rs = 0) : (wideB key bs rs).length = bs.length ∧ wideE key (wideB key bs rs) rs.reverse = 0 ∧ wideB key (wideB key bs rs) rs.reverse = bs := by
  obtain ⟨hok, hf⟩ := wideE_zero h
  have hl := foldW_length key rs bs hf.2.1
  have hok' : okR rs.reverse := fun r hr => hok r (List.mem_reverse.1 hr)
  have hf' : fitW key (foldW key rs bs) := ⟨hf.1, by rw [hl]; exact hf.2.1, by rw [hl]; exact hf.2.2⟩
  rw [wideB_fit hok hf]
  exact ⟨hl, wideE_fit hok' hf', by rw [wideB_fit hok' hf', foldW_back key rs bs hf.2.1]⟩
set_option maxHeartbeats 1000000 in
theorem seal_wide (A B : Option Addr) (n c m d : Nat) (key bs : List UInt8) (w : World) (hk : RdB w A n key) (hc : n ≤ c) (hb : RdB w B m bs) (hd : m ≤ d) (hn : n ≤ 2097152) (hm : m ≤ 2097152) :
    Calls Try.prog 18 #[.slice A n c, .slice B m d] w fun e w' => Later w w' ∧ ∃ A' c', e = .returned (.tuple #[.slice A' (wideB key bs rsS).length c', .int .i64 (wideE key bs rsS : Nat)]) ∧ OwnB w' w.heap.size A' (wideB key bs rsS).length c' (wideB key bs rsS) := by
  have h := hid (fun C e0 w hk hb hr => rounds_wide A B C n c m d 4 e0 key bs rsS w hk hc hb hd hr hn hm (by omega))
  generalize wideB key bs rsS = X at *
  generalize wideE key bs rsS = E at *
  go_enter Try.func18, Try.ntmps18
  go_wp2_with fail
  have J := later_alloc w (.cells #[.int .i64 1, .int .i64 2, .int .i64 3, .int .i64 4] 3)
  (refine (h.out _ _ _ (hk.later J) (hb.later J) ((Blk.new w 3 [.int .i64 1, .int .i64 2, .int .i64 3, .int .i64 4]).rd rfl)).mono ?_); rintro e w1 ⟨j1, A1, c1, rfl, ho1⟩
  go_wp2_with fail
  go_ret2
  exact ⟨J.trans j1, A1, c1, rfl, ho1.mono J.size⟩
set_option maxHeartbeats 1000000 in
theorem open_wide (A B : Option Addr) (n c m d : Nat) (key bs : List UInt8) (w : World) (hk : RdB w A n key) (hc : n ≤ c) (hb : RdB w B m bs) (hd : m ≤ d) (hn : n ≤ 2097152) (hm : m ≤ 2097152) :
    Calls Try.prog 20 #[.slice A n c, .slice B m d] w fun e w' => Later w w' ∧ ∃ A' c', e = .returned (.tuple #[.slice A' (wideB key bs rsO).length c', .int .i64 (wideE key bs rsO : Nat)]) ∧ OwnB w' w.heap.size A' (wideB key bs rsO).length c' (wideB key bs rsO) := by
  have h := hid (fun C e0 w hk hb hr => rounds_wide A B C n c m d 4 e0 key bs rsO w hk hc hb hd hr hn hm (by omega))
  generalize wideB key bs rsO = X at *
  generalize wideE key bs rsO = E at *
  go_enter Try.func20, Try.ntmps20
  go_wp2_with fail
  have J := later_alloc w (.cells #[.int .i64 4, .int .i64 3, .int .i64 2, .int .i64 1] 3)
  (refine (h.out _ _ _ (hk.later J) (hb.later J) ((Blk.new w 3 [.int .i64 4, .int .i64 3, .int .i64 2, .int .i64 1]).rd rfl)).mono ?_); rintro e w1 ⟨j1, A1, c1, rfl, ho1⟩
  go_wp2_with fail
  go_ret2
  exact ⟨J.trans j1, A1, c1, rfl, ho1.mono J.size⟩
set_option maxHeartbeats 1000000 in
theorem seal_ref (A B : Option Addr) (n c m d : Nat) (key bs : List UInt8) (w : World) (hk : RdB w A n key) (hb : RdB w B m bs) (hd : m ≤ d) (hn : n ≤ 2097152) (hm : m ≤ 2097152) :
    Calls Try.prog 19 #[.slice A n c, .slice B m d] w fun e w' => Later w w' ∧ ∃ A' c', e = .returned (.tuple #[.slice A' (wideB key bs rsS).length c', .int .i64 (wideE key bs rsS : Nat)]) ∧ OwnB w' w.heap.size A' (wideB key bs rsS).length c' (wideB key bs rsS) := by
  have h := hid (fun C e0 w hk hb hr => rounds_ref A B C n c m d 4 e0 key bs rsS w hk hb hd hr hn hm (by omega))
  generalize wideB key bs rsS = X at *
  generalize wideE key bs rsS = E at *
  go_enter Try.func19, Try.ntmps19
  go_wp2_with fail
  have J := later_alloc w (.cells #[.int .i64 1, .int .i64 2, .int .i64 3, .int .i64 4] 3)
  (refine (h.out _ _ _ (hk.later J) (hb.later J) ((Blk.new w 3 [.int .i64 1, .int .i64 2, .int .i64 3, .int .i64 4]).rd rfl)).mono ?_); rintro e w1 ⟨j1, A1, c1, rfl, ho1⟩
  go_wp2_with fail
  go_ret2
  exact ⟨J.trans j1, A1, c1, rfl, ho1.mono J.size⟩
set_option maxHeartbeats 1000000 in
theorem open_ref (A B : Option Addr) (n c m d : Nat) (key bs : List UInt8) (w : World) (hk : RdB w A n key) (hb : RdB w B m bs) (hd : m ≤ d) (hn : n ≤ 2097152) (hm : m ≤ 2097152) :
    Calls Try.prog 21 #[.slice A n c, .slice B m d] w fun e w' => Later w w' ∧ ∃ A' c', e = .returned (.tuple #[.slice A' (wideB key bs rsO).length c', .int .i64 (wideE key bs rsO : Nat)]) ∧ OwnB w' w.heap.size A' (wideB key bs rsO).length c' (wideB key bs rsO) := by
  have h := hid (fun C e0 w hk hb hr => rounds_ref A B C n c m d 4 e0 key bs rsO w hk hb hd hr hn hm (by omega))
  generalize wideB key bs rsO = X at *
  generalize wideE key bs rsO = E at *
  go_enter Try.func21, Try.ntmps21
  go_wp2_with fail
  have J := later_alloc w (.cells #[.int .i64 4, .int .i64 3, .int .i64 2, .int .i64 1] 3)
  (refine (h.out _ _ _ (hk.later J) (hb.later J) ((Blk.new w 3 [.int .i64 4, .int .i64 3, .int .i64 2, .int .i64 1]).rd rfl)).mono ?_); rintro e w1 ⟨j1, A1, c1, rfl, ho1⟩
  go_wp2_with fail
  go_ret2
  exact ⟨J.trans j1, A1, c1, rfl, ho1.mono J.size⟩
theorem told_same (A B : Option Addr) (n c d E : Nat) (xs : List UInt8) (w : World) (hx : RdB w A n xs) (hy : RdB w B n xs) (hn : n ≤ 140737488355328) :
    Calls Try.prog 16 #[.slice A n c, .int .i64 (E : Int), .slice B n d, .int .i64 (E : Int)] w fun e w' => e = .returned (.bool true) ∧ Later w w' := by
  have he := hid (equal_any A B n n c d xs xs w hx hy hn hn)
  rw [decide_eq_true rfl] at he
  go_enter Try.func16, Try.ntmps16
  go_wp2_with fail
  (with_reducible refine he.out.mono ?_); rintro e w1 ⟨rfl, j1⟩
  go_wp2_with fail
  go_ret
  exact ⟨by simp, j1⟩
theorem make_run (n : Nat) (hn : n ≤ 1048576) (W : World) : (Instr.makeSlice 22 (.int .i64 (n : Int)) (.int .i64 (n : Int))).run Try.prog W = .ok (.slice (some ⟨W.heap.size, 0, none⟩) n n) (W.alloc (.cells (List.replicate n (W8 0)).toArray 5)) := by
  obtain ⟨i, hi, hz, hsize, hbytes⟩ := info_parts info8
  have hb : ((i.bytes : Int) * (n : Int)) ≤ 281474976710656 := by
    rw [hbytes]
    omega
  have hr := run_make (P := Try.prog) W 22 5 i (.int .u8 0) Try.underlying22 hi hz .i64 .i64 n n (by omega) (Int.le_refl _) hb (by omega)
  have hz1 : (Value.int .u8 0).cells = #[Value.int .u8 0] := rfl
  simp only [Int.toNat_natCast, hsize, Nat.mul_one, hz1] at hr
  have hm : madeCells #[Value.int .u8 0] n = (List.replicate n (W8 0)).toArray := by
    apply Array.toList_inj.1
    rw [toList_madeCells_one]
    rfl
  rw [hm] at hr
  exact hr
set_option maxRecDepth 100000 in
theorem seal_nought : (foldW (List.replicate 32 0) rsS (List.replicate 40 0)).getD 32 0 ≠ 0 := by decide +kernel
theorem seal_ne : ¬ wideB (List.replicate 32 0) (List.replicate 40 0) rsS = List.replicate 40 0 := by
  intro h
  rw [wideB_fit okS (by decide)] at h
  have := seal_nought
  rw [h] at this
  exact this (by decide)
set_option maxRecDepth 100000 in
set_option maxHeartbeats 1000000 in
theorem awake07 (w : World) : Calls Try.prog 12 #[] w fun e w' => e = .returned (.bool true) ∧ Later w w' := by
  have hS := hid (fun A B w h1 h2 => seal_wide A B 32 32 40 40 (List.replicate 32 0) (List.replicate 40 0) w h1 (by omega) h2 (by omega) (by omega) (by omega))
  have hE : wideE (List.replicate 32 0) (List.replicate 40 0) rsS = 0 := wideE_fit okS (by decide)
  have hB := wide_back hE
  rw [show rsS.reverse = rsO from rfl] at hB
  have hne := seal_ne
  have hO := hid (fun A B d w h1 h2 hd => open_wide A B 32 32 40 d (List.replicate 32 0) (wideB (List.replicate 32 0) (List.replicate 40 0) rsS) w h1 (by omega) h2 hd (by omega) (by omega))
  rw [hE] at hS
  rw [hB.2.1, hB.2.2] at hO
  have hXl : (wideB (List.replicate 32 0) (List.replicate 40 0) rsS).length = 40 := hB.1
  clear hB hE
  generalize wideB (List.replicate 32 0) (List.replicate 40 0) rsS = X at *
  rw [hXl] at hS
  have hZl : (List.replicate 40 (0 : UInt8)).length = 40 := rfl
  generalize hZ : List.replicate 40 (0 : UInt8) = Z at *
  rw [hZl] at hO
  have hq1 := hid (fun A B c d w h1 h2 => equal_any A B 40 40 c d Z Z w h1 h2 (by omega) (by omega))
  have hq2 := hid (fun A B c d w h1 h2 => equal_any A B 40 40 c d X Z w h1 h2 (by omega) (by omega))
  rw [decide_eq_true rfl] at hq1
  rw [decide_eq_false hne] at hq2
  clear hne
  go_enter Try.func12, Try.ntmps12
  go_wp2_with fail
  have m32 : ∀ W, (Instr.makeSlice 22 (.int .i64 32) (.int .i64 32)).run Try.prog W = .ok (.slice (some ⟨W.heap.size, 0, none⟩) 32 32) (W.alloc (.cells (List.replicate 32 (W8 0)).toArray 5)) := make_run 32 (by omega)
  have m40 : ∀ W, (Instr.makeSlice 22 (.int .i64 40) (.int .i64 40)).run Try.prog W = .ok (.slice (some ⟨W.heap.size, 0, none⟩) 40 40) (W.alloc (.cells (List.replicate 40 (W8 0)).toArray 5)) := make_run 40 (by omega)
  have HK1 : Hid (RdB ((w.alloc (.cells #[W8 0, W8 0, W8 0, W8 0, W8 0, W8 0, W8 0, W8 0, W8 0, W8 0, W8 0, W8 0, W8 0, W8 0, W8 0, W8 0, W8 0, W8 0, W8 0, W8 0, W8 0, W8 0, W8 0, W8 0, W8 0, W8 0, W8 0, W8 0, W8 0, W8 0, W8 0, W8 0] 5)).alloc (.cells #[W8 0, W8 0, W8 0, W8 0, W8 0, W8 0, W8 0, W8 0, W8 0, W8 0, W8 0, W8 0, W8 0, W8 0, W8 0, W8 0, W8 0, W8 0, W8 0, W8 0, W8 0, W8 0, W8 0, W8 0, W8 0, W8 0, W8 0, W8 0, W8 0, W8 0, W8 0, W8 0, W8 0, W8 0, W8 0, W8 0, W8 0, W8 0, W8 0, W8 0] 5)).drew (some ⟨w.heap.size, 0, none⟩) 32 (List.replicate 32 0)) := hid ((((Blk.new w 5 (List.replicate 32 (W8 0))).later (later_alloc _ _)).later (later_drew _)).rd rfl)
  have HB1 : Hid (RdB ((w.alloc (.cells #[W8 0, W8 0, W8 0, W8 0, W8 0, W8 0, W8 0, W8 0, W8 0, W8 0, W8 0, W8 0, W8 0, W8 0, W8 0, W8 0, W8 0, W8 0, W8 0, W8 0, W8 0, W8 0, W8 0, W8 0, W8 0, W8 0, W8 0, W8 0, W8 0, W8 0, W8 0, W8 0] 5)).alloc (.cells #[W8 0, W8 0, W8 0, W8 0, W8 0, W8 0, W8 0, W8 0, W8 0, W8 0, W8 0, W8 0, W8 0, W8 0, W8 0, W8 0, W8 0, W8 0, W8 0, W8 0, W8 0, W8 0, W8 0, W8 0, W8 0, W8 0, W8 0, W8 0, W8 0, W8 0, W8 0, W8 0, W8 0, W8 0, W8 0, W8 0, W8 0, W8 0, W8 0, W8 0] 5)).drew (some ⟨w.heap.size + 1, 0, none⟩) 40 Z) := hid (by
    rw [← hZ]
    exact ((Blk.new' (w.alloc (.cells (List.replicate 32 (W8 0)).toArray 5)) 5 (List.replicate 40 (W8 0)) (by simp)).later (later_drew _)).rd rfl)
  have HB2 : Hid (RdB ((w.alloc (.cells #[W8 0, W8 0, W8 0, W8 0, W8 0, W8 0, W8 0, W8 0, W8 0, W8 0, W8 0, W8 0, W8 0, W8 0, W8 0, W8 0, W8 0, W8 0, W8 0, W8 0, W8 0, W8 0, W8 0, W8 0, W8 0, W8 0, W8 0, W8 0, W8 0, W8 0, W8 0, W8 0, W8 0, W8 0, W8 0, W8 0, W8 0, W8 0, W8 0, W8 0] 5)).alloc (.cells #[W8 0, W8 0, W8 0, W8 0, W8 0, W8 0, W8 0, W8 0, W8 0, W8 0, W8 0, W8 0, W8 0, W8 0, W8 0, W8 0, W8 0, W8 0, W8 0, W8 0, W8 0, W8 0, W8 0, W8 0, W8 0, W8 0, W8 0, W8 0, W8 0, W8 0, W8 0, W8 0] 5)).drew (some ⟨w.heap.size, 0, none⟩) 40 Z) := hid (by
    rw [← hZ]
    exact (((Blk.new w 5 (List.replicate 40 (W8 0))).later (later_alloc _ _)).later (later_drew _)).rd rfl)
  have HK2 : Hid (RdB ((w.alloc (.cells #[W8 0, W8 0, W8 0, W8 0, W8 0, W8 0, W8 0, W8 0, W8 0, W8 0, W8 0, W8 0, W8 0, W8 0, W8 0, W8 0, W8 0, W8 0, W8 0, W8 0, W8 0, W8 0, W8 0, W8 0, W8 0, W8 0, W8 0, W8 0, W8 0, W8 0, W8 0, W8 0, W8 0, W8 0, W8 0, W8 0, W8 0, W8 0, W8 0, W8 0] 5)).alloc (.cells #[W8 0, W8 0, W8 0, W8 0, W8 0, W8 0, W8 0, W8 0, W8 0, W8 0, W8 0, W8 0, W8 0, W8 0, W8 0, W8 0, W8 0, W8 0, W8 0, W8 0, W8 0, W8 0, W8 0, W8 0, W8 0, W8 0, W8 0, W8 0, W8 0, W8 0, W8 0, W8 0] 5)).drew (some ⟨w.heap.size + 1, 0, none⟩) 32 (List.replicate 32 0)) :=
    hid (((Blk.new' (w.alloc (.cells (List.replicate 40 (W8 0)).toArray 5)) 5 (List.replicate 32 (W8 0)) (by simp)).later (later_drew _)).rd rfl)
  have HL1 : Hid (Later w ((w.alloc (.cells #[W8 0, W8 0, W8 0, W8 0, W8 0, W8 0, W8 0, W8 0, W8 0, W8 0, W8 0, W8 0, W8 0, W8 0, W8 0, W8 0, W8 0, W8 0, W8 0, W8 0, W8 0, W8 0, W8 0, W8 0, W8 0, W8 0, W8 0, W8 0, W8 0, W8 0, W8 0, W8 0] 5)).alloc (.cells #[W8 0, W8 0, W8 0, W8 0, W8 0, W8 0, W8 0, W8 0, W8 0, W8 0, W8 0, W8 0, W8 0, W8 0, W8 0, W8 0, W8 0, W8 0, W8 0, W8 0, W8 0, W8 0, W8 0, W8 0, W8 0, W8 0, W8 0, W8 0, W8 0, W8 0, W8 0, W8 0, W8 0, W8 0, W8 0, W8 0, W8 0, W8 0, W8 0, W8 0] 5)).drew) := hid (((later_alloc _ _).trans (later_alloc _ _)).trans (later_drew _))
  have HL2 : Hid (Later w ((w.alloc (.cells #[W8 0, W8 0, W8 0, W8 0, W8 0, W8 0, W8 0, W8 0, W8 0, W8 0, W8 0, W8 0, W8 0, W8 0, W8 0, W8 0, W8 0, W8 0, W8 0, W8 0, W8 0, W8 0, W8 0, W8 0, W8 0, W8 0, W8 0, W8 0, W8 0, W8 0, W8 0, W8 0, W8 0, W8 0, W8 0, W8 0, W8 0, W8 0, W8 0, W8 0] 5)).alloc (.cells #[W8 0, W8 0, W8 0, W8 0, W8 0, W8 0, W8 0, W8 0, W8 0, W8 0, W8 0, W8 0, W8 0, W8 0, W8 0, W8 0, W8 0, W8 0, W8 0, W8 0, W8 0, W8 0, W8 0, W8 0, W8 0, W8 0, W8 0, W8 0, W8 0, W8 0, W8 0, W8 0] 5)).drew) := hid (((later_alloc _ _).trans (later_alloc _ _)).trans (later_drew _))
  clear hZ
  go_region_with (fail)
  · go_wp2_with fail
    (with_reducible refine (hS.out (some ⟨w.heap.size, 0, none⟩) (some ⟨w.heap.size + 1, 0, none⟩) _ HK1.out HB1.out).mono ?_)
    rintro e w3 ⟨j3, A3, c3, rfl, ho3⟩
    have hk3 := HK1.out.later j3
    have hb3 := HB1.out.later j3
    have L3 := HL1.out.trans j3
    go_wp2_with fail
    (with_reducible refine (hO.out (some ⟨w.heap.size, 0, none⟩) A3 c3 _ hk3 ho3.rd ho3.cap).mono ?_)
    rintro e w4 ⟨j4, A4, c4, rfl, ho4⟩
    go_wp2_with fail
    (with_reducible refine (hq1.out A4 (some ⟨w.heap.size + 1, 0, none⟩) _ _ _ ho4.rd (hb3.later j4)).mono ?_)
    rintro e w5 ⟨rfl, j5⟩
    go_wp2_with fail
    (with_reducible refine (hq2.out A3 (some ⟨w.heap.size + 1, 0, none⟩) _ _ _ (ho3.later (j4.trans j5)).rd (hb3.later (j4.trans j5))).mono ?_)
    rintro e w6 ⟨rfl, j6⟩
    go_wp2_with fail
    go_ret
    exact ⟨by simp, L3.trans ((j4.trans j5).trans j6)⟩
  · go_wp2_with fail
    (with_reducible refine (hS.out (some ⟨w.heap.size + 1, 0, none⟩) (some ⟨w.heap.size, 0, none⟩) _ HK2.out HB2.out).mono ?_)
    rintro e w3 ⟨j3, A3, c3, rfl, ho3⟩
    have hk3 := HK2.out.later j3
    have hb3 := HB2.out.later j3
    have L3 := HL2.out.trans j3
    go_wp2_with fail
    (with_reducible refine (hO.out (some ⟨w.heap.size + 1, 0, none⟩) A3 c3 _ hk3 ho3.rd ho3.cap).mono ?_)
    rintro e w4 ⟨j4, A4, c4, rfl, ho4⟩
    go_wp2_with fail
    (with_reducible refine (hq1.out A4 (some ⟨w.heap.size, 0, none⟩) _ _ _ ho4.rd (hb3.later j4)).mono ?_)
    rintro e w5 ⟨rfl, j5⟩
    go_wp2_with fail
    (with_reducible refine (hq2.out A3 (some ⟨w.heap.size, 0, none⟩) _ _ _ (ho3.later (j4.trans j5)).rd (hb3.later (j4.trans j5))).mono ?_)
    rintro e w6 ⟨rfl, j6⟩
    go_wp2_with fail
    go_ret
    exact ⟨by simp, L3.trans ((j4.trans j5).trans j6)⟩
end Go.Proofs.Ytjohieongjnemaa
