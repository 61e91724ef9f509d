/-
  shallotref04: left, Quarter, words.
  shallotref04: Quarter.
  shallotref01.Put with the least byte first, four bytes; what the twin's Block keeps.
  shallotref04: Block.
  shallotref04: Bytes; shallotref01: Xor of two.
-/
import Derived.Test.YtdojjnbpidogfaaGreatChaP
import Derived.Test.YtdojjnbpidogfaaGreatFMid
import Derived.Test.YtdojjnbpidogfaaGreatCanP
namespace Go.Proofs.YtdojjnbpidogfaaGreat
open Go.RowKit
open Go.BigFrame

theorem byteW (x : UInt8) : x.toUInt32.toNat = x.toNat := by simp
theorem shlW (x : UInt8) (n : Nat) (h : n ≤ 24) : (shl32 x.toUInt32 n).toNat = 2 ^ n * x.toNat := by
  have hx := x.toNat_lt
  show (x.toUInt32.toBitVec <<< n).toNat = _
  rw [BitVec.toNat_shiftLeft, Nat.shiftLeft_eq, Nat.mod_eq_of_lt]
  · rw [Nat.mul_comm]
    congr 1
  · have e : x.toUInt32.toBitVec.toNat = x.toNat := byteW x
    rw [e]
    have : 2 ^ n ≤ 2 ^ 24 := Nat.pow_le_pow_right (by omega) h
    calc x.toNat * 2 ^ n ≤ x.toNat * 2 ^ 24 := Nat.mul_le_mul_left _ this
      _ < 2 ^ 32 := by omega
theorem orW (a b : Nat) (i : Nat) (h : b < 2 ^ i) : b ||| 2 ^ i * a = b + 2 ^ i * a := by
  rw [Nat.or_comm, ← Nat.two_pow_add_eq_or_of_lt h, Nat.add_comm]
theorem leW_nat (bs : List UInt8) (k : Nat) (h : 4 * k + 4 ≤ bs.length) : (leW bs k).toNat = quad bs k 4 := by
  rw [quad_succ bs k 3 (by omega), quad_succ bs k 2 (by omega), quad_succ bs k 1 (by omega), quad_succ bs k 0 (by omega), show quad bs k 0 = 0 from by rw [quad]; rfl]
  unfold leW byteAt
  rw [Nat.add_zero]
  generalize bs.getD (4 * k) 0 = x0
  generalize bs.getD (4 * k + 1) 0 = x1
  generalize bs.getD (4 * k + 2) 0 = x2
  generalize bs.getD (4 * k + 3) 0 = x3
  have b0 := x0.toNat_lt
  have b1 := x1.toNat_lt
  have b2 := x2.toNat_lt
  have b3 := x3.toNat_lt
  rw [UInt32.toNat_or, UInt32.toNat_or, UInt32.toNat_or, byteW, shlW _ _ (by omega), shlW _ _ (by omega), shlW _ _ (by omega), orW _ _ 8 (by omega), orW _ _ 16 (by omega), orW _ _ 24 (by omega)]
  omega
theorem leW_n32 (bs : List UInt8) (k : Nat) (h : 4 * k + 4 ≤ bs.length) : n32 (quad bs k 4) = W32 (leW bs k) := by
  rw [← leW_nat bs k h, n32]
  congr 1
  simp
set_option maxHeartbeats 400000 in
theorem left_any (x : UInt32) (n : Nat) (h0 : n ≤ 32) (w : World) :
    Calls Tryz.prog 158 #[W32 x, .int .i64 n] w fun e w' => e = .returned (W32 (rotl x n)) ∧ Later w w' := by
  go_enter Tryz.func158, Tryz.ntmps158
  go_wp2
  refine wp_region_parts [] [0,1,2,3,4,5,6,7,8] [] (by as_aux_lemma => kernel_rfl) (by as_aux_lemma => kernel_rfl) (by intro _ _ d _ _ h; cases d <;> exact h) ?_
  simp only [wpParts, pick, List.getElem?_cons_succ, List.getElem?_cons_zero, Option.toList_some, List.cons_append, List.nil_append]
  repeat (go_big_quiet_step (fail))
  refine wpQuiet_nil ?_
  go_wp2
  go_ret
  exact ret_w32' rfl _ (later_drew _)
theorem left_at (x : UInt32) (n : Nat) (i : Int) (hi : i = (n : Int)) (h0 : n ≤ 32) (w : World) :
    Calls Tryz.prog 158 #[W32 x, .int .i64 i] w fun e w' => e = .returned (W32 (rotl x n)) ∧ Later w w' := by
  subst hi
  exact left_any x n h0 w
theorem infoW : (Tryz.prog.info? 24).map (fun i => (i.zero, i.size, i.bytes)) = some (some (.int .u32 0), 1, 4) := by kernel_rfl
/-- The words of a list of bytes. -/
def wordsL (bs : List UInt8) (k : Nat) : List UInt32 := (List.range k).map (leW bs)
set_option maxHeartbeats 2000000 in
set_option maxRecDepth 100000 in
theorem words_any (A : Option Addr) (n c K : Nat) (bs : List UInt8) (w : World) (hr : RdB w A n bs) (hn : n = 4 * K) (hK : K ≤ 1048576) :
    Calls Tryz.prog 137 #[.slice A n c] w fun e w' => ∃ A' c', e = .returned (.slice A' K c') ∧ w'.ownsRow w.heap.size 24 1 (.slice A' K c') K ((wordsL bs K).map W32) ∧ Later w w' := by
  have hbl := hr.len
  have hnb : n ≤ 140737488355328 := by omega
  replace hn := hid hn
  have hg := hid (fun k (w' : World) (hl : Later w w') hk => get_any A n c bs k w' (hr.later hl) hk hnb)
  have hq := hid (fun k hk => leW_n32 bs k hk)
  have hs := hid (fun k => show (wordsL bs (k + 1)).map W32 = (wordsL bs k).map W32 ++ [W32 (leW bs k)] by simp [wordsL, List.range_succ])
  go_enter Tryz.func137, Tryz.ntmps137
  go_wp2_with fail
  go_loopw [3, 4] (fun v i wr => ∃ (k : Nat) (A' : Option Addr) (c' : Nat), k ≤ K ∧ i = .int .i64 (4 * (k : Int)) ∧ v = .slice A' k c' ∧ wr.ownsRow w.heap.size 24 1 (.slice A' k c') k ((wordsL bs k).map W32) ∧ Later w wr) (fun _ i _ => 4 * K - (intOf i).toNat)
  case atStart => exact ⟨0, none, 0, by omega, rfl, rfl, World.ownsRow_nil w _ _ 1, Later.refl w⟩
  case round =>
    obtain ⟨k, A1, c1, hk, rfl, rfl, hown, L⟩ := hrel
    by_cases hlt : k < K
    · have hcmp : 4 * (k : Int) + 3 < (n : Int) := by have := hn.out; omega
      have HS := hid (hs.out k)
      go_wp2_with fail
      (refine (hg.out k _ L (by have := hn.out; omega)).mono ?_); rintro e w2 ⟨rfl, j2⟩
      have HQ := hid (hq.out k (by have := hn.out; omega))
      generalize quad bs k 4 = Q at *
      have J := later_alloc w2 (.cells #[n32 Q] 24)
      go_wp2_with (first
        | (refine wpList_append_rd rfl _ _ _ rfl 24 _ 4 Tryz.underlying224 infoW rfl w _ k _ ((own_later hown j2 |> fun h => own_later h J)) ((L.trans j2).trans J) _ 1 1 _ ((Blk.new w2 24 [n32 Q]).rd rfl) (by intro u hu; rw [List.mem_singleton.1 hu]; rfl) rfl rfl (by omega) (by omega) ?_; intro A3 c3 w3 hown3 hl3 hg3 _)
        | fail)
      rw [HQ.out, ← HS.out] at hown3
      go_roundw
      case rel => exact ⟨k + 1, A3, c3, by omega, by go_num, rfl, hown3, hl3⟩
      case measure => simp [intOf]; omega
    · obtain rfl : K = k := by omega
      have hcmp : ¬ 4 * (K : Int) + 3 < (n : Int) := by have := hn.out; omega
      go_wp2_with fail
      go_ret
      exact ⟨_, _, rfl, hown, L⟩
end Go.Proofs.YtdojjnbpidogfaaGreat
namespace Go.Proofs.YtdojjnbpidogfaaGreat
open Go.RowKit
open Go.BigFrame

/-- Behind k half rounds. -/
def qSt (v : UInt32 × UInt32 × UInt32 × UInt32) : Nat → UInt32 × UInt32 × UInt32 × UInt32
  | 0 => v
  | 1 => halfE v 16
  | 2 => halfO (halfE v 16) 12
  | 3 => halfE (halfO (halfE v 16) 12) 8
  | _ => halfO (halfE (halfO (halfE v 16) 12) 8) 7
def qL (v : UInt32 × UInt32 × UInt32 × UInt32) : List UInt32 := [v.1, v.2.1, v.2.2.1, v.2.2.2]
theorem size_4w : (Tryz.prog.info? 228).map (·.size) = some 4 := by kernel_rfl
set_option maxRecDepth 100000 in
set_option maxHeartbeats 4000000 in
theorem quarterR_any (v : UInt32 × UInt32 × UInt32 × UInt32) (w : World) :
    Calls Tryz.prog 138 #[.agg ((qL v).map W32).toArray] w fun e w' => e = .returned (.agg ((qL (quart v.1 v.2.1 v.2.2.1 v.2.2.2)).map W32).toArray) ∧ Later w w' := by
  have hQ := hid (show quart v.1 v.2.1 v.2.2.1 v.2.2.2 = qSt v 4 from rfl)
  have q1 := hid (show qSt v 1 = halfE (qSt v 0) 16 from rfl)
  have q2 := hid (show qSt v 2 = halfO (qSt v 1) 12 from rfl)
  have q3 := hid (show qSt v 3 = halfE (qSt v 2) 8 from rfl)
  have q4 := hid (show qSt v 4 = halfO (qSt v 3) 7 from rfl)
  have q0 : Hid (qSt v 0 = v) := hid rfl
  generalize quart v.1 v.2.1 v.2.2.1 v.2.2.2 = R at *
  have hle := hid left_at
  go_enter Tryz.func138, Tryz.ntmps138
  go_wp2_with fail
  have B0 := ((bag_new w 228 ((qL v).map W32)).fresh (later_alloc _ (.cells (List.replicate 4 (Value.int .u32 0)).toArray 228)) (Nat.le_refl _) (Blk.new _ _ _)).fresh (later_alloc _ (.cells [Value.int .i64 16, .int .i64 12, .int .i64 8, .int .i64 7].toArray 226)) (Nat.le_refl _) (Blk.new _ _ _)
  have e1 : (w.alloc (.cells ((qL v).map W32).toArray 228)).heap.size = w.heap.size + 1 := by simp
  have e2 : ((w.alloc (.cells ((qL v).map W32).toArray 228)).alloc (.cells (List.replicate 4 (Value.int .u32 0)).toArray 228)).heap.size = w.heap.size + 1 + 1 := by simp
  rw [e1, e2] at B0
  clear e1 e2
  generalize hg1 : w.heap.size = g1 at *
  generalize hg2 : g1 + 1 = g2 at *
  generalize hg3 : g2 + 1 = g3 at *
  clear hg1 hg2 hg3
  go_loopw [4] (fun i wr => ∃ k : Nat, k ≤ 4 ∧ i = .int .i64 k ∧ Bag w wr [(g3, 226, [.int .i64 16, .int .i64 12, .int .i64 8, .int .i64 7]), (g2, 228, List.replicate 4 (.int .u32 0)), (g1, 228, (qL (qSt v k)).map W32)]) (fun i _ => 4 - (intOf i).toNat)
  case atStart => exact ⟨0, by omega, rfl, by rw [q0.out]; exact B0⟩
  case round =>
    clear B0
    obtain ⟨k, hk, rfl, B⟩ := hrel
    by_cases hlt : k < 4
    · have hk4 : k = 0 ∨ k = 1 ∨ k = 2 ∨ k = 3 := by omega
      clear hk hlt
      rcases hk4 with rfl | rfl | rfl | rfl
      · have Q := hid (q1.out)
        generalize qSt v 0 = s at *
        generalize hs' : qSt v (0 + 1) = s' at *
        replace hs' := hid hs'
        obtain ⟨a, b, c, d⟩ := s
        have c0 := (B.nth 2 rfl).cellD 0 rfl
        have c1 := (B.nth 2 rfl).cellD 1 rfl
        dsimp only [qL] at c0 c1
        go_wp2_with (first
          | (refine wpList_store_in rfl rfl _ _ _ rfl g1 0 _ _ (B.nth 2 rfl) rfl (by simp [qL]) rfl size_u32 ?_; intro v' w5 hv' hb5 ho5; simp [go_sem] at hv'; subst hv')
          | fail)
        have B5 : Bag w w5.drew [(g3, 226, [.int .i64 16, .int .i64 12, .int .i64 8, .int .i64 7]), (g2, 228, List.replicate 4 (.int .u32 0)), (g1, 228, [W32 (a + b), W32 b, W32 c, W32 d])] := (B.write 2 rfl ho5 hb5).drew
        have ct := (B5.nth 0 rfl).cellD 0 rfl
        have d0 := (B5.nth 2 rfl).cellD 0 rfl
        have d3 := (B5.nth 2 rfl).cellD 3 rfl
        clear c0 c1 hb5 ho5 B
        refine wp_region_parts [([0, 1, 2, 3, 4, 5, 6, 7], 8)] [9] [10] (by as_aux_lemma => kernel_rfl) (by as_aux_lemma => kernel_rfl) (by intro _ _ d _ _ h; cases d <;> exact h) ?_
        simp only [wpParts, pick, List.getElem?_cons_succ, List.getElem?_cons_zero, Option.toList_some, List.cons_append, List.nil_append]
        repeat (go_big_quiet_step (fail))
        refine wpQuiet_nil ?_
        go_wp2_with fail
        (refine (hle.out _ 16 _ rfl (by omega) _).mono ?_); rintro e w6 ⟨rfl, j6⟩
        have B6 := B5.later j6
        clear B5 d0 d3 ct
        go_wp2_with fail
        try refine ⟨by first | assumption | exact later_drew _ | exact later_alloc _ _ | exact Later.refl _, ?_⟩
        try simp only [wpParts, pick, List.getElem?_cons_succ, List.getElem?_cons_zero, Option.toList_some, List.cons_append, List.nil_append]
        repeat (go_big_quiet_step (fail))
        refine wpQuiet_nil ?_
        go_wp2_with (first
          | (refine wpList_store_in rfl rfl _ _ _ rfl g1 3 _ _ (B6.nth 2 rfl) rfl (by simp) rfl size_u32 ?_; intro v' w7 hv' hb7 ho7; simp [go_sem] at hv'; subst hv')
          | fail)
        go_roundw
        case rel => exact ⟨0 + 1, by omega, by go_num, by rw [hs'.out, Q.out]; exact B6.write 2 rfl ho7 hb7⟩
        case measure => simp [intOf]; try omega
      · have Q := hid (q2.out)
        generalize qSt v 1 = s at *
        generalize hs' : qSt v (1 + 1) = s' at *
        replace hs' := hid hs'
        obtain ⟨a, b, c, d⟩ := s
        have c0 := (B.nth 2 rfl).cellD 2 rfl
        have c1 := (B.nth 2 rfl).cellD 3 rfl
        dsimp only [qL] at c0 c1
        go_wp2_with (first
          | (refine wpList_store_in rfl rfl _ _ _ rfl g1 2 _ _ (B.nth 2 rfl) rfl (by simp [qL]) rfl size_u32 ?_; intro v' w5 hv' hb5 ho5; simp [go_sem] at hv'; subst hv')
          | fail)
        have B5 : Bag w w5.drew [(g3, 226, [.int .i64 16, .int .i64 12, .int .i64 8, .int .i64 7]), (g2, 228, List.replicate 4 (.int .u32 0)), (g1, 228, [W32 a, W32 b, W32 (c + d), W32 d])] := (B.write 2 rfl ho5 hb5).drew
        have ct := (B5.nth 0 rfl).cellD 1 rfl
        have d0 := (B5.nth 2 rfl).cellD 1 rfl
        have d3 := (B5.nth 2 rfl).cellD 2 rfl
        clear c0 c1 hb5 ho5 B
        refine wp_region_parts [([0, 1, 2, 3, 4, 5, 6, 7], 8)] [9] [10] (by as_aux_lemma => kernel_rfl) (by as_aux_lemma => kernel_rfl) (by intro _ _ d _ _ h; cases d <;> exact h) ?_
        simp only [wpParts, pick, List.getElem?_cons_succ, List.getElem?_cons_zero, Option.toList_some, List.cons_append, List.nil_append]
        repeat (go_big_quiet_step (fail))
        refine wpQuiet_nil ?_
        go_wp2_with fail
        (refine (hle.out _ 12 _ rfl (by omega) _).mono ?_); rintro e w6 ⟨rfl, j6⟩
        have B6 := B5.later j6
        clear B5 d0 d3 ct
        go_wp2_with fail
        try refine ⟨by first | assumption | exact later_drew _ | exact later_alloc _ _ | exact Later.refl _, ?_⟩
        try simp only [wpParts, pick, List.getElem?_cons_succ, List.getElem?_cons_zero, Option.toList_some, List.cons_append, List.nil_append]
        repeat (go_big_quiet_step (fail))
        refine wpQuiet_nil ?_
        go_wp2_with (first
          | (refine wpList_store_in rfl rfl _ _ _ rfl g1 1 _ _ (B6.nth 2 rfl) rfl (by simp) rfl size_u32 ?_; intro v' w7 hv' hb7 ho7; simp [go_sem] at hv'; subst hv')
          | fail)
        go_roundw
        case rel => exact ⟨1 + 1, by omega, by go_num, by rw [hs'.out, Q.out]; exact B6.write 2 rfl ho7 hb7⟩
        case measure => simp [intOf]; try omega
      · have Q := hid (q3.out)
        generalize qSt v 2 = s at *
        generalize hs' : qSt v (2 + 1) = s' at *
        replace hs' := hid hs'
        obtain ⟨a, b, c, d⟩ := s
        have c0 := (B.nth 2 rfl).cellD 0 rfl
        have c1 := (B.nth 2 rfl).cellD 1 rfl
        dsimp only [qL] at c0 c1
        go_wp2_with (first
          | (refine wpList_store_in rfl rfl _ _ _ rfl g1 0 _ _ (B.nth 2 rfl) rfl (by simp [qL]) rfl size_u32 ?_; intro v' w5 hv' hb5 ho5; simp [go_sem] at hv'; subst hv')
          | fail)
        have B5 : Bag w w5.drew [(g3, 226, [.int .i64 16, .int .i64 12, .int .i64 8, .int .i64 7]), (g2, 228, List.replicate 4 (.int .u32 0)), (g1, 228, [W32 (a + b), W32 b, W32 c, W32 d])] := (B.write 2 rfl ho5 hb5).drew
        have ct := (B5.nth 0 rfl).cellD 2 rfl
        have d0 := (B5.nth 2 rfl).cellD 0 rfl
        have d3 := (B5.nth 2 rfl).cellD 3 rfl
        clear c0 c1 hb5 ho5 B
        refine wp_region_parts [([0, 1, 2, 3, 4, 5, 6, 7], 8)] [9] [10] (by as_aux_lemma => kernel_rfl) (by as_aux_lemma => kernel_rfl) (by intro _ _ d _ _ h; cases d <;> exact h) ?_
        simp only [wpParts, pick, List.getElem?_cons_succ, List.getElem?_cons_zero, Option.toList_some, List.cons_append, List.nil_append]
        repeat (go_big_quiet_step (fail))
        refine wpQuiet_nil ?_
        go_wp2_with fail
        (refine (hle.out _ 8 _ rfl (by omega) _).mono ?_); rintro e w6 ⟨rfl, j6⟩
        have B6 := B5.later j6
        clear B5 d0 d3 ct
        go_wp2_with fail
        try refine ⟨by first | assumption | exact later_drew _ | exact later_alloc _ _ | exact Later.refl _, ?_⟩
        try simp only [wpParts, pick, List.getElem?_cons_succ, List.getElem?_cons_zero, Option.toList_some, List.cons_append, List.nil_append]
        repeat (go_big_quiet_step (fail))
        refine wpQuiet_nil ?_
        go_wp2_with (first
          | (refine wpList_store_in rfl rfl _ _ _ rfl g1 3 _ _ (B6.nth 2 rfl) rfl (by simp) rfl size_u32 ?_; intro v' w7 hv' hb7 ho7; simp [go_sem] at hv'; subst hv')
          | fail)
        go_roundw
        case rel => exact ⟨2 + 1, by omega, by go_num, by rw [hs'.out, Q.out]; exact B6.write 2 rfl ho7 hb7⟩
        case measure => simp [intOf]; try omega
      · have Q := hid (q4.out)
        generalize qSt v 3 = s at *
        generalize hs' : qSt v (3 + 1) = s' at *
        replace hs' := hid hs'
        obtain ⟨a, b, c, d⟩ := s
        have c0 := (B.nth 2 rfl).cellD 2 rfl
        have c1 := (B.nth 2 rfl).cellD 3 rfl
        dsimp only [qL] at c0 c1
        go_wp2_with (first
          | (refine wpList_store_in rfl rfl _ _ _ rfl g1 2 _ _ (B.nth 2 rfl) rfl (by simp [qL]) rfl size_u32 ?_; intro v' w5 hv' hb5 ho5; simp [go_sem] at hv'; subst hv')
          | fail)
        have B5 : Bag w w5.drew [(g3, 226, [.int .i64 16, .int .i64 12, .int .i64 8, .int .i64 7]), (g2, 228, List.replicate 4 (.int .u32 0)), (g1, 228, [W32 a, W32 b, W32 (c + d), W32 d])] := (B.write 2 rfl ho5 hb5).drew
        have ct := (B5.nth 0 rfl).cellD 3 rfl
        have d0 := (B5.nth 2 rfl).cellD 1 rfl
        have d3 := (B5.nth 2 rfl).cellD 2 rfl
        clear c0 c1 hb5 ho5 B
        refine wp_region_parts [([0, 1, 2, 3, 4, 5, 6, 7], 8)] [9] [10] (by as_aux_lemma => kernel_rfl) (by as_aux_lemma => kernel_rfl) (by intro _ _ d _ _ h; cases d <;> exact h) ?_
        simp only [wpParts, pick, List.getElem?_cons_succ, List.getElem?_cons_zero, Option.toList_some, List.cons_append, List.nil_append]
        repeat (go_big_quiet_step (fail))
        refine wpQuiet_nil ?_
        go_wp2_with fail
        (refine (hle.out _ 7 _ rfl (by omega) _).mono ?_); rintro e w6 ⟨rfl, j6⟩
        have B6 := B5.later j6
        clear B5 d0 d3 ct
        go_wp2_with fail
        try refine ⟨by first | assumption | exact later_drew _ | exact later_alloc _ _ | exact Later.refl _, ?_⟩
        try simp only [wpParts, pick, List.getElem?_cons_succ, List.getElem?_cons_zero, Option.toList_some, List.cons_append, List.nil_append]
        repeat (go_big_quiet_step (fail))
        refine wpQuiet_nil ?_
        go_wp2_with (first
          | (refine wpList_store_in rfl rfl _ _ _ rfl g1 1 _ _ (B6.nth 2 rfl) rfl (by simp) rfl size_u32 ?_; intro v' w7 hv' hb7 ho7; simp [go_sem] at hv'; subst hv')
          | fail)
        go_roundw
        case rel => exact ⟨3 + 1, by omega, by go_num, by rw [hs'.out, Q.out]; exact B6.write 2 rfl ho7 hb7⟩
        case measure => simp [intOf]; try omega
    · obtain rfl : 4 = k := by omega
      rw [← hQ.out] at B
      obtain ⟨ra, rb, rc, rd⟩ := R
      have c0 := (B.nth 2 rfl).cellD 0 rfl
      have c1 := (B.nth 2 rfl).cellD 1 rfl
      have c2 := (B.nth 2 rfl).cellD 2 rfl
      have c3 := (B.nth 2 rfl).cellD 3 rfl
      dsimp only [qL] at c0 c1 c2 c3
      go_wp2_with (first
        | (refine wpList_store_agg rfl rfl 228 _ _ rfl g2 0 _ _ [W32 ra, W32 rb, W32 rc, W32 rd] (B.nth 1 rfl) rfl rfl size_4w (by simp) ?_ ?_; (intro u hu; simp at hu; rcases hu with rfl | rfl | rfl | rfl <;> rfl); intro w9 hb9 ho9; rw [spliced_all _ _ (by simp)] at hb9)
        | fail)
      exact bodyPost_ret (results_blk rfl _ _ _ _ _ _ hb9 rfl Tryz.underlying228 rfl size_4w) rfl ⟨rfl, B.lat.only ho9 (B.at_low 1 rfl)⟩
end Go.Proofs.YtdojjnbpidogfaaGreat
namespace Go.Proofs.YtdojjnbpidogfaaGreat
open Go.RowKit
open Go.BigFrame

def putA (n : UInt64) (k : Nat) : List UInt8 := (List.range k).map (fun j => (divk n j % 256).toUInt8) ++ List.replicate (4 - k) 0
theorem putA_length (n : UInt64) (k : Nat) (h : k ≤ 4) : (putA n k).length = 4 := by simp [putA]; omega
theorem putA_step (n : UInt64) (k : Nat) (hk : k < 4) : (putA n k).set k (divk n k % 256).toUInt8 = putA n (k + 1) := by
  have := fill_step (0 : UInt8) [] (fun j => (divk n j % 256).toUInt8) k 4 hk
  simpa [putA] using this
theorem divk_nat (n : UInt64) : ∀ k, (divk n k).toNat = n.toNat / 256 ^ k
  | 0 => by simp [divk]
  | k + 1 => by
    have h : divk n (k + 1) = divk n k / 256 := rfl
    rw [h, UInt64.toNat_div, divk_nat n k, Nat.div_div_eq_div_mul, Nat.pow_succ]
    rfl
theorem putA_le4 (x : UInt32) : putA x.toUInt64 4 = le4 x := by
  have hx := x.toNat_lt
  have key : ∀ j, j < 4 → (divk x.toUInt64 j % 256).toUInt8 = (shr32 x (8 * j)).toUInt8 := by
    intro j hj
    apply UInt8.toNat_inj.1
    have e : (shr32 x (8 * j)).toNat = x.toNat / 2 ^ (8 * j) := by
      show (x.toBitVec >>> (8 * j)).toNat = _
      rw [BitVec.toNat_ushiftRight, Nat.shiftRight_eq_div_pow]
      rfl
    rw [UInt64.toNat_toUInt8, UInt32.toNat_toUInt8, UInt64.toNat_mod, divk_nat, e, UInt32.toNat_toUInt64, Nat.pow_mul]
    exact Nat.mod_mod_of_dvd _ (by decide)
  have k0 := key 0 (by omega)
  have k1 := key 1 (by omega)
  have k2 := key 2 (by omega)
  have k3 := key 3 (by omega)
  have e0 : shr32 x (8 * 0) = x := by
    apply UInt32.toBitVec_inj.1
    show x.toBitVec >>> 0 = x.toBitVec
    simp
  rw [e0] at k0
  show [(divk x.toUInt64 0 % 256).toUInt8, (divk x.toUInt64 1 % 256).toUInt8, (divk x.toUInt64 2 % 256).toUInt8, (divk x.toUInt64 3 % 256).toUInt8] ++ [] = _
  rw [k0, k1, k2, k3]
  rfl
theorem divk_4 (x : UInt32) : divk x.toUInt64 4 = 0 := by
  apply UInt64.toNat_inj.1
  have := x.toNat_lt
  rw [divk_nat, UInt32.toNat_toUInt64]
  exact Nat.div_eq_of_lt (by omega)
set_option maxRecDepth 100000 in
set_option maxHeartbeats 1000000 in
theorem put_14 (x : UInt32) (w : World) : Calls Tryz.prog 139 #[.int .i64 1, .int .i64 4, W64 x.toUInt64] w fun e w' =>
    ∃ A c, e = .returned (.tuple #[.slice A 4 c, .int .i64 0]) ∧ OwnB w' w.heap.size A 4 c (le4 x) ∧ Later w w' := by
  have D4 := hid (divk_4 x)
  have hE := hid (putA_le4 x)
  generalize x.toUInt64 = n at *
  go_enter Tryz.func139, Tryz.ntmps139
  go_wp2_with (first
    | (go_at_call 132; refine (shape_ok 1 4 (by omega) (by omega) (by omega) _).mono ?_; rintro e w' ⟨rfl, rfl⟩)
    | (refine wpList_make_n rfl _ _ _ rfl 5 _ 1 Tryz.underlying22 info8 rfl _ _ _ _ 4 rfl rfl ?hL ?hC (by omega) (by omega) ?_; (case hL => rfl); (case hC => rfl); intro w1 hb1 hl1))
  go_loopw [2, 9] (fun t i wr => ∃ k : Nat, k ≤ 4 ∧ i = .int .i64 k ∧ t = W64 (divk n k) ∧ Later w wr ∧ Blk wr w.heap.size 5 ((putA n k).map W8)) (fun _ i _ => 4 - (intOf i).toNat)
  case atStart => exact ⟨0, by omega, rfl, rfl, hl1, hb1⟩
  case round =>
    clear hl1 hb1
    obtain ⟨k, hk, rfl, rfl, hl, hb⟩ := hrel
    by_cases hlt : k < 4
    · have hlen := putA_length n k hk
      have d0 := hb.cellD k (List.getElem?_eq_getElem (by simp; omega))
      have d1 := hb.frozen k
      generalize ((putA n k).map W8)[k]'_ = old at d0
      go_wp2_with (refine wpList_store_one rfl rfl _ _ _ rfl _ rfl rfl (by kernel_rfl) ?sc ?sf ?_; (case sc => go_simp; done); (case sf => first | assumption | (go_simp; done)); intro v hv; simp [go_sem] at hv; subst hv)
      go_roundw
      case rel =>
        refine ⟨k + 1, by omega, by go_num, rfl, hl.setCell (Nat.le_refl _) _, ?_⟩
        rw [← putA_step n k hlt, ← map_set8]
        exact hb.set_ k _
      case measure => simp [intOf]; omega
    · have hk4 : k = 4 := by omega
      rw [hk4] at hb
      rw [hk4, D4.out]
      rw [hE.out] at hb
      go_wp2
      go_ret2
      refine ⟨_, _, rfl, ?_, hl⟩
      exact own_of_blk hb (Nat.le_refl _) (by simp [le4])
theorem put_14' (x : UInt32) (y : UInt64) (h : y = x.toUInt64) (w : World) : Calls Tryz.prog 139 #[.int .i64 1, .int .i64 4, W64 y] w fun e w' =>
    ∃ A c, e = .returned (.tuple #[.slice A 4 c, .int .i64 0]) ∧ OwnB w' w.heap.size A 4 c (le4 x) ∧ Later w w' := by
  subst h
  exact put_14 x w
end Go.Proofs.YtdojjnbpidogfaaGreat
namespace Go.Proofs.YtdojjnbpidogfaaGreat
open Go.RowKit
open Go.BigFrame

def chaK : List UInt8 := [101, 120, 112, 97, 110, 100, 32, 51, 50, 45, 98, 121, 116, 101, 32, 107]
theorem chaK_words : wordsL chaK 4 = chaC := by decide +kernel
/-- The places of a round. -/
def plc (r j : Nat) : Nat := ([0, 4, 8, 12, 1, 5, 9, 13, 2, 6, 10, 14, 3, 7, 11, 15, 0, 5, 10, 15, 1, 6, 11, 12, 2, 7, 8, 13, 3, 4, 9, 14] : List Nat).getD (r * 4 + j) 0
def plcV : List Value := ([0, 4, 8, 12, 1, 5, 9, 13, 2, 6, 10, 14, 3, 7, 11, 15, 0, 5, 10, 15, 1, 6, 11, 12, 2, 7, 8, 13, 3, 4, 9, 14] : List Nat).map fun (n : Nat) => .int .i64 (n : Int)
theorem plcV_get (r j : Nat) (h : r < 8) (hj : j < 4) : plcV[r * 4 + j]? = some (.int .i64 (plc r j : Int)) := by
  have : r * 4 + j < 32 := by omega
  rw [plcV, List.getElem?_map, plc, List.getD_eq_getElem?_getD, List.getElem?_eq_getElem (by simpa using this)]
  rfl
theorem plc_lt (r j : Nat) (h : r < 8) (hj : j < 4) : plc r j < 16 := by
  have : ∀ r : Fin 8, ∀ j : Fin 4, plc r.val j.val < 16 := by decide
  exact this ⟨r, h⟩ ⟨j, hj⟩
/-- Behind k quarters. -/
def stR (s : List UInt32) : Nat → List UInt32
  | 0 => s
  | k + 1 => roundL (stR s k) (plc (k % 8) 0) (plc (k % 8) 1) (plc (k % 8) 2) (plc (k % 8) 3)
theorem stR_length (s : List UInt32) : ∀ k, (stR s k).length = s.length
  | 0 => rfl
  | k + 1 => by rw [stR, roundL_length, stR_length s k]
theorem stR_dbl (s : List UInt32) (k : Nat) : stR s (8 * (k + 1)) = dbl (stR s (8 * k)) := by
  rw [show 8 * (k + 1) = 8 * k + 7 + 1 by omega, stR, stR, stR, stR, stR, stR, stR, stR]
  rw [show (8 * k + 7) % 8 = 7 by omega, show (8 * k + 6) % 8 = 6 by omega, show (8 * k + 5) % 8 = 5 by omega, show (8 * k + 4) % 8 = 4 by omega, show (8 * k + 3) % 8 = 3 by omega, show (8 * k + 2) % 8 = 2 by omega, show (8 * k + 1) % 8 = 1 by omega, show (8 * k) % 8 = 0 by omega]
  rfl
theorem stR_all (s : List UInt32) : ∀ k, stR s (8 * k) = dblN s k
  | 0 => rfl
  | k + 1 => by rw [stR_dbl, stR_all s k]; rfl
theorem initL_words (key nonce : List UInt8) (ctr : UInt32) : initL key nonce ctr = wordsL chaK 4 ++ wordsL key 8 ++ [ctr] ++ wordsL nonce 3 := by rw [chaK_words]; rfl
theorem chaB_stR (key nonce : List UInt8) (ctr : UInt32) : chaB key nonce ctr = chaOut (stR (initL key nonce ctr) 80) (initL key nonce ctr) 16 := by rw [show 80 = 8 * 10 from rfl, stR_all, chaB]
theorem plcV_length : plcV.length = 32 := rfl
theorem plcV_one : ∀ u ∈ plcV, u.oneCell' = true := by
  intro u hu
  obtain ⟨n, _, rfl⟩ := List.mem_map.1 hu
  rfl
theorem size_84 : (Tryz.prog.info? 227).map (·.size) = some plcV.length := by kernel_rfl
theorem size_4i : (Tryz.prog.info? 226).map (·.size) = some 4 := by kernel_rfl
/-- The first j of four words written. -/
def st4 (T : List UInt32) (p0 p1 p2 p3 : Nat) (q : UInt32 × UInt32 × UInt32 × UInt32) : Nat → List UInt32
  | 0 => T
  | 1 => T.set p0 q.1
  | 2 => (T.set p0 q.1).set p1 q.2.1
  | 3 => ((T.set p0 q.1).set p1 q.2.1).set p2 q.2.2.1
  | _ => putQ T p0 p1 p2 p3 q
theorem st4_length (T : List UInt32) (p0 p1 p2 p3 : Nat) (q : UInt32 × UInt32 × UInt32 × UInt32) (j : Nat) : (st4 T p0 p1 p2 p3 q j).length = T.length := by
  match j with
  | 0 => rfl
  | 1 => simp [st4]
  | 2 => simp [st4]
  | 3 => simp [st4]
  | j + 4 => simp [st4, putQ]
set_option maxRecDepth 100000 in
set_option maxHeartbeats 8000000 in
theorem blockR_any (A B : Option Addr) (c d : Nat) (key nonce : List UInt8) (ctr : UInt32) (w : World) (hk : RdB w A 32 key) (hn : RdB w B 12 nonce) :
    Calls Tryz.prog 117 #[.slice A 32 c, .slice B 12 d, W32 ctr] w fun e w' => ∃ A' c', e = .returned (.slice A' 64 c') ∧ OwnB w' w.heap.size A' 64 c' (chaB key nonce ctr) ∧ Later w w' := by
  have hw := hid (fun A n c K bs w h h1 h2 => words_any A n c K bs w h h1 h2)
  have hL := hid (initL_words key nonce ctr)
  have hsl := initL_length key nonce ctr
  have hC := hid (chaB_stR key nonce ctr)
  generalize initL key nonce ctr = S at *
  generalize chaB key nonce ctr = CB at *
  go_enter Tryz.func117, Tryz.ntmps117
  go_wp2_with (first
    | (refine wpList_convert_lit rfl _ _ rfl 5 Tryz.underlying22 Tryz.underlying5 w (chaK.map W8) rfl w.heap.size 16 16 rfl rfl ?_; intro w1 hl1 hr1 hz1)
    | fail)
  (refine (hw.out _ 16 16 4 chaK _ hr1 rfl (by omega)).mono ?_); rintro e w2 ⟨A2, c2, rfl, hown2, j2⟩
  replace hown2 := own_mono hown2 hl1.size
  have L2 := hl1.trans j2
  clear hr1 hz1 j2 hl1
  go_wp2_with fail
  (refine (hw.out A 32 c 8 key _ (hk.later L2) rfl (by omega)).mono ?_); rintro e w3 ⟨A3, c3, rfl, hown3, j3⟩
  go_wp2_with (first
    | (refine wpList_append_rd rfl _ _ _ rfl 24 _ 4 Tryz.underlying224 infoW rfl w _ 4 _ (own_later hown2 j3) (L2.trans j3) A3 8 c3 _ (own_rd hown3) (w32_one _) rfl rfl (by omega) (by omega) ?_; intro A4 c4 w4 hown4 hl4 hg4 _
       have J5 := later_alloc w4 (.cells #[W32 ctr] 24))
    | (refine wpList_append_rd rfl _ _ _ rfl 24 _ 4 Tryz.underlying224 infoW rfl w _ (4 + 8) _ (own_later hown4 J5) (hl4.trans J5) _ 1 1 _ ((Blk.new w4 24 [W32 ctr]).rd rfl) (by intro u hu; rw [List.mem_singleton.1 hu]; rfl) rfl rfl (by omega) (by omega) ?_; intro A5 c5 w5 hown5 hl5 hg5 _)
    | fail)
  (refine (hw.out B 12 d 3 nonce _ (hn.later hl5) rfl (by omega)).mono ?_); rintro e w6 ⟨A6, c6, rfl, hown6, j6⟩
  go_wp2_with (first
    | (refine wpList_append_rd rfl _ _ _ rfl 24 _ 4 Tryz.underlying224 infoW rfl w _ (4 + 8 + 1) _ (own_later hown5 j6) (hl5.trans j6) A6 3 c6 _ (own_rd hown6) (w32_one _) rfl rfl (by omega) (by omega) ?_; intro A7 c7 w7 hown7 hl7 hg7 _
       have J8 := later_alloc w7 (.cells #[] 24))
    | (refine wpList_append_rd rfl _ _ _ rfl 24 _ 4 Tryz.underlying224 infoW rfl w7 _ 0 [] (own_blk' (n := 0) (Blk.new w7 24 []) (Nat.le_refl _) rfl (by omega)) J8 A7 (4 + 8 + 1 + 3) c7 _ (own_rd (own_later hown7 J8)) ?h1 rfl rfl (by omega) (by omega) ?_; (case h1 => intro u hu; simp only [List.mem_append] at hu; rcases hu with ((hu | hu) | hu) | hu <;> first | exact w32_one _ u hu | (rw [List.mem_singleton.1 hu]; rfl)); intro A8 c8 w8 hown8 hl8 hg8 _)
    | (refine wpList_build_is rfl 227 _ rfl plcV ?hb ?_; (case hb => kernel_rfl))
    | (refine wpList_store_agg rfl rfl 227 _ _ rfl w8.heap.size 0 _ _ plcV (Blk.new w8 227 (List.replicate 32 (.int .i64 0))) rfl rfl size_84 (by rw [plcV_length]; simp) plcV_one ?_; intro w9 hb9 ho9; rw [spliced_all _ _ (by rw [plcV_length]; simp)] at hb9)
    | fail)
  have hSW : Hid (((wordsL chaK 4).map W32 ++ (wordsL key 8).map W32 ++ [W32 ctr]) ++ (wordsL nonce 3).map W32 = S.map W32) := hid (by rw [hL.out]; simp only [List.map_append, List.map_cons, List.map_nil])
  have hLa : Later w w8 := hl7.trans hl8
  rw [List.nil_append, hSW.out] at hown8
  rw [hSW.out] at hown7
  obtain ⟨gs, rs, rfl, hgs, hbs, hcs⟩ : ∃ g rest, A7 = some ⟨g, 0, none⟩ ∧ w.heap.size ≤ g ∧ Blk w8 g 24 (S.map W32 ++ rest) ∧ g < w7.heap.size := by
    rcases own_blk (own_later hown7 hl8) with ⟨_, h0⟩ | ⟨g, rest, e, h1, h2, h3⟩
    · omega
    · subst e
      exact ⟨g, rest, rfl, h1, h2, (hown7.lt g rfl).2⟩
  obtain ⟨go, ro, rfl, hgo, hbo⟩ : ∃ g rest, A8 = some ⟨g, 0, none⟩ ∧ w7.heap.size ≤ g ∧ Blk w8 g 24 (S.map W32 ++ rest) := by
    rcases own_blk hown8 with ⟨_, h0⟩ | ⟨g, rest, e, h1, h2, h3⟩
    · omega
    · exact ⟨g, rest, e, h1, h2⟩
  have B8 := ((Bag.none w).add hLa (by simp) hgs hbs).add (Later.refl _) (by intro p hp; rw [List.mem_singleton.1 hp]; show go ≠ gs; omega) (Nat.le_trans hl7.size hgo) hbo
  have B9 := B8.push (later_alloc w8 _) (Nat.le_refl _) ho9 hb9
  clear B8 hbo hbs hgo hgs hcs hown8 hown7 hl8 hl7 hg8 hg7 hown6 j6 hown5 hl5 hg5 hown4 hl4 hg4 J5 J8 hown3 j3 hown2 L2 hb9 ho9 hSW hLa hw
  generalize w8.heap.size = g9 at *
  have hst := hid (fun k => show stR S (k + 1) = putQ (stR S k) (plc (k % 8) 0) (plc (k % 8) 1) (plc (k % 8) 2) (plc (k % 8) 3) (quart (wAt (stR S k) (plc (k % 8) 0)) (wAt (stR S k) (plc (k % 8) 1)) (wAt (stR S k) (plc (k % 8) 2)) (wAt (stR S k) (plc (k % 8) 3))) from rfl)
  have hsl' := hid (fun k => (stR_length S k).trans hsl)
  have hqr := hid quarterR_any
  go_loopw [10] (fun i wr => ∃ k : Nat, k ≤ 80 ∧ i = .int .i64 k ∧ Bag w wr [(g9, 227, plcV), (go, 24, S.map W32 ++ ro), (gs, 24, (stR S k).map W32 ++ rs)]) (fun i _ => 80 - (intOf i).toNat)
  case atStart => exact ⟨0, by omega, rfl, B9⟩
  case round =>
    clear B9
    obtain ⟨k, hk', rfl, B⟩ := hrel
    by_cases hlt : k < 80
    · have hT := hsl'.out k
      have HST := hid (hst.out k)
      have hr8 : k % 8 < 8 := Nat.mod_lt _ (by omega)
      have hrem : (k : Int) % 8 = ((k % 8 : Nat) : Int) := by omega
      obtain ⟨p0, p1, p2, p3, hp⟩ : ∃ p0 p1 p2 p3, p0 = plc (k % 8) 0 ∧ p1 = plc (k % 8) 1 ∧ p2 = plc (k % 8) 2 ∧ p3 = plc (k % 8) 3 := ⟨_, _, _, _, rfl, rfl, rfl, rfl⟩
      have l0 : p0 < 16 := by rw [hp.1]; exact plc_lt _ 0 hr8 (by omega)
      have l1 : p1 < 16 := by rw [hp.2.1]; exact plc_lt _ 1 hr8 (by omega)
      have l2 : p2 < 16 := by rw [hp.2.2.1]; exact plc_lt _ 2 hr8 (by omega)
      have l3 : p3 < 16 := by rw [hp.2.2.2]; exact plc_lt _ 3 hr8 (by omega)
      have v0 := plcV_get (k % 8) 0 hr8 (by omega)
      have v1 := plcV_get (k % 8) 1 hr8 (by omega)
      have v2 := plcV_get (k % 8) 2 hr8 (by omega)
      have v3 := plcV_get (k % 8) 3 hr8 (by omega)
      rw [← hp.1] at v0
      rw [← hp.2.1] at v1
      rw [← hp.2.2.1] at v2
      rw [← hp.2.2.2] at v3
      have HST' := HST.out
      rw [← hp.1, ← hp.2.1, ← hp.2.2.1, ← hp.2.2.2] at HST'
      replace HST' := hid HST'
      clear HST hp
      obtain ⟨T', hTT⟩ : ∃ T', stR S (k + 1) = T' := ⟨_, rfl⟩
      rw [hTT] at HST'
      replace hTT := hid hTT
      generalize stR S k = T at *
      generalize k % 8 = r at *
      have hz := (B.nth 0 rfl)
      go_wp2_with (first
        | (refine wpList_load_agg rfl 226 _ rfl g9 (r * 4) [.int .i64 p0, .int .i64 p1, .int .i64 p2, .int .i64 p3] ?hc ?hx _ Tryz.underlying226 rfl size_4i ?_; (case hx => rfl); (case hc =>
            intro j v hv
            match j with
            | 0 => cases hv; exact hz.cellD _ v0
            | 1 => cases hv; exact hz.cellD _ v1
            | 2 => cases hv; exact hz.cellD _ v2
            | 3 => cases hv; exact hz.cellD _ v3
            | j + 4 => simp at hv))
        | fail)
      have B1 := (B.fresh (later_alloc wr (.cells #[.int .i64 p0, .int .i64 p1, .int .i64 p2, .int .i64 p3] 226)) (Nat.le_refl _) (Blk.new wr _ [.int .i64 p0, .int .i64 p1, .int .i64 p2, .int .i64 p3])).drew
      clear B hz
      generalize wr.heap.size = g11 at *
      generalize hw1 : (wr.alloc (.cells #[.int .i64 p0, .int .i64 p1, .int .i64 p2, .int .i64 p3] 226)) = w1 at *
      clear hw1
      have y0 := (B1.nth 0 rfl).cellD 0 rfl
      have y1 := (B1.nth 0 rfl).cellD 1 rfl
      have y2 := (B1.nth 0 rfl).cellD 2 rfl
      have y3 := (B1.nth 0 rfl).cellD 3 rfl
      have hTg := fun p (hp : p < 16) => (B1.nth 3 rfl).cellD p (u := W32 (wAt T p)) (by rw [List.getElem?_append_left (by rw [List.length_map]; omega)]; exact w32_get (by omega))
      have z0 := hTg p0 l0
      have z1 := hTg p1 l1
      have z2 := hTg p2 l2
      have z3 := hTg p3 l3
      clear hTg
      generalize wAt T p0 = a0 at *
      generalize wAt T p1 = a1 at *
      generalize wAt T p2 = a2 at *
      generalize wAt T p3 = a3 at *
      refine wp_region_makers [0, 1, 2, 3, 4, 5, 6, 7, 8, 9, 10, 11, 12, 13, 14, 15, 16, 17, 18, 19, 20] [([], 1, 21), ([], 2, 22)] [] [23] [22] (fun _ => (fun g => .pointer (some ⟨g, 0, none⟩), .cells (List.replicate 4 (Value.int .u32 0)).toArray 228)) (by as_aux_lemma => kernel_rfl) (by as_aux_lemma => kernel_rfl) (by intro _ _ d _ _ h; cases d <;> exact h) (by intro _ _ d _ _ h; cases d <;> exact h) ?_
      simp only [pick, List.getElem?_cons_succ, List.getElem?_cons_zero, Option.toList_some, List.cons_append, List.nil_append]
      repeat (go_big_quiet_step (fail))
      refine wpQuiet_nil ?_
      refine ⟨?mk, ?_⟩
      case mk =>
        refine ⟨fun o ho => ?_, trivial⟩
        simp only [List.getElem?_cons_succ, List.getElem?_cons_zero, Option.some.injEq] at ho
        subst ho
        refine ⟨rfl, fun W => ?_⟩
        unfold execOp
        simp [go_sem]
      simp only [wpPartsM, pick, List.getElem?_cons_succ, List.getElem?_cons_zero, Option.toList_some, List.cons_append, List.nil_append]
      refine wpQuiet_nil ?_
      intro w2 hl2
      go_wp2_with fail
      refine (hqr.out (a0, a1, a2, a3) _).mono ?_
      rintro e w3 ⟨rfl, j3⟩
      dsimp only at HST' ⊢
      generalize quart a0 a1 a2 a3 = q at *
      obtain ⟨q0, q1, q2, q3⟩ := q
      go_wp2_with fail
      refine ⟨j3, ?_⟩
      refine wpQuiet_nil ?_
      intro w4 g12 hl4 hg4 _ hb4
      refine wpQuiet_nil ?_
      intro w5 hl5
      have B5 := B1.fresh (((hl2.trans j3).trans hl4).trans hl5) hg4 (Blk.later hb4 hl5)
      clear B1 hl2 j3 hl4 hl5 hb4 hg4 y0 y1 y2 y3 z0 z1 z2 z3 v0 v1 v2 v3
      go_wp2_with (first
        | (refine wpList_store_agg rfl rfl 228 _ _ rfl g12 0 _ _ [W32 q0, W32 q1, W32 q2, W32 q3] (B5.nth 0 rfl) rfl rfl size_4w (by simp) ?_ ?_; (intro u hu; simp at hu; rcases hu with rfl | rfl | rfl | rfl <;> rfl); intro w6 hb6 ho6; rw [spliced_all _ _ (by simp)] at hb6)
        | fail)
      have B6 := B5.write 0 rfl ho6 hb6
      clear B5 ho6 hb6
      go_loopw [13] (fun i wr => ∃ j : Nat, j ≤ 4 ∧ i = .int .i64 j ∧ Bag w wr [(g12, 228, [W32 q0, W32 q1, W32 q2, W32 q3]), (g11, 226, [.int .i64 p0, .int .i64 p1, .int .i64 p2, .int .i64 p3]), (g9, 227, plcV), (go, 24, S.map W32 ++ ro), (gs, 24, (st4 T p0 p1 p2 p3 (q0, q1, q2, q3) j).map W32 ++ rs)]) (fun i _ => 4 - (intOf i).toNat)
      case atStart => exact ⟨0, by omega, rfl, B6⟩
      case round =>
        clear B6
        obtain ⟨j, hj, rfl, B⟩ := hrel
        by_cases hjl : j < 4
        · have y0 := (B.nth 1 rfl).cellD 0 rfl
          have y1 := (B.nth 1 rfl).cellD 1 rfl
          have y2 := (B.nth 1 rfl).cellD 2 rfl
          have y3 := (B.nth 1 rfl).cellD 3 rfl
          have z0 := (B.nth 0 rfl).cellD 0 rfl
          have z1 := (B.nth 0 rfl).cellD 1 rfl
          have z2 := (B.nth 0 rfl).cellD 2 rfl
          have z3 := (B.nth 0 rfl).cellD 3 rfl
          have hj4 : j = 0 ∨ j = 1 ∨ j = 2 ∨ j = 3 := by omega
          clear hj hjl
          rcases hj4 with rfl | rfl | rfl | rfl
          · go_wp2_with fail
            refine wp_region_parts [] [0, 1, 2, 3, 4, 5, 6, 7] [8] (by as_aux_lemma => kernel_rfl) (by as_aux_lemma => kernel_rfl) (by intro _ _ d _ _ h; cases d <;> exact h) ?_
            simp only [wpParts, pick, List.getElem?_cons_succ, List.getElem?_cons_zero, Option.toList_some, List.cons_append, List.nil_append]
            repeat (go_big_quiet_step (fail))
            refine wpQuiet_nil ?_
            go_wp2_with (first
              | (refine wpList_store_in rfl rfl _ _ _ rfl gs p0 _ _ (B.drew.nth 4 rfl) rfl (by rw [List.length_append, List.length_map, st4_length]; omega) rfl size_u32 ?_; intro v' w7 hv' hb7 ho7; simp [go_sem] at hv'; subst hv')
              | fail)
            go_roundw
            case rel =>
              refine ⟨0 + 1, by omega, by go_num, ?_⟩
              rw [List.set_append_left _ _ (by rw [List.length_map, st4_length]; omega), set_w32] at hb7
              exact B.drew.write 4 rfl ho7 hb7
            case measure => simp [intOf]; try omega
          · go_wp2_with fail
            refine wp_region_parts [] [0, 1, 2, 3, 4, 5, 6, 7] [8] (by as_aux_lemma => kernel_rfl) (by as_aux_lemma => kernel_rfl) (by intro _ _ d _ _ h; cases d <;> exact h) ?_
            simp only [wpParts, pick, List.getElem?_cons_succ, List.getElem?_cons_zero, Option.toList_some, List.cons_append, List.nil_append]
            repeat (go_big_quiet_step (fail))
            refine wpQuiet_nil ?_
            go_wp2_with (first
              | (refine wpList_store_in rfl rfl _ _ _ rfl gs p1 _ _ (B.drew.nth 4 rfl) rfl (by rw [List.length_append, List.length_map, st4_length]; omega) rfl size_u32 ?_; intro v' w7 hv' hb7 ho7; simp [go_sem] at hv'; subst hv')
              | fail)
            go_roundw
            case rel =>
              refine ⟨1 + 1, by omega, by go_num, ?_⟩
              rw [List.set_append_left _ _ (by rw [List.length_map, st4_length]; omega), set_w32] at hb7
              exact B.drew.write 4 rfl ho7 hb7
            case measure => simp [intOf]; try omega
          · go_wp2_with fail
            refine wp_region_parts [] [0, 1, 2, 3, 4, 5, 6, 7] [8] (by as_aux_lemma => kernel_rfl) (by as_aux_lemma => kernel_rfl) (by intro _ _ d _ _ h; cases d <;> exact h) ?_
            simp only [wpParts, pick, List.getElem?_cons_succ, List.getElem?_cons_zero, Option.toList_some, List.cons_append, List.nil_append]
            repeat (go_big_quiet_step (fail))
            refine wpQuiet_nil ?_
            go_wp2_with (first
              | (refine wpList_store_in rfl rfl _ _ _ rfl gs p2 _ _ (B.drew.nth 4 rfl) rfl (by rw [List.length_append, List.length_map, st4_length]; omega) rfl size_u32 ?_; intro v' w7 hv' hb7 ho7; simp [go_sem] at hv'; subst hv')
              | fail)
            go_roundw
            case rel =>
              refine ⟨2 + 1, by omega, by go_num, ?_⟩
              rw [List.set_append_left _ _ (by rw [List.length_map, st4_length]; omega), set_w32] at hb7
              exact B.drew.write 4 rfl ho7 hb7
            case measure => simp [intOf]; try omega
          · go_wp2_with fail
            refine wp_region_parts [] [0, 1, 2, 3, 4, 5, 6, 7] [8] (by as_aux_lemma => kernel_rfl) (by as_aux_lemma => kernel_rfl) (by intro _ _ d _ _ h; cases d <;> exact h) ?_
            simp only [wpParts, pick, List.getElem?_cons_succ, List.getElem?_cons_zero, Option.toList_some, List.cons_append, List.nil_append]
            repeat (go_big_quiet_step (fail))
            refine wpQuiet_nil ?_
            go_wp2_with (first
              | (refine wpList_store_in rfl rfl _ _ _ rfl gs p3 _ _ (B.drew.nth 4 rfl) rfl (by rw [List.length_append, List.length_map, st4_length]; omega) rfl size_u32 ?_; intro v' w7 hv' hb7 ho7; simp [go_sem] at hv'; subst hv')
              | fail)
            go_roundw
            case rel =>
              refine ⟨3 + 1, by omega, by go_num, ?_⟩
              rw [List.set_append_left _ _ (by rw [List.length_map, st4_length]; omega), set_w32] at hb7
              exact B.drew.write 4 rfl ho7 hb7
            case measure => simp [intOf]; try omega
        · obtain rfl : 4 = j := by omega
          go_wp2_with fail
          go_roundw
          case rel =>
            refine ⟨k + 1, by omega, by go_num, ?_⟩
            rw [hTT.out, HST'.out]
            exact B.drop 2
          case measure => simp [intOf]; omega
    · obtain rfl : 80 = k := by omega
      have hFl := hsl'.out 80
      generalize stR S 80 = F at *
      have hCs := hid (chaOut_succ F S)
      have hCl := hid (chaOut_length F S)
      have hC0 := hid (show chaOut F S 0 = [] from rfl)
      have hpu := hid put_14'
      clear hst hsl' hqr hL
      go_wp2_with fail
      have hown0 : wr.ownsRow wr.heap.size 5 1 (.slice none 0 0) 0 ([].map W8) := World.ownsRow_nil wr _ _ 1
      obtain ⟨w9, hw9⟩ : ∃ w9, w9 = wr := ⟨_, rfl⟩
      subst hw9
      go_loopw [14, 15] (fun v i wr => ∃ (k : Nat) (A' : Option Addr) (c' : Nat), k ≤ 16 ∧ i = .int .i64 k ∧ v = .slice A' (4 * k) c' ∧ OwnB wr w9.heap.size A' (4 * k) c' (chaOut F S k) ∧ Later w9 wr) (fun _ i _ => 16 - (intOf i).toNat)
      case atStart => exact ⟨0, none, 0, by omega, rfl, rfl, by rw [hC0.out]; exact hown0, Later.refl _⟩
      case round =>
        clear hown0
        obtain ⟨k, A6, c6, hk6, rfl, rfl, hown, L⟩ := hrel
        by_cases hlt : k < 16
        · have HCS := hid (hCs.out k)
          have z0 := ((B.nth 2 rfl).later L).cellD k (u := W32 (wAt F k)) (by rw [List.getElem?_append_left (by rw [List.length_map]; omega)]; exact w32_get (by omega))
          have z1 := ((B.nth 1 rfl).later L).cellD k (u := W32 (wAt S k)) (by rw [List.getElem?_append_left (by rw [List.length_map]; omega)]; exact w32_get (by omega))
          generalize wAt F k = xf at *
          generalize wAt S k = xs at *
          generalize chaOut F S k = O at *
          go_wp2_with fail
          refine wp_region_parts [([0, 1, 2, 3, 4, 5, 6, 7, 8, 9], 10)] [11, 12, 13, 14, 15] [] (by as_aux_lemma => kernel_rfl) (by as_aux_lemma => kernel_rfl) (by intro _ _ d _ _ h; cases d <;> exact h) ?_
          simp only [wpParts, pick, List.getElem?_cons_succ, List.getElem?_cons_zero, Option.toList_some, List.cons_append, List.nil_append]
          repeat (go_big_quiet_step (fail))
          refine wpQuiet_nil ?_
          go_wp2_with fail
          (refine (hpu.out (xf + xs) _ (by simp) _).mono ?_); rintro e w5 ⟨A5, c5, rfl, hown5, j5⟩
          go_wp2_with fail
          try refine ⟨by first | assumption | exact later_drew _ | exact later_alloc _ _ | exact Later.refl _, ?_⟩
          try simp only [wpParts, pick, List.getElem?_cons_succ, List.getElem?_cons_zero, Option.toList_some, List.cons_append, List.nil_append]
          repeat (go_big_quiet_step (fail))
          refine wpQuiet_nil ?_
          go_wp2_with (first
            | (refine wpList_append_rd rfl _ _ _ rfl 5 _ 1 Tryz.underlying22 info8 rfl w9 _ (4 * k) _ (hown.later ((later_drew _).trans j5)) (L.trans ((later_drew _).trans j5)) A5 4 c5 _ hown5.rd (w8_one _) rfl rfl (by omega) (by omega) ?_; intro A7 c7 w7 hown7 hl7 hg7 _)
            | fail)
          have hown8 : OwnB w7 w9.heap.size A7 (4 * k + 4) c7 (O ++ le4 (xf + xs)) := own_glue hown7
          rw [← HCS.out] at hown8
          go_roundw
          case rel => (repeat apply Exists.intro); exact ⟨⟨k + 1, A7, c7, by omega, by go_num, rfl, hown8, hl7⟩, rfl⟩
          case measure => simp [intOf]; omega
        · obtain rfl : 16 = k := by omega
          rw [← hC.out] at hown
          have hsz := B.lat.size
          go_wp2_with fail
          go_ret
          exact ⟨_, _, rfl, hown.mono hsz, B.lat.trans L⟩
end Go.Proofs.YtdojjnbpidogfaaGreat
namespace Go.Proofs.YtdojjnbpidogfaaGreat
open Go.RowKit
open Go.BigFrame

set_option maxRecDepth 100000 in
set_option maxHeartbeats 4000000 in
theorem bytesR_any (A : Option Addr) (c n : Nat) (key : List UInt8) (w : World) (hk : RdB w A 32 key) (hn : n ≤ 65536) :
    Calls Tryz.prog 86 #[.slice A 32 c, .int .i64 0, .int .i64 n] w fun e w' => ∃ A' c', e = .returned (.slice A' n c') ∧ OwnB w' w.heap.size A' n c' (chaS key n) ∧ Later w w' := by
  have hB := hid (fun B d ctr (w' : World) (hl : Later w w') hn => blockR_any A B c d key (List.replicate 12 0) ctr w' (hk.later hl) hn)
  have hs1 := hid (chaF_succ key)
  have hl1 := hid (chaF_length key)
  have hS := hid (chaS_take key n)
  have h0 := hid (show chaF key 0 = [] from rfl)
  have hSl := chaS_length key n
  go_enter Tryz.func86, Tryz.ntmps86
  go_wp2_with fail
  go_loopw [7, 8] (fun v i wr => ∃ (k : Nat) (A' : Option Addr) (c' : Nat), k ≤ 1025 ∧ i = .int .i64 k ∧ v = .slice A' (64 * k) c' ∧ 64 * k < n + 64 ∧ OwnB wr w.heap.size A' (64 * k) c' (chaF key k) ∧ Later w wr) (fun v _ _ => n - lenOf v)
  case atStart => exact ⟨0, none, 0, by omega, rfl, rfl, by omega, by rw [h0.out]; exact own_nil _ _ _, Later.refl w⟩
  case round =>
    obtain ⟨k, A6, c6, hk6, rfl, rfl, hmk, hown, L⟩ := hrel
    by_cases hlt : 64 * k < n
    · have hcmp : 64 * (k : Int) < (n : Int) := by omega
      have hcv := convert_quo k
      have hb := hid (hs1.out k)
      generalize chaF key k = Fk at *
      go_wp2_with (first
        | (refine wpList_make_n rfl _ _ _ rfl 5 _ 1 Tryz.underlying22 info8 rfl _ _ _ _ 12 rfl rfl rfl rfl (by omega) (by omega) ?_; intro w1 hb1 hl1')
        | fail)
      have hno : RdB w1 (some ⟨wr.heap.size, 0, none⟩) 12 (List.replicate 12 0) := hb1.rd rfl
      (refine (hB.out _ _ (UInt32.ofNat k) _ (L.trans hl1') hno).mono ?_); rintro e w4 ⟨A9, c9, rfl, hown9, j9⟩
      have hrd9 := hown9.rd
      generalize chaB key (List.replicate 12 0) (UInt32.ofNat k) = Bk at *
      go_wp2_with (first
        | (refine wpList_append_rd rfl _ _ _ rfl 5 _ 1 Tryz.underlying22 info8 rfl w _ (64 * k) _ (hown.later (hl1'.trans j9)) ((L.trans hl1').trans j9) A9 64 c9 _ hrd9 (w8_one _) rfl rfl (by omega) (by omega) ?_; intro A7 c7 w7 hown7 hl7 hg7 _)
        | fail)
      have hown8 : OwnB w7 w.heap.size A7 (64 * k + 64) c7 (Fk ++ Bk) := own_glue hown7
      rw [← hb.out] at hown8
      go_roundw
      case rel => exact ⟨k + 1, A7, c7, by omega, by go_num, rfl, by omega, hown8, hl7⟩
      case measure => simp only [lenOf]; omega
    · have hcmp : ¬ 64 * (k : Int) < (n : Int) := by omega
      have hE := hid (hS.out k (by omega))
      have hcut : ∀ W, (Instr.sliceAt 22 (.slice A6 (64 * k) c6) (some (.int .i64 0)) (some (.int .i64 (n : Int))) none).run Tryz.prog W = .ok (.slice A6 n c6) W := fun W => by
        have hcap := hown.cap
        have h := cut8 A6 (64 * k) c6 .i64 .i64 0 n (by omega) (by omega) W
        simpa [cutA_zero] using h
      have hrd := hown.rd.take (m := n) (by omega)
      rw [← hE.out] at hrd
      go_wp2_with fail
      (refine (copy_any A6 n c6 _ _ hrd (by omega)).mono ?_); rintro e w8 ⟨A8, c8, rfl, hown8, j8⟩
      go_wp2_with fail
      go_ret
      exact ⟨_, _, rfl, hown8.mono L.size, L.trans j8⟩
/-- Place by place. -/
def xorB (xs ys : List UInt8) : List UInt8 := List.zipWith (· ^^^ ·) xs ys
theorem xorB_length {xs ys : List UInt8} (h : xs.length = ys.length) : (xorB xs ys).length = ys.length := by simp [xorB, h]
/-- Behind k rounds. -/
def xorAt (xs ys : List UInt8) (k : Nat) : List UInt8 := (xorB xs ys).take k ++ xs.drop k
theorem xorAt_length {xs ys : List UInt8} (h : xs.length = ys.length) (k : Nat) (hk : k ≤ xs.length) : (xorAt xs ys k).length = xs.length := by
  have := xorB_length h
  simp [xorAt]
  omega
theorem xorAt_none (xs ys : List UInt8) : xorAt xs ys 0 = xs := by simp [xorAt]
theorem xorAt_all {xs ys : List UInt8} (h : xs.length = ys.length) : xorAt xs ys xs.length = xorB xs ys := by
  have := xorB_length h
  rw [xorAt, List.drop_length, List.append_nil, List.take_of_length_le (by omega)]
theorem xorAt_get {xs ys : List UInt8} (h : xs.length = ys.length) {k : Nat} (hk : k < xs.length) : (xorAt xs ys k)[k]? = some (xs.getD k 0) := by
  have := xorB_length h
  rw [xorAt, List.getElem?_append_right (by simp; omega), List.length_take, this, Nat.min_eq_left (by omega), Nat.sub_self, List.getElem?_drop, Nat.add_zero, List.getElem?_eq_getElem hk, List.getD_eq_getElem?_getD, List.getElem?_eq_getElem hk]
  rfl
theorem xorAt_step {xs ys : List UInt8} (h : xs.length = ys.length) {k : Nat} (hk : k < xs.length) : (xorAt xs ys k).set k (xs.getD k 0 ^^^ ys.getD k 0) = xorAt xs ys (k + 1) := by
  have hl := xorB_length h
  have hg : (xorB xs ys)[k]? = some (xs.getD k 0 ^^^ ys.getD k 0) := by
    rw [xorB, List.getElem?_zipWith, List.getD_eq_getElem?_getD, List.getD_eq_getElem?_getD, List.getElem?_eq_getElem hk, List.getElem?_eq_getElem (show k < ys.length by omega)]
    rfl
  have hkx : k < (xorB xs ys).length := by omega
  rw [xorAt, xorAt, List.set_append_right _ _ (by simp; omega), List.length_take, hl, Nat.min_eq_left (by omega), Nat.sub_self, List.drop_eq_getElem_cons hk, List.set_cons_zero, List.take_succ_eq_append_getElem hkx, List.append_assoc]
  have : (xorB xs ys)[k] = xs.getD k 0 ^^^ ys.getD k 0 := by
    have := List.getElem?_eq_getElem hkx
    rw [hg] at this
    exact (Option.some.inj this).symm
  rw [this]
  rfl
theorem xorB_twice {xs ys : List UInt8} (h : xs.length = ys.length) : xorB (xorB xs ys) ys = xs := by
  apply List.ext_getElem?
  intro j
  rw [xorB, xorB, List.getElem?_zipWith, List.getElem?_zipWith]
  by_cases hj : j < xs.length
  · rw [List.getElem?_eq_getElem hj, List.getElem?_eq_getElem (show j < ys.length by omega)]
    simp [UInt8.xor_assoc]
  · rw [List.getElem?_eq_none (show xs.length ≤ j by omega), List.getElem?_eq_none (show ys.length ≤ j by omega)]
end Go.Proofs.YtdojjnbpidogfaaGreat

