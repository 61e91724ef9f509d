/-
  shallotref07: fits, Rounds.
-/
import Derived.Test.YtjohieongjnemaaWideD
namespace Go.Proofs.Ytjohieongjnemaa
open Go.RowKit
open Go.BigFrame

theorem turnO (K : List UInt8) (r : Nat) (bs : List UInt8) (hr : ¬ (r = 2 ∨ r = 4)) (h : 32 ≤ bs.length) (hK : K.length = 32) : turnB K r bs = bs.take 32 ++ xorB (bs.drop 32) (chaS (xorB (bs.take 32) K) (bs.length - 32)) := by
  rw [turnB, if_neg hr]
  congr 3
  have hl : K.length = (bs.take 32).length := by rw [List.length_take]; omega
  apply List.ext_getElem?
  intro j
  rw [xorB, xorB, List.getElem?_zipWith, List.getElem?_zipWith]
  by_cases hj : j < K.length
  · rw [List.getElem?_eq_getElem hj, List.getElem?_eq_getElem (show j < (bs.take 32).length by omega)]
    exact congrArg some (UInt8.xor_comm _ _)
  · rw [List.getElem?_eq_none (show K.length ≤ j by omega), List.getElem?_eq_none (show (bs.take 32).length ≤ j by omega)]
theorem turnE (K : List UInt8) (r : Nat) (bs : List UInt8) (hr : r = 2 ∨ r = 4) : turnB K r bs = xorB (bs.take 32) (macTag K (bs.drop 32)) ++ bs.drop 32 := by rw [turnB, if_pos hr]
theorem fits_ref7 (A B : Option Addr) (n c m d : Nat) (w : World) :
    Calls Try.prog 49 #[.slice A n c, .slice B m d] w fun e w' => e = .returned (.bool (decide (n = 32 ∧ 32 ≤ m ∧ m ≤ 4096))) ∧ w' = w := by
  by_cases h0 : n = 32
  · subst h0
    by_cases h1 : 32 ≤ m
    · have e1 : (32 : Int) ≤ (m : Int) := by omega
      by_cases h2 : m ≤ 4096
      · have e2 : (m : Int) ≤ 4096 := by omega
        rw [decide_eq_true (show 32 = 32 ∧ 32 ≤ m ∧ m ≤ 4096 from ⟨rfl, h1, h2⟩)]
        go_enter Try.func49, Try.ntmps49
        go_wp2
        go_ret
        exact ⟨rfl, rfl⟩
      · have e2 : ¬ (m : Int) ≤ 4096 := by omega
        rw [decide_eq_false (show ¬ (32 = 32 ∧ 32 ≤ m ∧ m ≤ 4096) from fun h => h2 h.2.2)]
        go_enter Try.func49, Try.ntmps49
        go_wp2
        go_ret
        exact ⟨rfl, rfl⟩
    · have e1 : ¬ (32 : Int) ≤ (m : Int) := by omega
      rw [decide_eq_false (show ¬ (32 = 32 ∧ 32 ≤ m ∧ m ≤ 4096) from fun h => h1 h.2.1)]
      go_enter Try.func49, Try.ntmps49
      go_wp2
      go_ret
      exact ⟨rfl, rfl⟩
  · have e1 : ((n : Int) == 32) = false := by simp; omega
    rw [decide_eq_false (show ¬ (n = 32 ∧ 32 ≤ m ∧ m ≤ 4096) from fun h => h0 h.1)]
    go_enter Try.func49, Try.ntmps49
    go_wp2
    go_ret
    exact ⟨by simp, rfl⟩
set_option maxRecDepth 100000 in
set_option maxHeartbeats 8000000 in
theorem rounds_ref (A B C : Option Addr) (n c m d k e0 : Nat) (key bs : List UInt8) (rs : List Int) (w : World) (hk : RdB w A n key) (hb : RdB w B m bs) (hd : m ≤ d) (hr : Rd w C k (rs.map intV)) (hn : n ≤ 2097152) (hm : m ≤ 2097152) (hk2 : k ≤ 2097152) :
    Calls Try.prog 15 #[.slice A n c, .slice B m d, .slice C k e0] w fun e w' => Later w w' ∧ ∃ A' c', e = .returned (.tuple #[.slice A' (wideB key bs rs).length c', .int .i64 (wideE key bs rs : Nat)]) ∧ OwnB w' w.heap.size A' (wideB key bs rs).length c' (wideB key bs rs) := by
  have hkl := hk.len
  have hbl := hb.len
  have hrl : rs.length = k := by have := hr.1; rwa [List.length_map] at this
  have hbad := hid (fun h => And.intro (@wideB_bad key bs rs h) (@wideE_bad key bs rs h))
  have hunf := hid (fun h h2 => And.intro (@wideB_unfit key bs rs h h2) (@wideE_unfit key bs rs h h2))
  have hfit := hid (fun h h2 => And.intro (@wideB_fit key bs rs h h2) (@wideE_fit key bs rs h h2))
  have hat := hid (fun j (hj : j < k) => rdI_at hr hj)
  have hff := hid (fits_ref7 A B n c m d)
  generalize wideB key bs rs = WB at *
  generalize wideE key bs rs = WE at *
  go_enter Try.func15, Try.ntmps15
  go_wp2_with fail
  go_loopw [8] (fun i wr => ∃ j : Nat, j ≤ k ∧ i = .int .i64 j ∧ wr = w ∧ Hid (∀ t, t < j → 1 ≤ rs.getD t 0 ∧ rs.getD t 0 ≤ 4)) (fun i _ => k - (intOf i).toNat)
  case atStart => exact ⟨0, by omega, rfl, rfl, hid (fun t h => by omega)⟩
  case round =>
    obtain ⟨j, hj, rfl, rfl, hall⟩ := hrel
    by_cases hlt : j < k
    · obtain ⟨b, o, rfl, hbb, hcell⟩ := hat.out j hlt
      have c1 := hcell wr (Later.refl _)
      clear hcell
      have hmem : rs.getD j 0 ∈ rs := by rw [List.getD_eq_getElem?_getD, List.getElem?_eq_getElem (show j < rs.length by omega)]; exact List.getElem_mem _
      have hbd : ¬ (1 ≤ rs.getD j 0 ∧ rs.getD j 0 ≤ 4) → Hid (WB = [] ∧ WE = 1) := fun h => hid (hbad.out (fun hok => h (hok _ hmem)))
      have hst : 1 ≤ rs.getD j 0 → rs.getD j 0 ≤ 4 → Hid (∀ t, t < j + 1 → 1 ≤ rs.getD t 0 ∧ rs.getD t 0 ≤ 4) := fun h1 h2 => hid (fun t ht => by
        by_cases e : t = j
        · subst e; exact ⟨h1, h2⟩
        · exact hall.out t (by omega))
      clear hmem
      generalize rs.getD j 0 = r at *
      by_cases h1 : r < 1
      · have hB := hbd (by omega)
        clear hbd hst
        go_wp2_with fail
        go_ret2
        refine ⟨Later.refl _, none, 0, ?_, ?_⟩
        · rw [hB.out.1, hB.out.2]; rfl
        · rw [hB.out.1]; exact own_nil _ _ _
      · by_cases h2 : 4 < r
        · have hB := hbd (by omega)
          clear hbd hst
          go_wp2_with fail
          go_ret2
          refine ⟨Later.refl _, none, 0, ?_, ?_⟩
          · rw [hB.out.1, hB.out.2]; rfl
          · rw [hB.out.1]; exact own_nil _ _ _
        · have hS := hst (by omega) (by omega)
          clear hbd hst
          go_wp2_with fail
          go_roundw
          case rel => exact ⟨j + 1, by omega, by go_num, trivial, hS⟩
          case measure => simp [intOf]; omega
    · obtain rfl : k = j := by omega
      have hok : okR rs := fun r hr' => by
        obtain ⟨t, ht⟩ := List.getElem?_of_mem hr'
        have htl := (List.getElem?_eq_some_iff.1 ht).1
        have := hall.out t (by omega)
        rwa [List.getD_eq_getElem?_getD, ht] at this
      clear hbad
      go_wp2_with fail
      (with_reducible refine (hff.out _).mono ?_); rintro e w1 ⟨rfl, rfl⟩
      by_cases hf : n = 32 ∧ 32 ≤ m ∧ m ≤ 4096
      · rw [decide_eq_true hf]
        have hF := hid (hfit.out hok ⟨by rw [hkl]; exact hf.1, by rw [hbl]; exact hf.2⟩)
        obtain ⟨rfl, hm32, hm4⟩ := hf
        clear hunf hfit
        have hDe := hid (fun s w h hs => refDerive_any A 32 c key s w h (by omega) hs)
        have hFt := hid (fun j h => foldW_take key rs bs j h)
        have hFl := hid (fun rs => foldW_length key rs bs (by omega))
        have hDl := hid (fun r => derB_length key (labW r))
        have hXo := hid (fun A n c xs ys w h h1 h2 hn => xor2_any A n c xs ys w h h1 h2 hn)
        have hF0 := hid (show foldW key (rs.take 0) bs = bs from rfl)
        have hcl : ∀ W, (Instr.sliceAt 22 (.slice B m d) none (some (.int .i64 32)) none).run Try.prog W = .ok (.slice B 32 d) W := fun W => cut8_to B m d .i64 32 (by omega) W
        have hcr : ∀ W, (Instr.sliceAt 22 (.slice B m d) (some (.int .i64 32)) none none).run Try.prog W = .ok (.slice (cutA B 32 d) (m - 32) (d - 32)) W := fun W => cut8_from B m d .i64 32 hm32 W
        go_wp2_with fail
        have J1 := later_alloc w1 (.cells #[.string lab1, .string lab2, .string lab3, .string lab4] 81)
        have hlb := Blk.new w1 81 [.string lab1, .string lab2, .string lab3, .string lab4]
        (refine (copy_any B 32 d (bs.take 32) _ ((hb.later J1).take hm32) (by omega)).mono ?_); rintro e w2 ⟨A2, c2, rfl, ho2, j2⟩
        go_wp2_with fail
        have J2 := J1.trans j2
        (refine (copy_any _ (m - 32) _ (bs.drop 32) _ ((hb.later J2).cut (c := d) hm32 hd) (by omega)).mono ?_); rintro e w3 ⟨A3, c3, rfl, ho3, j3⟩
        have L3 := J2.trans j3
        have ho2' := (ho2.later j3).mono J1.size
        have ho3' := ho3.mono J2.size
        have hlb3 := hlb.later (j2.trans j3)
        clear J1 hlb j2 J2 j3 ho2 ho3
        go_wp2_with fail
        go_loopw [10, 11, 12] (fun v u i wr => ∃ (j : Nat) (A1 A2 : Option Addr) (c1 c2 : Nat), j ≤ k ∧ i = .int .i64 j ∧ v = .slice A1 32 c1 ∧ u = .slice A2 (m - 32) c2 ∧ OwnB wr w1.heap.size A1 32 c1 ((foldW key (rs.take j) bs).take 32) ∧ OwnB wr w1.heap.size A2 (m - 32) c2 ((foldW key (rs.take j) bs).drop 32) ∧ Later w1 wr ∧ Blk wr w1.heap.size 81 [.string lab1, .string lab2, .string lab3, .string lab4]) (fun _ _ i _ => k - (intOf i).toNat)
        case atStart => exact ⟨0, A2, A3, c2, c3, by omega, rfl, rfl, rfl, by rw [hF0.out]; exact ho2', by rw [hF0.out]; exact ho3', L3, hlb3⟩
        case round =>
          clear ho2' ho3' L3 hlb3
          obtain ⟨j, A1, A2, c1, c2, hj, rfl, rfl, rfl, ho1, ho2, L, hlb⟩ := hrel
          by_cases hlt : j < k
          · obtain ⟨b, o, rfl, hbb, hcell⟩ := hat.out j hlt
            have d1 := hcell wr L
            have HC := hid hcell
            have hrr := hall.out j hlt
            have HF := hid (hFt.out j (by omega))
            have hFm := hFl.out (rs.take j)
            have hDlr := hDl.out (rs.getD j 0)
            clear hcell
            generalize rs.getD j 0 = r at *
            generalize foldW key (rs.take j) bs = F at *
            rw [hbl] at hFm
            have hFt32 : (F.take 32).length = 32 := by rw [List.length_take]; omega
            have hFd32 : (F.drop 32).length = m - 32 := by rw [List.length_drop]; omega
            have s0 := hlb.cellD 0 rfl
            have s1 := hlb.cellD 1 rfl
            have s2 := hlb.cellD 2 rfl
            have s3 := hlb.cellD 3 rfl
            have hr4 : r = 1 ∨ r = 2 ∨ r = 3 ∨ r = 4 := by omega
            clear hrr
            rcases hr4 with rfl | rfl | rfl | rfl
            · have hDr := hDe.out lab1 wr (hk.later L) (by decide)
              rw [show derB key lab1 = derB key (labW 1) from rfl] at hDr
              generalize derB key (labW 1) = Kr at *
              go_wp2_with fail
              (refine hDr.mono ?_); rintro e w4 ⟨rfl, j4⟩
              go_wp2_with (first
                | (refine store_Z 32 rfl rfl _ _ rfl (Blk.new w4 _ (List.replicate 32 (.int .u8 0))) rfl rfl size32w hDlr rfl ?_; intro w5 hk5 ho5)
                | (refine wpList_make_n rfl _ _ _ rfl 5 _ 1 Try.underlying22 info8 rfl _ _ _ _ 0 rfl rfl rfl rfl (by omega) (by omega) ?_; intro w6 hb6 hl6
                   have J6 := ((j4.trans (later_alloc w4 _)).only ho5 j4.size).trans hl6
                   have d2 := HC.out _ (L.trans J6))
                | fail)
              have hk6 := hk5.later hl6
              generalize w4.heap.size = g13 at *
              (refine (hXo.out _ 32 _ (F.take 32) Kr _ (parts_blk2 (Blk.new w6 22 [.slice A1 32 c1, .slice (some ⟨g13, 0, none⟩) 32 32]) (part_of (ho1.later (J6.trans (later_alloc w6 _))).rd ho1.cap) (part_of (blk_rdBW (hk6.later (later_alloc w6 _)) hDlr) (Nat.le_refl _))) hFt32 hDlr (by omega)).mono ?_); rintro e w7 ⟨A7, c7, rfl, ho7, j7⟩
              go_wp2_with fail
              have J7 := (J6.trans (later_alloc w6 (.cells #[.slice A1 32 c1, .slice (some ⟨g13, 0, none⟩) 32 32] 22))).trans j7
              (refine (bytesR_any A7 c7 (m - 32) _ _ ho7.rd (by omega)).mono ?_); rintro e w8 ⟨A8, c8, rfl, ho8, j8⟩
              go_wp2_with fail
              have J8 := (J7.trans j8).trans (later_alloc w8 (.cells #[.slice A2 (m - 32) c2, .slice A8 (m - 32) c8] 22))
              have hST := chaS_length (xorB (F.take 32) Kr) (m - 32)
              (refine (hXo.out _ (m - 32) _ (F.drop 32) _ _ (parts_blk2 (Blk.new w8 22 [.slice A2 (m - 32) c2, .slice A8 (m - 32) c8]) (part_of (ho2.later J8).rd ho2.cap) (part_of (ho8.later (later_alloc w8 _)).rd ho8.cap)) hFd32 hST (by omega)).mono ?_); rintro e w9 ⟨A9, c9, rfl, ho9, j9⟩
              go_wp2_with fail
              go_roundw
              case rel => exact ⟨j + 1, A1, A9, c1, c9, by omega, by go_num, rfl, rfl, by rw [HF.out, turnO _ _ _ (by decide) (by omega) hDlr, List.take_left' hFt32]; exact ho1.later (J8.trans j9), by rw [HF.out, turnO _ _ _ (by decide) (by omega) hDlr, List.drop_left' hFt32, hFm]; exact ho9.mono (L.trans J8).size, (L.trans J8).trans j9, hlb.later (J8.trans j9)⟩
              case measure => simp [intOf]; omega
            · have hDr := hDe.out lab2 wr (hk.later L) (by decide)
              rw [show derB key lab2 = derB key (labW 2) from rfl] at hDr
              generalize derB key (labW 2) = Kr at *
              go_wp2_with fail
              (refine hDr.mono ?_); rintro e w4 ⟨rfl, j4⟩
              go_wp2_with (first
                | (refine store_Z 32 rfl rfl _ _ rfl (Blk.new w4 _ (List.replicate 32 (.int .u8 0))) rfl rfl size32w hDlr rfl ?_; intro w5 hk5 ho5)
                | (refine wpList_make_n rfl _ _ _ rfl 5 _ 1 Try.underlying22 info8 rfl _ _ _ _ 0 rfl rfl rfl rfl (by omega) (by omega) ?_; intro w6 hb6 hl6
                   have J6 := ((j4.trans (later_alloc w4 _)).only ho5 j4.size).trans hl6
                   have d2 := HC.out _ (L.trans J6))
                | fail)
              have hk6 := hk5.later hl6
              generalize w4.heap.size = g13 at *
              (refine (refTag_any (some ⟨g13, 0, none⟩) A2 32 32 (m - 32) c2 Kr (F.drop 32) _ (blk_rdBW hk6 hDlr) (by omega) (ho2.later J6).rd (by omega)).mono ?_); rintro e w7 ⟨rfl, j7⟩
              have hG := macTag_length Kr (F.drop 32)
              go_wp2_with (first
                | (refine store_Z 32 rfl rfl _ _ rfl (Blk.new w7 _ (List.replicate 32 (.int .u8 0))) rfl rfl size32w hG rfl ?_; intro w8 hb8 ho8)
                | fail)
              have J7 := J6.trans ((j7.trans (later_alloc w7 _)).only ho8 j7.size)
              generalize w7.heap.size = g17 at *
              have J8 := J7.trans (later_alloc w8 (.cells #[.slice A1 32 c1, .slice (some ⟨g17, 0, none⟩) 32 32] 22))
              (refine (hXo.out _ 32 _ (F.take 32) _ _ (parts_blk2 (Blk.new w8 22 [.slice A1 32 c1, .slice (some ⟨g17, 0, none⟩) 32 32]) (part_of (ho1.later J8).rd ho1.cap) (part_of (blk_rdBW (hb8.later (later_alloc w8 _)) hG) (Nat.le_refl _))) hFt32 hG (by omega)).mono ?_); rintro e w9 ⟨A9, c9, rfl, ho9, j9⟩
              have hl9 := ho9.len
              go_wp2_with fail
              go_roundw
              case rel => exact ⟨j + 1, A9, A2, c9, c2, by omega, by go_num, rfl, rfl, by rw [HF.out, turnE _ _ _ (by decide), List.take_left' hl9]; exact ho9.mono (L.trans J8).size, by rw [HF.out, turnE _ _ _ (by decide), List.drop_left' hl9]; exact ho2.later (J8.trans j9), (L.trans J8).trans j9, hlb.later (J8.trans j9)⟩
              case measure => simp [intOf]; omega
            · have hDr := hDe.out lab3 wr (hk.later L) (by decide)
              rw [show derB key lab3 = derB key (labW 3) from rfl] at hDr
              generalize derB key (labW 3) = Kr at *
              go_wp2_with fail
              (refine hDr.mono ?_); rintro e w4 ⟨rfl, j4⟩
              go_wp2_with (first
                | (refine store_Z 32 rfl rfl _ _ rfl (Blk.new w4 _ (List.replicate 32 (.int .u8 0))) rfl rfl size32w hDlr rfl ?_; intro w5 hk5 ho5)
                | (refine wpList_make_n rfl _ _ _ rfl 5 _ 1 Try.underlying22 info8 rfl _ _ _ _ 0 rfl rfl rfl rfl (by omega) (by omega) ?_; intro w6 hb6 hl6
                   have J6 := ((j4.trans (later_alloc w4 _)).only ho5 j4.size).trans hl6
                   have d2 := HC.out _ (L.trans J6))
                | fail)
              have hk6 := hk5.later hl6
              generalize w4.heap.size = g13 at *
              (refine (hXo.out _ 32 _ (F.take 32) Kr _ (parts_blk2 (Blk.new w6 22 [.slice A1 32 c1, .slice (some ⟨g13, 0, none⟩) 32 32]) (part_of (ho1.later (J6.trans (later_alloc w6 _))).rd ho1.cap) (part_of (blk_rdBW (hk6.later (later_alloc w6 _)) hDlr) (Nat.le_refl _))) hFt32 hDlr (by omega)).mono ?_); rintro e w7 ⟨A7, c7, rfl, ho7, j7⟩
              go_wp2_with fail
              have J7 := (J6.trans (later_alloc w6 (.cells #[.slice A1 32 c1, .slice (some ⟨g13, 0, none⟩) 32 32] 22))).trans j7
              (refine (bytesR_any A7 c7 (m - 32) _ _ ho7.rd (by omega)).mono ?_); rintro e w8 ⟨A8, c8, rfl, ho8, j8⟩
              go_wp2_with fail
              have J8 := (J7.trans j8).trans (later_alloc w8 (.cells #[.slice A2 (m - 32) c2, .slice A8 (m - 32) c8] 22))
              have hST := chaS_length (xorB (F.take 32) Kr) (m - 32)
              (refine (hXo.out _ (m - 32) _ (F.drop 32) _ _ (parts_blk2 (Blk.new w8 22 [.slice A2 (m - 32) c2, .slice A8 (m - 32) c8]) (part_of (ho2.later J8).rd ho2.cap) (part_of (ho8.later (later_alloc w8 _)).rd ho8.cap)) hFd32 hST (by omega)).mono ?_); rintro e w9 ⟨A9, c9, rfl, ho9, j9⟩
              go_wp2_with fail
              go_roundw
              case rel => exact ⟨j + 1, A1, A9, c1, c9, by omega, by go_num, rfl, rfl, by rw [HF.out, turnO _ _ _ (by decide) (by omega) hDlr, List.take_left' hFt32]; exact ho1.later (J8.trans j9), by rw [HF.out, turnO _ _ _ (by decide) (by omega) hDlr, List.drop_left' hFt32, hFm]; exact ho9.mono (L.trans J8).size, (L.trans J8).trans j9, hlb.later (J8.trans j9)⟩
              case measure => simp [intOf]; omega
            · have hDr := hDe.out lab4 wr (hk.later L) (by decide)
              rw [show derB key lab4 = derB key (labW 4) from rfl] at hDr
              generalize derB key (labW 4) = Kr at *
              go_wp2_with fail
              (refine hDr.mono ?_); rintro e w4 ⟨rfl, j4⟩
              go_wp2_with (first
                | (refine store_Z 32 rfl rfl _ _ rfl (Blk.new w4 _ (List.replicate 32 (.int .u8 0))) rfl rfl size32w hDlr rfl ?_; intro w5 hk5 ho5)
                | (refine wpList_make_n rfl _ _ _ rfl 5 _ 1 Try.underlying22 info8 rfl _ _ _ _ 0 rfl rfl rfl rfl (by omega) (by omega) ?_; intro w6 hb6 hl6
                   have J6 := ((j4.trans (later_alloc w4 _)).only ho5 j4.size).trans hl6
                   have d2 := HC.out _ (L.trans J6))
                | fail)
              have hk6 := hk5.later hl6
              generalize w4.heap.size = g13 at *
              (refine (refTag_any (some ⟨g13, 0, none⟩) A2 32 32 (m - 32) c2 Kr (F.drop 32) _ (blk_rdBW hk6 hDlr) (by omega) (ho2.later J6).rd (by omega)).mono ?_); rintro e w7 ⟨rfl, j7⟩
              have hG := macTag_length Kr (F.drop 32)
              go_wp2_with (first
                | (refine store_Z 32 rfl rfl _ _ rfl (Blk.new w7 _ (List.replicate 32 (.int .u8 0))) rfl rfl size32w hG rfl ?_; intro w8 hb8 ho8)
                | fail)
              have J7 := J6.trans ((j7.trans (later_alloc w7 _)).only ho8 j7.size)
              generalize w7.heap.size = g17 at *
              have J8 := J7.trans (later_alloc w8 (.cells #[.slice A1 32 c1, .slice (some ⟨g17, 0, none⟩) 32 32] 22))
              (refine (hXo.out _ 32 _ (F.take 32) _ _ (parts_blk2 (Blk.new w8 22 [.slice A1 32 c1, .slice (some ⟨g17, 0, none⟩) 32 32]) (part_of (ho1.later J8).rd ho1.cap) (part_of (blk_rdBW (hb8.later (later_alloc w8 _)) hG) (Nat.le_refl _))) hFt32 hG (by omega)).mono ?_); rintro e w9 ⟨A9, c9, rfl, ho9, j9⟩
              have hl9 := ho9.len
              go_wp2_with fail
              go_roundw
              case rel => exact ⟨j + 1, A9, A2, c9, c2, by omega, by go_num, rfl, rfl, by rw [HF.out, turnE _ _ _ (by decide), List.take_left' hl9]; exact ho9.mono (L.trans J8).size, by rw [HF.out, turnE _ _ _ (by decide), List.drop_left' hl9]; exact ho2.later (J8.trans j9), (L.trans J8).trans j9, hlb.later (J8.trans j9)⟩
              case measure => simp [intOf]; omega
          · obtain rfl : k = j := by omega
            have eT : rs.take k = rs := List.take_of_length_le (by omega)
            rw [eT] at ho1 ho2
            clear eT
            have hFl' := hFl.out rs
            rw [← hF.out.1] at ho1 ho2 hFl'
            rw [hbl] at hFl'
            have hWE := hF.out.2
            have e32 : 32 + (m - 32) = m := by omega
            go_wp2_with (first
              | (refine wpList_append_rd rfl _ _ _ rfl 5 _ 1 Try.underlying22 info8 rfl w1 _ 32 _ ho1 L A2 (m - 32) c2 _ ho2.rd (w8_one _) rfl rfl (by omega) (by omega) ?_; intro A7 c7 w7 hown7 hl7 hg7 _)
              | fail)
            have hown8 := own_glue hown7
            rw [List.take_append_drop, e32] at hown8
            go_ret2
            exact ⟨hl7, A7, c7, by rw [hFl', hWE]; (first | rw [e32]; rfl | rfl), by rw [hFl']; exact hown8⟩
      · rw [decide_eq_false hf]
        have hB := hid (hunf.out hok (fun h => hf ⟨by rw [← hkl]; exact h.1, by rw [← hbl]; exact h.2⟩))
        clear hunf hfit
        go_wp2_with fail
        go_ret2
        refine ⟨Later.refl _, none, 0, ?_, ?_⟩
        · rw [hB.out.1, hB.out.2]; rfl
        · rw [hB.out.1]; exact own_nil _ _ _
end Go.Proofs.Ytjohieongjnemaa
