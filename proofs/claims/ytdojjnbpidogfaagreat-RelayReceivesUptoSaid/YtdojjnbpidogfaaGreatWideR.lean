/-
  shallotref01: Xor of two; shallotref07: fits.
  shallotref07: fits, Rounds.
  wide: Seal, Open; shallotref07: Seal, Open; shallotlaw07: told, awake; the law WideSeals, walked.
-/
import Derived.Test.YtdojjnbpidogfaaGreatWideP
import Derived.Deep.RegionWith
namespace Go.Proofs.YtdojjnbpidogfaaGreat
open Go.RowKit
open Go.BigFrame

theorem parts_two7 {w : World} {A : Option Addr} {xs ys : List UInt8} (h : Parts w (fun _ => False) A 2 [xs, ys]) :
    ∃ b o A1 c1 A2 c2, A = some ⟨b, o, none⟩ ∧ b < w.heap.size ∧ (∀ w', Later w w' → w'.cell? ⟨b, o, none⟩ = some (.slice A1 xs.length c1) ∧ w'.cell? ⟨b, o + 1, none⟩ = some (.slice A2 ys.length c2)) ∧ xs.length ≤ c1 ∧ RdB w A1 xs.length xs ∧ RdB w A2 ys.length ys := by
  obtain ⟨b, o, A1, n1, c1, e, hb, hck, hcap, hrd, _⟩ := h.at_ (k := 0) (by omega)
  obtain ⟨b', o', A2, n2, c2, e', hb', hck', hcap', hrd', _⟩ := h.at_ (k := 1) (by omega)
  subst e
  cases e'
  have l1 : xs.length = n1 := hrd.len
  have l2 : ys.length = n2 := hrd'.len
  subst l1 l2
  exact ⟨b, o, A1, c1, A2, c2, rfl, hb, fun w' hl => ⟨(hl.below.cell (p := ⟨b, o, none⟩) hb).trans hck, (hl.below.cell (p := ⟨b, o + 1, none⟩) hb).trans hck'⟩, hcap, hrd, hrd'⟩
set_option maxRecDepth 100000 in
set_option maxHeartbeats 4000000 in
theorem xor2_any (A : Option Addr) (n c : Nat) (xs ys : List UInt8) (w : World) (hx : Parts w (fun _ => False) A 2 [xs, ys]) (h1 : xs.length = n) (h2 : ys.length = n) (hn : n ≤ 1048576) :
    Calls Tryz.prog 89 #[.slice A 2 c] w fun e w' => ∃ A' c', e = .returned (.tuple #[.slice A' n c', .int .i64 0]) ∧ OwnB w' w.heap.size A' n c' (xorB xs ys) ∧ Later w w' := by
  obtain ⟨b, o, A1, c1, A2, c2, rfl, hb, hcell, hcap, hr1, hr2⟩ := parts_two7 hx
  rw [h1] at hcell hr1
  rw [h2] at hcell hr2
  have hcell := hid hcell
  have hlen : xs.length = ys.length := by omega
  have hX := hid (fun k => xorAt_length hlen k)
  have hG := hid (fun k (h : k < xs.length) => xorAt_get hlen h)
  have hS := hid (fun k (h : k < xs.length) => xorAt_step hlen h)
  have hA := hid (xorAt_all hlen)
  have hN := hid (xorAt_none xs ys)
  have hXl := xorB_length hlen
  generalize xorB xs ys = XB at *
  clear hx
  go_enter Tryz.func89, Tryz.ntmps89
  go_wp2_with fail
  go_loopw [4, 5] (fun v i wr => ∃ k : Nat, k ≤ 2 ∧ i = .int .i64 k ∧ Later w wr ∧ ((k = 0 ∧ v = .slice none 0 0) ∨ (k = 1 ∧ ∃ A' c', v = .slice A' n c' ∧ OwnB wr w.heap.size A' n c' xs) ∨ (k = 2 ∧ ∃ A' c', v = .slice A' n c' ∧ OwnB wr w.heap.size A' n c' XB))) (fun _ i _ => 2 - (intOf i).toNat)
  case atStart => exact ⟨0, by omega, rfl, Later.refl w, .inl ⟨rfl, rfl⟩⟩
  case round =>
    obtain ⟨k, hk, rfl, L, ⟨rfl, rfl⟩ | ⟨rfl, A3, c3, rfl, hown⟩ | ⟨rfl, A3, c3, rfl, hown⟩⟩ := hrel
    · have d0 := (hcell.out wr L).1
      go_wp2_with fail
      (refine (copy_any A1 n c1 xs _ (hr1.later L) (by omega)).mono ?_); rintro e w3 ⟨A3, c3, rfl, hown3, j3⟩
      go_wp2_with fail
      go_roundw
      case rel => exact ⟨1, by omega, by go_num, L.trans j3, .inr (.inl ⟨rfl, A3, c3, rfl, hown3.mono L.size⟩)⟩
      case measure => simp [intOf]
    · have d1 := (hcell.out wr L).2
      by_cases h0 : n = 0
      · subst h0
        have e1 : XB = [] := List.eq_nil_of_length_eq_zero (by omega)
        have e2 : xs = [] := List.eq_nil_of_length_eq_zero (by omega)
        go_wp2_with fail
        go_loopw [6] (fun i w2 => i = .int .i64 0 ∧ w2 = wr) (fun _ _ => 0)
        case atStart => exact ⟨rfl, rfl⟩
        case round =>
          obtain ⟨rfl, rfl⟩ := hrel
          go_wp2_with fail
          go_roundw
          case rel => exact ⟨2, by omega, by go_num, L, .inr (.inr ⟨rfl, A3, c3, rfl, by rw [e1, ← e2]; exact hown⟩)⟩
          case measure => simp [intOf]
      · obtain ⟨g, rest, rfl, hg, hbk, hc3, hcc⟩ := own_some hown (by omega)
        have hmx := own_maxc hown
        replace hc3 := hid hc3
        clear hown
        go_wp2_with fail
        go_loopw [6] (fun i w2 => ∃ j : Nat, j ≤ n ∧ i = .int .i64 j ∧ Blk w2 g 5 ((xorAt xs ys j).map W8 ++ rest) ∧ Later w w2) (fun i _ => n - (intOf i).toNat)
        case atStart => exact ⟨0, by omega, rfl, by rw [hN.out]; exact hbk, L⟩
        case round =>
          clear hbk L d1
          obtain ⟨j, hj, rfl, hbk, L⟩ := hrel
          by_cases hlt : j < n
          · have d1 := (hcell.out wr L).2
            have hxj := hX.out j (by omega)
            have hGj := hG.out j (by omega)
            have HSj := hid (hS.out j (by omega))
            obtain ⟨b2, o2, rfl, hb2, hc2⟩ := RdB.at_ (hr2.later L) (by omega)
            have y0 := hc2 j hlt
            have x0 := hbk.cellD j (u := W8 (xs.getD j 0)) (by rw [List.getElem?_append_left (by rw [List.length_map]; omega), List.getElem?_map, hGj]; rfl)
            clear hc2 hGj
            generalize xs.getD j 0 = x at *
            generalize ys.getD j 0 = y at *
            go_wp2_with fail
            refine wp_region_parts [] [0, 1, 2, 3, 4, 5, 6, 7, 8, 9, 10, 11, 12, 13, 14] [15] (by as_aux_lemma => kernel_rfl) (by as_aux_lemma => kernel_rfl) (by intro _ _ d _ _ h; cases d <;> exact h) ?_
            simp only [wpParts, pick, List.getElem?_cons_succ, List.getElem?_cons_zero, Option.toList_some, List.cons_append, List.nil_append]
            repeat (go_big_quiet_step (fail))
            refine wpQuiet_nil ?_
            have hbk' := hbk.drew
            go_wp2_with (first
              | (refine wpList_store_in rfl rfl _ _ _ rfl g j _ _ hbk' rfl (by simp only [List.length_append, List.length_map]; omega) rfl size8 ?_; intro v' w5 hv' hb5 ho5; simp [go_sem] at hv'; subst hv')
              | fail)
            rw [List.set_append_left _ _ (by rw [List.length_map]; omega), map_set8, HSj.out] at hb5
            go_roundw
            case rel => exact ⟨j + 1, by omega, by go_num, hb5, (L.trans (later_drew _)).only ho5 hg⟩
            case measure => simp [intOf]; omega
          · obtain rfl : n = j := by omega
            rw [← h1, hA.out] at hbk
            have hcw : c3 = (XB.map W8 ++ rest).length := by
              rw [hc3.out, List.length_append, List.length_append, List.length_map, List.length_map]
              omega
            have hown := own_mk hbk hg (by rw [← hcw]; exact hmx)
            rw [← hcw, List.length_map, hXl, h2] at hown
            go_wp2_with fail
            go_roundw
            case rel => exact ⟨2, by omega, by go_num, L, .inr (.inr ⟨rfl, _, c3, rfl, hown⟩)⟩
            case measure => simp [intOf]
    · go_wp2_with fail
      go_ret2
      exact ⟨_, _, rfl, hown, L⟩
end Go.Proofs.YtdojjnbpidogfaaGreat
namespace Go.Proofs.YtdojjnbpidogfaaGreat
open Go.RowKit
open Go.BigFrame

theorem turnO (K : List UInt8) (r : Nat) (bs : List UInt8) (hr : ¬ (r = 2 ∨ r = 4)) (h : 32 ≤ bs.length) (hK : K.length = 32) : turnB K r bs = bs.take 32 ++ xorB (bs.drop 32) (chaS (xorB (bs.take 32) K) (bs.length - 32)) := by
  rw [turnB, if_neg hr]
  congr 3
  have hl : K.length = (bs.take 32).length := by rw [List.length_take]; omega
  apply List.ext_getElem?
  intro j
  rw [xorB, xorB, List.getElem?_zipWith, List.getElem?_zipWith]
  by_cases hj : j < K.length
  · rw [List.getElem?_eq_getElem hj, List.getElem?_eq_getElem (show j < (bs.take 32).length by omega)]
    exact congrArg some (UInt8.xor_comm _ _)
  · rw [List.getElem?_eq_none (show K.length ≤ j by omega), List.getElem?_eq_none (show (bs.take 32).length ≤ j by omega)]
theorem turnE (K : List UInt8) (r : Nat) (bs : List UInt8) (hr : r = 2 ∨ r = 4) : turnB K r bs = xorB (bs.take 32) (macTag K (bs.drop 32)) ++ bs.drop 32 := by rw [turnB, if_pos hr]
theorem fits_ref7 (A B : Option Addr) (n c m d : Nat) (w : World) :
    Calls Tryz.prog 88 #[.slice A n c, .slice B m d] w fun e w' => e = .returned (.bool (decide (n = 32 ∧ 32 ≤ m ∧ m ≤ 4096))) ∧ w' = w := by
  by_cases h0 : n = 32
  · subst h0
    by_cases h1 : 32 ≤ m
    · have e1 : (32 : Int) ≤ (m : Int) := by omega
      by_cases h2 : m ≤ 4096
      · have e2 : (m : Int) ≤ 4096 := by omega
        rw [decide_eq_true (show 32 = 32 ∧ 32 ≤ m ∧ m ≤ 4096 from ⟨rfl, h1, h2⟩)]
        go_enter Tryz.func88, Tryz.ntmps88
        go_wp2
        go_ret
        exact ⟨rfl, rfl⟩
      · have e2 : ¬ (m : Int) ≤ 4096 := by omega
        rw [decide_eq_false (show ¬ (32 = 32 ∧ 32 ≤ m ∧ m ≤ 4096) from fun h => h2 h.2.2)]
        go_enter Tryz.func88, Tryz.ntmps88
        go_wp2
        go_ret
        exact ⟨rfl, rfl⟩
    · have e1 : ¬ (32 : Int) ≤ (m : Int) := by omega
      rw [decide_eq_false (show ¬ (32 = 32 ∧ 32 ≤ m ∧ m ≤ 4096) from fun h => h1 h.2.1)]
      go_enter Tryz.func88, Tryz.ntmps88
      go_wp2
      go_ret
      exact ⟨rfl, rfl⟩
  · have e1 : ((n : Int) == 32) = false := by simp; omega
    rw [decide_eq_false (show ¬ (n = 32 ∧ 32 ≤ m ∧ m ≤ 4096) from fun h => h0 h.1)]
    go_enter Tryz.func88, Tryz.ntmps88
    go_wp2
    go_ret
    exact ⟨by simp, rfl⟩
set_option maxRecDepth 100000 in
set_option maxHeartbeats 8000000 in
theorem rounds_ref (A B C : Option Addr) (n c m d k e0 : Nat) (key bs : List UInt8) (rs : List Int) (w : World) (hk : RdB w A n key) (hb : RdB w B m bs) (hd : m ≤ d) (hr : Rd w C k (rs.map intV)) (hn : n ≤ 2097152) (hm : m ≤ 2097152) (hk2 : k ≤ 2097152) :
    Calls Tryz.prog 61 #[.slice A n c, .slice B m d, .slice C k e0] w fun e w' => Later w w' ∧ ∃ A' c', e = .returned (.tuple #[.slice A' (wideB key bs rs).length c', .int .i64 (wideE key bs rs : Nat)]) ∧ OwnB w' w.heap.size A' (wideB key bs rs).length c' (wideB key bs rs) := by
  have hkl := hk.len
  have hbl := hb.len
  have hrl : rs.length = k := by have := hr.1; rwa [List.length_map] at this
  have hbad := hid (fun h => And.intro (@wideB_bad key bs rs h) (@wideE_bad key bs rs h))
  have hunf := hid (fun h h2 => And.intro (@wideB_unfit key bs rs h h2) (@wideE_unfit key bs rs h h2))
  have hfit := hid (fun h h2 => And.intro (@wideB_fit key bs rs h h2) (@wideE_fit key bs rs h h2))
  have hat := hid (fun j (hj : j < k) => rdI_at hr hj)
  have hff := hid (fits_ref7 A B n c m d)
  generalize wideB key bs rs = WB at *
  generalize wideE key bs rs = WE at *
  go_enter Tryz.func61, Tryz.ntmps61
  go_wp2_with fail
  go_loopw [8] (fun i wr => ∃ j : Nat, j ≤ k ∧ i = .int .i64 j ∧ wr = w ∧ Hid (∀ t, t < j → 1 ≤ rs.getD t 0 ∧ rs.getD t 0 ≤ 4)) (fun i _ => k - (intOf i).toNat)
  case atStart => exact ⟨0, by omega, rfl, rfl, hid (fun t h => by omega)⟩
  case round =>
    obtain ⟨j, hj, rfl, rfl, hall⟩ := hrel
    by_cases hlt : j < k
    · obtain ⟨b, o, rfl, hbb, hcell⟩ := hat.out j hlt
      have c1 := hcell wr (Later.refl _)
      clear hcell
      have hmem : rs.getD j 0 ∈ rs := by rw [List.getD_eq_getElem?_getD, List.getElem?_eq_getElem (show j < rs.length by omega)]; exact List.getElem_mem _
      have hbd : ¬ (1 ≤ rs.getD j 0 ∧ rs.getD j 0 ≤ 4) → Hid (WB = [] ∧ WE = 1) := fun h => hid (hbad.out (fun hok => h (hok _ hmem)))
      have hst : 1 ≤ rs.getD j 0 → rs.getD j 0 ≤ 4 → Hid (∀ t, t < j + 1 → 1 ≤ rs.getD t 0 ∧ rs.getD t 0 ≤ 4) := fun h1 h2 => hid (fun t ht => by
        by_cases e : t = j
        · subst e; exact ⟨h1, h2⟩
        · exact hall.out t (by omega))
      clear hmem
      generalize rs.getD j 0 = r at *
      by_cases h1 : r < 1
      · have hB := hbd (by omega)
        clear hbd hst
        go_wp2_with fail
        go_ret2
        refine ⟨Later.refl _, none, 0, ?_, ?_⟩
        · rw [hB.out.1, hB.out.2]; rfl
        · rw [hB.out.1]; exact own_nil _ _ _
      · by_cases h2 : 4 < r
        · have hB := hbd (by omega)
          clear hbd hst
          go_wp2_with fail
          go_ret2
          refine ⟨Later.refl _, none, 0, ?_, ?_⟩
          · rw [hB.out.1, hB.out.2]; rfl
          · rw [hB.out.1]; exact own_nil _ _ _
        · have hS := hst (by omega) (by omega)
          clear hbd hst
          go_wp2_with fail
          go_roundw
          case rel => exact ⟨j + 1, by omega, by go_num, trivial, hS⟩
          case measure => simp [intOf]; omega
    · obtain rfl : k = j := by omega
      have hok : okR rs := fun r hr' => by
        obtain ⟨t, ht⟩ := List.getElem?_of_mem hr'
        have htl := (List.getElem?_eq_some_iff.1 ht).1
        have := hall.out t (by omega)
        rwa [List.getD_eq_getElem?_getD, ht] at this
      clear hbad
      go_wp2_with fail
      (with_reducible refine (hff.out _).mono ?_); rintro e w1 ⟨rfl, rfl⟩
      by_cases hf : n = 32 ∧ 32 ≤ m ∧ m ≤ 4096
      · rw [decide_eq_true hf]
        have hF := hid (hfit.out hok ⟨by rw [hkl]; exact hf.1, by rw [hbl]; exact hf.2⟩)
        obtain ⟨rfl, hm32, hm4⟩ := hf
        clear hunf hfit
        have hDe := hid (fun s w h hs => refDerive_any A 32 c key s w h (by omega) hs)
        have hFt := hid (fun j h => foldW_take key rs bs j h)
        have hFl := hid (fun rs => foldW_length key rs bs (by omega))
        have hDl := hid (fun r => derB_length key (labW r))
        have hXo := hid (fun A n c xs ys w h h1 h2 hn => xor2_any A n c xs ys w h h1 h2 hn)
        have hF0 := hid (show foldW key (rs.take 0) bs = bs from rfl)
        have hcl : ∀ W, (Instr.sliceAt 22 (.slice B m d) none (some (.int .i64 32)) none).run Tryz.prog W = .ok (.slice B 32 d) W := fun W => cut8_to B m d .i64 32 (by omega) W
        have hcr : ∀ W, (Instr.sliceAt 22 (.slice B m d) (some (.int .i64 32)) none none).run Tryz.prog W = .ok (.slice (cutA B 32 d) (m - 32) (d - 32)) W := fun W => cut8_from B m d .i64 32 hm32 W
        go_wp2_with fail
        have J1 := later_alloc w1 (.cells #[.string lab1, .string lab2, .string lab3, .string lab4] 168)
        have hlb := Blk.new w1 168 [.string lab1, .string lab2, .string lab3, .string lab4]
        (refine (copy_any B 32 d (bs.take 32) _ ((hb.later J1).take hm32) (by omega)).mono ?_); rintro e w2 ⟨A2, c2, rfl, ho2, j2⟩
        go_wp2_with fail
        have J2 := J1.trans j2
        (refine (copy_any _ (m - 32) _ (bs.drop 32) _ ((hb.later J2).cut (c := d) hm32 hd) (by omega)).mono ?_); rintro e w3 ⟨A3, c3, rfl, ho3, j3⟩
        have L3 := J2.trans j3
        have ho2' := (ho2.later j3).mono J1.size
        have ho3' := ho3.mono J2.size
        have hlb3 := hlb.later (j2.trans j3)
        clear J1 hlb j2 J2 j3 ho2 ho3
        go_wp2_with fail
        go_loopw [10, 11, 12] (fun v u i wr => ∃ (j : Nat) (A1 A2 : Option Addr) (c1 c2 : Nat), j ≤ k ∧ i = .int .i64 j ∧ v = .slice A1 32 c1 ∧ u = .slice A2 (m - 32) c2 ∧ OwnB wr w1.heap.size A1 32 c1 ((foldW key (rs.take j) bs).take 32) ∧ OwnB wr w1.heap.size A2 (m - 32) c2 ((foldW key (rs.take j) bs).drop 32) ∧ Later w1 wr ∧ Blk wr w1.heap.size 168 [.string lab1, .string lab2, .string lab3, .string lab4]) (fun _ _ i _ => k - (intOf i).toNat)
        case atStart => exact ⟨0, A2, A3, c2, c3, by omega, rfl, rfl, rfl, by rw [hF0.out]; exact ho2', by rw [hF0.out]; exact ho3', L3, hlb3⟩
        case round =>
          clear ho2' ho3' L3 hlb3
          obtain ⟨j, A1, A2, c1, c2, hj, rfl, rfl, rfl, ho1, ho2, L, hlb⟩ := hrel
          by_cases hlt : j < k
          · obtain ⟨b, o, rfl, hbb, hcell⟩ := hat.out j hlt
            have d1 := hcell wr L
            have HC := hid hcell
            have hrr := hall.out j hlt
            have HF := hid (hFt.out j (by omega))
            have hFm := hFl.out (rs.take j)
            have hDlr := hDl.out (rs.getD j 0)
            clear hcell
            generalize rs.getD j 0 = r at *
            generalize foldW key (rs.take j) bs = F at *
            rw [hbl] at hFm
            have hFt32 : (F.take 32).length = 32 := by rw [List.length_take]; omega
            have hFd32 : (F.drop 32).length = m - 32 := by rw [List.length_drop]; omega
            have s0 := hlb.cellD 0 rfl
            have s1 := hlb.cellD 1 rfl
            have s2 := hlb.cellD 2 rfl
            have s3 := hlb.cellD 3 rfl
            have hr4 : r = 1 ∨ r = 2 ∨ r = 3 ∨ r = 4 := by omega
            clear hrr
            rcases hr4 with rfl | rfl | rfl | rfl
            · have hDr := hDe.out lab1 wr (hk.later L) (by decide)
              rw [show derB key lab1 = derB key (labW 1) from rfl] at hDr
              generalize derB key (labW 1) = Kr at *
              go_wp2_with fail
              (refine hDr.mono ?_); rintro e w4 ⟨rfl, j4⟩
              go_wp2_with (first
                | (refine store_Z 32 rfl rfl _ _ rfl (Blk.new w4 _ (List.replicate 32 (.int .u8 0))) rfl rfl size32w hDlr rfl ?_; intro w5 hk5 ho5)
                | (refine wpList_make_n rfl _ _ _ rfl 5 _ 1 Tryz.underlying22 info8 rfl _ _ _ _ 0 rfl rfl rfl rfl (by omega) (by omega) ?_; intro w6 hb6 hl6
                   have J6 := ((j4.trans (later_alloc w4 _)).only ho5 j4.size).trans hl6
                   have d2 := HC.out _ (L.trans J6))
                | fail)
              have hk6 := hk5.later hl6
              generalize w4.heap.size = g13 at *
              (refine (hXo.out _ 32 _ (F.take 32) Kr _ (parts_blk2 (Blk.new w6 22 [.slice A1 32 c1, .slice (some ⟨g13, 0, none⟩) 32 32]) (part_of (ho1.later (J6.trans (later_alloc w6 _))).rd ho1.cap) (part_of (blk_rdBW (hk6.later (later_alloc w6 _)) hDlr) (Nat.le_refl _))) hFt32 hDlr (by omega)).mono ?_); rintro e w7 ⟨A7, c7, rfl, ho7, j7⟩
              go_wp2_with fail
              have J7 := (J6.trans (later_alloc w6 (.cells #[.slice A1 32 c1, .slice (some ⟨g13, 0, none⟩) 32 32] 22))).trans j7
              (refine (bytesR_any A7 c7 (m - 32) _ _ ho7.rd (by omega)).mono ?_); rintro e w8 ⟨A8, c8, rfl, ho8, j8⟩
              go_wp2_with fail
              have J8 := (J7.trans j8).trans (later_alloc w8 (.cells #[.slice A2 (m - 32) c2, .slice A8 (m - 32) c8] 22))
              have hST := chaS_length (xorB (F.take 32) Kr) (m - 32)
              (refine (hXo.out _ (m - 32) _ (F.drop 32) _ _ (parts_blk2 (Blk.new w8 22 [.slice A2 (m - 32) c2, .slice A8 (m - 32) c8]) (part_of (ho2.later J8).rd ho2.cap) (part_of (ho8.later (later_alloc w8 _)).rd ho8.cap)) hFd32 hST (by omega)).mono ?_); rintro e w9 ⟨A9, c9, rfl, ho9, j9⟩
              go_wp2_with fail
              go_roundw
              case rel => exact ⟨j + 1, A1, A9, c1, c9, by omega, by go_num, rfl, rfl, by rw [HF.out, turnO _ _ _ (by decide) (by omega) hDlr, List.take_left' hFt32]; exact ho1.later (J8.trans j9), by rw [HF.out, turnO _ _ _ (by decide) (by omega) hDlr, List.drop_left' hFt32, hFm]; exact ho9.mono (L.trans J8).size, (L.trans J8).trans j9, hlb.later (J8.trans j9)⟩
              case measure => simp [intOf]; omega
            · have hDr := hDe.out lab2 wr (hk.later L) (by decide)
              rw [show derB key lab2 = derB key (labW 2) from rfl] at hDr
              generalize derB key (labW 2) = Kr at *
              go_wp2_with fail
              (refine hDr.mono ?_); rintro e w4 ⟨rfl, j4⟩
              go_wp2_with (first
                | (refine store_Z 32 rfl rfl _ _ rfl (Blk.new w4 _ (List.replicate 32 (.int .u8 0))) rfl rfl size32w hDlr rfl ?_; intro w5 hk5 ho5)
                | (refine wpList_make_n rfl _ _ _ rfl 5 _ 1 Tryz.underlying22 info8 rfl _ _ _ _ 0 rfl rfl rfl rfl (by omega) (by omega) ?_; intro w6 hb6 hl6
                   have J6 := ((j4.trans (later_alloc w4 _)).only ho5 j4.size).trans hl6
                   have d2 := HC.out _ (L.trans J6))
                | fail)
              have hk6 := hk5.later hl6
              generalize w4.heap.size = g13 at *
              (refine (refTag_any (some ⟨g13, 0, none⟩) A2 32 32 (m - 32) c2 Kr (F.drop 32) _ (blk_rdBW hk6 hDlr) (by omega) (ho2.later J6).rd (by omega)).mono ?_); rintro e w7 ⟨rfl, j7⟩
              have hG := macTag_length Kr (F.drop 32)
              go_wp2_with (first
                | (refine store_Z 32 rfl rfl _ _ rfl (Blk.new w7 _ (List.replicate 32 (.int .u8 0))) rfl rfl size32w hG rfl ?_; intro w8 hb8 ho8)
                | fail)
              have J7 := J6.trans ((j7.trans (later_alloc w7 _)).only ho8 j7.size)
              generalize w7.heap.size = g17 at *
              have J8 := J7.trans (later_alloc w8 (.cells #[.slice A1 32 c1, .slice (some ⟨g17, 0, none⟩) 32 32] 22))
              (refine (hXo.out _ 32 _ (F.take 32) _ _ (parts_blk2 (Blk.new w8 22 [.slice A1 32 c1, .slice (some ⟨g17, 0, none⟩) 32 32]) (part_of (ho1.later J8).rd ho1.cap) (part_of (blk_rdBW (hb8.later (later_alloc w8 _)) hG) (Nat.le_refl _))) hFt32 hG (by omega)).mono ?_); rintro e w9 ⟨A9, c9, rfl, ho9, j9⟩
              have hl9 := ho9.len
              go_wp2_with fail
              go_roundw
              case rel => exact ⟨j + 1, A9, A2, c9, c2, by omega, by go_num, rfl, rfl, by rw [HF.out, turnE _ _ _ (by decide), List.take_left' hl9]; exact ho9.mono (L.trans J8).size, by rw [HF.out, turnE _ _ _ (by decide), List.drop_left' hl9]; exact ho2.later (J8.trans j9), (L.trans J8).trans j9, hlb.later (J8.trans j9)⟩
              case measure => simp [intOf]; omega
            · have hDr := hDe.out lab3 wr (hk.later L) (by decide)
              rw [show derB key lab3 = derB key (labW 3) from rfl] at hDr
              generalize derB key (labW 3) = Kr at *
              go_wp2_with fail
              (refine hDr.mono ?_); rintro e w4 ⟨rfl, j4⟩
              go_wp2_with (first
                | (refine store_Z 32 rfl rfl _ _ rfl (Blk.new w4 _ (List.replicate 32 (.int .u8 0))) rfl rfl size32w hDlr rfl ?_; intro w5 hk5 ho5)
                | (refine wpList_make_n rfl _ _ _ rfl 5 _ 1 Tryz.underlying22 info8 rfl _ _ _ _ 0 rfl rfl rfl rfl (by omega) (by omega) ?_; intro w6 hb6 hl6
                   have J6 := ((j4.trans (later_alloc w4 _)).only ho5 j4.size).trans hl6
                   have d2 := HC.out _ (L.trans J6))
                | fail)
              have hk6 := hk5.later hl6
              generalize w4.heap.size = g13 at *
              (refine (hXo.out _ 32 _ (F.take 32) Kr _ (parts_blk2 (Blk.new w6 22 [.slice A1 32 c1, .slice (some ⟨g13, 0, none⟩) 32 32]) (part_of (ho1.later (J6.trans (later_alloc w6 _))).rd ho1.cap) (part_of (blk_rdBW (hk6.later (later_alloc w6 _)) hDlr) (Nat.le_refl _))) hFt32 hDlr (by omega)).mono ?_); rintro e w7 ⟨A7, c7, rfl, ho7, j7⟩
              go_wp2_with fail
              have J7 := (J6.trans (later_alloc w6 (.cells #[.slice A1 32 c1, .slice (some ⟨g13, 0, none⟩) 32 32] 22))).trans j7
              (refine (bytesR_any A7 c7 (m - 32) _ _ ho7.rd (by omega)).mono ?_); rintro e w8 ⟨A8, c8, rfl, ho8, j8⟩
              go_wp2_with fail
              have J8 := (J7.trans j8).trans (later_alloc w8 (.cells #[.slice A2 (m - 32) c2, .slice A8 (m - 32) c8] 22))
              have hST := chaS_length (xorB (F.take 32) Kr) (m - 32)
              (refine (hXo.out _ (m - 32) _ (F.drop 32) _ _ (parts_blk2 (Blk.new w8 22 [.slice A2 (m - 32) c2, .slice A8 (m - 32) c8]) (part_of (ho2.later J8).rd ho2.cap) (part_of (ho8.later (later_alloc w8 _)).rd ho8.cap)) hFd32 hST (by omega)).mono ?_); rintro e w9 ⟨A9, c9, rfl, ho9, j9⟩
              go_wp2_with fail
              go_roundw
              case rel => exact ⟨j + 1, A1, A9, c1, c9, by omega, by go_num, rfl, rfl, by rw [HF.out, turnO _ _ _ (by decide) (by omega) hDlr, List.take_left' hFt32]; exact ho1.later (J8.trans j9), by rw [HF.out, turnO _ _ _ (by decide) (by omega) hDlr, List.drop_left' hFt32, hFm]; exact ho9.mono (L.trans J8).size, (L.trans J8).trans j9, hlb.later (J8.trans j9)⟩
              case measure => simp [intOf]; omega
            · have hDr := hDe.out lab4 wr (hk.later L) (by decide)
              rw [show derB key lab4 = derB key (labW 4) from rfl] at hDr
              generalize derB key (labW 4) = Kr at *
              go_wp2_with fail
              (refine hDr.mono ?_); rintro e w4 ⟨rfl, j4⟩
              go_wp2_with (first
                | (refine store_Z 32 rfl rfl _ _ rfl (Blk.new w4 _ (List.replicate 32 (.int .u8 0))) rfl rfl size32w hDlr rfl ?_; intro w5 hk5 ho5)
                | (refine wpList_make_n rfl _ _ _ rfl 5 _ 1 Tryz.underlying22 info8 rfl _ _ _ _ 0 rfl rfl rfl rfl (by omega) (by omega) ?_; intro w6 hb6 hl6
                   have J6 := ((j4.trans (later_alloc w4 _)).only ho5 j4.size).trans hl6
                   have d2 := HC.out _ (L.trans J6))
                | fail)
              have hk6 := hk5.later hl6
              generalize w4.heap.size = g13 at *
              (refine (refTag_any (some ⟨g13, 0, none⟩) A2 32 32 (m - 32) c2 Kr (F.drop 32) _ (blk_rdBW hk6 hDlr) (by omega) (ho2.later J6).rd (by omega)).mono ?_); rintro e w7 ⟨rfl, j7⟩
              have hG := macTag_length Kr (F.drop 32)
              go_wp2_with (first
                | (refine store_Z 32 rfl rfl _ _ rfl (Blk.new w7 _ (List.replicate 32 (.int .u8 0))) rfl rfl size32w hG rfl ?_; intro w8 hb8 ho8)
                | fail)
              have J7 := J6.trans ((j7.trans (later_alloc w7 _)).only ho8 j7.size)
              generalize w7.heap.size = g17 at *
              have J8 := J7.trans (later_alloc w8 (.cells #[.slice A1 32 c1, .slice (some ⟨g17, 0, none⟩) 32 32] 22))
              (refine (hXo.out _ 32 _ (F.take 32) _ _ (parts_blk2 (Blk.new w8 22 [.slice A1 32 c1, .slice (some ⟨g17, 0, none⟩) 32 32]) (part_of (ho1.later J8).rd ho1.cap) (part_of (blk_rdBW (hb8.later (later_alloc w8 _)) hG) (Nat.le_refl _))) hFt32 hG (by omega)).mono ?_); rintro e w9 ⟨A9, c9, rfl, ho9, j9⟩
              have hl9 := ho9.len
              go_wp2_with fail
              go_roundw
              case rel => exact ⟨j + 1, A9, A2, c9, c2, by omega, by go_num, rfl, rfl, by rw [HF.out, turnE _ _ _ (by decide), List.take_left' hl9]; exact ho9.mono (L.trans J8).size, by rw [HF.out, turnE _ _ _ (by decide), List.drop_left' hl9]; exact ho2.later (J8.trans j9), (L.trans J8).trans j9, hlb.later (J8.trans j9)⟩
              case measure => simp [intOf]; omega
          · obtain rfl : k = j := by omega
            have eT : rs.take k = rs := List.take_of_length_le (by omega)
            rw [eT] at ho1 ho2
            clear eT
            have hFl' := hFl.out rs
            rw [← hF.out.1] at ho1 ho2 hFl'
            rw [hbl] at hFl'
            have hWE := hF.out.2
            have e32 : 32 + (m - 32) = m := by omega
            go_wp2_with (first
              | (refine wpList_append_rd rfl _ _ _ rfl 5 _ 1 Tryz.underlying22 info8 rfl w1 _ 32 _ ho1 L A2 (m - 32) c2 _ ho2.rd (w8_one _) rfl rfl (by omega) (by omega) ?_; intro A7 c7 w7 hown7 hl7 hg7 _)
              | fail)
            have hown8 := own_glue hown7
            rw [List.take_append_drop, e32] at hown8
            go_ret2
            exact ⟨hl7, A7, c7, by rw [hFl', hWE]; (first | rw [e32]; rfl | rfl), by rw [hFl']; exact hown8⟩
      · rw [decide_eq_false hf]
        have hB := hid (hunf.out hok (fun h => hf ⟨by rw [← hkl]; exact h.1, by rw [← hbl]; exact h.2⟩))
        clear hunf hfit
        go_wp2_with fail
        go_ret2
        refine ⟨Later.refl _, none, 0, ?_, ?_⟩
        · rw [hB.out.1, hB.out.2]; rfl
        · rw [hB.out.1]; exact own_nil _ _ _
end Go.Proofs.YtdojjnbpidogfaaGreat
namespace Go.Proofs.YtdojjnbpidogfaaGreat
open Go.RowKit
open Go.BigFrame

def rsS : List Int := [1, 2, 3, 4]
def rsO : List Int := [4, 3, 2, 1]
theorem okS : okR rsS := by decide
theorem okO : okR rsO := by decide
theorem wideE_zero {key bs : List UInt8} {rs : List Int} (h : wideE key bs rs = 0) : okR rs ∧ fitW key bs := by
  unfold wideE at h
  split at h
  · split at h
    · exact ⟨by assumption, by assumption⟩
    · cases h
  · cases h
theorem wide_back {key bs : List UInt8} {rs : List Int} (h : wideE key bs rs = 0) : (wideB key bs rs).length = bs.length ∧ wideE key (wideB key bs rs) rs.reverse = 0 ∧ wideB key (wideB key bs rs) rs.reverse = bs := by
  obtain ⟨hok, hf⟩ := wideE_zero h
  have hl := foldW_length key rs bs hf.2.1
  have hok' : okR rs.reverse := fun r hr => hok r (List.mem_reverse.1 hr)
  have hf' : fitW key (foldW key rs bs) := ⟨hf.1, by rw [hl]; exact hf.2.1, by rw [hl]; exact hf.2.2⟩
  rw [wideB_fit hok hf]
  exact ⟨hl, wideE_fit hok' hf', by rw [wideB_fit hok' hf', foldW_back key rs bs hf.2.1]⟩
set_option maxHeartbeats 1000000 in
theorem open_wide (A B : Option Addr) (n c m d : Nat) (key bs : List UInt8) (w : World) (hk : RdB w A n key) (hc : n ≤ c) (hb : RdB w B m bs) (hd : m ≤ d) (hn : n ≤ 2097152) (hm : m ≤ 2097152) :
    Calls Tryz.prog 66 #[.slice A n c, .slice B m d] w fun e w' => Later w w' ∧ ∃ A' c', e = .returned (.tuple #[.slice A' (wideB key bs rsO).length c', .int .i64 (wideE key bs rsO : Nat)]) ∧ OwnB w' w.heap.size A' (wideB key bs rsO).length c' (wideB key bs rsO) := by
  have h := hid (fun C e0 w hk hb hr => rounds_wide A B C n c m d 4 e0 key bs rsO w hk hc hb hd hr hn hm (by omega))
  generalize wideB key bs rsO = X at *
  generalize wideE key bs rsO = E at *
  go_enter Tryz.func66, Tryz.ntmps66
  go_wp2_with fail
  have J := later_alloc w (.cells #[.int .i64 4, .int .i64 3, .int .i64 2, .int .i64 1] 3)
  (refine (h.out _ _ _ (hk.later J) (hb.later J) ((Blk.new w 3 [.int .i64 4, .int .i64 3, .int .i64 2, .int .i64 1]).rd rfl)).mono ?_); rintro e w1 ⟨j1, A1, c1, rfl, ho1⟩
  go_wp2_with fail
  go_ret2
  exact ⟨J.trans j1, A1, c1, rfl, ho1.mono J.size⟩
set_option maxHeartbeats 1000000 in
theorem open_ref (A B : Option Addr) (n c m d : Nat) (key bs : List UInt8) (w : World) (hk : RdB w A n key) (hb : RdB w B m bs) (hd : m ≤ d) (hn : n ≤ 2097152) (hm : m ≤ 2097152) :
    Calls Tryz.prog 39 #[.slice A n c, .slice B m d] w fun e w' => Later w w' ∧ ∃ A' c', e = .returned (.tuple #[.slice A' (wideB key bs rsO).length c', .int .i64 (wideE key bs rsO : Nat)]) ∧ OwnB w' w.heap.size A' (wideB key bs rsO).length c' (wideB key bs rsO) := by
  have h := hid (fun C e0 w hk hb hr => rounds_ref A B C n c m d 4 e0 key bs rsO w hk hb hd hr hn hm (by omega))
  generalize wideB key bs rsO = X at *
  generalize wideE key bs rsO = E at *
  go_enter Tryz.func39, Tryz.ntmps39
  go_wp2_with fail
  have J := later_alloc w (.cells #[.int .i64 4, .int .i64 3, .int .i64 2, .int .i64 1] 3)
  (refine (h.out _ _ _ (hk.later J) (hb.later J) ((Blk.new w 3 [.int .i64 4, .int .i64 3, .int .i64 2, .int .i64 1]).rd rfl)).mono ?_); rintro e w1 ⟨j1, A1, c1, rfl, ho1⟩
  go_wp2_with fail
  go_ret2
  exact ⟨J.trans j1, A1, c1, rfl, ho1.mono J.size⟩
end Go.Proofs.YtdojjnbpidogfaaGreat

