/-
  shallotref02: times (under way).
-/
import Derived.Test.YtmdbekdphkkmkaaTab1
namespace Go.Proofs.Ytmdbekdphkkmkaa
open Go.RowKit
open Go.BigFrame

theorem rowAt_next65 (x : Nat) (ys ws : List Nat) (i j : Nat) : rowAt 65536 x ys ws i (j + 1) = ((rowAt 65536 x ys ws i j).1.set (i + j) ((x * ys.getD j 0 + (rowAt 65536 x ys ws i j).1.getD (i + j) 0 + (rowAt 65536 x ys ws i j).2) % 65536),
      (x * ys.getD j 0 + (rowAt 65536 x ys ws i j).1.getD (i + j) 0 + (rowAt 65536 x ys ws i j).2) / 65536) := rfl
/-- Digits as they lie in memory. -/
def DL (l : List Nat) : List Value := (l.map UInt64.ofNat).map W64
theorem DL_set (l : List Nat) (i v : Nat) : (DL l).set i (W64 (UInt64.ofNat v)) = DL (l.set i v) := by rw [DL, DL, List.map_set, List.map_set]
theorem DL_length (l : List Nat) : (DL l).length = l.length := by rw [DL, List.length_map, List.length_map]
set_option maxRecDepth 100000 in
theorem times_02 (A B : Option Addr) (n m c d : Nat) (xs ys : List Nat) (w : World) (hx : Rd w A n (DL xs)) (hy : Rd w B m (DL ys)) (hxl : ∀ x ∈ xs, x < 65536) (hyl : ∀ x ∈ ys, x < 65536) (hn : n ≤ 64) (hm : m ≤ 64) :
    Calls Try.prog 77 #[.slice A n c, .slice B m d] w fun e w' => ∃ g, e = .returned (.slice (some ⟨g, 0, none⟩) (n + m + 1) (n + m + 1)) ∧ w.heap.size ≤ g ∧ Blk w' g 92 (DL (prodAt 65536 xs ys (n + m + 1) n)) ∧ Later w w' := by
  have hXL : xs.length = n := by have := hx.1; rwa [DL_length] at this
  have hYL : ys.length = m := by have := hy.1; rwa [DL_length] at this
  go_enter Try.func77, Try.ntmps77
  go_wp2_with (first
    | (refine wpList_make_n rfl _ _ 105 rfl 92 (.int .u64 0) 8 Try.underlying105 info64t rfl _ _ _ _ (n + m + 1) rfl rfl ?hL ?hC (by omega) (by omega) ?_; (case hL => omega); (case hC => omega); intro w1 hb1 hl1)
    | fail)
  go_loopw [6] (fun i wr => ∃ k : Nat, k ≤ n ∧ i = .int .i64 k ∧ Blk wr w.heap.size 92 (DL (prodAt 65536 xs ys (n + m + 1) k)) ∧ Later w wr) (fun i _ => n - (intOf i).toNat)
  case atStart => exact ⟨0, by omega, rfl, by rw [prodAt, DL, List.map_replicate, List.map_replicate]; exact hb1, hl1⟩
  case round =>
    obtain ⟨k, hk, rfl, hb, hl⟩ := hrel
    by_cases hlt : k < n
    · have hHS := hid (show prodAt 65536 xs ys (n + m + 1) (k + 1) = (rowAt 65536 (xs.getD k 0) ys (prodAt 65536 xs ys (n + m + 1) k) k ys.length).1.set (k + ys.length) (rowAt 65536 (xs.getD k 0) ys (prodAt 65536 xs ys (n + m + 1) k) k ys.length).2 from rfl)
      have hwl := prodAt_length 65536 xs ys (n + m + 1) k
      have hwt := prodAt_lt (by decide : 0 < 65536) xs ys (n + m + 1) hxl hyl k
      have hwf := prodAt_far 65536 xs ys (n + m + 1) (k + ys.length) k (Nat.le_refl _) (by omega)
      have hxk := getD_lt (by decide : 0 < 65536) hxl k
      generalize prodAt 65536 xs ys (n + m + 1) k = ws at *
      go_wp2
      go_loopw [7, 8] (fun cy j wr' => ∃ (i : Nat), j = .int .i64 i ∧ Later w wr' ∧ ((i ≤ m ∧ cy = W64 (UInt64.ofNat (rowAt 65536 (xs.getD k 0) ys ws k i).2) ∧ Blk wr' w.heap.size 92 (DL (rowAt 65536 (xs.getD k 0) ys ws k i).1)) ∨ (i = m + 1 ∧ cy = W64 0 ∧ Blk wr' w.heap.size 92 (DL (prodAt 65536 xs ys (n + m + 1) (k + 1)))))) (fun _ j _ => m + 2 - (intOf j).toNat)
      case atStart => exact ⟨0, rfl, hl, .inl ⟨by omega, rfl, hb⟩⟩
      case round =>
        clear hb hl
        obtain ⟨j, rfl, L, hcase⟩ := hrel
        rcases hcase with ⟨hjm, rfl, hb⟩ | ⟨rfl, rfl, hb⟩
        · have hrl := rowAt_length 65536 (xs.getD k 0) ys ws k j
          obtain ⟨hrt, hct⟩ := rowAt_lt (B := 65536) (xs.getD k 0) ys ws k hxk hyl hwt j
          have hfar := rowAt_far 65536 (xs.getD k 0) ys ws k (k + j) j (Nat.le_refl _)
          have HR := hid (rowAt_next65 (xs.getD k 0) ys ws k j)
          have hend := hid (show j = m → prodAt 65536 xs ys (n + m + 1) (k + 1) = (rowAt 65536 (xs.getD k 0) ys ws k j).1.set (k + j) (rowAt 65536 (xs.getD k 0) ys ws k j).2 by intro e; rw [hHS.out, e, hYL])
          have hyj := getD_lt (by decide : 0 < 65536) hyl j
          have hwj := getD_lt (by decide : 0 < 65536) hrt (k + j)
          generalize (rowAt 65536 (xs.getD k 0) ys ws k j).2 = c at *
          generalize (rowAt 65536 (xs.getD k 0) ys ws k j).1 = vs at *
          have hz : (UInt64.ofNat c).toNat = c := by rw [UInt64.toNat_ofNat', Nat.mod_eq_of_lt (by omega)]
          have hzero : j = m → vs.getD (k + j) 0 = 0 := by
            intro e
            rw [List.getD_eq_getElem?_getD, hfar, e, ← hYL, hwf]
            rfl
          have hy0 : j = m → ys.getD j 0 = 0 := by
            intro e
            rw [List.getD_eq_getElem?_getD, List.getElem?_eq_none (by omega)]
            rfl
          by_cases hgo : j < m ∨ 0 < c
          · obtain ⟨ab, ao, rfl, hab, hac⟩ := (hx.later L).2 (by omega)
            have da := hac k (W64 (UInt64.ofNat (xs.getD k 0))) (by rw [DL, List.getElem?_map, List.getElem?_map, List.getD_eq_getElem?_getD, List.getElem?_eq_getElem (by omega)]; rfl)
            have dw := hb.cellD (k + j) (u := W64 (UInt64.ofNat (vs.getD (k + j) 0))) (by rw [DL, List.getElem?_map, List.getElem?_map, List.getD_eq_getElem?_getD, List.getElem?_eq_getElem (by omega)]; rfl)
            have hAt := hid (fun w' (h : Rd w' B m (DL ys)) => at_02 B m d j (ys.map UInt64.ofNat) w' h (by omega) (by omega))
            have hg1 : (ys.map UInt64.ofNat).getD j 0 = UInt64.ofNat (ys.getD j 0) := by
              rw [List.getD_eq_getElem?_getD, List.getElem?_map, List.getD_eq_getElem?_getD]
              cases ys[j]? <;> rfl
            rw [hg1] at hAt
            generalize xs.getD k 0 = x at *
            generalize ys.getD j 0 = y at *
            generalize vs.getD (k + j) 0 = v at *
            have hs : c + v + x * y < 4294967296 := by
              have : x * y ≤ 65535 * 65535 := Nat.mul_le_mul (by omega) (by omega)
              omega
            have hsum : UInt64.ofNat c + UInt64.ofNat v + UInt64.ofNat x * UInt64.ofNat y = UInt64.ofNat (c + v + x * y) := by rw [UInt64.ofNat_add, UInt64.ofNat_add, UInt64.ofNat_mul]
            have hrem : UInt64.ofNat (c + v + x * y) % 65536 = UInt64.ofNat ((x * y + v + c) % 65536) := by
              apply UInt64.toNat_inj.1
              rw [UInt64.toNat_mod, UInt64.toNat_ofNat', UInt64.toNat_ofNat', Nat.mod_eq_of_lt (a := c + v + x * y) (by omega), Nat.mod_eq_of_lt (a := (x * y + v + c) % 65536) (by omega), show x * y + v + c = c + v + x * y by omega]
              rfl
            have hquo : UInt64.ofNat (c + v + x * y) / 65536 = UInt64.ofNat ((x * y + v + c) / 65536) := by
              apply UInt64.toNat_inj.1
              rw [UInt64.toNat_div, UInt64.toNat_ofNat', UInt64.toNat_ofNat', Nat.mod_eq_of_lt (a := c + v + x * y) (by omega), Nat.mod_eq_of_lt (a := (x * y + v + c) / 65536) (by omega), show x * y + v + c = c + v + x * y by omega]
              rfl
            generalize UInt64.ofNat c = zc at *
            have hremH := hid (show (zc + UInt64.ofNat v + UInt64.ofNat x * UInt64.ofNat y) % 65536 = UInt64.ofNat ((x * y + v + c) % 65536) by rw [hsum, hrem])
            have hquoH := hid (show (zc + UInt64.ofNat v + UInt64.ofNat x * UInt64.ofNat y) / 65536 = UInt64.ofNat ((x * y + v + c) / 65536) by rw [hsum, hquo])
            clear hsum hrem hquo
            replace hy0 := hid hy0
            replace hzero := hid hzero
            have hkj : IntKind.i64.wrap ((k : Int) + (j : Int)) = ((k + j : Nat) : Int) := by rw [IntKind.wrap_i64]; omega
            by_cases hjlt : j < m
            · go_wp2_with fail
              refine wp_region_parts [([0, 1, 2, 3, 4, 5, 6, 7, 8, 9, 10, 11, 12, 13], 14)] [15, 16, 17] [] (by as_aux_lemma => kernel_rfl) (by as_aux_lemma => kernel_rfl) (by intro _ _ d _ _ h; cases d <;> exact h) ?_
              simp only [wpParts, pick, List.getElem?_cons_succ, List.getElem?_cons_zero, Option.toList_some, List.cons_append, List.nil_append]
              repeat (go_big_quiet_step (fail))
              refine wpQuiet_nil ?_
              go_wp2_with fail
              refine (hAt.out _ (((hy.later L).later (later_drew _)))).mono ?_
              rintro e w2 ⟨rfl, hl2⟩
              go_wp2_with fail
              try refine ⟨by first | assumption | exact later_drew _ | exact later_alloc _ _ | exact Later.refl _, ?_⟩
              try simp only [wpParts, pick, List.getElem?_cons_succ, List.getElem?_cons_zero, Option.toList_some, List.cons_append, List.nil_append]
              repeat (go_big_quiet_step (fail))
              refine wpQuiet_nil ?_
              have hbn := (hb.drew.later hl2)
              go_wp2_with (first
                | (refine wpList_store_in rfl rfl _ _ _ rfl _ _ _ _ hbn rfl ?hl rfl (by kernel_rfl) ?_; (case hl => rw [DL_length, hrl, hwl]; omega); intro u w3 hv hb3 ho3; simp [go_sem] at hv; subst hv)
                | fail)
              rw [hremH.out, DL_set] at hb3
              rw [hquoH.out]
              have L' := ((L.trans (later_drew _)).trans hl2).only ho3 (Nat.le_refl _)
              refine ⟨⟨j + 1, by go_num, L', .inl ⟨by omega, by rw [HR.out], by rw [HR.out]; exact hb3⟩⟩, by simp [intOf]; omega⟩
            · obtain rfl : j = m := by omega
              have hzpos : (0 : UInt64) < zc := by
                rw [UInt64.lt_iff_toNat_lt, hz]
                simp
                omega
              go_wp2_with fail
              refine wp_region_parts [([0, 1, 2, 3, 4, 5, 6, 7, 8, 9, 10, 11, 12, 13], 14)] [15, 16, 17] [] (by as_aux_lemma => kernel_rfl) (by as_aux_lemma => kernel_rfl) (by intro _ _ d _ _ h; cases d <;> exact h) ?_
              simp only [wpParts, pick, List.getElem?_cons_succ, List.getElem?_cons_zero, Option.toList_some, List.cons_append, List.nil_append]
              repeat (go_big_quiet_step (fail))
              refine wpQuiet_nil ?_
              go_wp2_with fail
              refine (hAt.out _ (((hy.later L).later (later_drew _)))).mono ?_
              rintro e w2 ⟨rfl, hl2⟩
              go_wp2_with fail
              try refine ⟨by first | assumption | exact later_drew _ | exact later_alloc _ _ | exact Later.refl _, ?_⟩
              try simp only [wpParts, pick, List.getElem?_cons_succ, List.getElem?_cons_zero, Option.toList_some, List.cons_append, List.nil_append]
              repeat (go_big_quiet_step (fail))
              refine wpQuiet_nil ?_
              have hbn := (hb.drew.later hl2)
              go_wp2_with (first
                | (refine wpList_store_in rfl rfl _ _ _ rfl _ _ _ _ hbn rfl ?hl rfl (by kernel_rfl) ?_; (case hl => rw [DL_length, hrl, hwl]; omega); intro u w3 hv hb3 ho3; simp [go_sem] at hv; subst hv)
                | fail)
              rw [hremH.out, DL_set] at hb3
              rw [hquoH.out]
              have L' := ((L.trans (later_drew _)).trans hl2).only ho3 (Nat.le_refl _)
              have hs0 : x * y + v + c = c := by rw [hy0.out (by trivial), hzero.out (by trivial)]; omega
              rw [hs0, Nat.mod_eq_of_lt hct, ← hend.out (by trivial)] at hb3
              rw [hs0, Nat.div_eq_of_lt hct]
              refine ⟨⟨j + 1, by go_num, L', .inr ⟨rfl, rfl, hb3⟩⟩, by simp [intOf] <;> omega⟩
          · obtain rfl : j = m := by omega
            obtain rfl : c = 0 := by omega
            go_wp2
            refine ⟨⟨k + 1, by omega, by go_num, ?_, L⟩, by simp [intOf] <;> omega⟩
            rw [hend.out rfl]
            rw [show vs.set (k + j) 0 = vs from ?_]
            · exact hb
            · rw [← hzero rfl, List.getD_eq_getElem?_getD, List.getElem?_eq_getElem (by omega)]
              exact List.set_getElem_self _
        · go_wp2
          go_roundw
          case rel => exact ⟨k + 1, by omega, by go_num, hb, L⟩
          case measure => simp [intOf]; omega
    · obtain rfl : k = n := by omega
      go_wp2
      go_ret
      exact ⟨_, rfl, Nat.le_refl _, hb, hl⟩
end Go.Proofs.Ytmdbekdphkkmkaa
