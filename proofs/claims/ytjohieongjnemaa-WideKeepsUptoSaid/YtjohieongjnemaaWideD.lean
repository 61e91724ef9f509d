/-
  shallotref01: Xor of two; shallotref07: fits.
-/
import Derived.Test.YtjohieongjnemaaWideC
namespace Go.Proofs.Ytjohieongjnemaa
open Go.RowKit
open Go.BigFrame

theorem parts_two {w : World} {A : Option Addr} {xs ys : List UInt8} (h : Parts w (fun _ => False) A 2 [xs, ys]) :
    ∃ b o A1 c1 A2 c2, A = some ⟨b, o, none⟩ ∧ b < w.heap.size ∧ (∀ w', Later w w' → w'.cell? ⟨b, o, none⟩ = some (.slice A1 xs.length c1) ∧ w'.cell? ⟨b, o + 1, none⟩ = some (.slice A2 ys.length c2)) ∧ xs.length ≤ c1 ∧ RdB w A1 xs.length xs ∧ RdB w A2 ys.length ys := by
  obtain ⟨b, o, A1, n1, c1, e, hb, hck, hcap, hrd, _⟩ := h.at_ (k := 0) (by omega)
  obtain ⟨b', o', A2, n2, c2, e', hb', hck', hcap', hrd', _⟩ := h.at_ (k := 1) (by omega)
  subst e
  cases e'
  have l1 : xs.length = n1 := hrd.len
  have l2 : ys.length = n2 := hrd'.len
  subst l1 l2
  exact ⟨b, o, A1, c1, A2, c2, rfl, hb, fun w' hl => ⟨(hl.below.cell (p := ⟨b, o, none⟩) hb).trans hck, (hl.below.cell (p := ⟨b, o + 1, none⟩) hb).trans hck'⟩, hcap, hrd, hrd'⟩
set_option maxRecDepth 100000 in
set_option maxHeartbeats 4000000 in
theorem xor2_any (A : Option Addr) (n c : Nat) (xs ys : List UInt8) (w : World) (hx : Parts w (fun _ => False) A 2 [xs, ys]) (h1 : xs.length = n) (h2 : ys.length = n) (hn : n ≤ 1048576) :
    Calls Try.prog 51 #[.slice A 2 c] w fun e w' => ∃ A' c', e = .returned (.tuple #[.slice A' n c', .int .i64 0]) ∧ OwnB w' w.heap.size A' n c' (xorB xs ys) ∧ Later w w' := by
  obtain ⟨b, o, A1, c1, A2, c2, rfl, hb, hcell, hcap, hr1, hr2⟩ := parts_two hx
  rw [h1] at hcell hr1
  rw [h2] at hcell hr2
  have hcell := hid hcell
  have hlen : xs.length = ys.length := by omega
  have hX := hid (fun k => xorAt_length hlen k)
  have hG := hid (fun k (h : k < xs.length) => xorAt_get hlen h)
  have hS := hid (fun k (h : k < xs.length) => xorAt_step hlen h)
  have hA := hid (xorAt_all hlen)
  have hN := hid (xorAt_none xs ys)
  have hXl := xorB_length hlen
  generalize xorB xs ys = XB at *
  clear hx
  go_enter Try.func51, Try.ntmps51
  go_wp2_with fail
  go_loopw [4, 5] (fun v i wr => ∃ k : Nat, k ≤ 2 ∧ i = .int .i64 k ∧ Later w wr ∧ ((k = 0 ∧ v = .slice none 0 0) ∨ (k = 1 ∧ ∃ A' c', v = .slice A' n c' ∧ OwnB wr w.heap.size A' n c' xs) ∨ (k = 2 ∧ ∃ A' c', v = .slice A' n c' ∧ OwnB wr w.heap.size A' n c' XB))) (fun _ i _ => 2 - (intOf i).toNat)
  case atStart => exact ⟨0, by omega, rfl, Later.refl w, .inl ⟨rfl, rfl⟩⟩
  case round =>
    obtain ⟨k, hk, rfl, L, ⟨rfl, rfl⟩ | ⟨rfl, A3, c3, rfl, hown⟩ | ⟨rfl, A3, c3, rfl, hown⟩⟩ := hrel
    · have d0 := (hcell.out wr L).1
      go_wp2_with fail
      (refine (copy_any A1 n c1 xs _ (hr1.later L) (by omega)).mono ?_); rintro e w3 ⟨A3, c3, rfl, hown3, j3⟩
      go_wp2_with fail
      go_roundw
      case rel => exact ⟨1, by omega, by go_num, L.trans j3, .inr (.inl ⟨rfl, A3, c3, rfl, hown3.mono L.size⟩)⟩
      case measure => simp [intOf]
    · have d1 := (hcell.out wr L).2
      by_cases h0 : n = 0
      · subst h0
        have e1 : XB = [] := List.eq_nil_of_length_eq_zero (by omega)
        have e2 : xs = [] := List.eq_nil_of_length_eq_zero (by omega)
        go_wp2_with fail
        go_loopw [6] (fun i w2 => i = .int .i64 0 ∧ w2 = wr) (fun _ _ => 0)
        case atStart => exact ⟨rfl, rfl⟩
        case round =>
          obtain ⟨rfl, rfl⟩ := hrel
          go_wp2_with fail
          go_roundw
          case rel => exact ⟨2, by omega, by go_num, L, .inr (.inr ⟨rfl, A3, c3, rfl, by rw [e1, ← e2]; exact hown⟩)⟩
          case measure => simp [intOf]
      · obtain ⟨g, rest, rfl, hg, hbk, hc3, hcc⟩ := own_some hown (by omega)
        have hmx := own_maxc hown
        replace hc3 := hid hc3
        clear hown
        go_wp2_with fail
        go_loopw [6] (fun i w2 => ∃ j : Nat, j ≤ n ∧ i = .int .i64 j ∧ Blk w2 g 5 ((xorAt xs ys j).map W8 ++ rest) ∧ Later w w2) (fun i _ => n - (intOf i).toNat)
        case atStart => exact ⟨0, by omega, rfl, by rw [hN.out]; exact hbk, L⟩
        case round =>
          clear hbk L d1
          obtain ⟨j, hj, rfl, hbk, L⟩ := hrel
          by_cases hlt : j < n
          · have d1 := (hcell.out wr L).2
            have hxj := hX.out j (by omega)
            have hGj := hG.out j (by omega)
            have HSj := hid (hS.out j (by omega))
            obtain ⟨b2, o2, rfl, hb2, hc2⟩ := RdB.at_ (hr2.later L) (by omega)
            have y0 := hc2 j hlt
            have x0 := hbk.cellD j (u := W8 (xs.getD j 0)) (by rw [List.getElem?_append_left (by rw [List.length_map]; omega), List.getElem?_map, hGj]; rfl)
            clear hc2 hGj
            generalize xs.getD j 0 = x at *
            generalize ys.getD j 0 = y at *
            go_wp2_with fail
            refine wp_region_parts [] [0, 1, 2, 3, 4, 5, 6, 7, 8, 9, 10, 11, 12, 13, 14] [15] (by as_aux_lemma => kernel_rfl) (by as_aux_lemma => kernel_rfl) (by intro _ _ d _ _ h; cases d <;> exact h) ?_
            simp only [wpParts, pick, List.getElem?_cons_succ, List.getElem?_cons_zero, Option.toList_some, List.cons_append, List.nil_append]
            repeat (go_big_quiet_step (fail))
            refine wpQuiet_nil ?_
            have hbk' := hbk.drew
            go_wp2_with (first
              | (refine wpList_store_in rfl rfl _ _ _ rfl g j _ _ hbk' rfl (by simp only [List.length_append, List.length_map]; omega) rfl size8 ?_; intro v' w5 hv' hb5 ho5; simp [go_sem] at hv'; subst hv')
              | fail)
            rw [List.set_append_left _ _ (by rw [List.length_map]; omega), map_set8, HSj.out] at hb5
            go_roundw
            case rel => exact ⟨j + 1, by omega, by go_num, hb5, (L.trans (later_drew _)).only ho5 hg⟩
            case measure => simp [intOf]; omega
          · obtain rfl : n = j := by omega
            rw [← h1, hA.out] at hbk
            have hcw : c3 = (XB.map W8 ++ rest).length := by
              rw [hc3.out, List.length_append, List.length_append, List.length_map, List.length_map]
              omega
            have hown := own_mk hbk hg (by rw [← hcw]; exact hmx)
            rw [← hcw, List.length_map, hXl, h2] at hown
            go_wp2_with fail
            go_roundw
            case rel => exact ⟨2, by omega, by go_num, L, .inr (.inr ⟨rfl, _, c3, rfl, hown⟩)⟩
            case measure => simp [intOf]
    · go_wp2_with fail
      go_ret2
      exact ⟨_, _, rfl, hown, L⟩
end Go.Proofs.Ytjohieongjnemaa
