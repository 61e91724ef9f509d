/-
  shallotref01: Spare, Kept.
-/
import Derived.Test.YtkibgdigcgakfaaMemP
import Derived.Test.YtkibgdigcgakfaaHelp
namespace Go.Proofs.Ytkibgdigcgakfaa
open Go.RowKit

/-- What stands in the spare room at place i. -/
def spM (i : Int) : UInt8 := UInt8.ofInt 160 + UInt8.ofInt (i % 31)
def spareB (bs : List UInt8) : List UInt8 := bs ++ (List.range 40).map fun (j : Nat) => spM ((bs.length : Int) + (j : Int))
/-- Behind k rounds. -/
def spareAt (bs : List UInt8) (k : Nat) : List UInt8 := bs ++ ((List.range k).map fun (j : Nat) => spM ((bs.length : Int) + (j : Int))) ++ List.replicate (40 - k) 0
theorem spareB_length (bs : List UInt8) : (spareB bs).length = bs.length + 40 := by simp [spareB]
theorem spareAt_length (bs : List UInt8) (k : Nat) (h : k ≤ 40) : (spareAt bs k).length = bs.length + 40 := by
  simp [spareAt]
  omega
theorem spareAt_step (bs : List UInt8) (k : Nat) (h : k < 40) : (spareAt bs k).set (bs.length + k) (spM ((bs.length : Int) + (k : Int))) = spareAt bs (k + 1) := by
  have e : 40 - k = (40 - (k + 1)) + 1 := by omega
  rw [spareAt, spareAt, e, List.replicate_succ, List.set_append_right _ _ (by simp), List.range_succ, List.map_append]
  simp
theorem spareAt_all (bs : List UInt8) : spareAt bs 40 = spareB bs := by simp [spareAt, spareB]
theorem spareAt_none (bs : List UInt8) : (spareAt bs 0).map W8 = spliced (List.replicate (bs.length + 40) (W8 0)) 0 ((bs.map W8).take (bs.length + 40)) := by
  rw [List.take_of_length_le (by simp), spliced, spareAt]
  simp only [List.take_zero, List.nil_append, List.length_map, Nat.zero_add, List.drop_replicate, List.map_append, List.map_replicate, List.range_zero, List.map_nil, List.append_nil, Nat.sub_zero, Nat.add_sub_cancel_left]
set_option maxRecDepth 100000 in
set_option maxHeartbeats 1000000 in
theorem spare_any (A : Option Addr) (n c : Nat) (bs : List UInt8) (w : World) (hx : RdB w A n bs) (hn : n ≤ 70368744177664) :
    Calls Try.prog 17 #[.slice A n c] w fun e w' => e = .returned (.tuple #[.slice (some ⟨w.heap.size, 0, none⟩) n (n + 40), .slice (some ⟨w.heap.size, 0, none⟩) (n + 40) (n + 40)]) ∧ Blk w' w.heap.size 5 ((spareB bs).map W8) ∧ Later w w' := by
  have hl := hx.len
  have h0 := spareAt_none bs
  have hstep := fun k h => spareAt_step bs k h
  have hlen := fun k h => spareAt_length bs k h
  have hall := spareAt_all bs
  rw [hl] at h0
  simp only [hl] at hstep hlen
  have H0 := hid h0
  have HS := hid hstep
  have HL := hid hlen
  have HA := hid hall
  clear h0 hstep hlen hall
  go_enter Try.func17, Try.ntmps17
  go_wp2_with (first
    | (refine wpList_make_n rfl _ _ _ rfl 5 _ 1 Try.underlying31 info8 rfl _ _ _ _ (n + 40) rfl rfl ?hL ?hC (by omega) (by omega) ?_; (case hL => go_num); (case hC => go_num); intro w1 hb1 hl1)
    | (refine wpList_copy_rd rfl _ _ _ _ rfl 5 Try.underlying31 size8 w.heap.size 0 (n + 40) (n + 40) 5 (List.replicate (n + 40) (W8 0)) hb1 A n c (bs.map W8) (RdB.later hx hl1) (w8_one _) rfl rfl (by simp) ?_; intro w4 hb4 ho4
       rw [← H0.out] at hb4
       have hl4 := hl1.only ho4 (Nat.le_refl _)))
  go_loopw [5] (fun i wr => ∃ k : Nat, k ≤ 40 ∧ i = .int .i64 ((n + k : Nat) : Int) ∧ Later w wr ∧ Blk wr w.heap.size 5 ((spareAt bs k).map W8)) (fun i _ => n + 40 - (intOf i).toNat)
  case atStart => exact ⟨0, by omega, rfl, hl4, hb4⟩
  case round =>
    clear hl4 hb4
    obtain ⟨k, hk, rfl, hl', hb⟩ := hrel
    by_cases hlt : k < 40
    · have hfl := HL.out k hk
      have HST := hid (HS.out k hlt)
      have hcmp : ((n + k : Nat) : Int) < (n : Int) + 40 := by omega
      go_wp2_with (first
        | (refine wpList_store_in rfl rfl _ _ _ rfl _ _ _ _ hb rfl ?hl rfl (by kernel_rfl) ?_; (case hl => rw [List.length_map, hfl]; omega); intro v' w5 hv' hb5 ho5; simp [go_sem] at hv'; subst hv'))
      refine ⟨⟨k + 1, by omega, by go_num, hl'.only ho5 (Nat.le_refl _), ?_⟩, by simp only [intOf]; omega⟩
      rw [← HST.out, ← map_set8]
      exact hb5
    · have hk40 : k = 40 := by omega
      subst hk40
      rw [HA.out] at hb
      have hcmp : ¬ ((n + 40 : Nat) : Int) < (n : Int) + 40 := by omega
      go_wp2
      go_ret2
      exact ⟨rfl, hb, hl'⟩
theorem w8_get2 {l : List UInt8} {i : Nat} {x : UInt8} (h : l[i]? = some x) : (l.map W8)[i]? = some (W8 x) := by rw [List.getElem?_map, h]; rfl
theorem spareB_low (bs : List UInt8) (k : Nat) (h : k < bs.length) : (spareB bs)[k]? = some (bs.getD k 0) := by
  rw [spareB, List.getElem?_append_left h, List.getElem?_eq_getElem h, List.getD_eq_getElem?_getD, List.getElem?_eq_getElem h]
  rfl
theorem spareB_high (bs : List UInt8) (k : Nat) (h : bs.length ≤ k) (h2 : k < bs.length + 40) : (spareB bs)[k]? = some (spM (k : Int)) := by
  rw [spareB, List.getElem?_append_right h, List.getElem?_map, List.getElem?_range (by omega)]
  simp only [Option.map_some]
  congr 2
  omega
set_option maxRecDepth 100000 in
set_option maxHeartbeats 1000000 in
/-- Kept says yes of what Spare made. -/
theorem kept_true (A B : Option Addr) (n c d : Nat) (bs : List UInt8) (w : World) (hx : RdB w A (n + 40) (spareB bs)) (hy : RdB w B n bs) (hn : n ≤ 70368744177664) :
    Calls Try.prog 23 #[.slice A (n + 40) c, .slice B n d] w fun e w' => e = .returned (.bool true) ∧ Later w w' := by
  have hl := hy.len
  obtain ⟨b1, o1, rfl, hb1, hc1⟩ := Rd.at_ hx (by omega)
  go_enter Try.func23, Try.ntmps23
  go_wp2
  go_loopw [5] (fun i wr => ∃ k : Nat, k ≤ n + 40 ∧ i = .int .i64 k ∧ Later w wr) (fun i _ => n + 40 - (intOf i).toNat)
  case atStart => exact ⟨0, by omega, rfl, Later.refl w⟩
  case round =>
    obtain ⟨k, hk, rfl, hlt⟩ := hrel
    by_cases hkn : k < n + 40
    · have hcell : ∀ x, (spareB bs)[k]? = some x → wr.cell? ⟨b1, o1 + k, none⟩ = some (W8 x) := by
        intro x hx'
        refine (hlt.below.cell (p := ⟨b1, o1 + k, none⟩) hb1).trans ((hc1 k hkn).trans ?_)
        have : ((spareB bs).map W8)[k]? = some (W8 x) := w8_get2 hx'
        rw [List.getElem?_eq_getElem (by rw [List.length_map, spareB_length]; omega)] at this
        exact this
      clear hc1
      by_cases hlow : k < n
      · have c1 := hcell _ (spareB_low bs k (by omega))
        obtain ⟨b2, o2, rfl, hb2, hc2⟩ := RdB.at_ hy (by omega)
        have c2 := (hlt.below.cell (p := ⟨b2, o2 + k, none⟩) hb2).trans (hc2 k hlow)
        clear hcell hc2
        have hd1 : decide ((k : Int) < (n : Int)) = true := decide_eq_true (by omega)
        have hd2 : decide (n ≤ k) = false := decide_eq_false (by omega)
        have hd3 : decide (k < n) = true := decide_eq_true (by omega)
        generalize bs.getD k 0 = x at *
        go_wp2
        refine wp_region_parts [] [0, 1, 2, 3, 4, 5, 6, 7, 8, 9, 10, 11, 12, 13, 14, 15, 16, 17, 18, 19, 20, 21, 22, 23, 24, 25, 26, 27, 28, 29, 30, 31] [] (by as_aux_lemma => kernel_rfl) (by as_aux_lemma => kernel_rfl) (by intro _ _ d _ _ h; cases d <;> exact h) ?_
        simp only [wpParts, pick, List.getElem?_cons_succ, List.getElem?_cons_zero, Option.toList_some, List.cons_append, List.nil_append]
        repeat (go_big_quiet_step (fail))
        refine wpQuiet_nil ?_
        go_wp2
        refine ⟨⟨k + 1, by omega, by go_num, hlt.drew⟩, by simp only [intOf]; omega⟩
      · have c1 := hcell _ (spareB_high bs k (by omega) (by omega))
        rw [spM] at c1
        clear hcell
        have hd1 : decide ((k : Int) < (n : Int)) = false := decide_eq_false (by omega)
        have hd2 : decide (n ≤ k) = true := decide_eq_true (by omega)
        have hd3 : decide (k < n) = false := decide_eq_false (by omega)
        go_wp2
        refine wp_region_parts [] [0, 1, 2, 3, 4, 5, 6, 7, 8, 9, 10, 11, 12, 13, 14, 15, 16, 17, 18, 19, 20, 21, 22, 23, 24, 25, 26, 27, 28, 29, 30, 31] [] (by as_aux_lemma => kernel_rfl) (by as_aux_lemma => kernel_rfl) (by intro _ _ d _ _ h; cases d <;> exact h) ?_
        simp only [wpParts, pick, List.getElem?_cons_succ, List.getElem?_cons_zero, Option.toList_some, List.cons_append, List.nil_append]
        repeat (go_big_quiet_step (fail))
        refine wpQuiet_nil ?_
        go_wp2
        refine ⟨⟨k + 1, by omega, by go_num, hlt.drew⟩, by simp only [intOf]; omega⟩
    · go_wp2
      go_ret
      exact ⟨rfl, hlt⟩
end Go.Proofs.Ytkibgdigcgakfaa
