/-
  shallotlaw09: awake; the law DirChecks.
-/
import Derived.Test.YtallecbmnpcepaaDir7
namespace Go.Proofs.Ytallecbmnpcepaa
open Go.RowKit
open Go.BigFrame

theorem any_eq {xs ys : List Nod} {p : Nod → Bool} (hl : xs.length = ys.length) (h : ∀ k, k < xs.length → p (xs.getD k nod0) = p (ys.getD k nod0)) : xs.any p = ys.any p := by
  by_cases he : ∃ k, k < xs.length ∧ p (xs.getD k nod0) = true
  · obtain ⟨k, hk, hp⟩ := he
    rw [any_true hk hp, any_true (xs := ys) (by omega) ((h k hk).symm.trans hp)]
  · have hf : ∀ k, k < xs.length → p (xs.getD k nod0) = false := fun k hk => by
      cases e : p (xs.getD k nod0)
      · rfl
      · exact absurd ⟨k, hk, e⟩ he
    rw [any_false hf, any_false (xs := ys) fun k hk => (h k (by omega)).symm.trans (hf k (by omega))]
theorem range_eq {n : Nat} {p q : Nat → Bool} (h : ∀ k, k < n → p k = q k) : (List.range n).any p = (List.range n).any q := by
  by_cases he : ∃ k, k < n ∧ p k = true
  · obtain ⟨k, hk, hp⟩ := he
    rw [range_true hk hp, range_true hk ((h k hk).symm.trans hp)]
  · have hf : ∀ k, k < n → p k = false := fun k hk => by
      cases e : p k
      · rfl
      · exact absurd ⟨k, hk, e⟩ he
    rw [range_false hf, range_false fun k hk => (h k hk).symm.trans (hf k hk)]
/-- The check sees names and numbers alone. -/
theorem checkN_eq {xs ys : List Nod} (hl : xs.length = ys.length) (h : ∀ k, k < xs.length → (xs.getD k nod0).nm = (ys.getD k nod0).nm ∧ (xs.getD k nod0).id = (ys.getD k nod0).id) : checkN xs = checkN ys := by
  have h1 : xs.any badN = ys.any badN := any_eq hl fun k hk => by rw [badN, badN, (h k hk).1, (h k hk).2]
  have h2 : (List.range xs.length).any (dupAt xs) = (List.range ys.length).any (dupAt ys) := by
    rw [← hl]
    refine range_eq fun i hi => ?_
    rw [dupAt, dupAt]
    refine range_eq fun j hj => ?_
    rw [sameN, sameN, (h i hi).1, (h i hi).2, (h j (by omega)).1, (h j (by omega)).2]
  rw [checkN, checkN, hl, h1, ← hl, h2, ← hl]
theorem makeL_length (seed : List UInt8) (ss : List ByteArray) : (makeL seed ss).length = ss.length := tabN_length _ _
theorem makeL_getD (seed : List UInt8) (ss : List ByteArray) (k : Nat) (h : k < ss.length) : (makeL seed ss).getD k nod0 = keyed seed k (ss.getD k .empty) := tabN_getD _ h
theorem check_made (seed : List UInt8) (ss : List ByteArray) : checkN (makeL seed ss) = makeE ss := by
  have hl : (nodsOf ss).length = ss.length := tabN_length _ _
  refine checkN_eq (by rw [makeL_length, hl]) fun k hk => ?_
  rw [makeL_length] at hk
  rw [makeL_getD _ _ _ hk, nodsOf, tabN_getD _ hk]
  exact ⟨rfl, rfl⟩
theorem made_names {seed : List UInt8} {ss : List ByteArray} {B : Nat} (hs : ∀ s ∈ ss, s.size ≤ B) : ∀ x ∈ makeL seed ss, x.nm.size ≤ B := by
  intro x hx
  obtain ⟨j, hj, rfl⟩ := List.mem_map.1 hx
  exact hs _ (by rw [List.getD_eq_getElem?_getD, List.getElem?_eq_getElem (List.mem_range.1 hj)]; exact List.getElem_mem _)
def bobS : ByteArray := ⟨#[98, 111, 98]⟩
def alS : ByteArray := ⟨#[97, 108]⟩
def aS : ByteArray := ⟨#[97]⟩
theorem bob_al : makeE [bobS, alS] = 0 := by
  rw [makeE]
  refine check_ok (by decide) (fun k hk => ?_) (fun k hk => ?_)
  · match k, hk with
    | 0, _ => decide
    | 1, _ => decide
  · match k, hk with
    | 0, _ => rfl
    | 1, _ =>
      refine range_false fun j hj => ?_
      obtain rfl : j = 0 := by omega
      rw [sameN, ByteArray.toList_eq, ByteArray.toList_eq]
      decide
theorem a_bad : checkN [⟨aS, 0, zero32, zero32⟩] = 3 := rfl
set_option maxRecDepth 100000 in
theorem awake09 (w : World) : Calls Try.prog 8 #[] w fun e w' => e = .returned (.bool true) ∧ Later w w' := by
  have hM := hid (fun A B w h1 h2 => dmake_any A B 1 1 2 2 [1] [bobS, alS] w h1 (by omega) (by omega) h2 (by omega) (by decide))
  have hE0 := bob_al
  have hC := hid (fun A w h => dcheck_any A 2 2 (makeL [1] [bobS, alS]) w h (by omega) (made_names (by decide)))
  rw [check_made, hE0] at hC
  rw [hE0] at hM
  clear hE0
  have hC2 := hid (fun A w h => dcheck_any A 1 1 [⟨aS, 0, zero32, zero32⟩] w h (by omega) (by decide))
  rw [a_bad] at hC2
  have hl2 : (makeL [1] [bobS, alS]).length = 2 := rfl
  have hn0 : ∀ w g, Blk w g 45 ((makeL [1] [bobS, alS]).flatMap NC) → w.cell? ⟨g, 0, none⟩ = some (.string ⟨#[98, 111, 98]⟩) := fun w g h => h.cellD _ (flatF_get NC_length nod0 (i := 0) _ 0 (by rw [hl2]; omega) (by rw [makeL_getD _ _ 0 (by decide)]; rfl))
  have hn1 : ∀ w g, Blk w g 45 ((makeL [1] [bobS, alS]).flatMap NC) → w.cell? ⟨g, 67, none⟩ = some (W64 2) := fun w g h => h.cellD _ (flatF_get NC_length nod0 (i := 1) _ 1 (by rw [hl2]; omega) (by rw [makeL_getD _ _ 1 (by decide)]; rfl))
  generalize makeL [1] [bobS, alS] = xs at *
  go_enter Try.func8, Try.ntmps8
  go_wp2_with fail
  have b0 : Blk ((w.alloc (.cells #[.int .u8 1] 5)).alloc (.cells #[.string ⟨#[98, 111, 98]⟩, .string ⟨#[97, 108]⟩] 9)) w.heap.size 5 [.int .u8 1] := (Blk.new w _ [_]).later (later_alloc _ _)
  have b1 : Blk ((w.alloc (.cells #[.int .u8 1] 5)).alloc (.cells #[.string ⟨#[98, 111, 98]⟩, .string ⟨#[97, 108]⟩] 9)) (w.heap.size + 1) 9 [.string ⟨#[98, 111, 98]⟩, .string ⟨#[97, 108]⟩] := Blk.new' _ _ [_, _] (by simp)
  refine (hM.out _ _ _ (blk_rdB (bs := [1]) b0 rfl) (b1.rd rfl)).mono ?_
  rintro e w1 ⟨v, rfl, _, hv1, L1⟩
  obtain ⟨g, rfl, hg, hN⟩ := hv1 (by trivial)
  have c0 := hn0 _ _ hN
  have c1 := hn1 _ _ hN
  have L : Later w w1 := ((later_alloc _ _).trans (later_alloc _ _)).trans L1
  clear b0 b1 L1 hv1 hn0 hn1 hM
  go_wp2_with fail
  refine (hC.out (some ⟨g, 0, none⟩) _ (blk_rdF NC_length hN hl2)).mono ?_
  rintro e w2 ⟨rfl, L2⟩
  go_wp2_with (first
    | (refine wpList_build_w rfl _ _ rfl (NC ⟨aS, 0, zero32, zero32⟩) (by simp only [List.map_toArray, List.map_cons, List.map_nil]; exact built_nod1 _) ?_)
    | (refine build_oneC rfl 22 _ rfl 45 66 _ (NC ⟨aS, 0, zero32, zero32⟩) Try.underlying22 infoN2 (by omega) (by omega) (NC_length _) rfl ?_)
    | fail)
  have hbn : Blk (w2.alloc (.cells (NC ⟨aS, 0, zero32, zero32⟩).toArray 45)) w2.heap.size 45 ([⟨aS, 0, zero32, zero32⟩].flatMap NC) := by
    rw [List.flatMap_cons, List.flatMap_nil, List.append_nil]
    exact Blk.new w2 _ _
  refine (hC2.out (some ⟨w2.heap.size, 0, none⟩) _ (blk_rdF NC_length hbn rfl)).mono ?_
  rintro e w3 ⟨rfl, L3⟩
  go_wp2
  go_ret
  exact ⟨rfl, ((L.trans L2).trans (later_alloc _ _)).trans L3⟩
set_option maxRecDepth 100000 in
theorem dirChecks_walk (A : Option Addr) (n c : Nat) (xs : List Nod) (w : World) (hx : RdN w A n xs) (hn : n ≤ 1048576) (hs : ∀ x ∈ xs, x.nm.size ≤ 1048576) :
    Calls Try.prog 3 #[.slice A n c] w fun e w' => e = .returned (.bool true) ∧ Later w w' := by
  have hs' : ∀ x ∈ xs, x.nm.size ≤ 140737488355328 := fun x h => Nat.le_trans (hs x h) (by omega)
  have hl0 := hx.1
  go_enter Try.func3, Try.ntmps3
  go_wp2_with fail
  refine (awake09 _).mono ?_
  rintro e w1 ⟨rfl, L⟩
  go_wp2_with fail
  refine (ntwin_any A n c xs _ (hx.later L) (by omega)).mono ?_
  rintro e w2 ⟨A2, c2, rfl, o2, l2⟩
  have r2 : RdN w2 A2 n xs := own_rdF NC_length o2 hl0
  replace L := L.trans l2
  clear o2 l2
  go_wp2_with fail
  refine (dcheck_any A2 n c2 xs _ r2 (by omega) hs').mono ?_
  rintro e w3 ⟨rfl, l3⟩
  replace L := L.trans l3
  clear l3 r2
  go_wp2_with fail
  refine (dcheck_ref A n c xs _ (hx.later L) (by omega) hs').mono ?_
  rintro e w4 ⟨rfl, l4⟩
  replace L := L.trans l4
  clear l4
  have hF := hid (fun A c w h => dfits_any A n c xs w h (by omega) hs')
  have hR := hid (fun w h => dfits_ref A n c xs w h (by omega) hs')
  generalize checkN xs = E at *
  generalize fitsN xs = F at *
  go_wp2_with fail
  refine (ntwin_any A n c xs _ (hx.later L) (by omega)).mono ?_
  rintro e w5 ⟨A5, c5, rfl, o5, l5⟩
  have r5 : RdN w5 A5 n xs := own_rdF NC_length o5 hl0
  replace L := L.trans l5
  clear o5 l5
  go_wp2_with fail
  refine (hF.out A5 c5 _ r5).mono ?_
  rintro e w6 ⟨rfl, l6⟩
  replace L := L.trans l6
  clear l6 r5
  go_wp2_with fail
  refine (hR.out _ (hx.later L)).mono ?_
  rintro e w7 ⟨rfl, l7⟩
  go_wp2
  go_ret
  exact ⟨rfl, L.trans l7⟩
end Go.Proofs.Ytallecbmnpcepaa
