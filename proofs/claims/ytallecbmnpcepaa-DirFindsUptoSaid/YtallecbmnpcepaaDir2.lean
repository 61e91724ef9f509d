/-
  Nodes in memory: a name, a number, two keys.
-/
import Derived.Test.YtallecbmnpcepaaRowF
import Derived.Test.YtallecbmnpcepaaHelp
import Derived.Test.YtallecbmnpcepaaDir1
namespace Go.Proofs.Ytallecbmnpcepaa
open Go.RowKit
open Go.BigFrame

/-- A node. -/
structure Nod where
  nm : ByteArray
  id : UInt64
  priv : Y32
  pub : Y32
def zero32 : Y32 := ⟨List.replicate 32 0, by simp⟩
def nod0 : Nod := ⟨.empty, 0, zero32, zero32⟩
/-- A node's cells. -/
def NC (x : Nod) : List Value := .string x.nm :: W64 x.id :: (x.priv.val.map W8 ++ x.pub.val.map W8)
theorem NC_length (x : Nod) : (NC x).length = 66 := by simp [NC, x.priv.2, x.pub.2]
theorem NC_one (x : Nod) : ∀ u ∈ NC x, u.oneCell' = true := by
  intro u hu
  simp only [NC, List.mem_cons, List.mem_append, List.mem_map] at hu
  rcases hu with rfl | rfl | ⟨b, _, rfl⟩ | ⟨b, _, rfl⟩ <;> rfl
/-- A row of nodes. -/
abbrev RdN : World → Option Addr → Nat → List Nod → Prop := RdF NC 66 nod0
/-- What a node's cells hold. -/
theorem nod_at {w : World} {A : Option Addr} {n : Nat} {xs : List Nod} (h : RdN w A n xs) {k : Nat} (hk : k < n) :
    ∃ b o, A = some ⟨b, o, none⟩ ∧ b < w.heap.size ∧ w.cell? ⟨b, o + k * 66, none⟩ = some (.string (xs.getD k nod0).nm) ∧ w.cell? ⟨b, o + k * 66 + 1, none⟩ = some (W64 (xs.getD k nod0).id) := by
  obtain ⟨b, o, hA, hb, hc⟩ := h.at_ hk
  exact ⟨b, o, hA, hb, hc 0 _ rfl, hc 1 _ rfl⟩
/-- Its keys. -/
theorem NC_priv (x : Nod) {j : Nat} {v : Value} (h : (x.priv.val.map W8)[j]? = some v) : (NC x)[2 + j]? = some v := by
  have hj : j < (x.priv.val.map W8).length := (List.getElem?_eq_some_iff.1 h).1
  rw [NC, show 2 + j = j + 1 + 1 by omega, List.getElem?_cons_succ, List.getElem?_cons_succ, List.getElem?_append_left hj]
  exact h
theorem NC_pub (x : Nod) {j : Nat} {v : Value} (h : (x.pub.val.map W8)[j]? = some v) : (NC x)[34 + j]? = some v := by
  have hp : (x.priv.val.map W8).length = 32 := by rw [List.length_map, x.priv.2]
  rw [NC, show 34 + j = j + 32 + 1 + 1 by omega, List.getElem?_cons_succ, List.getElem?_cons_succ, List.getElem?_append_right (by omega), hp, Nat.add_sub_cancel]
  exact h
theorem nod_keys {w : World} {A : Option Addr} {n : Nat} {xs : List Nod} (h : RdN w A n xs) {k : Nat} (hk : k < n) :
    ∃ b o, A = some ⟨b, o, none⟩ ∧ b < w.heap.size ∧ (∀ j v, ((xs.getD k nod0).priv.val.map W8)[j]? = some v → w.cell? ⟨b, o + k * 66 + 2 + j, none⟩ = some v) ∧ (∀ j v, ((xs.getD k nod0).pub.val.map W8)[j]? = some v → w.cell? ⟨b, o + k * 66 + 34 + j, none⟩ = some v) := by
  obtain ⟨b, o, hA, hb, hc⟩ := h.at_ hk
  refine ⟨b, o, hA, hb, fun j v hv => ?_, fun j v hv => ?_⟩
  · rw [Nat.add_assoc _ 2 j]; exact hc _ _ (NC_priv _ hv)
  · rw [Nat.add_assoc _ 34 j]; exact hc _ _ (NC_pub _ hv)
def badN (x : Nod) : Bool := x.id == 0 || !okName x.nm
def sameN (x y : Nod) : Bool := x.nm.toList == y.nm.toList || x.id == y.id
def dupAt (xs : List Nod) (i : Nat) : Bool := (List.range i).any fun j => sameN (xs.getD i nod0) (xs.getD j nod0)
/-- The error of a directory. -/
def checkN (xs : List Nod) : Nat := if 64 < xs.length then 2 else if xs.any badN then 3 else if (List.range xs.length).any (dupAt xs) then 4 else 0
theorem any_true {xs : List Nod} {p : Nod → Bool} {k : Nat} (hk : k < xs.length) (h : p (xs.getD k nod0) = true) : xs.any p = true := by
  rw [List.any_eq_true]
  refine ⟨_, List.getElem_mem hk, ?_⟩
  rwa [List.getD_eq_getElem?_getD, List.getElem?_eq_getElem hk] at h
theorem any_false {xs : List Nod} {p : Nod → Bool} (h : ∀ k, k < xs.length → p (xs.getD k nod0) = false) : xs.any p = false := by
  rw [List.any_eq_false]
  intro x hx
  obtain ⟨k, hk, rfl⟩ := List.getElem_of_mem hx
  have := h k hk
  rw [List.getD_eq_getElem?_getD, List.getElem?_eq_getElem hk] at this
  simpa using this
theorem range_false {n : Nat} {p : Nat → Bool} (h : ∀ k, k < n → p k = false) : (List.range n).any p = false := by
  rw [List.any_eq_false]
  intro k hk
  rw [h k (List.mem_range.1 hk)]
  decide
theorem range_true {n k : Nat} {p : Nat → Bool} (hk : k < n) (h : p k = true) : (List.range n).any p = true := List.any_eq_true.2 ⟨k, List.mem_range.2 hk, h⟩
theorem below_succ {p : Nat → Prop} {k : Nat} (h : ∀ j, j < k → p j) (hk : p k) : ∀ j, j < k + 1 → p j := by
  intro j hj
  rcases Nat.lt_or_ge j k with h1 | h1
  · exact h j h1
  · obtain rfl : j = k := by omega
    exact hk
theorem check_size {xs : List Nod} (h : 64 < xs.length) : checkN xs = 2 := by rw [checkN, if_pos h]
theorem check_form {xs : List Nod} {k : Nat} (h : ¬ 64 < xs.length) (hk : k < xs.length) (hb : badN (xs.getD k nod0) = true) : checkN xs = 3 := by rw [checkN, if_neg h, if_pos (any_true hk hb)]
theorem check_name {xs : List Nod} {i j : Nat} (h : ¬ 64 < xs.length) (hf : ∀ k, k < xs.length → badN (xs.getD k nod0) = false) (hi : i < xs.length) (hj : j < i) (hs : sameN (xs.getD i nod0) (xs.getD j nod0) = true) : checkN xs = 4 := by
  rw [checkN, if_neg h, if_neg (by rw [any_false hf]; decide), if_pos (range_true hi (range_true hj hs))]
theorem check_ok {xs : List Nod} (h : ¬ 64 < xs.length) (hf : ∀ k, k < xs.length → badN (xs.getD k nod0) = false) (hd : ∀ k, k < xs.length → dupAt xs k = false) : checkN xs = 0 := by
  rw [checkN, if_neg h, if_neg (by rw [any_false hf]; decide), if_neg (by rw [range_false hd]; decide)]
theorem nod_mem {xs : List Nod} {k : Nat} (hk : k < xs.length) : xs.getD k nod0 ∈ xs := by
  rw [List.getD_eq_getElem?_getD, List.getElem?_eq_getElem hk]
  exact List.getElem_mem hk
set_option maxRecDepth 100000 in
theorem dcheck_any (A : Option Addr) (n c : Nat) (xs : List Nod) (w : World) (hx : RdN w A n xs) (hn : n ≤ 1099511627776) (hs : ∀ x ∈ xs, x.nm.size ≤ 140737488355328) :
    Calls Try.prog 9 #[.slice A n c] w fun e w' => e = .returned (.int .i64 (checkN xs : Nat)) ∧ Later w w' := by
  have hl0 := hx.1
  go_enter Try.func9, Try.ntmps9
  by_cases h64 : 64 < n
  · go_wp2
    go_ret
    exact ⟨by rw [check_size (by omega)]; rfl, Later.refl w⟩
  · go_wp2
    go_loopw [3, 11] (fun _ i wr => ∃ k : Nat, i = .int .i64 k ∧ k ≤ n ∧ (∀ j, j < k → badN (xs.getD j nod0) = false) ∧ Later w wr) (fun _ i _ => n - (intOf i).toNat)
    case atStart => exact ⟨0, rfl, by omega, fun j hj => absurd hj (by omega), Later.refl w⟩
    case round =>
      obtain ⟨k, rfl, hk, hp, hl⟩ := hrel
      by_cases hlt : k < n
      · obtain ⟨b, o, rfl, hb, hc0, hc1⟩ := nod_at (hx.later hl) hlt
        have hwf := hid (wellFormed_any (xs.getD k nod0).nm wr (hs _ (nod_mem (by omega))))
        have hbad := hid (fun (h : badN (xs.getD k nod0) = true) => check_form (xs := xs) (by omega) (by omega) h)
        have hgood := hid (fun (h : badN (xs.getD k nod0) = false) => below_succ (p := fun j => badN (xs.getD j nod0) = false) hp h)
        generalize xs.getD k nod0 = x at *
        clear hp
        by_cases hid0 : x.id = 0
        · go_wp2
          go_ret
          exact ⟨by rw [hbad.out (by rw [badN, hid0]; rfl)]; rfl, hl⟩
        · have hid1 : (x.id == 0) = false := by simpa using hid0
          go_wp2_with fail
          refine (hwf.out).mono ?_
          rintro e w1 ⟨rfl, hl1⟩
          cases hok : okName x.nm
          · go_wp2
            go_ret
            exact ⟨by rw [hbad.out (by rw [badN, hok, Bool.not_false, Bool.or_true])]; rfl, hl.trans hl1⟩
          · go_wp2
            exact ⟨⟨k + 1, rfl, by omega, hgood.out (by rw [badN, hid1, hok]; rfl), hl.trans hl1⟩, by simp [intOf]; omega⟩
      · obtain rfl : k = n := by omega
        replace hp := hid (show ∀ j, j < xs.length → badN (xs.getD j nod0) = false by rw [hl0]; exact hp)
        go_wp2
        go_loopw [4, 5, 32] (fun _ _ i wr => ∃ m : Nat, i = .int .i64 m ∧ m ≤ k ∧ Hid (∀ j, j < m → dupAt xs j = false) ∧ Later w wr) (fun _ _ i _ => k - (intOf i).toNat)
        case atStart => exact ⟨0, rfl, by omega, hid (fun j hj => absurd hj (by omega)), hl⟩
        case round =>
          clear hl
          obtain ⟨i, rfl, hi, hq, hl⟩ := hrel
          by_cases hik : i < k
          · go_wp2
            go_loopw [5] (fun j wr => ∃ m : Nat, j = .int .i64 m ∧ m ≤ i ∧ Hid (∀ j, j < m → sameN (xs.getD i nod0) (xs.getD j nod0) = false) ∧ Later w wr) (fun j _ => i - (intOf j).toNat)
            case atStart => exact ⟨0, rfl, by omega, hid (fun j hj => absurd hj (by omega)), hl⟩
            case round =>
              clear hl
              obtain ⟨m, rfl, hm, hr, hl⟩ := hrel
              by_cases hmi : m < i
              · obtain ⟨b, o, rfl, hb, hi0, hi1⟩ := nod_at (hx.later hl) hik
                obtain ⟨b', o', he, hb', hm0, hm1⟩ := nod_at (hx.later hl) (show m < k by omega)
                simp only [Option.some.injEq, Addr.mk.injEq, and_true] at he
                obtain ⟨rfl, rfl⟩ := he
                have hdup := hid (fun (h : sameN (xs.getD i nod0) (xs.getD m nod0) = true) => check_name (xs := xs) (by omega) hp.out (by omega) hmi h)
                have hgood := hid (fun (h : sameN (xs.getD i nod0) (xs.getD m nod0) = false) => below_succ (p := fun j => sameN (xs.getD i nod0) (xs.getD j nod0) = false) hr.out h)
                generalize xs.getD i nod0 = x at *
                generalize xs.getD m nod0 = y at *
                cases hnm : (x.nm.toList == y.nm.toList)
                · go_wp2_with fail
                  refine wp_region_parts [] [0, 1, 2, 3, 4, 5, 6, 7, 8, 9, 10, 11, 12, 13, 14, 15, 16, 17, 18, 19, 20, 21, 22, 23] [] (by as_aux_lemma => kernel_rfl) (by as_aux_lemma => kernel_rfl) (by intro _ _ d _ _ h; cases d <;> exact h) ?_
                  simp only [wpParts, pick, List.getElem?_cons_succ, List.getElem?_cons_zero, Option.toList_some, List.cons_append, List.nil_append]
                  repeat (go_big_quiet_step (fail))
                  refine wpQuiet_nil ?_
                  cases hie : (x.id == y.id)
                  · go_wp2
                    exact ⟨⟨m + 1, rfl, by omega, hid (hgood.out (by rw [sameN, hnm, hie]; rfl)), hl.trans (later_drew _)⟩, by simp [intOf]; omega⟩
                  · go_wp2
                    go_ret
                    exact ⟨by rw [hdup.out (by rw [sameN, hnm, hie]; rfl)]; rfl, hl.trans (later_drew _)⟩
                · go_wp2_with fail
                  refine wp_region_parts [] [0, 1, 2, 3, 4, 5, 6, 7, 8, 9, 10, 11, 12, 13, 14, 15, 16, 17, 18, 19, 20, 21, 22, 23] [] (by as_aux_lemma => kernel_rfl) (by as_aux_lemma => kernel_rfl) (by intro _ _ d _ _ h; cases d <;> exact h) ?_
                  simp only [wpParts, pick, List.getElem?_cons_succ, List.getElem?_cons_zero, Option.toList_some, List.cons_append, List.nil_append]
                  repeat (go_big_quiet_step (fail))
                  refine wpQuiet_nil ?_
                  go_wp2
                  go_ret
                  exact ⟨by rw [hdup.out (by rw [sameN, hnm]; rfl)]; rfl, hl.trans (later_drew _)⟩
              · obtain rfl : m = i := by omega
                have hnext : Hid (∀ j, j < m + 1 → dupAt xs j = false) := hid (below_succ (p := fun j => dupAt xs j = false) hq.out (range_false hr.out))
                go_wp2
                exact ⟨⟨m + 1, rfl, by omega, hnext, hl⟩, by simp [intOf]; omega⟩
          · obtain rfl : i = k := by omega
            go_wp2
            go_ret
            refine ⟨?_, hl⟩
            rw [check_ok (by omega) hp.out (by rw [hl0]; exact hq.out)]
            rfl
set_option maxRecDepth 100000 in
theorem dcheck_ref (A : Option Addr) (n c : Nat) (xs : List Nod) (w : World) (hx : RdN w A n xs) (hn : n ≤ 1099511627776) (hs : ∀ x ∈ xs, x.nm.size ≤ 140737488355328) :
    Calls Try.prog 11 #[.slice A n c] w fun e w' => e = .returned (.int .i64 (checkN xs : Nat)) ∧ Later w w' := by
  have hl0 := hx.1
  go_enter Try.func11, Try.ntmps11
  by_cases h64 : 64 < n
  · go_wp2
    go_ret
    exact ⟨by rw [check_size (by omega)]; rfl, Later.refl w⟩
  · go_wp2
    go_loopw [3] (fun i wr => ∃ k : Nat, i = .int .i64 k ∧ k ≤ n ∧ (∀ j, j < k → badN (xs.getD j nod0) = false) ∧ Later w wr) (fun i _ => n - (intOf i).toNat)
    case atStart => exact ⟨0, rfl, by omega, fun j hj => absurd hj (by omega), Later.refl w⟩
    case round =>
      obtain ⟨k, rfl, hk, hp, hl⟩ := hrel
      by_cases hlt : k < n
      · obtain ⟨b, o, rfl, hb, hc0, hc1⟩ := nod_at (hx.later hl) hlt
        have hwf := hid (named_ref (xs.getD k nod0).nm wr (hs _ (nod_mem (by omega))))
        have hbad := hid (fun (h : badN (xs.getD k nod0) = true) => check_form (xs := xs) (by omega) (by omega) h)
        have hgood := hid (fun (h : badN (xs.getD k nod0) = false) => below_succ (p := fun j => badN (xs.getD j nod0) = false) hp h)
        generalize xs.getD k nod0 = x at *
        clear hp
        go_wp2_with fail
        refine (hwf.out).mono ?_
        rintro e w1 ⟨rfl, hl1⟩
        replace hc1 := (hl1.below.cell (p := ⟨b, o + k * 66 + 1, none⟩) hb).trans hc1
        cases hok : okName x.nm
        · go_wp2
          go_ret
          exact ⟨by rw [hbad.out (by rw [badN, hok, Bool.not_false, Bool.or_true])]; rfl, hl.trans hl1⟩
        · by_cases hid0 : x.id = 0
          · go_wp2
            go_ret
            exact ⟨by rw [hbad.out (by rw [badN, hid0]; rfl)]; rfl, hl.trans hl1⟩
          · have hid1 : (x.id == 0) = false := by simpa using hid0
            go_wp2
            exact ⟨⟨k + 1, by go_num, by omega, hgood.out (by rw [badN, hid1, hok]; rfl), hl.trans hl1⟩, by simp [intOf]; omega⟩
      · obtain rfl : k = n := by omega
        replace hp := hid (show ∀ j, j < xs.length → badN (xs.getD j nod0) = false by rw [hl0]; exact hp)
        go_wp2
        go_loopw [4, 5] (fun i _ wr => ∃ m : Nat, i = .int .i64 m ∧ m ≤ k ∧ Hid (∀ j, j < m → dupAt xs j = false) ∧ Later w wr) (fun i _ _ => k - (intOf i).toNat)
        case atStart => exact ⟨0, rfl, by omega, hid (fun j hj => absurd hj (by omega)), hl⟩
        case round =>
          clear hl
          obtain ⟨i, rfl, hi, hq, hl⟩ := hrel
          by_cases hik : i < k
          · go_wp2
            go_loopw [5] (fun j wr => ∃ m : Nat, j = .int .i64 m ∧ m ≤ i ∧ Hid (∀ j, j < m → sameN (xs.getD i nod0) (xs.getD j nod0) = false) ∧ Later w wr) (fun j _ => i - (intOf j).toNat)
            case atStart => exact ⟨0, rfl, by omega, hid (fun j hj => absurd hj (by omega)), hl⟩
            case round =>
              clear hl
              obtain ⟨m, rfl, hm, hr, hl⟩ := hrel
              by_cases hmi : m < i
              · obtain ⟨b, o, rfl, hb, hi0, hi1⟩ := nod_at (hx.later hl) hik
                obtain ⟨b', o', he, hb', hm0, hm1⟩ := nod_at (hx.later hl) (show m < k by omega)
                simp only [Option.some.injEq, Addr.mk.injEq, and_true] at he
                obtain ⟨rfl, rfl⟩ := he
                have hdup := hid (fun (h : sameN (xs.getD i nod0) (xs.getD m nod0) = true) => check_name (xs := xs) (by omega) hp.out (by omega) hmi h)
                have hgood := hid (fun (h : sameN (xs.getD i nod0) (xs.getD m nod0) = false) => below_succ (p := fun j => sameN (xs.getD i nod0) (xs.getD j nod0) = false) hr.out h)
                generalize xs.getD i nod0 = x at *
                generalize xs.getD m nod0 = y at *
                cases hnm : (x.nm.toList == y.nm.toList)
                · go_wp2_with fail
                  refine wp_region_parts [] [0, 1, 2, 3, 4, 5, 6, 7, 8, 9, 10, 11, 12, 13, 14, 15, 16, 17, 18, 19, 20, 21, 22, 23] [] (by as_aux_lemma => kernel_rfl) (by as_aux_lemma => kernel_rfl) (by intro _ _ d _ _ h; cases d <;> exact h) ?_
                  simp only [wpParts, pick, List.getElem?_cons_succ, List.getElem?_cons_zero, Option.toList_some, List.cons_append, List.nil_append]
                  repeat (go_big_quiet_step (fail))
                  refine wpQuiet_nil ?_
                  cases hie : (x.id == y.id)
                  · go_wp2
                    exact ⟨⟨m + 1, rfl, by omega, hid (hgood.out (by rw [sameN, hnm, hie]; rfl)), hl.trans (later_drew _)⟩, by simp [intOf]; omega⟩
                  · go_wp2
                    go_ret
                    exact ⟨by rw [hdup.out (by rw [sameN, hnm, hie]; rfl)]; rfl, hl.trans (later_drew _)⟩
                · go_wp2_with fail
                  refine wp_region_parts [] [0, 1, 2, 3, 4, 5, 6, 7, 8, 9, 10, 11, 12, 13, 14, 15, 16, 17, 18, 19, 20, 21, 22, 23] [] (by as_aux_lemma => kernel_rfl) (by as_aux_lemma => kernel_rfl) (by intro _ _ d _ _ h; cases d <;> exact h) ?_
                  simp only [wpParts, pick, List.getElem?_cons_succ, List.getElem?_cons_zero, Option.toList_some, List.cons_append, List.nil_append]
                  repeat (go_big_quiet_step (fail))
                  refine wpQuiet_nil ?_
                  go_wp2
                  go_ret
                  exact ⟨by rw [hdup.out (by rw [sameN, hnm]; rfl)]; rfl, hl.trans (later_drew _)⟩
              · obtain rfl : m = i := by omega
                have hnext : Hid (∀ j, j < m + 1 → dupAt xs j = false) := hid (below_succ (p := fun j => dupAt xs j = false) hq.out (range_false hr.out))
                go_wp2
                exact ⟨⟨m + 1, rfl, by omega, hnext, hl⟩, by simp [intOf]; omega⟩
          · obtain rfl : i = k := by omega
            go_wp2
            go_ret
            refine ⟨?_, hl⟩
            rw [check_ok (by omega) hp.out (by rw [hl0]; exact hq.out)]
            rfl
end Go.Proofs.Ytallecbmnpcepaa
