/-
  dir: names in form.
  Nodes in memory: a name, a number, two keys.
  dir: keys in new memory, directories of one's own.
  dir: do the keys of a directory fit.
-/
import Derived.Test.YtallecbmnpcepaaMem2
import Derived.Test.YtallecbmnpcepaaRowF
import Derived.Test.YtallecbmnpcepaaHelp
import Derived.Test.YtallecbmnpcepaaFLaws
import Derived.Test.YtallecbmnpcepaaStructs
import Derived.Test.YtallecbmnpcepaaByteStr
import Derived.Test.YtallecbmnpcepaaCurveF
namespace Go.Proofs.Ytallecbmnpcepaa
open Go.RowKit
open Go.BigFrame

/-- A byte that a name may have at place 'k'. -/
def okAt (s : ByteArray) (k : Nat) : Bool :=
  if h : k < s.size then (decide (97 ≤ s[k].toNat) && decide (s[k].toNat ≤ 122)) || (decide (48 ≤ s[k].toNat) && decide (s[k].toNat ≤ 57) && decide (0 < k)) else true
/-- A name in form. -/
def okName (s : ByteArray) : Bool := decide (1 ≤ s.size) && decide (s.size ≤ 16) && (List.range s.size).all (okAt s)
theorem okAt_iff (s : ByteArray) (k : Nat) (h : k < s.size) : okAt s k = true ↔ (97 ≤ (s[k].toNat : Int) ∧ (s[k].toNat : Int) ≤ 122) ∨ (48 ≤ (s[k].toNat : Int) ∧ (s[k].toNat : Int) ≤ 57 ∧ 0 < k) := by
  rw [okAt, dif_pos h]
  simp only [Bool.or_eq_true, Bool.and_eq_true, decide_eq_true_eq]
  omega
theorem okName_iff (s : ByteArray) : okName s = true ↔ 1 ≤ s.size ∧ s.size ≤ 16 ∧ ∀ j, j < s.size → okAt s j = true := by
  rw [okName]
  simp only [Bool.and_eq_true, decide_eq_true_eq, List.all_eq_true, List.mem_range, and_assoc]
theorem okName_all {s : ByteArray} (h : ¬ (s.size < 1 ∨ 16 < s.size)) (hj : ∀ j, j < s.size → okAt s j = true) : okName s = true := (okName_iff s).2 ⟨by omega, by omega, hj⟩
theorem okName_len {s : ByteArray} (h : s.size < 1 ∨ 16 < s.size) : okName s = false := by
  rcases Bool.eq_false_or_eq_true (okName s) with e | e
  · have := (okName_iff s).1 e
    omega
  · exact e
theorem okName_bad {s : ByteArray} {k : Nat} (h : k < s.size) (hn : ¬ ((97 ≤ (s[k].toNat : Int) ∧ (s[k].toNat : Int) ≤ 122) ∨ (48 ≤ (s[k].toNat : Int) ∧ (s[k].toNat : Int) ≤ 57 ∧ 0 < k))) : okName s = false := by
  rcases Bool.eq_false_or_eq_true (okName s) with e | e
  · exact absurd ((okAt_iff s k h).1 (((okName_iff s).1 e).2.2 k h)) hn
  · exact e
theorem okAt_next {s : ByteArray} {k : Nat} (h : k < s.size) (hp : ∀ j, j < k → okAt s j = true) (hn : (97 ≤ (s[k].toNat : Int) ∧ (s[k].toNat : Int) ≤ 122) ∨ (48 ≤ (s[k].toNat : Int) ∧ (s[k].toNat : Int) ≤ 57 ∧ 0 < k)) : ∀ j, j < k + 1 → okAt s j = true := by
  intro j hj
  rcases Nat.lt_or_ge j k with h1 | h1
  · exact hp j h1
  · obtain rfl : j = k := by omega
    exact (okAt_iff s j h).2 hn
set_option maxRecDepth 100000 in
theorem wellFormed_any (s : ByteArray) (w : World) (hs : s.size ≤ 140737488355328) :
    Calls Try.prog 31 #[.string s] w fun e w' => e = .returned (.bool (okName s)) ∧ Later w w' := by
  go_enter Try.func31, Try.ntmps31
  by_cases hb : s.size < 1 ∨ 16 < s.size
  · have hbb : (decide ((s.size : Int) < 1) || decide (16 < (s.size : Int))) = true := by simp; omega
    rw [okName_len hb]
    go_wp2
    all_goals
      go_ret
      exact ⟨rfl, Later.refl w⟩
  · go_wp2
    go_loopw [3, 4, 5, 6] (fun i _ _ _ wr => ∃ k : Nat, i = .int .i64 k ∧ k ≤ s.size ∧ (∀ j, j < k → okAt s j = true) ∧ Later w wr) (fun i _ _ _ _ => s.size - (intOf i).toNat)
    case atStart => exact ⟨0, rfl, by omega, fun j hj => absurd hj (by omega), Later.refl w⟩
    case round =>
      obtain ⟨k, rfl, hk, hp, hl⟩ := hrel
      by_cases hlt : k < s.size
      · go_wp2
        all_goals
          try simp only [Bool.not_eq_true', Bool.not_eq_false', decide_eq_true_eq, decide_eq_false_iff_not] at *
          first
            | exact ⟨⟨k + 1, rfl, by omega, okAt_next hlt hp (by omega), hl⟩, by simp [intOf]; omega⟩
            | (go_ret; refine ⟨?_, hl⟩; rw [okName_bad hlt (by omega)]; rfl)
      · obtain rfl : k = s.size := by omega
        go_wp2
        go_ret
        refine ⟨?_, hl⟩
        rw [okName_all hb hp]
        rfl
set_option maxRecDepth 100000 in
theorem named_ref (s : ByteArray) (w : World) (hs : s.size ≤ 140737488355328) :
    Calls Try.prog 32 #[.string s] w fun e w' => e = .returned (.bool (okName s)) ∧ Later w w' := by
  go_enter Try.func32, Try.ntmps32
  by_cases hb : s.size < 1 ∨ 16 < s.size
  · have hbb : (decide ((s.size : Int) < 1) || decide (16 < (s.size : Int))) = true := by simp; omega
    rw [okName_len hb]
    go_wp2
    all_goals
      go_ret
      exact ⟨rfl, Later.refl w⟩
  · go_wp2
    go_loopw [3, 4, 5] (fun i _ _ wr => ∃ k : Nat, i = .int .i64 k ∧ k ≤ s.size ∧ (∀ j, j < k → okAt s j = true) ∧ Later w wr) (fun i _ _ _ => s.size - (intOf i).toNat)
    case atStart => exact ⟨0, rfl, by omega, fun j hj => absurd hj (by omega), Later.refl w⟩
    case round =>
      obtain ⟨k, rfl, hk, hp, hl⟩ := hrel
      by_cases hlt : k < s.size
      · rcases Nat.eq_zero_or_pos k with rfl | hk0
        · go_wp2
          all_goals
            try simp only [Bool.not_eq_true', Bool.not_eq_false', decide_eq_true_eq, decide_eq_false_iff_not] at *
            first
              | exact ⟨⟨0 + 1, rfl, by omega, okAt_next hlt hp (by omega), hl⟩, by simp [intOf]; omega⟩
              | (go_ret; refine ⟨?_, hl⟩; rw [okName_bad hlt (by omega)]; rfl)
        · have hkb : ((k : Int) == 0) = false := by simp; omega
          go_wp2
          all_goals
            try simp only [Bool.not_eq_true', Bool.not_eq_false', decide_eq_true_eq, decide_eq_false_iff_not, hkb] at *
            first
              | exact ⟨⟨k + 1, rfl, by omega, okAt_next hlt hp (by omega), hl⟩, by simp [intOf]; omega⟩
              | (go_ret; refine ⟨?_, hl⟩; rw [okName_bad hlt (by omega)]; rfl)
      · obtain rfl : k = s.size := by omega
        go_wp2
        go_ret
        refine ⟨?_, hl⟩
        rw [okName_all hb hp]
        rfl
end Go.Proofs.Ytallecbmnpcepaa
namespace Go.Proofs.Ytallecbmnpcepaa
open Go.RowKit
open Go.BigFrame

/-- A node. -/
structure Nod where
  nm : ByteArray
  id : UInt64
  priv : Y32
  pub : Y32
def zero32 : Y32 := ⟨List.replicate 32 0, by simp⟩
def nod0 : Nod := ⟨.empty, 0, zero32, zero32⟩
/-- A node's cells. -/
def NC (x : Nod) : List Value := .string x.nm :: W64 x.id :: (x.priv.val.map W8 ++ x.pub.val.map W8)
theorem NC_length (x : Nod) : (NC x).length = 66 := by simp [NC, x.priv.2, x.pub.2]
theorem NC_one (x : Nod) : ∀ u ∈ NC x, u.oneCell' = true := by
  intro u hu
  simp only [NC, List.mem_cons, List.mem_append, List.mem_map] at hu
  rcases hu with rfl | rfl | ⟨b, _, rfl⟩ | ⟨b, _, rfl⟩ <;> rfl
/-- A row of nodes. -/
abbrev RdN : World → Option Addr → Nat → List Nod → Prop := RdF NC 66 nod0
/-- What a node's cells hold. -/
theorem nod_at {w : World} {A : Option Addr} {n : Nat} {xs : List Nod} (h : RdN w A n xs) {k : Nat} (hk : k < n) :
    ∃ b o, A = some ⟨b, o, none⟩ ∧ b < w.heap.size ∧ w.cell? ⟨b, o + k * 66, none⟩ = some (.string (xs.getD k nod0).nm) ∧ w.cell? ⟨b, o + k * 66 + 1, none⟩ = some (W64 (xs.getD k nod0).id) := by
  obtain ⟨b, o, hA, hb, hc⟩ := h.at_ hk
  exact ⟨b, o, hA, hb, hc 0 _ rfl, hc 1 _ rfl⟩
/-- Its keys. -/
theorem NC_priv (x : Nod) {j : Nat} {v : Value} (h : (x.priv.val.map W8)[j]? = some v) : (NC x)[2 + j]? = some v := by
  have hj : j < (x.priv.val.map W8).length := (List.getElem?_eq_some_iff.1 h).1
  rw [NC, show 2 + j = j + 1 + 1 by omega, List.getElem?_cons_succ, List.getElem?_cons_succ, List.getElem?_append_left hj]
  exact h
theorem NC_pub (x : Nod) {j : Nat} {v : Value} (h : (x.pub.val.map W8)[j]? = some v) : (NC x)[34 + j]? = some v := by
  have hp : (x.priv.val.map W8).length = 32 := by rw [List.length_map, x.priv.2]
  rw [NC, show 34 + j = j + 32 + 1 + 1 by omega, List.getElem?_cons_succ, List.getElem?_cons_succ, List.getElem?_append_right (by omega), hp, Nat.add_sub_cancel]
  exact h
theorem nod_keys {w : World} {A : Option Addr} {n : Nat} {xs : List Nod} (h : RdN w A n xs) {k : Nat} (hk : k < n) :
    ∃ b o, A = some ⟨b, o, none⟩ ∧ b < w.heap.size ∧ (∀ j v, ((xs.getD k nod0).priv.val.map W8)[j]? = some v → w.cell? ⟨b, o + k * 66 + 2 + j, none⟩ = some v) ∧ (∀ j v, ((xs.getD k nod0).pub.val.map W8)[j]? = some v → w.cell? ⟨b, o + k * 66 + 34 + j, none⟩ = some v) := by
  obtain ⟨b, o, hA, hb, hc⟩ := h.at_ hk
  refine ⟨b, o, hA, hb, fun j v hv => ?_, fun j v hv => ?_⟩
  · rw [Nat.add_assoc _ 2 j]; exact hc _ _ (NC_priv _ hv)
  · rw [Nat.add_assoc _ 34 j]; exact hc _ _ (NC_pub _ hv)
def badN (x : Nod) : Bool := x.id == 0 || !okName x.nm
def sameN (x y : Nod) : Bool := x.nm.toList == y.nm.toList || x.id == y.id
def dupAt (xs : List Nod) (i : Nat) : Bool := (List.range i).any fun j => sameN (xs.getD i nod0) (xs.getD j nod0)
/-- The error of a directory. -/
def checkN (xs : List Nod) : Nat := if 64 < xs.length then 2 else if xs.any badN then 3 else if (List.range xs.length).any (dupAt xs) then 4 else 0
theorem any_true {xs : List Nod} {p : Nod → Bool} {k : Nat} (hk : k < xs.length) (h : p (xs.getD k nod0) = true) : xs.any p = true := by
  rw [List.any_eq_true]
  refine ⟨_, List.getElem_mem hk, ?_⟩
  rwa [List.getD_eq_getElem?_getD, List.getElem?_eq_getElem hk] at h
theorem any_false {xs : List Nod} {p : Nod → Bool} (h : ∀ k, k < xs.length → p (xs.getD k nod0) = false) : xs.any p = false := by
  rw [List.any_eq_false]
  intro x hx
  obtain ⟨k, hk, rfl⟩ := List.getElem_of_mem hx
  have := h k hk
  rw [List.getD_eq_getElem?_getD, List.getElem?_eq_getElem hk] at this
  simpa using this
theorem range_false {n : Nat} {p : Nat → Bool} (h : ∀ k, k < n → p k = false) : (List.range n).any p = false := by
  rw [List.any_eq_false]
  intro k hk
  rw [h k (List.mem_range.1 hk)]
  decide
theorem range_true {n k : Nat} {p : Nat → Bool} (hk : k < n) (h : p k = true) : (List.range n).any p = true := List.any_eq_true.2 ⟨k, List.mem_range.2 hk, h⟩
theorem below_succ {p : Nat → Prop} {k : Nat} (h : ∀ j, j < k → p j) (hk : p k) : ∀ j, j < k + 1 → p j := by
  intro j hj
  rcases Nat.lt_or_ge j k with h1 | h1
  · exact h j h1
  · obtain rfl : j = k := by omega
    exact hk
theorem check_size {xs : List Nod} (h : 64 < xs.length) : checkN xs = 2 := by rw [checkN, if_pos h]
theorem check_form {xs : List Nod} {k : Nat} (h : ¬ 64 < xs.length) (hk : k < xs.length) (hb : badN (xs.getD k nod0) = true) : checkN xs = 3 := by rw [checkN, if_neg h, if_pos (any_true hk hb)]
theorem check_name {xs : List Nod} {i j : Nat} (h : ¬ 64 < xs.length) (hf : ∀ k, k < xs.length → badN (xs.getD k nod0) = false) (hi : i < xs.length) (hj : j < i) (hs : sameN (xs.getD i nod0) (xs.getD j nod0) = true) : checkN xs = 4 := by
  rw [checkN, if_neg h, if_neg (by rw [any_false hf]; decide), if_pos (range_true hi (range_true hj hs))]
theorem check_ok {xs : List Nod} (h : ¬ 64 < xs.length) (hf : ∀ k, k < xs.length → badN (xs.getD k nod0) = false) (hd : ∀ k, k < xs.length → dupAt xs k = false) : checkN xs = 0 := by
  rw [checkN, if_neg h, if_neg (by rw [any_false hf]; decide), if_neg (by rw [range_false hd]; decide)]
theorem nod_mem {xs : List Nod} {k : Nat} (hk : k < xs.length) : xs.getD k nod0 ∈ xs := by
  rw [List.getD_eq_getElem?_getD, List.getElem?_eq_getElem hk]
  exact List.getElem_mem hk
set_option maxRecDepth 100000 in
theorem dcheck_any (A : Option Addr) (n c : Nat) (xs : List Nod) (w : World) (hx : RdN w A n xs) (hn : n ≤ 1099511627776) (hs : ∀ x ∈ xs, x.nm.size ≤ 140737488355328) :
    Calls Try.prog 9 #[.slice A n c] w fun e w' => e = .returned (.int .i64 (checkN xs : Nat)) ∧ Later w w' := by
  have hl0 := hx.1
  go_enter Try.func9, Try.ntmps9
  by_cases h64 : 64 < n
  · go_wp2
    go_ret
    exact ⟨by rw [check_size (by omega)]; rfl, Later.refl w⟩
  · go_wp2
    go_loopw [3, 11] (fun _ i wr => ∃ k : Nat, i = .int .i64 k ∧ k ≤ n ∧ (∀ j, j < k → badN (xs.getD j nod0) = false) ∧ Later w wr) (fun _ i _ => n - (intOf i).toNat)
    case atStart => exact ⟨0, rfl, by omega, fun j hj => absurd hj (by omega), Later.refl w⟩
    case round =>
      obtain ⟨k, rfl, hk, hp, hl⟩ := hrel
      by_cases hlt : k < n
      · obtain ⟨b, o, rfl, hb, hc0, hc1⟩ := nod_at (hx.later hl) hlt
        have hwf := hid (wellFormed_any (xs.getD k nod0).nm wr (hs _ (nod_mem (by omega))))
        have hbad := hid (fun (h : badN (xs.getD k nod0) = true) => check_form (xs := xs) (by omega) (by omega) h)
        have hgood := hid (fun (h : badN (xs.getD k nod0) = false) => below_succ (p := fun j => badN (xs.getD j nod0) = false) hp h)
        generalize xs.getD k nod0 = x at *
        clear hp
        by_cases hid0 : x.id = 0
        · go_wp2
          go_ret
          exact ⟨by rw [hbad.out (by rw [badN, hid0]; rfl)]; rfl, hl⟩
        · have hid1 : (x.id == 0) = false := by simpa using hid0
          go_wp2_with fail
          refine (hwf.out).mono ?_
          rintro e w1 ⟨rfl, hl1⟩
          cases hok : okName x.nm
          · go_wp2
            go_ret
            exact ⟨by rw [hbad.out (by rw [badN, hok, Bool.not_false, Bool.or_true])]; rfl, hl.trans hl1⟩
          · go_wp2
            exact ⟨⟨k + 1, rfl, by omega, hgood.out (by rw [badN, hid1, hok]; rfl), hl.trans hl1⟩, by simp [intOf]; omega⟩
      · obtain rfl : k = n := by omega
        replace hp := hid (show ∀ j, j < xs.length → badN (xs.getD j nod0) = false by rw [hl0]; exact hp)
        go_wp2
        go_loopw [4, 5, 32] (fun _ _ i wr => ∃ m : Nat, i = .int .i64 m ∧ m ≤ k ∧ Hid (∀ j, j < m → dupAt xs j = false) ∧ Later w wr) (fun _ _ i _ => k - (intOf i).toNat)
        case atStart => exact ⟨0, rfl, by omega, hid (fun j hj => absurd hj (by omega)), hl⟩
        case round =>
          clear hl
          obtain ⟨i, rfl, hi, hq, hl⟩ := hrel
          by_cases hik : i < k
          · go_wp2
            go_loopw [5] (fun j wr => ∃ m : Nat, j = .int .i64 m ∧ m ≤ i ∧ Hid (∀ j, j < m → sameN (xs.getD i nod0) (xs.getD j nod0) = false) ∧ Later w wr) (fun j _ => i - (intOf j).toNat)
            case atStart => exact ⟨0, rfl, by omega, hid (fun j hj => absurd hj (by omega)), hl⟩
            case round =>
              clear hl
              obtain ⟨m, rfl, hm, hr, hl⟩ := hrel
              by_cases hmi : m < i
              · obtain ⟨b, o, rfl, hb, hi0, hi1⟩ := nod_at (hx.later hl) hik
                obtain ⟨b', o', he, hb', hm0, hm1⟩ := nod_at (hx.later hl) (show m < k by omega)
                simp only [Option.some.injEq, Addr.mk.injEq, and_true] at he
                obtain ⟨rfl, rfl⟩ := he
                have hdup := hid (fun (h : sameN (xs.getD i nod0) (xs.getD m nod0) = true) => check_name (xs := xs) (by omega) hp.out (by omega) hmi h)
                have hgood := hid (fun (h : sameN (xs.getD i nod0) (xs.getD m nod0) = false) => below_succ (p := fun j => sameN (xs.getD i nod0) (xs.getD j nod0) = false) hr.out h)
                generalize xs.getD i nod0 = x at *
                generalize xs.getD m nod0 = y at *
                cases hnm : (x.nm.toList == y.nm.toList)
                · go_wp2_with fail
                  refine wp_region_parts [] [0, 1, 2, 3, 4, 5, 6, 7, 8, 9, 10, 11, 12, 13, 14, 15, 16, 17, 18, 19, 20, 21, 22, 23] [] (by as_aux_lemma => kernel_rfl) (by as_aux_lemma => kernel_rfl) (by intro _ _ d _ _ h; cases d <;> exact h) ?_
                  simp only [wpParts, pick, List.getElem?_cons_succ, List.getElem?_cons_zero, Option.toList_some, List.cons_append, List.nil_append]
                  repeat (go_big_quiet_step (fail))
                  refine wpQuiet_nil ?_
                  cases hie : (x.id == y.id)
                  · go_wp2
                    exact ⟨⟨m + 1, rfl, by omega, hid (hgood.out (by rw [sameN, hnm, hie]; rfl)), hl.trans (later_drew _)⟩, by simp [intOf]; omega⟩
                  · go_wp2
                    go_ret
                    exact ⟨by rw [hdup.out (by rw [sameN, hnm, hie]; rfl)]; rfl, hl.trans (later_drew _)⟩
                · go_wp2_with fail
                  refine wp_region_parts [] [0, 1, 2, 3, 4, 5, 6, 7, 8, 9, 10, 11, 12, 13, 14, 15, 16, 17, 18, 19, 20, 21, 22, 23] [] (by as_aux_lemma => kernel_rfl) (by as_aux_lemma => kernel_rfl) (by intro _ _ d _ _ h; cases d <;> exact h) ?_
                  simp only [wpParts, pick, List.getElem?_cons_succ, List.getElem?_cons_zero, Option.toList_some, List.cons_append, List.nil_append]
                  repeat (go_big_quiet_step (fail))
                  refine wpQuiet_nil ?_
                  go_wp2
                  go_ret
                  exact ⟨by rw [hdup.out (by rw [sameN, hnm]; rfl)]; rfl, hl.trans (later_drew _)⟩
              · obtain rfl : m = i := by omega
                have hnext : Hid (∀ j, j < m + 1 → dupAt xs j = false) := hid (below_succ (p := fun j => dupAt xs j = false) hq.out (range_false hr.out))
                go_wp2
                exact ⟨⟨m + 1, rfl, by omega, hnext, hl⟩, by simp [intOf]; omega⟩
          · obtain rfl : i = k := by omega
            go_wp2
            go_ret
            refine ⟨?_, hl⟩
            rw [check_ok (by omega) hp.out (by rw [hl0]; exact hq.out)]
            rfl
set_option maxRecDepth 100000 in
theorem dcheck_ref (A : Option Addr) (n c : Nat) (xs : List Nod) (w : World) (hx : RdN w A n xs) (hn : n ≤ 1099511627776) (hs : ∀ x ∈ xs, x.nm.size ≤ 140737488355328) :
    Calls Try.prog 11 #[.slice A n c] w fun e w' => e = .returned (.int .i64 (checkN xs : Nat)) ∧ Later w w' := by
  have hl0 := hx.1
  go_enter Try.func11, Try.ntmps11
  by_cases h64 : 64 < n
  · go_wp2
    go_ret
    exact ⟨by rw [check_size (by omega)]; rfl, Later.refl w⟩
  · go_wp2
    go_loopw [3] (fun i wr => ∃ k : Nat, i = .int .i64 k ∧ k ≤ n ∧ (∀ j, j < k → badN (xs.getD j nod0) = false) ∧ Later w wr) (fun i _ => n - (intOf i).toNat)
    case atStart => exact ⟨0, rfl, by omega, fun j hj => absurd hj (by omega), Later.refl w⟩
    case round =>
      obtain ⟨k, rfl, hk, hp, hl⟩ := hrel
      by_cases hlt : k < n
      · obtain ⟨b, o, rfl, hb, hc0, hc1⟩ := nod_at (hx.later hl) hlt
        have hwf := hid (named_ref (xs.getD k nod0).nm wr (hs _ (nod_mem (by omega))))
        have hbad := hid (fun (h : badN (xs.getD k nod0) = true) => check_form (xs := xs) (by omega) (by omega) h)
        have hgood := hid (fun (h : badN (xs.getD k nod0) = false) => below_succ (p := fun j => badN (xs.getD j nod0) = false) hp h)
        generalize xs.getD k nod0 = x at *
        clear hp
        go_wp2_with fail
        refine (hwf.out).mono ?_
        rintro e w1 ⟨rfl, hl1⟩
        replace hc1 := (hl1.below.cell (p := ⟨b, o + k * 66 + 1, none⟩) hb).trans hc1
        cases hok : okName x.nm
        · go_wp2
          go_ret
          exact ⟨by rw [hbad.out (by rw [badN, hok, Bool.not_false, Bool.or_true])]; rfl, hl.trans hl1⟩
        · by_cases hid0 : x.id = 0
          · go_wp2
            go_ret
            exact ⟨by rw [hbad.out (by rw [badN, hid0]; rfl)]; rfl, hl.trans hl1⟩
          · have hid1 : (x.id == 0) = false := by simpa using hid0
            go_wp2
            exact ⟨⟨k + 1, by go_num, by omega, hgood.out (by rw [badN, hid1, hok]; rfl), hl.trans hl1⟩, by simp [intOf]; omega⟩
      · obtain rfl : k = n := by omega
        replace hp := hid (show ∀ j, j < xs.length → badN (xs.getD j nod0) = false by rw [hl0]; exact hp)
        go_wp2
        go_loopw [4, 5] (fun i _ wr => ∃ m : Nat, i = .int .i64 m ∧ m ≤ k ∧ Hid (∀ j, j < m → dupAt xs j = false) ∧ Later w wr) (fun i _ _ => k - (intOf i).toNat)
        case atStart => exact ⟨0, rfl, by omega, hid (fun j hj => absurd hj (by omega)), hl⟩
        case round =>
          clear hl
          obtain ⟨i, rfl, hi, hq, hl⟩ := hrel
          by_cases hik : i < k
          · go_wp2
            go_loopw [5] (fun j wr => ∃ m : Nat, j = .int .i64 m ∧ m ≤ i ∧ Hid (∀ j, j < m → sameN (xs.getD i nod0) (xs.getD j nod0) = false) ∧ Later w wr) (fun j _ => i - (intOf j).toNat)
            case atStart => exact ⟨0, rfl, by omega, hid (fun j hj => absurd hj (by omega)), hl⟩
            case round =>
              clear hl
              obtain ⟨m, rfl, hm, hr, hl⟩ := hrel
              by_cases hmi : m < i
              · obtain ⟨b, o, rfl, hb, hi0, hi1⟩ := nod_at (hx.later hl) hik
                obtain ⟨b', o', he, hb', hm0, hm1⟩ := nod_at (hx.later hl) (show m < k by omega)
                simp only [Option.some.injEq, Addr.mk.injEq, and_true] at he
                obtain ⟨rfl, rfl⟩ := he
                have hdup := hid (fun (h : sameN (xs.getD i nod0) (xs.getD m nod0) = true) => check_name (xs := xs) (by omega) hp.out (by omega) hmi h)
                have hgood := hid (fun (h : sameN (xs.getD i nod0) (xs.getD m nod0) = false) => below_succ (p := fun j => sameN (xs.getD i nod0) (xs.getD j nod0) = false) hr.out h)
                generalize xs.getD i nod0 = x at *
                generalize xs.getD m nod0 = y at *
                cases hnm : (x.nm.toList == y.nm.toList)
                · go_wp2_with fail
                  refine wp_region_parts [] [0, 1, 2, 3, 4, 5, 6, 7, 8, 9, 10, 11, 12, 13, 14, 15, 16, 17, 18, 19, 20, 21, 22, 23] [] (by as_aux_lemma => kernel_rfl) (by as_aux_lemma => kernel_rfl) (by intro _ _ d _ _ h; cases d <;> exact h) ?_
                  simp only [wpParts, pick, List.getElem?_cons_succ, List.getElem?_cons_zero, Option.toList_some, List.cons_append, List.nil_append]
                  repeat (go_big_quiet_step (fail))
                  refine wpQuiet_nil ?_
                  cases hie : (x.id == y.id)
                  · go_wp2
                    exact ⟨⟨m + 1, rfl, by omega, hid (hgood.out (by rw [sameN, hnm, hie]; rfl)), hl.trans (later_drew _)⟩, by simp [intOf]; omega⟩
                  · go_wp2
                    go_ret
                    exact ⟨by rw [hdup.out (by rw [sameN, hnm, hie]; rfl)]; rfl, hl.trans (later_drew _)⟩
                · go_wp2_with fail
                  refine wp_region_parts [] [0, 1, 2, 3, 4, 5, 6, 7, 8, 9, 10, 11, 12, 13, 14, 15, 16, 17, 18, 19, 20, 21, 22, 23] [] (by as_aux_lemma => kernel_rfl) (by as_aux_lemma => kernel_rfl) (by intro _ _ d _ _ h; cases d <;> exact h) ?_
                  simp only [wpParts, pick, List.getElem?_cons_succ, List.getElem?_cons_zero, Option.toList_some, List.cons_append, List.nil_append]
                  repeat (go_big_quiet_step (fail))
                  refine wpQuiet_nil ?_
                  go_wp2
                  go_ret
                  exact ⟨by rw [hdup.out (by rw [sameN, hnm]; rfl)]; rfl, hl.trans (later_drew _)⟩
              · obtain rfl : m = i := by omega
                have hnext : Hid (∀ j, j < m + 1 → dupAt xs j = false) := hid (below_succ (p := fun j => dupAt xs j = false) hq.out (range_false hr.out))
                go_wp2
                exact ⟨⟨m + 1, rfl, by omega, hnext, hl⟩, by simp [intOf]; omega⟩
          · obtain rfl : i = k := by omega
            go_wp2
            go_ret
            refine ⟨?_, hl⟩
            rw [check_ok (by omega) hp.out (by rw [hl0]; exact hq.out)]
            rfl
end Go.Proofs.Ytallecbmnpcepaa
namespace Go.Proofs.Ytallecbmnpcepaa
open Go.RowKit
open Go.BigFrame

set_option maxRecDepth 100000 in
theorem copyKey_any (K : List UInt8) (hK : K.length = 32) (w : World) :
    Calls Try.prog 34 #[.agg (K.map W8).toArray] w fun e w' => ∃ g, e = .returned (.slice (some ⟨g, 0, none⟩) 32 32) ∧ w.heap.size ≤ g ∧ Blk w' g 5 (K.map W8) ∧ Later w w' := by
  have hb0 : Blk (w.alloc (.cells (K.map W8).toArray 43)) w.heap.size 43 (K.map W8) := Blk.new _ _ _
  go_enter Try.func34, Try.ntmps34
  go_wp2_with (first
    | (refine wpList_make_n rfl _ _ 33 rfl 5 (.int .u8 0) 1 Try.underlying33 info8 rfl _ _ _ _ 32 rfl rfl rfl rfl (by omega) (by omega) ?_; intro w2 hb2 hl2; rw [show (w.alloc (.cells (K.map W8).toArray 43)).heap.size = w.heap.size + 1 by simp] at hb2)
    | (refine copy_Y 0 32 rfl _ _ _ _ rfl 5 Try.underlying33 size8 (show Blk w2 (w.heap.size + 1) 5 ((List.replicate 32 0).map W8) by (rw [List.map_replicate]; exact hb2)) (blk_rdB (hb0.later hl2) hK) rfl rfl (by simp) ?_; intro w3 hb3 ho3; rw [putB_all _ _ (by simpa using hK)] at hb3)
    | fail)
  go_ret
  exact ⟨w.heap.size + 1, rfl, by omega, hb3, ((later_alloc _ _).trans hl2).only ho3 (by omega)⟩
theorem own_of_blk0 {w : World} {base g sz : Nat} {e : TypeId} (h : Blk w g e []) (hb : base ≤ g) : w.ownsRow base e sz (.slice (some ⟨g, 0, none⟩) 0 0) 0 [] :=
  ⟨by simp, .inr ⟨g, 0, #[], rfl, hb, h, Nat.zero_le _, Nat.zero_le _, by simp, by simp⟩⟩
theorem infoN : (Try.prog.info? 45).map (fun i => (i.zero, i.size, i.bytes)) = some (some (.agg (NC nod0).toArray), 66, 88) := by kernel_rfl
set_option maxRecDepth 100000 in
theorem ntwin_any (A : Option Addr) (n c : Nat) (xs : List Nod) (w : World) (hx : RdN w A n xs) (hn : n ≤ 1099511627776) :
    Calls Try.prog 10 #[.slice A n c] w fun e w' => ∃ A' c', e = .returned (.slice A' n c') ∧ w'.ownsRow w.heap.size 45 66 (.slice A' n c') n (xs.flatMap NC) ∧ Later w w' := by
  go_enter Try.func10, Try.ntmps10
  go_wp2_with (first
    | (refine wpList_append_f NC_length NC_one (by omega) rfl _ _ _ rfl 45 _ 88 Try.underlying22 infoN rfl w _ 0 [] (own_of_blk0 (Blk.new w _ []) (Nat.le_refl _)) (later_alloc _ _) A n c xs (hx.later (later_alloc _ _)) rfl rfl (by omega) (by omega) ?_; intro A' c' w' hown hl _)
    | fail)
  rw [Nat.zero_add, List.nil_append] at hown
  go_ret
  exact ⟨_, _, rfl, hown, hl⟩
end Go.Proofs.Ytallecbmnpcepaa
namespace Go.Proofs.Ytallecbmnpcepaa
open Go.RowKit
open Go.BigFrame

section
variable {ops : Array Oper} {rest : List Oper} {o : Oper} {a : Act} {w : World} {Q : Exit → Act → World → Prop}
/-- 32 bytes of a struct are loaded. -/
theorem load_32 (hgd : Region.wanted o (yielded ops a.tmps) = true) (x : Operand) (ho : o.op = .load 43 x) {g off : Nat} {K : List UInt8} (hc : ∀ j v, (K.map W8)[j]? = some v → w.cell? ⟨g, off + j, none⟩ = some v) (hl : K.length = 32) (hx : a.eval x = .pointer (some ⟨g, off, none⟩))
    (h : wpList Try.prog ops Q rest (a.put o.dst (.agg (K.map W8).toArray)) w) : wpList Try.prog ops Q (o :: rest) a w :=
  wpList_load_at hgd _ x ho g off _ hc hx _ Try.underlying43 rfl (by rw [List.length_map, hl]; exact size32b) h
theorem quiet_32 {J : Act → Prop} (x : Operand) (ho : o.op = .load 43 x) {w0 : World} {g off : Nat} {K : List UInt8} (hc : ∀ j v, (K.map W8)[j]? = some v → w0.cell? ⟨g, off + j, none⟩ = some v) (hg : g < w0.heap.size) (hl : K.length = 32) (hx : a.eval x = .pointer (some ⟨g, off, none⟩)) (h : J (a.put o.dst (.agg (K.map W8).toArray))) :
    o.quiet Try.prog a (fun w' => ∃ x, w' = grow w0 x) J :=
  quiet_load_agg _ x ho g off (K.map W8) (fun w' hw j v hv => by obtain ⟨y, rfl⟩ := hw; exact ((Later.below ⟨y, rfl⟩).cell (p := ⟨g, off + j, none⟩) hg).trans (hc j v hv)) hx _ Try.underlying43 rfl (by rw [List.length_map, hl]; exact size32b) h
end
theorem rdB_cells {w : World} {b off n : Nat} {K : List UInt8} (hb : b < w.heap.size) (hc : ∀ j v, (K.map W8)[j]? = some v → w.cell? ⟨b, off + j, none⟩ = some v) (hn : K.length = n) : RdB w (some ⟨b, off, none⟩) n K :=
  ⟨by rw [List.length_map, hn], fun _ => ⟨b, off, rfl, hb, hc⟩⟩
/-- The public key of a private one. -/
def pubK (K : List UInt8) : List UInt8 := multB K (nb 9)
theorem pubK_length (K : List UInt8) : (pubK K).length = 32 := multB_length _ _
def fitB (x : Nod) : Bool := pubK x.priv.val == x.pub.val
/-- Do all keys belong together. -/
def fitsN (xs : List Nod) : Bool := checkN xs == 0 && xs.all fitB
theorem fits_no {xs : List Nod} (h : checkN xs ≠ 0) : fitsN xs = false := by
  rw [fitsN, show (checkN xs == 0) = false by simpa using h]
  rfl
theorem fits_bad {xs : List Nod} {k : Nat} (hk : k < xs.length) (h : fitB (xs.getD k nod0) = false) : fitsN xs = false := by
  rw [fitsN, show xs.all fitB = false from ?_, Bool.and_false]
  rw [List.all_eq_false]
  exact ⟨_, nod_mem hk, by rw [h]; decide⟩
theorem fits_ok {xs : List Nod} (h : checkN xs = 0) (hf : ∀ k, k < xs.length → fitB (xs.getD k nod0) = true) : fitsN xs = true := by
  rw [fitsN, h, Bool.and_eq_true]
  refine ⟨rfl, ?_⟩
  rw [List.all_eq_true]
  intro x hx
  obtain ⟨k, hk, rfl⟩ := List.getElem_of_mem hx
  have := hf k hk
  rwa [List.getD_eq_getElem?_getD, List.getElem?_eq_getElem hk] at this
set_option maxRecDepth 100000 in
theorem dfits_any (A : Option Addr) (n c : Nat) (xs : List Nod) (w : World) (hx : RdN w A n xs) (hn : n ≤ 1099511627776) (hs : ∀ x ∈ xs, x.nm.size ≤ 140737488355328) :
    Calls Try.prog 12 #[.slice A n c] w fun e w' => e = .returned (.tuple #[.bool (fitsN xs), .int .i64 (checkN xs : Nat)]) ∧ Later w w' := by
  have hl0 := hx.1
  have hC := hid (dcheck_any A n c xs w hx hn hs)
  go_enter Try.func12, Try.ntmps12
  go_wp2_with fail
  refine (hC.out).mono ?_
  rintro e w1 ⟨rfl, L⟩
  by_cases h0 : checkN xs = 0
  · have h00 := hid h0
    rw [h0]
    clear h0
    go_wp2
    go_loopw [15] (fun i wr => ∃ k : Nat, i = .int .i64 k ∧ k ≤ n ∧ Hid (∀ j, j < k → fitB (xs.getD j nod0) = true) ∧ Later w wr) (fun i _ => n - (intOf i).toNat)
    case atStart => exact ⟨0, rfl, by omega, hid (fun j hj => absurd hj (by omega)), L⟩
    case round =>
      clear L
      obtain ⟨k, rfl, hk, hp, L⟩ := hrel
      by_cases hlt : k < n
      · obtain ⟨b, o, rfl, hb, hc2, hc34⟩ := nod_keys (hx.later L) hlt
        have hbad := hid (fun (h : fitB (xs.getD k nod0) = false) => fits_bad (xs := xs) (by omega) h)
        have hgood := hid (fun (h : fitB (xs.getD k nod0) = true) => below_succ (p := fun j => fitB (xs.getD j nod0) = true) hp.out h)
        generalize xs.getD k nod0 = x at *
        go_wp2_with (first
          | (refine load_32 rfl _ rfl hc2 x.priv.2 rfl ?_)
          | fail)
        (with_reducible refine (copyKey_any x.priv.val x.priv.2 _).mono ?_); rintro e w2 ⟨g2, rfl, hg2, hb2, l2⟩
        go_wp2_with fail
        (with_reducible refine (public_any _ 32 32 x.priv.val _ (blk_rdB hb2 x.priv.2) (by omega)).mono ?_); rintro e w3 ⟨rfl, l3⟩
        rw [pub_ok _ x.priv.2]
        have hfit : fitB x = (multB x.priv.val (nb 9) == x.pub.val) := rfl
        obtain ⟨y, hy⟩ := sub32 (multB_length x.priv.val (nb 9))
        rw [← hy] at hfit
        rw [← hy]
        clear hy
        go_wp2_with (first
          | (refine store_B rfl rfl _ _ rfl (Blk.new w3 _ (List.replicate 32 (.int .u8 0))) rfl rfl y.2 rfl ?_; intro w4 hb4 ho4)
          | fail)
        have hb3 : b < w3.heap.size := Nat.lt_of_lt_of_le hb (l2.trans l3).size
        have L4 : Later wr w4 := ((l2.trans l3).trans (later_alloc _ _)).only ho4 (l2.trans l3).size
        have hc34' := fun j v hv => (L4.drew.below.cell (p := ⟨b, o + k * 66 + 34 + j, none⟩) hb).trans (hc34 j v hv)
        have hb4' : b < w4.drew.heap.size := Nat.lt_of_lt_of_le hb L4.drew.size
        refine wp_region_parts [] [0, 1, 2, 3, 4, 5, 6, 7, 8, 9, 10] [] (by as_aux_lemma => kernel_rfl) (by as_aux_lemma => kernel_rfl) (by intro _ _ d _ _ h; cases d <;> exact h) ?_
        simp only [wpParts, pick, List.getElem?_cons_succ, List.getElem?_cons_zero, Option.toList_some, List.cons_append, List.nil_append]
        repeat (first | go_big_quiet_skip | (go_big_quiet_want; (first | refine quiet_B _ rfl hb4.drew y.2 rfl ?_ | refine quiet_32 _ rfl hc34' hb4' x.pub.2 rfl ?_); simp only [Act.put, List.setIfInBounds_toArray, List.set_cons_succ, List.set_cons_zero]; go_big_quiet_on) | (go_big_quiet_step (fail)))
        refine wpQuiet_nil ?_
        replace L := (L.trans L4).drew
        go_wp2
        all_goals
          rename_i he
          first
            | exact ⟨⟨k + 1, rfl, by omega, hid (hgood.out (by rw [hfit]; simpa using he)), L⟩, by simp [intOf]; omega⟩
            | (go_ret2; exact ⟨by rw [hbad.out (by rw [hfit]; simpa using he), h00.out]; rfl, L⟩)
      · obtain rfl : k = n := by omega
        have hf : fitsN xs = true := fits_ok h00.out (by rw [hl0]; exact hp.out)
        go_wp2
        go_ret2
        exact ⟨by rw [hf, h00.out]; rfl, L⟩
  · have hf := hid (fits_no h0)
    have hne : ((checkN xs : Int) != 0) = true := by simpa using h0
    clear h0
    go_wp2
    go_ret2
    exact ⟨by rw [hf.out]; rfl, L⟩
set_option maxRecDepth 100000 in
theorem dfits_ref (A : Option Addr) (n c : Nat) (xs : List Nod) (w : World) (hx : RdN w A n xs) (hn : n ≤ 1099511627776) (hs : ∀ x ∈ xs, x.nm.size ≤ 140737488355328) :
    Calls Try.prog 13 #[.slice A n c] w fun e w' => e = .returned (.tuple #[.bool (fitsN xs), .int .i64 (checkN xs : Nat)]) ∧ Later w w' := by
  have hl0 := hx.1
  have hC := hid (dcheck_ref A n c xs w hx hn hs)
  go_enter Try.func13, Try.ntmps13
  go_wp2_with fail
  refine (hC.out).mono ?_
  rintro e w1 ⟨rfl, L⟩
  by_cases h0 : checkN xs = 0
  · have h00 := hid h0
    rw [h0]
    clear h0
    go_wp2
    go_loopw [5] (fun i wr => ∃ k : Nat, i = .int .i64 k ∧ k ≤ n ∧ Hid (∀ j, j < k → fitB (xs.getD j nod0) = true) ∧ Later w wr) (fun i _ => n - (intOf i).toNat)
    case atStart => exact ⟨0, rfl, by omega, hid (fun j hj => absurd hj (by omega)), L⟩
    case round =>
      clear L
      obtain ⟨k, rfl, hk, hp, L⟩ := hrel
      by_cases hlt : k < n
      · obtain ⟨b, o, rfl, hb, hc2, hc34⟩ := nod_keys (hx.later L) hlt
        have hbad := hid (fun (h : fitB (xs.getD k nod0) = false) => fits_bad (xs := xs) (by omega) h)
        have hgood := hid (fun (h : fitB (xs.getD k nod0) = true) => below_succ (p := fun j => fitB (xs.getD j nod0) = true) hp.out h)
        generalize xs.getD k nod0 = x at *
        have hrd : RdB wr (some ⟨b, o + k * 66 + 2, none⟩) 32 x.priv.val := rdB_cells hb hc2 x.priv.2
        go_wp2_with fail
        (with_reducible refine (public_ref _ 32 32 x.priv.val _ hrd (by omega)).mono ?_); rintro e w3 ⟨rfl, l3⟩
        rw [pub_ok _ x.priv.2]
        have hfit : fitB x = (multB x.priv.val (nb 9) == x.pub.val) := rfl
        obtain ⟨y, hy⟩ := sub32 (multB_length x.priv.val (nb 9))
        rw [← hy] at hfit
        rw [← hy]
        clear hy
        go_wp2_with (first
          | (refine store_B rfl rfl _ _ rfl (Blk.new w3 _ (List.replicate 32 (.int .u8 0))) rfl rfl y.2 rfl ?_; intro w4 hb4 ho4)
          | fail)
        have hb3 : b < w3.heap.size := Nat.lt_of_lt_of_le hb l3.size
        have L4 : Later wr w4 := (l3.trans (later_alloc _ _)).only ho4 l3.size
        have hc34' := fun j v hv => (L4.drew.below.cell (p := ⟨b, o + k * 66 + 34 + j, none⟩) hb).trans (hc34 j v hv)
        have hb4' : b < w4.drew.heap.size := Nat.lt_of_lt_of_le hb L4.drew.size
        refine wp_region_parts [] [0, 1, 2, 3, 4, 5, 6] [] (by as_aux_lemma => kernel_rfl) (by as_aux_lemma => kernel_rfl) (by intro _ _ d _ _ h; cases d <;> exact h) ?_
        simp only [wpParts, pick, List.getElem?_cons_succ, List.getElem?_cons_zero, Option.toList_some, List.cons_append, List.nil_append]
        repeat (first | go_big_quiet_skip | (go_big_quiet_want; (first | refine quiet_B _ rfl hb4.drew y.2 rfl ?_ | refine quiet_32 _ rfl hc34' hb4' x.pub.2 rfl ?_); simp only [Act.put, List.setIfInBounds_toArray, List.set_cons_succ, List.set_cons_zero]; go_big_quiet_on) | (go_big_quiet_step (fail)))
        refine wpQuiet_nil ?_
        replace L := (L.trans L4).drew
        go_wp2
        all_goals
          rename_i he
          first
            | exact ⟨⟨k + 1, by go_num, by omega, hid (hgood.out (by rw [hfit]; simpa using he)), L⟩, by simp [intOf]; omega⟩
            | (go_ret2; exact ⟨by rw [hbad.out (by rw [hfit]; simpa using he), h00.out]; rfl, L⟩)
      · obtain rfl : k = n := by omega
        have hf : fitsN xs = true := fits_ok h00.out (by rw [hl0]; exact hp.out)
        go_wp2
        go_ret2
        exact ⟨by rw [hf, h00.out]; rfl, L⟩
  · have hf := hid (fits_no h0)
    have hne : ((checkN xs : Int) != 0) = true := by simpa using h0
    clear h0
    go_wp2
    go_ret2
    exact ⟨by rw [hf.out]; rfl, L⟩
end Go.Proofs.Ytallecbmnpcepaa
