/-
  dir: names in form.
  Nodes in memory: a name, a number, two keys.
  dir: keys in new memory, directories of one's own.
  dir: do the keys of a directory fit.
  dir: nodes that are made.
  dir.Make.
  dir: nodes are built and compared.
  shallotlaw09: awake; the law DirChecks.
  shallotref09: Same, Make.
  dir: nodes are found.
-/
import Derived.Test.YtkibgdigcgakfaaMemP
import Derived.Test.YtkibgdigcgakfaaRowP
import Derived.Test.YtkibgdigcgakfaaBldC
import Derived.Test.YtkibgdigcgakfaaHelp
import Derived.Test.YtkibgdigcgakfaaFLaws
import Derived.Test.YtkibgdigcgakfaaStrP
import Derived.Test.YtkibgdigcgakfaaCurveD
import Derived.Test.YtkibgdigcgakfaaCurveF
import Derived.Test.YtkibgdigcgakfaaBagMore
import Derived.Test.YtkibgdigcgakfaaMacP
namespace Go.Proofs.Ytkibgdigcgakfaa
open Go.RowKit
open Go.BigFrame

/-- A byte that a name may have at place 'k'. -/
def okAt (s : ByteArray) (k : Nat) : Bool :=
  if h : k < s.size then (decide (97 ≤ s[k].toNat) && decide (s[k].toNat ≤ 122)) || (decide (48 ≤ s[k].toNat) && decide (s[k].toNat ≤ 57) && decide (0 < k)) else true
/-- A name in form. -/
def okName (s : ByteArray) : Bool := decide (1 ≤ s.size) && decide (s.size ≤ 16) && (List.range s.size).all (okAt s)
theorem okAt_iff (s : ByteArray) (k : Nat) (h : k < s.size) : okAt s k = true ↔ (97 ≤ (s[k].toNat : Int) ∧ (s[k].toNat : Int) ≤ 122) ∨ (48 ≤ (s[k].toNat : Int) ∧ (s[k].toNat : Int) ≤ 57 ∧ 0 < k) := by
  rw [okAt, dif_pos h]
  simp only [Bool.or_eq_true, Bool.and_eq_true, decide_eq_true_eq]
  omega
theorem okName_iff (s : ByteArray) : okName s = true ↔ 1 ≤ s.size ∧ s.size ≤ 16 ∧ ∀ j, j < s.size → okAt s j = true := by
  rw [okName]
  simp only [Bool.and_eq_true, decide_eq_true_eq, List.all_eq_true, List.mem_range, and_assoc]
theorem okName_all {s : ByteArray} (h : ¬ (s.size < 1 ∨ 16 < s.size)) (hj : ∀ j, j < s.size → okAt s j = true) : okName s = true := (okName_iff s).2 ⟨by omega, by omega, hj⟩
theorem okName_len {s : ByteArray} (h : s.size < 1 ∨ 16 < s.size) : okName s = false := by
  rcases Bool.eq_false_or_eq_true (okName s) with e | e
  · have := (okName_iff s).1 e
    omega
  · exact e
theorem okName_bad {s : ByteArray} {k : Nat} (h : k < s.size) (hn : ¬ ((97 ≤ (s[k].toNat : Int) ∧ (s[k].toNat : Int) ≤ 122) ∨ (48 ≤ (s[k].toNat : Int) ∧ (s[k].toNat : Int) ≤ 57 ∧ 0 < k))) : okName s = false := by
  rcases Bool.eq_false_or_eq_true (okName s) with e | e
  · exact absurd ((okAt_iff s k h).1 (((okName_iff s).1 e).2.2 k h)) hn
  · exact e
theorem okAt_next {s : ByteArray} {k : Nat} (h : k < s.size) (hp : ∀ j, j < k → okAt s j = true) (hn : (97 ≤ (s[k].toNat : Int) ∧ (s[k].toNat : Int) ≤ 122) ∨ (48 ≤ (s[k].toNat : Int) ∧ (s[k].toNat : Int) ≤ 57 ∧ 0 < k)) : ∀ j, j < k + 1 → okAt s j = true := by
  intro j hj
  rcases Nat.lt_or_ge j k with h1 | h1
  · exact hp j h1
  · obtain rfl : j = k := by omega
    exact (okAt_iff s j h).2 hn
set_option maxRecDepth 100000 in
theorem wellFormed_any (s : ByteArray) (w : World) (hs : s.size ≤ 140737488355328) :
    Calls Try.prog 36 #[.string s] w fun e w' => e = .returned (.bool (okName s)) ∧ Later w w' := by
  go_enter Try.func36, Try.ntmps36
  by_cases hb : s.size < 1 ∨ 16 < s.size
  · have hbb : (decide ((s.size : Int) < 1) || decide (16 < (s.size : Int))) = true := by simp; omega
    rw [okName_len hb]
    go_wp2
    all_goals
      go_ret
      exact ⟨rfl, Later.refl w⟩
  · go_wp2
    go_loopw [3, 4, 5, 6] (fun i _ _ _ wr => ∃ k : Nat, i = .int .i64 k ∧ k ≤ s.size ∧ (∀ j, j < k → okAt s j = true) ∧ Later w wr) (fun i _ _ _ _ => s.size - (intOf i).toNat)
    case atStart => exact ⟨0, rfl, by omega, fun j hj => absurd hj (by omega), Later.refl w⟩
    case round =>
      obtain ⟨k, rfl, hk, hp, hl⟩ := hrel
      by_cases hlt : k < s.size
      · go_wp2
        all_goals
          try simp only [Bool.not_eq_true', Bool.not_eq_false', decide_eq_true_eq, decide_eq_false_iff_not] at *
          first
            | exact ⟨⟨k + 1, rfl, by omega, okAt_next hlt hp (by omega), hl⟩, by simp [intOf]; omega⟩
            | (go_ret; refine ⟨?_, hl⟩; rw [okName_bad hlt (by omega)]; rfl)
      · obtain rfl : k = s.size := by omega
        go_wp2
        go_ret
        refine ⟨?_, hl⟩
        rw [okName_all hb hp]
        rfl
end Go.Proofs.Ytkibgdigcgakfaa
namespace Go.Proofs.Ytkibgdigcgakfaa
open Go.RowKit
open Go.BigFrame

/-- A node. -/
structure Nod where
  nm : ByteArray
  id : UInt64
  priv : Y32
  pub : Y32
def zero32 : Y32 := ⟨List.replicate 32 0, by simp⟩
def nod0 : Nod := ⟨.empty, 0, zero32, zero32⟩
/-- A node's cells. -/
def NC (x : Nod) : List Value := .string x.nm :: W64 x.id :: (x.priv.val.map W8 ++ x.pub.val.map W8)
theorem NC_length (x : Nod) : (NC x).length = 66 := by simp [NC, x.priv.2, x.pub.2]
theorem NC_one (x : Nod) : ∀ u ∈ NC x, u.oneCell' = true := by
  intro u hu
  simp only [NC, List.mem_cons, List.mem_append, List.mem_map] at hu
  rcases hu with rfl | rfl | ⟨b, _, rfl⟩ | ⟨b, _, rfl⟩ <;> rfl
/-- A row of nodes. -/
abbrev RdN : World → Option Addr → Nat → List Nod → Prop := RdF NC 66 nod0
/-- What a node's cells hold. -/
theorem nod_at {w : World} {A : Option Addr} {n : Nat} {xs : List Nod} (h : RdN w A n xs) {k : Nat} (hk : k < n) :
    ∃ b o, A = some ⟨b, o, none⟩ ∧ b < w.heap.size ∧ w.cell? ⟨b, o + k * 66, none⟩ = some (.string (xs.getD k nod0).nm) ∧ w.cell? ⟨b, o + k * 66 + 1, none⟩ = some (W64 (xs.getD k nod0).id) := by
  obtain ⟨b, o, hA, hb, hc⟩ := h.at_ hk
  exact ⟨b, o, hA, hb, hc 0 _ rfl, hc 1 _ rfl⟩
/-- Its keys. -/
theorem NC_priv (x : Nod) {j : Nat} {v : Value} (h : (x.priv.val.map W8)[j]? = some v) : (NC x)[2 + j]? = some v := by
  have hj : j < (x.priv.val.map W8).length := (List.getElem?_eq_some_iff.1 h).1
  rw [NC, show 2 + j = j + 1 + 1 by omega, List.getElem?_cons_succ, List.getElem?_cons_succ, List.getElem?_append_left hj]
  exact h
theorem NC_pub (x : Nod) {j : Nat} {v : Value} (h : (x.pub.val.map W8)[j]? = some v) : (NC x)[34 + j]? = some v := by
  have hp : (x.priv.val.map W8).length = 32 := by rw [List.length_map, x.priv.2]
  rw [NC, show 34 + j = j + 32 + 1 + 1 by omega, List.getElem?_cons_succ, List.getElem?_cons_succ, List.getElem?_append_right (by omega), hp, Nat.add_sub_cancel]
  exact h
theorem nod_keys {w : World} {A : Option Addr} {n : Nat} {xs : List Nod} (h : RdN w A n xs) {k : Nat} (hk : k < n) :
    ∃ b o, A = some ⟨b, o, none⟩ ∧ b < w.heap.size ∧ (∀ j v, ((xs.getD k nod0).priv.val.map W8)[j]? = some v → w.cell? ⟨b, o + k * 66 + 2 + j, none⟩ = some v) ∧ (∀ j v, ((xs.getD k nod0).pub.val.map W8)[j]? = some v → w.cell? ⟨b, o + k * 66 + 34 + j, none⟩ = some v) := by
  obtain ⟨b, o, hA, hb, hc⟩ := h.at_ hk
  refine ⟨b, o, hA, hb, fun j v hv => ?_, fun j v hv => ?_⟩
  · rw [Nat.add_assoc _ 2 j]; exact hc _ _ (NC_priv _ hv)
  · rw [Nat.add_assoc _ 34 j]; exact hc _ _ (NC_pub _ hv)
def badN (x : Nod) : Bool := x.id == 0 || !okName x.nm
def sameN (x y : Nod) : Bool := x.nm.toList == y.nm.toList || x.id == y.id
def dupAt (xs : List Nod) (i : Nat) : Bool := (List.range i).any fun j => sameN (xs.getD i nod0) (xs.getD j nod0)
/-- The error of a directory. -/
def checkN (xs : List Nod) : Nat := if 64 < xs.length then 2 else if xs.any badN then 3 else if (List.range xs.length).any (dupAt xs) then 4 else 0
theorem any_true {xs : List Nod} {p : Nod → Bool} {k : Nat} (hk : k < xs.length) (h : p (xs.getD k nod0) = true) : xs.any p = true := by
  rw [List.any_eq_true]
  refine ⟨_, List.getElem_mem hk, ?_⟩
  rwa [List.getD_eq_getElem?_getD, List.getElem?_eq_getElem hk] at h
theorem any_false {xs : List Nod} {p : Nod → Bool} (h : ∀ k, k < xs.length → p (xs.getD k nod0) = false) : xs.any p = false := by
  rw [List.any_eq_false]
  intro x hx
  obtain ⟨k, hk, rfl⟩ := List.getElem_of_mem hx
  have := h k hk
  rw [List.getD_eq_getElem?_getD, List.getElem?_eq_getElem hk] at this
  simpa using this
theorem range_false {n : Nat} {p : Nat → Bool} (h : ∀ k, k < n → p k = false) : (List.range n).any p = false := by
  rw [List.any_eq_false]
  intro k hk
  rw [h k (List.mem_range.1 hk)]
  decide
theorem range_true {n k : Nat} {p : Nat → Bool} (hk : k < n) (h : p k = true) : (List.range n).any p = true := List.any_eq_true.2 ⟨k, List.mem_range.2 hk, h⟩
theorem check_size {xs : List Nod} (h : 64 < xs.length) : checkN xs = 2 := by rw [checkN, if_pos h]
theorem check_form {xs : List Nod} {k : Nat} (h : ¬ 64 < xs.length) (hk : k < xs.length) (hb : badN (xs.getD k nod0) = true) : checkN xs = 3 := by rw [checkN, if_neg h, if_pos (any_true hk hb)]
theorem check_name {xs : List Nod} {i j : Nat} (h : ¬ 64 < xs.length) (hf : ∀ k, k < xs.length → badN (xs.getD k nod0) = false) (hi : i < xs.length) (hj : j < i) (hs : sameN (xs.getD i nod0) (xs.getD j nod0) = true) : checkN xs = 4 := by
  rw [checkN, if_neg h, if_neg (by rw [any_false hf]; decide), if_pos (range_true hi (range_true hj hs))]
theorem check_ok {xs : List Nod} (h : ¬ 64 < xs.length) (hf : ∀ k, k < xs.length → badN (xs.getD k nod0) = false) (hd : ∀ k, k < xs.length → dupAt xs k = false) : checkN xs = 0 := by
  rw [checkN, if_neg h, if_neg (by rw [any_false hf]; decide), if_neg (by rw [range_false hd]; decide)]
theorem nod_mem {xs : List Nod} {k : Nat} (hk : k < xs.length) : xs.getD k nod0 ∈ xs := by
  rw [List.getD_eq_getElem?_getD, List.getElem?_eq_getElem hk]
  exact List.getElem_mem hk
set_option maxRecDepth 100000 in
theorem dcheck_any (A : Option Addr) (n c : Nat) (xs : List Nod) (w : World) (hx : RdN w A n xs) (hn : n ≤ 1099511627776) (hs : ∀ x ∈ xs, x.nm.size ≤ 140737488355328) :
    Calls Try.prog 20 #[.slice A n c] w fun e w' => e = .returned (.int .i64 (checkN xs : Nat)) ∧ Later w w' := by
  have hl0 := hx.1
  go_enter Try.func20, Try.ntmps20
  by_cases h64 : 64 < n
  · go_wp2
    go_ret
    exact ⟨by rw [check_size (by omega)]; rfl, Later.refl w⟩
  · go_wp2
    go_loopw [3, 11] (fun _ i wr => ∃ k : Nat, i = .int .i64 k ∧ k ≤ n ∧ (∀ j, j < k → badN (xs.getD j nod0) = false) ∧ Later w wr) (fun _ i _ => n - (intOf i).toNat)
    case atStart => exact ⟨0, rfl, by omega, fun j hj => absurd hj (by omega), Later.refl w⟩
    case round =>
      obtain ⟨k, rfl, hk, hp, hl⟩ := hrel
      by_cases hlt : k < n
      · obtain ⟨b, o, rfl, hb, hc0, hc1⟩ := nod_at (hx.later hl) hlt
        have hwf := hid (wellFormed_any (xs.getD k nod0).nm wr (hs _ (nod_mem (by omega))))
        have hbad := hid (fun (h : badN (xs.getD k nod0) = true) => check_form (xs := xs) (by omega) (by omega) h)
        have hgood := hid (fun (h : badN (xs.getD k nod0) = false) => below_succ (p := fun j => badN (xs.getD j nod0) = false) hp h)
        generalize xs.getD k nod0 = x at *
        clear hp
        by_cases hid0 : x.id = 0
        · go_wp2
          go_ret
          exact ⟨by rw [hbad.out (by rw [badN, hid0]; rfl)]; rfl, hl⟩
        · have hid1 : (x.id == 0) = false := by simpa using hid0
          go_wp2_with fail
          refine (hwf.out).mono ?_
          rintro e w1 ⟨rfl, hl1⟩
          cases hok : okName x.nm
          · go_wp2
            go_ret
            exact ⟨by rw [hbad.out (by rw [badN, hok, Bool.not_false, Bool.or_true])]; rfl, hl.trans hl1⟩
          · go_wp2
            exact ⟨⟨k + 1, rfl, by omega, hgood.out (by rw [badN, hid1, hok]; rfl), hl.trans hl1⟩, by simp [intOf]; omega⟩
      · obtain rfl : k = n := by omega
        replace hp := hid (show ∀ j, j < xs.length → badN (xs.getD j nod0) = false by rw [hl0]; exact hp)
        go_wp2
        go_loopw [4, 5, 32] (fun _ _ i wr => ∃ m : Nat, i = .int .i64 m ∧ m ≤ k ∧ Hid (∀ j, j < m → dupAt xs j = false) ∧ Later w wr) (fun _ _ i _ => k - (intOf i).toNat)
        case atStart => exact ⟨0, rfl, by omega, hid (fun j hj => absurd hj (by omega)), hl⟩
        case round =>
          clear hl
          obtain ⟨i, rfl, hi, hq, hl⟩ := hrel
          by_cases hik : i < k
          · go_wp2
            go_loopw [5] (fun j wr => ∃ m : Nat, j = .int .i64 m ∧ m ≤ i ∧ Hid (∀ j, j < m → sameN (xs.getD i nod0) (xs.getD j nod0) = false) ∧ Later w wr) (fun j _ => i - (intOf j).toNat)
            case atStart => exact ⟨0, rfl, by omega, hid (fun j hj => absurd hj (by omega)), hl⟩
            case round =>
              clear hl
              obtain ⟨m, rfl, hm, hr, hl⟩ := hrel
              by_cases hmi : m < i
              · obtain ⟨b, o, rfl, hb, hi0, hi1⟩ := nod_at (hx.later hl) hik
                obtain ⟨b', o', he, hb', hm0, hm1⟩ := nod_at (hx.later hl) (show m < k by omega)
                simp only [Option.some.injEq, Addr.mk.injEq, and_true] at he
                obtain ⟨rfl, rfl⟩ := he
                have hdup := hid (fun (h : sameN (xs.getD i nod0) (xs.getD m nod0) = true) => check_name (xs := xs) (by omega) hp.out (by omega) hmi h)
                have hgood := hid (fun (h : sameN (xs.getD i nod0) (xs.getD m nod0) = false) => below_succ (p := fun j => sameN (xs.getD i nod0) (xs.getD j nod0) = false) hr.out h)
                generalize xs.getD i nod0 = x at *
                generalize xs.getD m nod0 = y at *
                cases hnm : (x.nm.toList == y.nm.toList)
                · go_wp2_with fail
                  refine wp_region_parts [] [0, 1, 2, 3, 4, 5, 6, 7, 8, 9, 10, 11, 12, 13, 14, 15, 16, 17, 18, 19, 20, 21, 22, 23] [] (by as_aux_lemma => kernel_rfl) (by as_aux_lemma => kernel_rfl) (by intro _ _ d _ _ h; cases d <;> exact h) ?_
                  simp only [wpParts, pick, List.getElem?_cons_succ, List.getElem?_cons_zero, Option.toList_some, List.cons_append, List.nil_append]
                  repeat (go_big_quiet_step (fail))
                  refine wpQuiet_nil ?_
                  cases hie : (x.id == y.id)
                  · go_wp2
                    exact ⟨⟨m + 1, rfl, by omega, hid (hgood.out (by rw [sameN, hnm, hie]; rfl)), hl.trans (later_drew _)⟩, by simp [intOf]; omega⟩
                  · go_wp2
                    go_ret
                    exact ⟨by rw [hdup.out (by rw [sameN, hnm, hie]; rfl)]; rfl, hl.trans (later_drew _)⟩
                · go_wp2_with fail
                  refine wp_region_parts [] [0, 1, 2, 3, 4, 5, 6, 7, 8, 9, 10, 11, 12, 13, 14, 15, 16, 17, 18, 19, 20, 21, 22, 23] [] (by as_aux_lemma => kernel_rfl) (by as_aux_lemma => kernel_rfl) (by intro _ _ d _ _ h; cases d <;> exact h) ?_
                  simp only [wpParts, pick, List.getElem?_cons_succ, List.getElem?_cons_zero, Option.toList_some, List.cons_append, List.nil_append]
                  repeat (go_big_quiet_step (fail))
                  refine wpQuiet_nil ?_
                  go_wp2
                  go_ret
                  exact ⟨by rw [hdup.out (by rw [sameN, hnm]; rfl)]; rfl, hl.trans (later_drew _)⟩
              · obtain rfl : m = i := by omega
                have hnext : Hid (∀ j, j < m + 1 → dupAt xs j = false) := hid (below_succ (p := fun j => dupAt xs j = false) hq.out (range_false hr.out))
                go_wp2
                exact ⟨⟨m + 1, rfl, by omega, hnext, hl⟩, by simp [intOf]; omega⟩
          · obtain rfl : i = k := by omega
            go_wp2
            go_ret
            refine ⟨?_, hl⟩
            rw [check_ok (by omega) hp.out (by rw [hl0]; exact hq.out)]
            rfl
end Go.Proofs.Ytkibgdigcgakfaa
namespace Go.Proofs.Ytkibgdigcgakfaa
open Go.RowKit
open Go.BigFrame

set_option maxRecDepth 100000 in
theorem copyKey_any (K : List UInt8) (hK : K.length = 32) (w : World) :
    Calls Try.prog 37 #[.agg (K.map W8).toArray] w fun e w' => ∃ g, e = .returned (.slice (some ⟨g, 0, none⟩) 32 32) ∧ w.heap.size ≤ g ∧ Blk w' g 5 (K.map W8) ∧ Later w w' := by
  have hb0 : Blk (w.alloc (.cells (K.map W8).toArray 48)) w.heap.size 48 (K.map W8) := Blk.new _ _ _
  go_enter Try.func37, Try.ntmps37
  go_wp2_with (first
    | (refine wpList_make_n rfl _ _ 31 rfl 5 (.int .u8 0) 1 Try.underlying31 info8 rfl _ _ _ _ 32 rfl rfl rfl rfl (by omega) (by omega) ?_; intro w2 hb2 hl2; rw [show (w.alloc (.cells (K.map W8).toArray 48)).heap.size = w.heap.size + 1 by simp] at hb2)
    | (refine copy_Y 0 32 rfl _ _ _ _ rfl 5 Try.underlying31 size8 (show Blk w2 (w.heap.size + 1) 5 ((List.replicate 32 0).map W8) by (rw [List.map_replicate]; exact hb2)) (blk_rdB (hb0.later hl2) hK) rfl rfl (by simp) ?_; intro w3 hb3 ho3; rw [putB_all _ _ (by simpa using hK)] at hb3)
    | fail)
  go_ret
  exact ⟨w.heap.size + 1, rfl, by omega, hb3, ((later_alloc _ _).trans hl2).only ho3 (by omega)⟩
theorem own_of_blk0 {w : World} {base g sz : Nat} {e : TypeId} (h : Blk w g e []) (hb : base ≤ g) : w.ownsRow base e sz (.slice (some ⟨g, 0, none⟩) 0 0) 0 [] :=
  ⟨by simp, .inr ⟨g, 0, #[], rfl, hb, h, Nat.zero_le _, Nat.zero_le _, by simp, by simp⟩⟩
theorem infoN : (Try.prog.info? 50).map (fun i => (i.zero, i.size, i.bytes)) = some (some (.agg (NC nod0).toArray), 66, 88) := by kernel_rfl
set_option maxRecDepth 100000 in
theorem ntwin_any (A : Option Addr) (n c : Nat) (xs : List Nod) (w : World) (hx : RdN w A n xs) (hn : n ≤ 1099511627776) :
    Calls Try.prog 16 #[.slice A n c] w fun e w' => ∃ A' c', e = .returned (.slice A' n c') ∧ w'.ownsRow w.heap.size 50 66 (.slice A' n c') n (xs.flatMap NC) ∧ Later w w' := by
  go_enter Try.func16, Try.ntmps16
  go_wp2_with (first
    | (refine wpList_append_f NC_length NC_one (by omega) rfl _ _ _ rfl 50 _ 88 Try.underlying35 infoN rfl w _ 0 [] (own_of_blk0 (Blk.new w _ []) (Nat.le_refl _)) (later_alloc _ _) A n c xs (hx.later (later_alloc _ _)) rfl rfl (by omega) (by omega) ?_; intro A' c' w' hown hl _)
    | fail)
  rw [Nat.zero_add, List.nil_append] at hown
  go_ret
  exact ⟨_, _, rfl, hown, hl⟩
end Go.Proofs.Ytkibgdigcgakfaa
namespace Go.Proofs.Ytkibgdigcgakfaa
open Go.RowKit
open Go.BigFrame

section
variable {ops : Array Oper} {rest : List Oper} {o : Oper} {a : Act} {w : World} {Q : Exit → Act → World → Prop}
/-- 32 bytes of a struct are loaded. -/
theorem load_32 (hgd : Region.wanted o (yielded ops a.tmps) = true) (x : Operand) (ho : o.op = .load 48 x) {g off : Nat} {K : List UInt8} (hc : ∀ j v, (K.map W8)[j]? = some v → w.cell? ⟨g, off + j, none⟩ = some v) (hl : K.length = 32) (hx : a.eval x = .pointer (some ⟨g, off, none⟩))
    (h : wpList Try.prog ops Q rest (a.put o.dst (.agg (K.map W8).toArray)) w) : wpList Try.prog ops Q (o :: rest) a w :=
  wpList_load_at hgd _ x ho g off _ hc hx _ Try.underlying48 rfl (by rw [List.length_map, hl]; exact size32b) h
theorem quiet_32 {J : Act → Prop} (x : Operand) (ho : o.op = .load 48 x) {w0 : World} {g off : Nat} {K : List UInt8} (hc : ∀ j v, (K.map W8)[j]? = some v → w0.cell? ⟨g, off + j, none⟩ = some v) (hg : g < w0.heap.size) (hl : K.length = 32) (hx : a.eval x = .pointer (some ⟨g, off, none⟩)) (h : J (a.put o.dst (.agg (K.map W8).toArray))) :
    o.quiet Try.prog a (fun w' => ∃ x, w' = grow w0 x) J :=
  quiet_load_agg _ x ho g off (K.map W8) (fun w' hw j v hv => by obtain ⟨y, rfl⟩ := hw; exact ((Later.below ⟨y, rfl⟩).cell (p := ⟨g, off + j, none⟩) hg).trans (hc j v hv)) hx _ Try.underlying48 rfl (by rw [List.length_map, hl]; exact size32b) h
end
theorem rdB_cells {w : World} {b off n : Nat} {K : List UInt8} (hb : b < w.heap.size) (hc : ∀ j v, (K.map W8)[j]? = some v → w.cell? ⟨b, off + j, none⟩ = some v) (hn : K.length = n) : RdB w (some ⟨b, off, none⟩) n K :=
  ⟨by rw [List.length_map, hn], fun _ => ⟨b, off, rfl, hb, hc⟩⟩
/-- The public key of a private one. -/
def pubK (K : List UInt8) : List UInt8 := multB K (nb 9)
theorem pubK_length (K : List UInt8) : (pubK K).length = 32 := multB_length _ _
def fitB (x : Nod) : Bool := pubK x.priv.val == x.pub.val
/-- Do all keys belong together. -/
def fitsN (xs : List Nod) : Bool := checkN xs == 0 && xs.all fitB
theorem fits_no {xs : List Nod} (h : checkN xs ≠ 0) : fitsN xs = false := by
  rw [fitsN, show (checkN xs == 0) = false by simpa using h]
  rfl
theorem fits_bad {xs : List Nod} {k : Nat} (hk : k < xs.length) (h : fitB (xs.getD k nod0) = false) : fitsN xs = false := by
  rw [fitsN, show xs.all fitB = false from ?_, Bool.and_false]
  rw [List.all_eq_false]
  exact ⟨_, nod_mem hk, by rw [h]; decide⟩
theorem fits_ok {xs : List Nod} (h : checkN xs = 0) (hf : ∀ k, k < xs.length → fitB (xs.getD k nod0) = true) : fitsN xs = true := by
  rw [fitsN, h, Bool.and_eq_true]
  refine ⟨rfl, ?_⟩
  rw [List.all_eq_true]
  intro x hx
  obtain ⟨k, hk, rfl⟩ := List.getElem_of_mem hx
  have := hf k hk
  rwa [List.getD_eq_getElem?_getD, List.getElem?_eq_getElem hk] at this
end Go.Proofs.Ytkibgdigcgakfaa
namespace Go.Proofs.Ytkibgdigcgakfaa
open Go.RowKit
open Go.BigFrame

/-! ### Cells of a node that are turned -/
theorem NC_nm (x : Nod) (s : ByteArray) : NC { x with nm := s } = spliced (NC x) 0 [.string s] := by simp [NC, spliced]
theorem NC_id (x : Nod) (i : UInt64) : NC { x with id := i } = spliced (NC x) 1 [W64 i] := by simp [NC, spliced]
theorem NC_putPriv (x : Nod) (K : Y32) : NC { x with priv := K } = spliced (NC x) 2 (K.val.map W8) := by
  have h1 : (x.priv.val.map W8).length = 32 := by rw [List.length_map, x.priv.2]
  have h2 : (K.val.map W8).length = 32 := by rw [List.length_map, K.2]
  simp only [NC, spliced, h2]
  rw [show (2 + 32 : Nat) = 32 + 1 + 1 from rfl, List.drop_succ_cons, List.drop_succ_cons, List.drop_left' h1]
  rfl
theorem NC_putPub (x : Nod) (K : Y32) : NC { x with pub := K } = spliced (NC x) 34 (K.val.map W8) := by
  have h1 : (x.priv.val.map W8).length = 32 := by rw [List.length_map, x.priv.2]
  have h2 : (K.val.map W8).length = 32 := by rw [List.length_map, K.2]
  have h3 : (NC x).length = 66 := NC_length x
  rw [spliced, h2, List.drop_eq_nil_of_le (by omega), List.append_nil]
  simp only [NC]
  rw [show (34 : Nat) = 32 + 1 + 1 from rfl, List.take_succ_cons, List.take_succ_cons, List.take_left' h1]
  rfl
theorem nods_nm {xs : List Nod} {k : Nat} (hk : k < xs.length) (s : ByteArray) : (xs.flatMap NC).set (k * 66) (.string s) = (xs.set k { xs.getD k nod0 with nm := s }).flatMap NC := by
  have hl := flatF_length NC_length xs
  rw [← spliced_one _ _ _ (by rw [hl]; omega)]
  exact flatF_set NC_length nod0 (off := 0) xs k hk (by simp) (NC_nm _ s)
theorem nods_id {xs : List Nod} {k : Nat} (hk : k < xs.length) (i : UInt64) : (xs.flatMap NC).set (k * 66 + 1) (W64 i) = (xs.set k { xs.getD k nod0 with id := i }).flatMap NC := by
  have hl := flatF_length NC_length xs
  rw [← spliced_one _ _ _ (by rw [hl]; omega)]
  exact flatF_set NC_length nod0 (off := 1) xs k hk (by simp) (NC_id _ i)
theorem nods_priv {xs : List Nod} {k : Nat} (hk : k < xs.length) (K : Y32) : spliced (xs.flatMap NC) (k * 66 + 2) (K.val.map W8) = (xs.set k { xs.getD k nod0 with priv := K }).flatMap NC :=
  flatF_set NC_length nod0 (off := 2) xs k hk (by rw [List.length_map, K.2]; omega) (NC_putPriv _ K)
theorem nods_pub {xs : List Nod} {k : Nat} (hk : k < xs.length) (K : Y32) : spliced (xs.flatMap NC) (k * 66 + 34) (K.val.map W8) = (xs.set k { xs.getD k nod0 with pub := K }).flatMap NC :=
  flatF_set NC_length nod0 (off := 34) xs k hk (by rw [List.length_map, K.2]; omega) (NC_putPub _ K)
/-! ### Lists by place -/
def tabN (n : Nat) (f : Nat → Nod) : List Nod := (List.range n).map f
theorem tabN_length (n : Nat) (f : Nat → Nod) : (tabN n f).length = n := by rw [tabN, List.length_map, List.length_range]
theorem tabN_get {n k : Nat} (f : Nat → Nod) (h : k < n) : (tabN n f)[k]? = some (f k) := by rw [tabN, List.getElem?_map, List.getElem?_range h]; rfl
theorem tabN_getD {n k : Nat} (f : Nat → Nod) (h : k < n) : (tabN n f).getD k nod0 = f k := by rw [List.getD_eq_getElem?_getD, tabN_get f h]; rfl
theorem tabN_ext {xs : List Nod} {n : Nat} {f : Nat → Nod} (hl : xs.length = n) (h : ∀ j, j < n → xs[j]? = some (f j)) : xs = tabN n f := by
  apply List.ext_getElem?
  intro j
  rcases Nat.lt_or_ge j n with hj | hj
  · rw [h j hj, tabN_get f hj]
  · rw [List.getElem?_eq_none (by omega), List.getElem?_eq_none (by rw [tabN_length]; exact hj)]
theorem tabN_set {n k : Nat} {f g : Nat → Nod} (hg : ∀ j, j ≠ k → g j = f j) (y : Nod) (hy : k < n → y = g k) : (tabN n f).set k y = tabN n g := by
  refine tabN_ext (by rw [List.length_set, tabN_length]) fun j hj => ?_
  rw [List.getElem?_set]
  by_cases h : k = j
  · subst h
    rw [if_pos rfl, if_pos (by rw [tabN_length]; exact hj), hy hj]
  · rw [if_neg h, tabN_get f hj, hg j (fun e => h e.symm)]
/-! ### The nodes -/
def nodeOf (i : Nat) (s : ByteArray) : Nod := ⟨s, UInt64.ofNat (i + 1), zero32, zero32⟩
/-- Behind 'k' rounds of the first loop. -/
def madeAt (ss : List ByteArray) (k : Nat) : List Nod := tabN ss.length fun j => if j < k then nodeOf j (ss.getD j .empty) else nod0
def nodsOf (ss : List ByteArray) : List Nod := tabN ss.length fun j => nodeOf j (ss.getD j .empty)
theorem madeAt_zero (ss : List ByteArray) : madeAt ss 0 = List.replicate ss.length nod0 := by
  rw [madeAt]
  refine (tabN_ext (by rw [List.length_replicate]) fun j hj => ?_).symm
  rw [List.getElem?_replicate, if_pos hj, if_neg (by omega)]
theorem madeAt_all (ss : List ByteArray) : madeAt ss ss.length = nodsOf ss := by
  rw [madeAt, nodsOf]
  refine tabN_ext (tabN_length _ _) fun j hj => ?_
  rw [tabN_get _ hj, if_pos hj]
theorem made_step (ss : List ByteArray) (k : Nat) (hk : k < ss.length) : (((madeAt ss k).flatMap NC).set (k * 66) (.string (ss.getD k .empty))).set (k * 66 + 1) (W64 (UInt64.ofNat (k + 1))) = (madeAt ss (k + 1)).flatMap NC := by
  have hl : (madeAt ss k).length = ss.length := tabN_length _ _
  rw [nods_nm (by omega), nods_id (by rw [List.length_set]; omega), List.set_set]
  congr 1
  rw [madeAt, madeAt]
  refine tabN_set (fun j hj => ?_) _ (fun _ => ?_)
  · by_cases h : j < k
    · rw [if_pos (by omega), if_pos h]
    · rw [if_neg (by omega), if_neg h]
  · rw [if_pos (by omega), List.getD_eq_getElem?_getD, List.getElem?_set_self (by rw [tabN_length]; exact hk), Option.getD_some, tabN_getD _ hk, if_neg (by omega)]
    rfl
def nodeB : List UInt8 := [110, 111, 100, 101]
def keyK (seed : List UInt8) (s : ByteArray) : List UInt8 := expB (macTag nodeB seed) (strB s) 32
theorem keyK_length (seed : List UInt8) (s : ByteArray) : (keyK seed s).length = 32 := expB_length _ _ _
def keyY (seed : List UInt8) (s : ByteArray) : Y32 := ⟨keyK seed s, keyK_length seed s⟩
def pubY (K : List UInt8) : Y32 := ⟨pubK K, pubK_length K⟩
def keyed (seed : List UInt8) (i : Nat) (s : ByteArray) : Nod := ⟨s, UInt64.ofNat (i + 1), keyY seed s, pubY (keyK seed s)⟩
/-- Behind 'k' rounds of the second loop. -/
def keyAt (seed : List UInt8) (ss : List ByteArray) (k : Nat) : List Nod := tabN ss.length fun j => if j < k then keyed seed j (ss.getD j .empty) else nodeOf j (ss.getD j .empty)
/-- The nodes that are made. -/
def makeL (seed : List UInt8) (ss : List ByteArray) : List Nod := tabN ss.length fun j => keyed seed j (ss.getD j .empty)
theorem keyAt_zero (seed : List UInt8) (ss : List ByteArray) : keyAt seed ss 0 = nodsOf ss := by
  rw [keyAt, nodsOf]
  refine tabN_ext (tabN_length _ _) fun j hj => ?_
  rw [tabN_get _ hj, if_neg (by omega)]
theorem keyAt_all (seed : List UInt8) (ss : List ByteArray) : keyAt seed ss ss.length = makeL seed ss := by
  rw [keyAt, makeL]
  refine tabN_ext (tabN_length _ _) fun j hj => ?_
  rw [tabN_get _ hj, if_pos hj]
theorem keyAt_length (seed : List UInt8) (ss : List ByteArray) (k : Nat) : (keyAt seed ss k).length = ss.length := tabN_length _ _
theorem keyAt_name (seed : List UInt8) (ss : List ByteArray) (k j : Nat) (h : j < ss.length) : ((keyAt seed ss k).getD j nod0).nm = ss.getD j .empty := by
  rw [keyAt, tabN_getD _ h]
  split <;> rfl
theorem key_step (seed : List UInt8) (ss : List ByteArray) (k : Nat) (hk : k < ss.length) : spliced (spliced ((keyAt seed ss k).flatMap NC) (k * 66 + 2) ((keyK seed (ss.getD k .empty)).map W8)) (k * 66 + 34) ((pubK (keyK seed (ss.getD k .empty))).map W8) = (keyAt seed ss (k + 1)).flatMap NC := by
  have hl := keyAt_length seed ss k
  have h1 := nods_priv (xs := keyAt seed ss k) (k := k) (by omega) (keyY seed (ss.getD k .empty))
  have h2 := nods_pub (xs := (keyAt seed ss k).set k { (keyAt seed ss k).getD k nod0 with priv := keyY seed (ss.getD k .empty) }) (k := k) (by rw [List.length_set]; omega) (pubY (keyK seed (ss.getD k .empty)))
  have e1 : (keyY seed (ss.getD k .empty)).val = keyK seed (ss.getD k .empty) := rfl
  have e2 : (pubY (keyK seed (ss.getD k .empty))).val = pubK (keyK seed (ss.getD k .empty)) := rfl
  rw [e1] at h1
  rw [e2] at h2
  rw [h1, h2, List.set_set]
  congr 1
  rw [keyAt, keyAt]
  refine tabN_set (fun j hj => ?_) _ (fun _ => ?_)
  · by_cases h : j < k
    · rw [if_pos (by omega), if_pos h]
    · rw [if_neg (by omega), if_neg h]
  · rw [if_pos (by omega), List.getD_eq_getElem?_getD, List.getElem?_set_self (by rw [tabN_length]; exact hk), Option.getD_some, tabN_getD _ hk, if_neg (by omega)]
    rfl
end Go.Proofs.Ytkibgdigcgakfaa
namespace Go.Proofs.Ytkibgdigcgakfaa
open Go.RowKit
open Go.BigFrame

/-- The error of names. -/
def makeE (ss : List ByteArray) : Nat := checkN (nodsOf ss)
theorem makeE_size {ss : List ByteArray} (h : 64 < ss.length) : makeE ss = 2 := check_size (by rw [nodsOf, tabN_length]; exact h)
theorem makeE_ok {ss : List ByteArray} (h : makeE ss = 0) : ss.length ≤ 64 ∧ ∀ j, j < ss.length → (ss.getD j .empty).size ≤ 16 := by
  have hl : (nodsOf ss).length = ss.length := tabN_length _ _
  rw [makeE, checkN, hl] at h
  split at h
  · omega
  · rename_i h64
    refine ⟨by omega, fun j hj => ?_⟩
    split at h
    · omega
    · rename_i hb
      have hb' : (nodsOf ss).any badN = false := by simpa using hb
      rw [List.any_eq_false] at hb'
      have := hb' _ (nod_mem (xs := nodsOf ss) (k := j) (by omega))
      rw [nodsOf, tabN_getD _ hj] at this
      have h2 : okName (ss.getD j .empty) = true := by
        cases e : okName (ss.getD j .empty)
        · exact absurd (by rw [badN]; simp only [nodeOf, e]; simp) this
        · rfl
      exact ((okName_iff _).1 h2).2.1
set_option maxRecDepth 100000 in
theorem dmake_any (A B : Option Addr) (n c m d : Nat) (seed : List UInt8) (ss : List ByteArray) (w : World) (hx : RdB w A n seed) (hc : n ≤ c) (hn : n ≤ 35184372088832) (hb : Strs w B m ss) (hm : m ≤ 1099511627776) (hs : ∀ s ∈ ss, s.size ≤ 140737488355328) :
    Calls Try.prog 18 #[.slice A n c, .slice B m d] w fun e w' => ∃ v, e = .returned (.tuple #[v, .int .i64 (makeE ss : Nat)]) ∧ (makeE ss ≠ 0 → v = .slice none 0 0) ∧ (makeE ss = 0 → ∃ g, v = .slice (some ⟨g, 0, none⟩) m m ∧ w.heap.size ≤ g ∧ Blk w' g 50 ((makeL seed ss).flatMap NC)) ∧ Later w w' := by
  have hml : ss.length = m := by simpa using hb.1
  by_cases h64 : 64 < m
  · have hE := hid (makeE_size (ss := ss) (by omega))
    go_enter Try.func18, Try.ntmps18
    go_wp2
    go_ret2
    exact ⟨.slice none 0 0, by rw [hE.out]; rfl, fun _ => rfl, fun h => absurd (h.symm.trans hE.out) (by decide), Later.refl w⟩
  · go_enter Try.func18, Try.ntmps18
    go_wp2_with (first
      | (refine wpList_make_f NC_length (by omega) nod0 rfl _ _ _ rfl 50 88 Try.underlying35 infoN _ _ _ _ m rfl rfl rfl rfl (by omega) (by omega) ?_; intro w1 hb1 hl1)
      | fail)
    rw [← hml, ← madeAt_zero] at hb1
    generalize hg : w.heap.size = g at *
    replace hg := hid hg
    go_loopw [23] (fun i wr => ∃ k : Nat, i = .int .i64 k ∧ k ≤ m ∧ Blk wr g 50 ((madeAt ss k).flatMap NC) ∧ Later w wr) (fun i _ => m - (intOf i).toNat)
    case atStart => exact ⟨0, rfl, by omega, hb1, hl1⟩
    case round =>
      clear hb1 hl1
      obtain ⟨k, rfl, hk, hb1, L⟩ := hrel
      by_cases hlt : k < m
      · obtain ⟨b, o, rfl, hbb, hck⟩ := (hb.later L).at_ hlt
        have hst := hid (made_step ss k (by omega))
        have hlen : ((madeAt ss k).flatMap NC).length = m * 66 := by rw [flatF_length NC_length, madeAt, tabN_length, hml]
        generalize ss.getD k .empty = s at *
        generalize (madeAt ss k).flatMap NC = l at *
        go_wp2_with (first
          | (refine wpList_store_in rfl rfl _ _ _ rfl _ _ _ _ hb1 rfl ?hl rfl (by kernel_rfl) ?_; (case hl => rw [hlen]; omega); intro v2 w2 hv2 hb2 ho2; simp [go_sem] at hv2; subst hv2)
          | (refine wpList_store_in rfl rfl _ _ _ rfl _ _ _ _ hb2 rfl ?hl2 rfl (by kernel_rfl) ?_; (case hl2 => rw [List.length_set, hlen]; omega); intro v3 w3 hv3 hb3 ho3; simp [go_sem] at hv3; subst hv3)
          | fail)
        rw [ofIntNat_w64, show UInt64.ofNat k + 1 = UInt64.ofNat (k + 1) by rw [UInt64.ofNat_add]; rfl, hst.out] at hb3
        have hgl : w.heap.size ≤ g := Nat.le_of_eq hg.out
        exact ⟨⟨k + 1, rfl, by omega, hb3, (L.only ho2 hgl).only ho3 hgl⟩, by simp [intOf]; omega⟩
      · obtain rfl : k = m := by omega
        have hgl := hid (Nat.le_of_eq hg.out)
        rw [← hml, madeAt_all] at hb1
        have hnl : (nodsOf ss).length = k := by rw [nodsOf, tabN_length, hml]
        have hns : ∀ x ∈ nodsOf ss, x.nm.size ≤ 140737488355328 := by
          intro x hx
          obtain ⟨j, hj, rfl⟩ := List.mem_map.1 hx
          exact hs _ (by rw [List.getD_eq_getElem?_getD, List.getElem?_eq_getElem (List.mem_range.1 hj)]; exact List.getElem_mem _)
        have hC := hid (dcheck_any (some ⟨g, 0, none⟩) k k (nodsOf ss) wr (blk_rdF NC_length hb1 hnl) (by omega) hns)
        have hE : checkN (nodsOf ss) = makeE ss := rfl
        rw [hE] at hC
        clear hE hns hs
        go_wp2_with fail
        refine (hC.out).mono ?_
        rintro e w2 ⟨rfl, l2⟩
        replace hb1 := hb1.later l2
        replace L := L.trans l2
        clear l2 hC
        by_cases hE0 : makeE ss = 0
        · have hEE := hid hE0
          have hok := hid (makeE_ok hE0)
          rw [hE0]
          clear hE0
          have hT := macTag_length nodeB seed
          have ht := fun B w h1 h2 => extract_any B A 4 4 n c nodeB seed w h1 (by omega) (by omega) h2 hc (by omega)
          have he := fun A B w (s : ByteArray) h1 h2 (h3 : s.size ≤ 1048576) => expand_is A B 32 32 1 1 32 32 rfl (macTag nodeB seed) [strB s] w h1 (by omega) (by omega) h2 (by omega) (by rw [flatten_one, strB_length]; omega) (by omega)
          have hd : ∀ s, expB (macTag nodeB seed) [strB s].flatten 32 = keyK seed s := fun s => by rw [flatten_one]; rfl
          simp only [hd] at he
          generalize macTag nodeB seed = T at *
          have HT := hid ht
          have HE := hid he
          clear ht he hd
          rw [← keyAt_zero seed] at hb1
          go_wp2_with (first
            | (refine wpList_convert_lit rfl _ _ rfl 5 Try.underlying31 Try.underlying5 w2 (nodeB.map W8) rfl w2.heap.size 4 4 rfl rfl ?_; intro w3 hl3 hr3 hz3)
            | (go_at_call 32; refine (HT.out _ _ hr3 ((hx.later L).later hl3)).mono ?_; rintro e w4 ⟨rfl, hl4⟩)
            | (refine store_B rfl rfl _ _ rfl (Blk.new w4 _ (List.replicate 32 (.int .u8 0))) rfl rfl hT rfl ?_; intro w5 hb5 ho5)
            | fail)
          have j4 := hl3.trans hl4
          have j5 : Later w2 w5 := (j4.trans (later_alloc _ _)).only ho5 j4.size
          have hgk : w4.heap.size ≠ g := by have := hb1.lt; have := j4.size; omega
          have hgk0 : w.heap.size ≤ w4.heap.size := (L.trans j4).size
          replace hb1 := hb1.later j5
          replace L := L.trans j5
          clear j4 j5 hl3 hr3 hz3 hl4 ho5
          generalize w4.heap.size = gk at *
          go_loopw [52] (fun i wr => ∃ j : Nat, i = .int .i64 j ∧ j ≤ k ∧ Blk wr gk 48 (T.map W8) ∧ Blk wr g 50 ((keyAt seed ss j).flatMap NC) ∧ Later w wr) (fun i _ => k - (intOf i).toNat)
          case atStart => exact ⟨0, rfl, by omega, hb5, hb1, L⟩
          case round =>
            clear hb5 hb1 L
            obtain ⟨j, rfl, hj, hK, hN, L⟩ := hrel
            by_cases hlt : j < k
            · have hkl := keyAt_length seed ss j
              have hcell : wr.cell? ⟨g, j * 66, none⟩ = some (.string (ss.getD j .empty)) := by
                rw [← keyAt_name seed ss j j (by omega)]
                exact hN.cellD _ (flatF_get NC_length nod0 (i := 0) _ j (by omega) rfl)
              have hsz := (hok.out).2 j (by omega)
              have hst := hid (key_step seed ss j (by omega))
              have hKl := keyK_length seed (ss.getD j .empty)
              have hfl : ((keyAt seed ss j).flatMap NC).length = k * 66 := by rw [flatF_length NC_length, hkl, hml]
              have hsl := strB_length (ss.getD j .empty)
              generalize ss.getD j .empty = s at *
              have hE := hid (fun A B w h1 h2 => HE.out A B w s h1 h2 (by omega))
              generalize keyK seed s = D at *
              generalize (keyAt seed ss j).flatMap NC = l at *
              go_wp2_with fail
              refine wp_region_parts [([0, 1, 2, 3, 4, 5], 6), ([], 7), ([], 8)] [9, 10, 11, 12, 13] [] (by as_aux_lemma => kernel_rfl) (by as_aux_lemma => kernel_rfl) (by intro _ _ d _ _ h; cases d <;> exact h) ?_
              simp only [wpParts, pick, List.getElem?_cons_succ, List.getElem?_cons_zero, Option.toList_some, List.cons_append, List.nil_append]
              repeat (go_big_quiet_step (fail))
              refine wpQuiet_nil ?_
              go_wp2_with (first
                | (refine wpList_convert_str rfl _ _ _ rfl 5 Try.underlying9 Try.underlying31 Try.underlying5 s rfl ?_; intro c1 w1 hl1 hr1 hc1 hz1)
                | fail)
              simp only [Act.put, List.setIfInBounds_toArray, List.set_cons_succ, List.set_cons_zero]
              try refine ⟨by first | assumption | exact later_drew _ | exact later_alloc _ _ | exact Later.refl _, ?_⟩
              try simp only [wpParts, pick, List.getElem?_cons_succ, List.getElem?_cons_zero, Option.toList_some, List.cons_append, List.nil_append]
              repeat (go_big_quiet_step (fail))
              refine wpQuiet_nil ?_
              go_wp2_with fail
              try refine ⟨by first | assumption | exact later_drew _ | exact later_alloc _ _ | exact Later.refl _, ?_⟩
              try simp only [wpParts, pick, List.getElem?_cons_succ, List.getElem?_cons_zero, Option.toList_some, List.cons_append, List.nil_append]
              repeat (go_big_quiet_step (fail))
              refine wpQuiet_nil ?_
              go_wp2_with fail
              have hK1 := (hK.drew.later hl1).later (later_alloc w1 (.cells #[.slice (some ⟨wr.heap.size, 0, none⟩) s.size c1] 31))
              have hN1 := (hN.drew.later hl1).later (later_alloc w1 (.cells #[.slice (some ⟨wr.heap.size, 0, none⟩) s.size c1] 31))
              have L1 := (L.drew.trans hl1).trans (later_alloc w1 (.cells #[.slice (some ⟨wr.heap.size, 0, none⟩) s.size c1] 31))
              have hprt : Parts (w1.alloc (.cells #[.slice (some ⟨wr.heap.size, 0, none⟩) s.size c1] 31)) (fun _ => False) (some ⟨w1.heap.size, 0, none⟩) 1 [strB s] := parts_of ((Blk.new w1 31 [.slice (some ⟨wr.heap.size, 0, none⟩) s.size c1]).rd rfl) ⟨part_of (hr1.later (later_alloc _ _)) hc1, trivial⟩
              refine (hE.out (some ⟨gk, 0, none⟩) (some ⟨w1.heap.size, 0, none⟩) _ (hK1.rd (by rw [List.length_map, hT])) hprt).mono ?_
              rintro e w2 ⟨A2, rfl, hfr2, hl2⟩
              clear hprt
              replace hK1 := hK1.later hl2
              replace hN1 := hN1.later hl2
              replace L1 := L1.trans hl2
              go_wp2_with fail
              try refine ⟨by first | assumption | exact later_drew _ | exact later_alloc _ _ | exact Later.refl _, ?_⟩
              try simp only [wpParts, pick, List.getElem?_cons_succ, List.getElem?_cons_zero, Option.toList_some, List.cons_append, List.nil_append]
              repeat (go_big_quiet_step (fail))
              refine wpQuiet_nil ?_
              have hpk := pub_ok D hKl
              have hpl : (pubK D).length = 32 := pubK_length D
              have hpd : multB D (nb 9) = pubK D := rfl
              have hP := hid (fun w h => public_any A2 32 32 D w h (by omega))
              rw [hpk, hpd] at hP
              clear hpk hpd
              generalize pubK D = PD at *
              go_wp2_with (first
                | (refine wpList_copy_rd rfl _ _ _ _ rfl 5 Try.underlying31 size8 g (j * 66 + 2) 32 32 50 l hN1 A2 32 32 (D.map W8) hfr2.rd (w8_one _) rfl rfl (by rw [hfl]; omega) ?_; intro w3 hb3 ho3; rw [List.take_of_length_le (by rw [List.length_map, hKl]; omega)] at hb3)
                | fail)
              have hgz : g < (w1.alloc (.cells #[.slice (some ⟨wr.heap.size, 0, none⟩) s.size c1] 31)).heap.size := Nat.lt_of_lt_of_le hN.drew.lt (hl1.trans (later_alloc _ _)).size
              have hrd3 : RdB w3 A2 32 D := by
                obtain ⟨h1, ⟨_, h2⟩ | ⟨g2, rest, rfl, h2, hB2⟩⟩ := hfr2
                · omega
                · exact rd_pre' (hB2.only ho3 (by omega)) (by rw [List.length_map, h1])
              replace hK1 := hK1.only ho3 hgk
              replace L1 := L1.only ho3 hgl.out
              (with_reducible refine (hP.out _ hrd3).mono ?_); rintro e w4 ⟨rfl, hl4⟩
              replace hb3 := hb3.later hl4
              replace hK1 := hK1.later hl4
              replace L1 := L1.trans hl4
              have hne5 : g ≠ w4.heap.size := by have := hb3.lt; omega
              have hne6 : gk ≠ w4.heap.size := by have := hK1.lt; omega
              go_wp2_with (first
                | (refine store_B rfl rfl _ _ rfl (Blk.new w4 _ (List.replicate 32 (.int .u8 0))) rfl rfl hpl rfl ?_; intro w5 hb5 ho5; have hb35 := (hb3.later (later_alloc _ _)).only ho5 hne5)
                | (refine load_B rfl _ rfl hb5 hpl rfl ?_)
                | (refine wpList_store_agg rfl rfl 48 _ _ rfl g (j * 66 + 34) 50 (spliced l (j * 66 + 2) (D.map W8)) (PD.map W8) hb35 rfl rfl (by rw [List.length_map, hpl]; exact size32b) ?hf (w8_one _) ?_; (case hf => rw [spliced_length _ _ _ (by rw [hfl, List.length_map, hKl]; omega), hfl, List.length_map, hpl]; omega); intro w6 hb6 ho6; rw [hst.out] at hb6)
                | fail)
              have hK5 := (hK1.later (later_alloc _ _)).only ho5 hne6
              have L5 := (L1.trans (later_alloc _ _)).only ho5 L1.size
              exact ⟨⟨j + 1, rfl, by omega, hK5.only ho6 hgk, hb6, L5.only ho6 hgl.out⟩, by simp [intOf]; omega⟩
            · obtain rfl : j = k := by omega
              rw [← hml, keyAt_all] at hN
              go_wp2
              go_ret2
              exact ⟨.slice (some ⟨g, 0, none⟩) j j, by rw [hEE.out]; rfl, fun h => absurd hEE.out h, fun _ => ⟨g, rfl, hgl.out, hN⟩, L⟩
        · have hne : ((makeE ss : Int) != 0) = true := by simpa using hE0
          have hEE := hid hE0
          clear hE0
          go_wp2
          go_ret2
          exact ⟨.slice none 0 0, rfl, fun _ => rfl, fun h => absurd h hEE.out, L⟩
end Go.Proofs.Ytkibgdigcgakfaa
namespace Go.Proofs.Ytkibgdigcgakfaa
open Go.RowKit
open Go.BigFrame

theorem run_part_one {P : Program} {t : TypeId} {d : TypeDesc} {k : Nat} {v : Value} (hu : P.underlying t = some d) (hd : aggDesc d = false) {zs : List Value} (hz : zs[k]? = some v) (w : World) : (part t zs.toArray k).run P w = .ok v w := by
  have ha : (isAgg t).run P w = .ok false w := by
    unfold isAgg
    simp only [Sem.run_bind, run_underlying hu]
    cases d <;> simp_all [aggDesc]
  unfold part
  simp [Sem.run_bind, ha, Result.andThen_ok, hz]
theorem run_eqS_cons {P : Program} {d k : Nat} {t : TypeId} {f : Field} {fs : List Field} (hf : f.type = t) (hu : P.underlying t = some .string) (hn : f.name ≠ "_") {xs ys : List Value} {p q : ByteArray} (ho : f.offset = k) (hp : xs[k]? = some (.string p)) (hq : ys[k]? = some (.string q)) (w : World) :
    (Op.eqFields (d + 1) xs.toArray ys.toArray (f :: fs)).run P w = if p.toList == q.toList then (Op.eqFields (d + 1) xs.toArray ys.toArray fs).run P w else .ok false w := by
  rw [Op.eqFields, if_pos hn]
  simp only [Sem.run_bind, hf, ho, run_part_one hu rfl hp, run_part_one hu rfl hq, Result.andThen_ok, run_equalIn_string w d t p q hu]
  cases p.toList == q.toList <;> simp
theorem run_eq64_cons {P : Program} {d k : Nat} {t : TypeId} {f : Field} {fs : List Field} (hf : f.type = t) (hu : P.underlying t = some (.int .u64)) (hn : f.name ≠ "_") {xs ys : List Value} {p q : UInt64} (ho : f.offset = k) (hp : xs[k]? = some (W64 p)) (hq : ys[k]? = some (W64 q)) (w : World) :
    (Op.eqFields (d + 1) xs.toArray ys.toArray (f :: fs)).run P w = if p == q then (Op.eqFields (d + 1) xs.toArray ys.toArray fs).run P w else .ok false w := by
  rw [Op.eqFields, if_pos hn]
  simp only [Sem.run_bind, hf, ho, run_part_one hu rfl hp, run_part_one hu rfl hq, Result.andThen_ok, heq_w64 t _ hu d p q w]
  cases p == q <;> simp
/-- Are two nodes the same. -/
def eqNod (x y : Nod) : Bool := x.nm.toList == y.nm.toList && (x.id == y.id && (x.priv.val == y.priv.val && x.pub.val == y.pub.val))
@[go_sem] theorem eqNod_self (x : Nod) : eqNod x x = true := by simp [eqNod]
theorem NC_priv32 (x : Nod) : ((NC x).drop 2).take 32 = x.priv.val.map W8 := by
  have h1 : (x.priv.val.map W8).length = 32 := by rw [List.length_map, x.priv.2]
  rw [NC, List.drop_succ_cons, List.drop_succ_cons, List.drop_zero, List.take_left' h1]
theorem NC_pub32 (x : Nod) : ((NC x).drop 34).take 32 = x.pub.val.map W8 := by
  have h1 : (x.priv.val.map W8).length = 32 := by rw [List.length_map, x.priv.2]
  rw [NC, show (34 : Nat) = 32 + 1 + 1 from rfl, List.drop_succ_cons, List.drop_succ_cons, List.drop_left' h1, List.take_of_length_le (by rw [List.length_map, x.pub.2]; omega)]
set_option maxRecDepth 100000 in
theorem run_eqF_nod (x y : Nod) (w : World) {fs : Array Field} (hu : Try.prog.underlying 50 = some (.struct fs)) : (Op.eqFields 9999 (NC x).toArray (NC y).toArray fs.toList).run Try.prog w = .ok (eqNod x y) w := by
  rw [Try.underlying50] at hu
  cases hu
  rw [run_eqS_cons (d := 9998) (k := 0) rfl Try.underlying9 (by decide) rfl rfl rfl, run_eq64_cons (d := 9998) (k := 1) rfl Try.underlying22 (by decide) rfl rfl rfl,
    run_eq32_cons (d := 9997) (k := 2) rfl (by decide) rfl (NC_priv32 x) (NC_priv32 y) x.priv.2 y.priv.2, run_eq32_cons (d := 9997) (k := 34) rfl (by decide) rfl (NC_pub32 x) (NC_pub32 y) x.pub.2 y.pub.2, run_eq32_nil]
  rw [eqNod]
  cases x.nm.toList == y.nm.toList <;> cases x.id == y.id <;> cases x.priv.val == y.priv.val <;> cases x.pub.val == y.pub.val <;> rfl
theorem eqg_nod : Try.prog.eqGuardType Try.prog.depth 50 = false := by kernel_rfl
@[go_sem high] theorem eqGuard_nod (op : BinOp) (x y : Operand) (xs ys : Array Value) (w : World) : (eqGuard op 50 x y (.agg xs) (.agg ys)).run Try.prog w = .ok () w := run_eqGuard_agg w op _ x y xs ys eqg_nod
set_option maxRecDepth 100000 in
@[go_sem high] theorem run_eql_nod (x y : Nod) (w : World) : (binOp .eql 50 (.agg (NC x).toArray) (.agg (NC y).toArray)).run Try.prog w = .ok (.bool (eqNod x y)) w := by
  rw [run_eql_s Try.underlying50 (by kernel_rfl), run_eqF_nod x y w Try.underlying50]
  rfl
set_option maxRecDepth 100000 in
@[go_sem high] theorem run_neq_nod (x y : Nod) (w : World) : (binOp .neq 50 (.agg (NC x).toArray) (.agg (NC y).toArray)).run Try.prog w = .ok (.bool (!eqNod x y)) w := by
  rw [run_neq_s Try.underlying50 (by kernel_rfl), run_eqF_nod x y w Try.underlying50]
  rfl
theorem zeroN : (Try.prog.info? 50).bind (·.zero) = some (.agg (NC nod0).toArray) := by kernel_rfl
theorem infoN2 : (Try.prog.info? 50).map (fun i => (i.zero, i.size)) = some (some (.agg (NC nod0).toArray), 66) := by kernel_rfl
/-- api.Node{Name: s}, api.Node{Name: s, Id: i}, api.Node{}. -/
theorem built_nod1 (s : ByteArray) : Try.prog.built 50 [(0, .string s)] = some (NC ⟨s, 0, zero32, zero32⟩).toArray := by
  rw [built_struct (pl := [(0, 1), (1, 1), (2, 32), (34, 32)]) Try.underlying50 zeroN (by kernel_rfl), fill_cons (vs := [.string s]) (off := 0) rfl rfl (by rw [NC_length]; simp), fill_nil]
  exact congrArg (fun l => some (List.toArray l)) (NC_nm nod0 s).symm
theorem built_nod2 (s : ByteArray) (i : UInt64) : Try.prog.built 50 [(0, .string s), (1, W64 i)] = some (NC ⟨s, i, zero32, zero32⟩).toArray := by
  rw [built_struct (pl := [(0, 1), (1, 1), (2, 32), (34, 32)]) Try.underlying50 zeroN (by kernel_rfl), fill_cons (vs := [.string s]) (off := 0) rfl rfl (by rw [NC_length]; simp), ← NC_nm, fill_cons (vs := [W64 i]) (off := 1) rfl rfl (by rw [NC_length]; simp), fill_nil, ← NC_id]
  rfl
theorem built_nod0 : Try.prog.built 50 [] = some (NC nod0).toArray := by
  rw [built_struct (pl := [(0, 1), (1, 1), (2, 32), (34, 32)]) Try.underlying50 zeroN (by kernel_rfl), fill_nil]
end Go.Proofs.Ytkibgdigcgakfaa
namespace Go.Proofs.Ytkibgdigcgakfaa
open Go.RowKit
open Go.BigFrame

theorem any_eq {xs ys : List Nod} {p : Nod → Bool} (hl : xs.length = ys.length) (h : ∀ k, k < xs.length → p (xs.getD k nod0) = p (ys.getD k nod0)) : xs.any p = ys.any p := by
  by_cases he : ∃ k, k < xs.length ∧ p (xs.getD k nod0) = true
  · obtain ⟨k, hk, hp⟩ := he
    rw [any_true hk hp, any_true (xs := ys) (by omega) ((h k hk).symm.trans hp)]
  · have hf : ∀ k, k < xs.length → p (xs.getD k nod0) = false := fun k hk => by
      cases e : p (xs.getD k nod0)
      · rfl
      · exact absurd ⟨k, hk, e⟩ he
    rw [any_false hf, any_false (xs := ys) fun k hk => (h k (by omega)).symm.trans (hf k (by omega))]
theorem range_eq {n : Nat} {p q : Nat → Bool} (h : ∀ k, k < n → p k = q k) : (List.range n).any p = (List.range n).any q := by
  by_cases he : ∃ k, k < n ∧ p k = true
  · obtain ⟨k, hk, hp⟩ := he
    rw [range_true hk hp, range_true hk ((h k hk).symm.trans hp)]
  · have hf : ∀ k, k < n → p k = false := fun k hk => by
      cases e : p k
      · rfl
      · exact absurd ⟨k, hk, e⟩ he
    rw [range_false hf, range_false fun k hk => (h k hk).symm.trans (hf k hk)]
/-- The check sees names and numbers alone. -/
theorem checkN_eq {xs ys : List Nod} (hl : xs.length = ys.length) (h : ∀ k, k < xs.length → (xs.getD k nod0).nm = (ys.getD k nod0).nm ∧ (xs.getD k nod0).id = (ys.getD k nod0).id) : checkN xs = checkN ys := by
  have h1 : xs.any badN = ys.any badN := any_eq hl fun k hk => by rw [badN, badN, (h k hk).1, (h k hk).2]
  have h2 : (List.range xs.length).any (dupAt xs) = (List.range ys.length).any (dupAt ys) := by
    rw [← hl]
    refine range_eq fun i hi => ?_
    rw [dupAt, dupAt]
    refine range_eq fun j hj => ?_
    rw [sameN, sameN, (h i hi).1, (h i hi).2, (h j (by omega)).1, (h j (by omega)).2]
  rw [checkN, checkN, hl, h1, ← hl, h2, ← hl]
theorem makeL_length (seed : List UInt8) (ss : List ByteArray) : (makeL seed ss).length = ss.length := tabN_length _ _
theorem makeL_getD (seed : List UInt8) (ss : List ByteArray) (k : Nat) (h : k < ss.length) : (makeL seed ss).getD k nod0 = keyed seed k (ss.getD k .empty) := tabN_getD _ h
theorem check_made (seed : List UInt8) (ss : List ByteArray) : checkN (makeL seed ss) = makeE ss := by
  have hl : (nodsOf ss).length = ss.length := tabN_length _ _
  refine checkN_eq (by rw [makeL_length, hl]) fun k hk => ?_
  rw [makeL_length] at hk
  rw [makeL_getD _ _ _ hk, nodsOf, tabN_getD _ hk]
  exact ⟨rfl, rfl⟩
theorem made_names {seed : List UInt8} {ss : List ByteArray} {B : Nat} (hs : ∀ s ∈ ss, s.size ≤ B) : ∀ x ∈ makeL seed ss, x.nm.size ≤ B := by
  intro x hx
  obtain ⟨j, hj, rfl⟩ := List.mem_map.1 hx
  exact hs _ (by rw [List.getD_eq_getElem?_getD, List.getElem?_eq_getElem (List.mem_range.1 hj)]; exact List.getElem_mem _)
def bobS : ByteArray := ⟨#[98, 111, 98]⟩
def alS : ByteArray := ⟨#[97, 108]⟩
def aS : ByteArray := ⟨#[97]⟩
theorem bob_al : makeE [bobS, alS] = 0 := by
  rw [makeE]
  refine check_ok (by decide) (fun k hk => ?_) (fun k hk => ?_)
  · match k, hk with
    | 0, _ => decide
    | 1, _ => decide
  · match k, hk with
    | 0, _ => rfl
    | 1, _ =>
      refine range_false fun j hj => ?_
      obtain rfl : j = 0 := by omega
      rw [sameN, ByteArray.toList_eq, ByteArray.toList_eq]
      decide
theorem a_bad : checkN [⟨aS, 0, zero32, zero32⟩] = 3 := rfl
set_option maxRecDepth 100000 in
theorem awake09 (w : World) : Calls Try.prog 15 #[] w fun e w' => e = .returned (.bool true) ∧ Later w w' := by
  have hM := hid (fun A B w h1 h2 => dmake_any A B 1 1 2 2 [1] [bobS, alS] w h1 (by omega) (by omega) h2 (by omega) (by decide))
  have hE0 := bob_al
  have hC := hid (fun A w h => dcheck_any A 2 2 (makeL [1] [bobS, alS]) w h (by omega) (made_names (by decide)))
  rw [check_made, hE0] at hC
  rw [hE0] at hM
  clear hE0
  have hC2 := hid (fun A w h => dcheck_any A 1 1 [⟨aS, 0, zero32, zero32⟩] w h (by omega) (by decide))
  rw [a_bad] at hC2
  have hl2 : (makeL [1] [bobS, alS]).length = 2 := rfl
  have hn0 : ∀ w g, Blk w g 50 ((makeL [1] [bobS, alS]).flatMap NC) → w.cell? ⟨g, 0, none⟩ = some (.string ⟨#[98, 111, 98]⟩) := fun w g h => h.cellD _ (flatF_get NC_length nod0 (i := 0) _ 0 (by rw [hl2]; omega) (by rw [makeL_getD _ _ 0 (by decide)]; rfl))
  have hn1 : ∀ w g, Blk w g 50 ((makeL [1] [bobS, alS]).flatMap NC) → w.cell? ⟨g, 67, none⟩ = some (W64 2) := fun w g h => h.cellD _ (flatF_get NC_length nod0 (i := 1) _ 1 (by rw [hl2]; omega) (by rw [makeL_getD _ _ 1 (by decide)]; rfl))
  generalize makeL [1] [bobS, alS] = xs at *
  go_enter Try.func15, Try.ntmps15
  go_wp2_with fail
  have b0 : Blk ((w.alloc (.cells #[.int .u8 1] 5)).alloc (.cells #[.string ⟨#[98, 111, 98]⟩, .string ⟨#[97, 108]⟩] 9)) w.heap.size 5 [.int .u8 1] := (Blk.new w _ [_]).later (later_alloc _ _)
  have b1 : Blk ((w.alloc (.cells #[.int .u8 1] 5)).alloc (.cells #[.string ⟨#[98, 111, 98]⟩, .string ⟨#[97, 108]⟩] 9)) (w.heap.size + 1) 9 [.string ⟨#[98, 111, 98]⟩, .string ⟨#[97, 108]⟩] := Blk.new' _ _ [_, _] (by simp)
  refine (hM.out _ _ _ (blk_rdB (bs := [1]) b0 rfl) (b1.rd rfl)).mono ?_
  rintro e w1 ⟨v, rfl, _, hv1, L1⟩
  obtain ⟨g, rfl, hg, hN⟩ := hv1 (by trivial)
  have c0 := hn0 _ _ hN
  have c1 := hn1 _ _ hN
  have L : Later w w1 := ((later_alloc _ _).trans (later_alloc _ _)).trans L1
  clear b0 b1 L1 hv1 hn0 hn1 hM
  go_wp2_with fail
  refine (hC.out (some ⟨g, 0, none⟩) _ (blk_rdF NC_length hN hl2)).mono ?_
  rintro e w2 ⟨rfl, L2⟩
  go_wp2_with (first
    | (refine wpList_build_w rfl _ _ rfl (NC ⟨aS, 0, zero32, zero32⟩) (by simp only [List.map_toArray, List.map_cons, List.map_nil]; exact built_nod1 _) ?_)
    | (refine build_oneC rfl 35 _ rfl 50 66 _ (NC ⟨aS, 0, zero32, zero32⟩) Try.underlying35 infoN2 (by omega) (by omega) (NC_length _) rfl ?_)
    | fail)
  have hbn : Blk (w2.alloc (.cells (NC ⟨aS, 0, zero32, zero32⟩).toArray 50)) w2.heap.size 50 ([⟨aS, 0, zero32, zero32⟩].flatMap NC) := by
    rw [List.flatMap_cons, List.flatMap_nil, List.append_nil]
    exact Blk.new w2 _ _
  refine (hC2.out (some ⟨w2.heap.size, 0, none⟩) _ (blk_rdF NC_length hbn rfl)).mono ?_
  rintro e w3 ⟨rfl, L3⟩
  go_wp2
  go_ret
  exact ⟨rfl, ((L.trans L2).trans (later_alloc _ _)).trans L3⟩
end Go.Proofs.Ytkibgdigcgakfaa
namespace Go.Proofs.Ytkibgdigcgakfaa
open Go.RowKit
open Go.BigFrame

/-! ### Rows with room behind -/
theorem spliced_app (l rest : List Value) (off : Nat) (vs : List Value) (h : off + vs.length ≤ l.length) : spliced (l ++ rest) off vs = spliced l off vs ++ rest := by
  simp only [spliced]
  rw [List.take_append_of_le_length (by omega), List.drop_append_of_le_length h]
  simp only [List.append_assoc]
theorem own_blkF {w : World} {base sz n c : Nat} {e : TypeId} {A : Option Addr} {vs : List Value} (h : w.ownsRow base e sz (.slice A n c) n vs) (hn : 0 < n) : ∃ g rest, A = some ⟨g, 0, none⟩ ∧ base ≤ g ∧ Blk w g e (vs ++ rest) := by
  rcases h.2 with ⟨hv, h0⟩ | ⟨g, cap, cur, hv, hb, hh, hnc, hm, hs, ht⟩
  · omega
  · cases hv
    refine ⟨g, cur.toList.drop (n * sz), rfl, hb, ?_⟩
    rw [show vs = cur.toList.take (n * sz) by simpa using ht.symm, List.take_append_drop]
    exact hh
theorem blk_rdF_app {α : Type} {F : α → List Value} {sz : Nat} {d : α} {w : World} {n : Nat} {xs : List α} {rest : List Value} (hF : ∀ x, (F x).length = sz) {g : Nat} {t : TypeId} (h : Blk w g t (xs.flatMap F ++ rest)) (hn : xs.length = n) : RdF F sz d w (some ⟨g, 0, none⟩) n xs := by
  refine ⟨hn, fun _ => ⟨g, 0, rfl, h.lt, fun j i v hj hv => ?_⟩⟩
  rw [Nat.zero_add]
  have e := flatF_get hF d xs j (by omega) hv
  refine h.cellD _ ?_
  rw [List.getElem?_append_left (List.getElem?_eq_some_iff.1 e).1]
  exact e
theorem size66 : (Try.prog.info? 50).map (·.size) = some 66 := by kernel_rfl
section
variable {ops : Array Oper} {rest : List Oper} {o : Oper} {a : Act} {w : World} {Q : Exit → Act → World → Prop}
/-- A whole node is loaded. -/
theorem load_nod (hgd : Region.wanted o (yielded ops a.tmps) = true) (x : Operand) (ho : o.op = .load 50 x) {g off : Nat} {y : Nod} (hc : ∀ i v, (NC y)[i]? = some v → w.cell? ⟨g, off + i, none⟩ = some v) (hx : a.eval x = .pointer (some ⟨g, off, none⟩))
    (h : wpList Try.prog ops Q rest (a.put o.dst (.agg (NC y).toArray)) w) : wpList Try.prog ops Q (o :: rest) a w :=
  wpList_load_at hgd _ x ho g off _ hc hx _ Try.underlying50 rfl (by rw [NC_length]; exact size66) h
theorem quiet_nod {J : Act → Prop} (x : Operand) (ho : o.op = .load 50 x) {w0 : World} {g off : Nat} {y : Nod} (hc : ∀ i v, (NC y)[i]? = some v → w0.cell? ⟨g, off + i, none⟩ = some v) (hg : g < w0.heap.size) (hx : a.eval x = .pointer (some ⟨g, off, none⟩)) (h : J (a.put o.dst (.agg (NC y).toArray))) :
    o.quiet Try.prog a (fun w' => ∃ x, w' = grow w0 x) J :=
  quiet_load_agg _ x ho g off (NC y) (fun w' hw j v hv => by obtain ⟨y, rfl⟩ := hw; exact ((Later.below ⟨y, rfl⟩).cell (p := ⟨g, off + j, none⟩) hg).trans (hc j v hv)) hx _ Try.underlying50 rfl (by rw [NC_length]; exact size66) h
end
theorem blk_oneN (w : World) (t : TypeId) (x : Nod) : Blk (w.alloc (.cells (NC x).toArray t)) w.heap.size t ([x].flatMap NC) := by
  rw [List.flatMap_cons, List.flatMap_nil, List.append_nil]
  exact Blk.new w t _
set_option maxRecDepth 100000 in
theorem same_ok (A B : Option Addr) (n c d : Nat) (xs : List Nod) (w : World) (hx : RdN w A n xs) (hy : RdN w B n xs) (hn : n ≤ 1099511627776) :
    Calls Try.prog 22 #[.slice A n c, .slice B n d] w fun e w' => e = .returned (.bool true) ∧ Later w w' := by
  have hl0 := hx.1
  go_enter Try.func22, Try.ntmps22
  go_wp2
  go_loopw [5] (fun i wr => ∃ k : Nat, i = .int .i64 k ∧ k ≤ n ∧ Later w wr) (fun i _ => n - (intOf i).toNat)
  case atStart => exact ⟨0, rfl, by omega, Later.refl w⟩
  case round =>
    obtain ⟨k, rfl, hk, L⟩ := hrel
    by_cases hlt : k < n
    · obtain ⟨b, o, rfl, hb, hc⟩ := (hx.later L.drew).at_ hlt
      obtain ⟨b', o', rfl, hb', hc'⟩ := (hy.later L.drew).at_ hlt
      generalize xs.getD k nod0 = x at *
      have hself := eqNod_self x
      go_wp2_with fail
      refine wp_region_parts [] [0, 1, 2, 3, 4, 5, 6, 7, 8] [] (by as_aux_lemma => kernel_rfl) (by as_aux_lemma => kernel_rfl) (by intro _ _ d _ _ h; cases d <;> exact h) ?_
      simp only [wpParts, pick, List.getElem?_cons_succ, List.getElem?_cons_zero, Option.toList_some, List.cons_append, List.nil_append]
      repeat (first | go_big_quiet_skip | (go_big_quiet_want; (first | refine quiet_nod _ rfl hc hb rfl ?_ | refine quiet_nod _ rfl hc' hb' rfl ?_); simp only [Act.put, List.setIfInBounds_toArray, List.set_cons_succ, List.set_cons_zero]; go_big_quiet_on) | (go_big_quiet_step (fail)))
      refine wpQuiet_nil ?_
      go_wp2
      exact ⟨⟨k + 1, by go_num, by omega, L.drew⟩, by simp [intOf]; omega⟩
    · obtain rfl : k = n := by omega
      go_wp2
      go_ret
      exact ⟨rfl, L⟩
end Go.Proofs.Ytkibgdigcgakfaa
namespace Go.Proofs.Ytkibgdigcgakfaa
open Go.RowKit
open Go.BigFrame

theorem zeroD : (Try.prog.info? 52).bind (·.zero) = some (.agg (NC nod0).toArray) := by kernel_rfl
theorem size66d : (Try.prog.info? 52).map (·.size) = some 66 := by kernel_rfl
theorem spliced_NC (l : List Value) (x : Nod) (h : l.length = 66) : spliced l 0 (NC x) = NC x := spliced_all _ _ (by rw [NC_length, h])
theorem built_dnode (x : Nod) : Try.prog.built 52 [(0, .agg (NC x).toArray)] = some (NC x).toArray := by
  rw [built_struct (pl := [(0, 66)]) Try.underlying52 zeroD (by kernel_rfl), fill_cons (vs := NC x) (off := 0) rfl (by rw [NC_length]; rfl) (by rw [NC_length, NC_length]; omega), fill_nil, spliced_NC _ _ (NC_length _)]
theorem built_dnode0 : Try.prog.built 52 [] = some (NC nod0).toArray := by
  rw [built_struct (pl := [(0, 66)]) Try.underlying52 zeroD (by kernel_rfl), fill_nil]
section
variable {ops : Array Oper} {rest : List Oper} {o : Oper} {a : Act} {w : World} {Q : Exit → Act → World → Prop}
/-- A whole node is stored. -/
theorem store_nod {ty : TypeId} (hi : (Try.prog.info? ty).map (·.size) = some 66) (hgd : o.guard = none) (hd : o.dst = none) (x y : Operand) (ho : o.op = .store ty x y) {g : Nat} {t : TypeId} {l : List Value} {z : Nod} (hg : Blk w g t l) (hx : a.eval x = .pointer (some ⟨g, 0, none⟩)) (hy : a.eval y = .agg (NC z).toArray) (hl : l.length = 66)
    (h : ∀ w', Blk w' g t (NC z) → Only g w w' → wpList Try.prog ops Q rest a w') : wpList Try.prog ops Q (o :: rest) a w :=
  wpList_store_blk hgd hd _ x y ho g t l _ hg hx hy 66 hi (NC_length _) hl (NC_one _) h
theorem load_dnode (hgd : Region.wanted o (yielded ops a.tmps) = true) (x : Operand) (ho : o.op = .load 52 x) {g off : Nat} {y : Nod} (hc : ∀ i v, (NC y)[i]? = some v → w.cell? ⟨g, off + i, none⟩ = some v) (hx : a.eval x = .pointer (some ⟨g, off, none⟩))
    (h : wpList Try.prog ops Q rest (a.put o.dst (.agg (NC y).toArray)) w) : wpList Try.prog ops Q (o :: rest) a w :=
  wpList_load_at hgd _ x ho g off _ hc hx _ Try.underlying52 rfl (by rw [NC_length]; exact size66d) h
theorem quiet_dnode {J : Act → Prop} (x : Operand) (ho : o.op = .load 52 x) {w0 : World} {g off : Nat} {y : Nod} (hc : ∀ i v, (NC y)[i]? = some v → w0.cell? ⟨g, off + i, none⟩ = some v) (hg : g < w0.heap.size) (hx : a.eval x = .pointer (some ⟨g, off, none⟩)) (h : J (a.put o.dst (.agg (NC y).toArray))) :
    o.quiet Try.prog a (fun w' => ∃ x, w' = grow w0 x) J :=
  quiet_load_agg _ x ho g off (NC y) (fun w' hw j v hv => by obtain ⟨y, rfl⟩ := hw; exact ((Later.below ⟨y, rfl⟩).cell (p := ⟨g, off + j, none⟩) hg).trans (hc j v hv)) hx _ Try.underlying52 rfl (by rw [NC_length]; exact size66d) h
end
theorem blk_cells {w : World} {g : Nat} {t : TypeId} {y : Nod} (h : Blk w g t (NC y)) : ∀ i v, (NC y)[i]? = some v → w.cell? ⟨g, 0 + i, none⟩ = some v := fun i v hv => by
  rw [Nat.zero_add]
  exact h.cellD i hv
set_option maxRecDepth 100000 in
theorem nodePublic_any (x : Nod) (w : World) :
    Calls Try.prog 25 #[.agg (NC x).toArray] w fun e w' => ∃ g, e = .returned (.slice (some ⟨g, 0, none⟩) 32 32) ∧ w.heap.size ≤ g ∧ Blk w' g 5 (x.pub.val.map W8) ∧ Later w w' := by
  have hb0 : Blk (w.alloc (.cells (NC x).toArray 52)) w.heap.size 52 (NC x) := Blk.new _ _ _
  have hc : ∀ j v, (x.pub.val.map W8)[j]? = some v → (w.alloc (.cells (NC x).toArray 52)).cell? ⟨w.heap.size, 34 + j, none⟩ = some v := fun j v hv => hb0.cellD _ (NC_pub x hv)
  go_enter Try.func25, Try.ntmps25
  go_wp2_with (first
    | (refine load_32 rfl _ rfl hc x.pub.2 rfl ?_)
    | fail)
  (with_reducible refine (copyKey_any x.pub.val x.pub.2 _).mono ?_); rintro e w2 ⟨g2, rfl, hg2, hb2, l2⟩
  go_wp2
  go_ret
  exact ⟨g2, rfl, by simp at hg2; omega, hb2, (later_alloc _ _).trans l2⟩
set_option maxRecDepth 100000 in
theorem nodePrivate_any (x : Nod) (w : World) :
    Calls Try.prog 26 #[.agg (NC x).toArray] w fun e w' => ∃ g, e = .returned (.slice (some ⟨g, 0, none⟩) 32 32) ∧ w.heap.size ≤ g ∧ Blk w' g 5 (x.priv.val.map W8) ∧ Later w w' := by
  have hb0 : Blk (w.alloc (.cells (NC x).toArray 52)) w.heap.size 52 (NC x) := Blk.new _ _ _
  have hc : ∀ j v, (x.priv.val.map W8)[j]? = some v → (w.alloc (.cells (NC x).toArray 52)).cell? ⟨w.heap.size, 2 + j, none⟩ = some v := fun j v hv => hb0.cellD _ (NC_priv x hv)
  go_enter Try.func26, Try.ntmps26
  go_wp2_with (first
    | (refine load_32 rfl _ rfl hc x.priv.2 rfl ?_)
    | fail)
  (with_reducible refine (copyKey_any x.priv.val x.priv.2 _).mono ?_); rintro e w2 ⟨g2, rfl, hg2, hb2, l2⟩
  go_wp2
  go_ret
  exact ⟨g2, rfl, by simp at hg2; omega, hb2, (later_alloc _ _).trans l2⟩
/-- The first node of this kind. -/
def findBy (p : Nod → Bool) (xs : List Nod) : Nod × Nat := match xs.find? p with | some x => (x, 0) | none => (nod0, 4)
theorem find_hit {xs : List Nod} {p : Nod → Bool} {k : Nat} (hk : k < xs.length) (hp : ∀ j, j < k → p (xs.getD j nod0) = false) (h : p (xs.getD k nod0) = true) : findBy p xs = (xs.getD k nod0, 0) := by
  have : xs.find? p = some (xs.getD k nod0) := by
    rw [List.find?_eq_some_iff_getElem]
    refine ⟨h, k, hk, by rw [List.getD_eq_getElem?_getD, List.getElem?_eq_getElem hk]; rfl, fun j hj => ?_⟩
    have := hp j hj
    rw [List.getD_eq_getElem?_getD, List.getElem?_eq_getElem (by omega)] at this
    simpa using this
  rw [findBy, this]
theorem find_not {xs : List Nod} {p : Nod → Bool} (hp : ∀ j, j < xs.length → p (xs.getD j nod0) = false) : findBy p xs = (nod0, 4) := by
  have : xs.find? p = none := by
    rw [List.find?_eq_none]
    intro x hx
    obtain ⟨k, hk, rfl⟩ := List.getElem_of_mem hx
    have := hp k hk
    rw [List.getD_eq_getElem?_getD, List.getElem?_eq_getElem hk] at this
    simpa using this
  rw [findBy, this]
def byName (s : ByteArray) (x : Nod) : Bool := x.nm.toList == s.toList
def byId (i : UInt64) (x : Nod) : Bool := x.id == i
/-- The same, in a checked directory. -/
def findN (p : Nod → Bool) (xs : List Nod) : Nod × Nat := if checkN xs = 0 then findBy p xs else (nod0, checkN xs)
set_option maxRecDepth 100000 in
theorem dnamed_any (A : Option Addr) (n c : Nat) (xs : List Nod) (s : ByteArray) (w : World) (hx : RdN w A n xs) (hn : n ≤ 1099511627776) :
    Calls Try.prog 35 #[.slice A n c, .string s] w fun e w' => e = .returned (.tuple #[.agg (NC (findBy (byName s) xs).1).toArray, .int .i64 (findBy (byName s) xs).2]) ∧ Later w w' := by
  have hl0 := hx.1
  have hb0 : Blk (w.alloc (.cells (NC nod0).toArray 52)) w.heap.size 52 (NC nod0) := Blk.new _ _ _
  go_enter Try.func35, Try.ntmps35
  go_wp2
  go_loopw [9] (fun i wr => ∃ k : Nat, i = .int .i64 k ∧ k ≤ n ∧ Hid (∀ j, j < k → byName s (xs.getD j nod0) = false) ∧ Blk wr w.heap.size 52 (NC nod0) ∧ Later w wr) (fun i _ => n - (intOf i).toNat)
  case atStart => exact ⟨0, rfl, by omega, hid (fun j hj => absurd hj (by omega)), hb0, later_alloc _ _⟩
  case round =>
    clear hb0
    obtain ⟨k, rfl, hk, hp, hb0, L⟩ := hrel
    by_cases hlt : k < n
    · obtain ⟨b, o, rfl, hb, hc⟩ := (hx.later L).at_ hlt
      have hhit := hid (fun h : byName s (xs.getD k nod0) = true => find_hit (p := byName s) (by omega) hp.out h)
      have hnext := hid (fun h : byName s (xs.getD k nod0) = false => below_succ (p := fun j => byName s (xs.getD j nod0) = false) hp.out h)
      generalize xs.getD k nod0 = x at *
      have c0 : wr.cell? ⟨b, o + k * 66, none⟩ = some (.string x.nm) := hc 0 _ rfl
      cases hnm : (x.nm.toList == s.toList)
      · go_wp2
        exact ⟨⟨k + 1, rfl, by omega, hid (hnext.out hnm), hb0, L⟩, by simp [intOf]; omega⟩
      · have hres := hid (hhit.out hnm)
        go_wp2_with (first
          | (refine load_nod rfl _ rfl hc rfl ?_)
          | (refine wpList_build_w rfl _ _ rfl (NC x) (by simp only [List.map_toArray, List.map_cons, List.map_nil]; exact built_dnode x) ?_)
          | (refine store_nod size66d rfl rfl _ _ rfl hb0 rfl rfl (NC_length _) ?_; intro w9 hb9 ho9)
          | fail)
        exact bodyPost_ret (results_blk_tmp rfl _ _ _ _ _ _ hb9 rfl Try.underlying52 rfl (by rw [NC_length]; exact size66d)) rfl ⟨by rw [hres.out]; rfl, L.only ho9 (Nat.le_refl _)⟩
    · obtain rfl : k = n := by omega
      have hres := hid (find_not (p := byName s) (xs := xs) (by rw [hl0]; exact hp.out))
      go_wp2_with (first
        | (refine wpList_build_w rfl _ _ rfl (NC nod0) (by simp only [List.map_toArray, List.map_nil]; exact built_dnode0) ?_)
        | (refine store_nod size66d rfl rfl _ _ rfl hb0 rfl rfl (NC_length _) ?_; intro w9 hb9 ho9)
        | fail)
      exact bodyPost_ret (results_blk_tmp rfl _ _ _ _ _ _ hb9 rfl Try.underlying52 rfl (by rw [NC_length]; exact size66d)) rfl ⟨by rw [hres.out]; rfl, L.only ho9 (Nat.le_refl _)⟩
set_option maxRecDepth 100000 in
theorem dfind_any (A : Option Addr) (n c : Nat) (xs : List Nod) (s : ByteArray) (w : World) (hx : RdN w A n xs) (hn : n ≤ 1099511627776) (hs : ∀ x ∈ xs, x.nm.size ≤ 140737488355328) :
    Calls Try.prog 21 #[.slice A n c, .string s] w fun e w' => e = .returned (.tuple #[.agg (NC (findN (byName s) xs).1).toArray, .int .i64 (findN (byName s) xs).2]) ∧ Later w w' := by
  have hb0 : Blk (w.alloc (.cells (NC nod0).toArray 52)) w.heap.size 52 (NC nod0) := Blk.new _ _ _
  have hC := hid (fun w h => dcheck_any A n c xs w h hn hs)
  have hN := hid (fun w h => dnamed_any A n c xs s w h hn)
  go_enter Try.func21, Try.ntmps21
  go_wp2_with fail
  refine (hC.out _ (hx.later (later_alloc _ _))).mono ?_
  rintro e w1 ⟨rfl, l1⟩
  replace hb0 := hb0.later l1
  have L := (later_alloc w (.cells (NC nod0).toArray 52)).trans l1
  by_cases h0 : checkN xs = 0
  · have hres := hid (show findN (byName s) xs = findBy (byName s) xs by rw [findN, if_pos h0])
    rw [h0]
    clear h0
    go_wp2_with fail
    refine (hN.out _ (hx.later L)).mono ?_
    rintro e w2 ⟨rfl, l2⟩
    replace hb0 := hb0.later l2
    have hr1 := hid (congrArg Prod.fst hres.out)
    have hr2 := hid (congrArg Prod.snd hres.out)
    generalize (findBy (byName s) xs).1 = R at *
    generalize (findBy (byName s) xs).2 = E at *
    go_wp2_with (first
      | (refine store_nod size66d rfl rfl _ _ rfl hb0 rfl rfl (NC_length _) ?_; intro w9 hb9 ho9)
      | fail)
    exact bodyPost_ret (results_blk_tmp rfl _ _ _ _ _ _ hb9 rfl Try.underlying52 rfl (by rw [NC_length]; exact size66d)) rfl ⟨by rw [hr1.out, hr2.out]; rfl, (L.trans l2).only ho9 (Nat.le_refl _)⟩
  · have hres := hid (show findN (byName s) xs = (nod0, checkN xs) by rw [findN, if_neg h0])
    have hne : ((checkN xs : Int) != 0) = true := by simpa using h0
    clear h0
    go_wp2_with (first
      | (refine wpList_build_w rfl _ _ rfl (NC nod0) (by simp only [List.map_toArray, List.map_nil]; exact built_dnode0) ?_)
      | (refine store_nod size66d rfl rfl _ _ rfl hb0 rfl rfl (NC_length _) ?_; intro w9 hb9 ho9)
      | fail)
    exact bodyPost_ret (results_blk_tmp rfl _ _ _ _ _ _ hb9 rfl Try.underlying52 rfl (by rw [NC_length]; exact size66d)) rfl ⟨by rw [hres.out]; rfl, L.only ho9 (Nat.le_refl _)⟩
end Go.Proofs.Ytkibgdigcgakfaa
