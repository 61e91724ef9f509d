/-
  dir: names in form.
  Nodes in memory: a name, a number, two keys.
  dir: keys in new memory, directories of one's own.
  dir: do the keys of a directory fit.
  dir: nodes that are made.
  dir.Make.
  dir: nodes are built and compared.
  shallotlaw09: awake; the law DirChecks.
  shallotref09: Same, Make.
  dir: nodes are found.
-/
import Derived.Test.YtdojjnbpidogfaaGreatMemP
import Derived.Test.YtdojjnbpidogfaaGreatRowP
import Derived.Test.YtdojjnbpidogfaaGreatHelp
import Derived.Test.YtdojjnbpidogfaaGreatFLaws
import Derived.Test.YtdojjnbpidogfaaGreatStrP
import Derived.Test.YtdojjnbpidogfaaGreatCurveD
import Derived.Test.YtdojjnbpidogfaaGreatBagMore
import Derived.Test.YtdojjnbpidogfaaGreatMacP
namespace Go.Proofs.YtdojjnbpidogfaaGreat
open Go.RowKit
open Go.BigFrame

/-- A byte that a name may have at place 'k'. -/
def okAt (s : ByteArray) (k : Nat) : Bool :=
  if h : k < s.size then (decide (97 ≤ s[k].toNat) && decide (s[k].toNat ≤ 122)) || (decide (48 ≤ s[k].toNat) && decide (s[k].toNat ≤ 57) && decide (0 < k)) else true
/-- A name in form. -/
def okName (s : ByteArray) : Bool := decide (1 ≤ s.size) && decide (s.size ≤ 16) && (List.range s.size).all (okAt s)
theorem okAt_iff (s : ByteArray) (k : Nat) (h : k < s.size) : okAt s k = true ↔ (97 ≤ (s[k].toNat : Int) ∧ (s[k].toNat : Int) ≤ 122) ∨ (48 ≤ (s[k].toNat : Int) ∧ (s[k].toNat : Int) ≤ 57 ∧ 0 < k) := by
  rw [okAt, dif_pos h]
  simp only [Bool.or_eq_true, Bool.and_eq_true, decide_eq_true_eq]
  omega
theorem okName_iff (s : ByteArray) : okName s = true ↔ 1 ≤ s.size ∧ s.size ≤ 16 ∧ ∀ j, j < s.size → okAt s j = true := by
  rw [okName]
  simp only [Bool.and_eq_true, decide_eq_true_eq, List.all_eq_true, List.mem_range, and_assoc]
theorem okName_all {s : ByteArray} (h : ¬ (s.size < 1 ∨ 16 < s.size)) (hj : ∀ j, j < s.size → okAt s j = true) : okName s = true := (okName_iff s).2 ⟨by omega, by omega, hj⟩
theorem okName_len {s : ByteArray} (h : s.size < 1 ∨ 16 < s.size) : okName s = false := by
  rcases Bool.eq_false_or_eq_true (okName s) with e | e
  · have := (okName_iff s).1 e
    omega
  · exact e
theorem okName_bad {s : ByteArray} {k : Nat} (h : k < s.size) (hn : ¬ ((97 ≤ (s[k].toNat : Int) ∧ (s[k].toNat : Int) ≤ 122) ∨ (48 ≤ (s[k].toNat : Int) ∧ (s[k].toNat : Int) ≤ 57 ∧ 0 < k))) : okName s = false := by
  rcases Bool.eq_false_or_eq_true (okName s) with e | e
  · exact absurd ((okAt_iff s k h).1 (((okName_iff s).1 e).2.2 k h)) hn
  · exact e
theorem okAt_next {s : ByteArray} {k : Nat} (h : k < s.size) (hp : ∀ j, j < k → okAt s j = true) (hn : (97 ≤ (s[k].toNat : Int) ∧ (s[k].toNat : Int) ≤ 122) ∨ (48 ≤ (s[k].toNat : Int) ∧ (s[k].toNat : Int) ≤ 57 ∧ 0 < k)) : ∀ j, j < k + 1 → okAt s j = true := by
  intro j hj
  rcases Nat.lt_or_ge j k with h1 | h1
  · exact hp j h1
  · obtain rfl : j = k := by omega
    exact (okAt_iff s j h).2 hn
end Go.Proofs.YtdojjnbpidogfaaGreat
namespace Go.Proofs.YtdojjnbpidogfaaGreat
open Go.RowKit
open Go.BigFrame

/-- A node. -/
structure Nod where
  nm : ByteArray
  id : UInt64
  priv : Y32
  pub : Y32
def zero32 : Y32 := ⟨List.replicate 32 0, by simp⟩
def nod0 : Nod := ⟨.empty, 0, zero32, zero32⟩
/-- A node's cells. -/
def NC (x : Nod) : List Value := .string x.nm :: W64 x.id :: (x.priv.val.map W8 ++ x.pub.val.map W8)
theorem NC_length (x : Nod) : (NC x).length = 66 := by simp [NC, x.priv.2, x.pub.2]
theorem NC_one (x : Nod) : ∀ u ∈ NC x, u.oneCell' = true := by
  intro u hu
  simp only [NC, List.mem_cons, List.mem_append, List.mem_map] at hu
  rcases hu with rfl | rfl | ⟨b, _, rfl⟩ | ⟨b, _, rfl⟩ <;> rfl
/-- A row of nodes. -/
abbrev RdN : World → Option Addr → Nat → List Nod → Prop := RdF NC 66 nod0
/-- What a node's cells hold. -/
theorem nod_at {w : World} {A : Option Addr} {n : Nat} {xs : List Nod} (h : RdN w A n xs) {k : Nat} (hk : k < n) :
    ∃ b o, A = some ⟨b, o, none⟩ ∧ b < w.heap.size ∧ w.cell? ⟨b, o + k * 66, none⟩ = some (.string (xs.getD k nod0).nm) ∧ w.cell? ⟨b, o + k * 66 + 1, none⟩ = some (W64 (xs.getD k nod0).id) := by
  obtain ⟨b, o, hA, hb, hc⟩ := h.at_ hk
  exact ⟨b, o, hA, hb, hc 0 _ rfl, hc 1 _ rfl⟩
/-- Its keys. -/
theorem NC_priv (x : Nod) {j : Nat} {v : Value} (h : (x.priv.val.map W8)[j]? = some v) : (NC x)[2 + j]? = some v := by
  have hj : j < (x.priv.val.map W8).length := (List.getElem?_eq_some_iff.1 h).1
  rw [NC, show 2 + j = j + 1 + 1 by omega, List.getElem?_cons_succ, List.getElem?_cons_succ, List.getElem?_append_left hj]
  exact h
theorem NC_pub (x : Nod) {j : Nat} {v : Value} (h : (x.pub.val.map W8)[j]? = some v) : (NC x)[34 + j]? = some v := by
  have hp : (x.priv.val.map W8).length = 32 := by rw [List.length_map, x.priv.2]
  rw [NC, show 34 + j = j + 32 + 1 + 1 by omega, List.getElem?_cons_succ, List.getElem?_cons_succ, List.getElem?_append_right (by omega), hp, Nat.add_sub_cancel]
  exact h
theorem nod_keys {w : World} {A : Option Addr} {n : Nat} {xs : List Nod} (h : RdN w A n xs) {k : Nat} (hk : k < n) :
    ∃ b o, A = some ⟨b, o, none⟩ ∧ b < w.heap.size ∧ (∀ j v, ((xs.getD k nod0).priv.val.map W8)[j]? = some v → w.cell? ⟨b, o + k * 66 + 2 + j, none⟩ = some v) ∧ (∀ j v, ((xs.getD k nod0).pub.val.map W8)[j]? = some v → w.cell? ⟨b, o + k * 66 + 34 + j, none⟩ = some v) := by
  obtain ⟨b, o, hA, hb, hc⟩ := h.at_ hk
  refine ⟨b, o, hA, hb, fun j v hv => ?_, fun j v hv => ?_⟩
  · rw [Nat.add_assoc _ 2 j]; exact hc _ _ (NC_priv _ hv)
  · rw [Nat.add_assoc _ 34 j]; exact hc _ _ (NC_pub _ hv)
def badN (x : Nod) : Bool := x.id == 0 || !okName x.nm
def sameN (x y : Nod) : Bool := x.nm.toList == y.nm.toList || x.id == y.id
def dupAt (xs : List Nod) (i : Nat) : Bool := (List.range i).any fun j => sameN (xs.getD i nod0) (xs.getD j nod0)
/-- The error of a directory. -/
def checkN (xs : List Nod) : Nat := if 64 < xs.length then 2 else if xs.any badN then 3 else if (List.range xs.length).any (dupAt xs) then 4 else 0
theorem any_true {xs : List Nod} {p : Nod → Bool} {k : Nat} (hk : k < xs.length) (h : p (xs.getD k nod0) = true) : xs.any p = true := by
  rw [List.any_eq_true]
  refine ⟨_, List.getElem_mem hk, ?_⟩
  rwa [List.getD_eq_getElem?_getD, List.getElem?_eq_getElem hk] at h
theorem any_false {xs : List Nod} {p : Nod → Bool} (h : ∀ k, k < xs.length → p (xs.getD k nod0) = false) : xs.any p = false := by
  rw [List.any_eq_false]
  intro x hx
  obtain ⟨k, hk, rfl⟩ := List.getElem_of_mem hx
  have := h k hk
  rw [List.getD_eq_getElem?_getD, List.getElem?_eq_getElem hk] at this
  simpa using this
theorem range_false {n : Nat} {p : Nat → Bool} (h : ∀ k, k < n → p k = false) : (List.range n).any p = false := by
  rw [List.any_eq_false]
  intro k hk
  rw [h k (List.mem_range.1 hk)]
  decide
theorem range_true {n k : Nat} {p : Nat → Bool} (hk : k < n) (h : p k = true) : (List.range n).any p = true := List.any_eq_true.2 ⟨k, List.mem_range.2 hk, h⟩
theorem below_succ {p : Nat → Prop} {k : Nat} (h : ∀ j, j < k → p j) (hk : p k) : ∀ j, j < k + 1 → p j := by
  intro j hj
  rcases Nat.lt_or_ge j k with h1 | h1
  · exact h j h1
  · obtain rfl : j = k := by omega
    exact hk
theorem check_size {xs : List Nod} (h : 64 < xs.length) : checkN xs = 2 := by rw [checkN, if_pos h]
theorem check_form {xs : List Nod} {k : Nat} (h : ¬ 64 < xs.length) (hk : k < xs.length) (hb : badN (xs.getD k nod0) = true) : checkN xs = 3 := by rw [checkN, if_neg h, if_pos (any_true hk hb)]
theorem check_name {xs : List Nod} {i j : Nat} (h : ¬ 64 < xs.length) (hf : ∀ k, k < xs.length → badN (xs.getD k nod0) = false) (hi : i < xs.length) (hj : j < i) (hs : sameN (xs.getD i nod0) (xs.getD j nod0) = true) : checkN xs = 4 := by
  rw [checkN, if_neg h, if_neg (by rw [any_false hf]; decide), if_pos (range_true hi (range_true hj hs))]
theorem check_ok {xs : List Nod} (h : ¬ 64 < xs.length) (hf : ∀ k, k < xs.length → badN (xs.getD k nod0) = false) (hd : ∀ k, k < xs.length → dupAt xs k = false) : checkN xs = 0 := by
  rw [checkN, if_neg h, if_neg (by rw [any_false hf]; decide), if_neg (by rw [range_false hd]; decide)]
theorem nod_mem {xs : List Nod} {k : Nat} (hk : k < xs.length) : xs.getD k nod0 ∈ xs := by
  rw [List.getD_eq_getElem?_getD, List.getElem?_eq_getElem hk]
  exact List.getElem_mem hk
end Go.Proofs.YtdojjnbpidogfaaGreat
namespace Go.Proofs.YtdojjnbpidogfaaGreat
open Go.RowKit
open Go.BigFrame

set_option maxRecDepth 100000 in
theorem copyKey_any (K : List UInt8) (hK : K.length = 32) (w : World) :
    Calls Tryz.prog 46 #[.agg (K.map W8).toArray] w fun e w' => ∃ g, e = .returned (.slice (some ⟨g, 0, none⟩) 32 32) ∧ w.heap.size ≤ g ∧ Blk w' g 5 (K.map W8) ∧ Later w w' := by
  have hb0 : Blk (w.alloc (.cells (K.map W8).toArray 31)) w.heap.size 31 (K.map W8) := Blk.new _ _ _
  go_enter Tryz.func46, Tryz.ntmps46
  go_wp2_with (first
    | (refine wpList_make_n rfl _ _ 22 rfl 5 (.int .u8 0) 1 Tryz.underlying22 info8 rfl _ _ _ _ 32 rfl rfl rfl rfl (by omega) (by omega) ?_; intro w2 hb2 hl2; rw [show (w.alloc (.cells (K.map W8).toArray 31)).heap.size = w.heap.size + 1 by simp] at hb2)
    | (refine copy_Y 0 32 rfl _ _ _ _ rfl 5 Tryz.underlying22 size8 (show Blk w2 (w.heap.size + 1) 5 ((List.replicate 32 0).map W8) by (rw [List.map_replicate]; exact hb2)) (blk_rdB (hb0.later hl2) hK) rfl rfl (by simp) ?_; intro w3 hb3 ho3; rw [putB_all _ _ (by simpa using hK)] at hb3)
    | fail)
  go_ret
  exact ⟨w.heap.size + 1, rfl, by omega, hb3, ((later_alloc _ _).trans hl2).only ho3 (by omega)⟩
end Go.Proofs.YtdojjnbpidogfaaGreat
namespace Go.Proofs.YtdojjnbpidogfaaGreat
open Go.RowKit
open Go.BigFrame

section
variable {ops : Array Oper} {rest : List Oper} {o : Oper} {a : Act} {w : World} {Q : Exit → Act → World → Prop}
/-- 32 bytes of a struct are loaded. -/
theorem load_32 (hgd : Region.wanted o (yielded ops a.tmps) = true) (x : Operand) (ho : o.op = .load 31 x) {g off : Nat} {K : List UInt8} (hc : ∀ j v, (K.map W8)[j]? = some v → w.cell? ⟨g, off + j, none⟩ = some v) (hl : K.length = 32) (hx : a.eval x = .pointer (some ⟨g, off, none⟩))
    (h : wpList Tryz.prog ops Q rest (a.put o.dst (.agg (K.map W8).toArray)) w) : wpList Tryz.prog ops Q (o :: rest) a w :=
  wpList_load_at hgd _ x ho g off _ hc hx _ Tryz.underlying31 rfl (by rw [List.length_map, hl]; exact size32b) h
theorem quiet_32 {J : Act → Prop} (x : Operand) (ho : o.op = .load 31 x) {w0 : World} {g off : Nat} {K : List UInt8} (hc : ∀ j v, (K.map W8)[j]? = some v → w0.cell? ⟨g, off + j, none⟩ = some v) (hg : g < w0.heap.size) (hl : K.length = 32) (hx : a.eval x = .pointer (some ⟨g, off, none⟩)) (h : J (a.put o.dst (.agg (K.map W8).toArray))) :
    o.quiet Tryz.prog a (fun w' => ∃ x, w' = grow w0 x) J :=
  quiet_load_agg _ x ho g off (K.map W8) (fun w' hw j v hv => by obtain ⟨y, rfl⟩ := hw; exact ((Later.below ⟨y, rfl⟩).cell (p := ⟨g, off + j, none⟩) hg).trans (hc j v hv)) hx _ Tryz.underlying31 rfl (by rw [List.length_map, hl]; exact size32b) h
end
theorem rdB_cells {w : World} {b off n : Nat} {K : List UInt8} (hb : b < w.heap.size) (hc : ∀ j v, (K.map W8)[j]? = some v → w.cell? ⟨b, off + j, none⟩ = some v) (hn : K.length = n) : RdB w (some ⟨b, off, none⟩) n K :=
  ⟨by rw [List.length_map, hn], fun _ => ⟨b, off, rfl, hb, hc⟩⟩
/-- The public key of a private one. -/
def pubK (K : List UInt8) : List UInt8 := multB K (nb 9)
theorem pubK_length (K : List UInt8) : (pubK K).length = 32 := multB_length _ _
def fitB (x : Nod) : Bool := pubK x.priv.val == x.pub.val
/-- Do all keys belong together. -/
def fitsN (xs : List Nod) : Bool := checkN xs == 0 && xs.all fitB
theorem fits_no {xs : List Nod} (h : checkN xs ≠ 0) : fitsN xs = false := by
  rw [fitsN, show (checkN xs == 0) = false by simpa using h]
  rfl
theorem fits_bad {xs : List Nod} {k : Nat} (hk : k < xs.length) (h : fitB (xs.getD k nod0) = false) : fitsN xs = false := by
  rw [fitsN, show xs.all fitB = false from ?_, Bool.and_false]
  rw [List.all_eq_false]
  exact ⟨_, nod_mem hk, by rw [h]; decide⟩
theorem fits_ok {xs : List Nod} (h : checkN xs = 0) (hf : ∀ k, k < xs.length → fitB (xs.getD k nod0) = true) : fitsN xs = true := by
  rw [fitsN, h, Bool.and_eq_true]
  refine ⟨rfl, ?_⟩
  rw [List.all_eq_true]
  intro x hx
  obtain ⟨k, hk, rfl⟩ := List.getElem_of_mem hx
  have := hf k hk
  rwa [List.getD_eq_getElem?_getD, List.getElem?_eq_getElem hk] at this
end Go.Proofs.YtdojjnbpidogfaaGreat
namespace Go.Proofs.YtdojjnbpidogfaaGreat
open Go.RowKit
open Go.BigFrame

/-! ### Cells of a node that are turned -/
theorem NC_nm (x : Nod) (s : ByteArray) : NC { x with nm := s } = spliced (NC x) 0 [.string s] := by simp [NC, spliced]
theorem NC_id (x : Nod) (i : UInt64) : NC { x with id := i } = spliced (NC x) 1 [W64 i] := by simp [NC, spliced]
theorem NC_putPriv (x : Nod) (K : Y32) : NC { x with priv := K } = spliced (NC x) 2 (K.val.map W8) := by
  have h1 : (x.priv.val.map W8).length = 32 := by rw [List.length_map, x.priv.2]
  have h2 : (K.val.map W8).length = 32 := by rw [List.length_map, K.2]
  simp only [NC, spliced, h2]
  rw [show (2 + 32 : Nat) = 32 + 1 + 1 from rfl, List.drop_succ_cons, List.drop_succ_cons, List.drop_left' h1]
  rfl
theorem NC_putPub (x : Nod) (K : Y32) : NC { x with pub := K } = spliced (NC x) 34 (K.val.map W8) := by
  have h1 : (x.priv.val.map W8).length = 32 := by rw [List.length_map, x.priv.2]
  have h2 : (K.val.map W8).length = 32 := by rw [List.length_map, K.2]
  have h3 : (NC x).length = 66 := NC_length x
  rw [spliced, h2, List.drop_eq_nil_of_le (by omega), List.append_nil]
  simp only [NC]
  rw [show (34 : Nat) = 32 + 1 + 1 from rfl, List.take_succ_cons, List.take_succ_cons, List.take_left' h1]
  rfl
theorem nods_nm {xs : List Nod} {k : Nat} (hk : k < xs.length) (s : ByteArray) : (xs.flatMap NC).set (k * 66) (.string s) = (xs.set k { xs.getD k nod0 with nm := s }).flatMap NC := by
  have hl := flatF_length NC_length xs
  rw [← spliced_one _ _ _ (by rw [hl]; omega)]
  exact flatF_set NC_length nod0 (off := 0) xs k hk (by simp) (NC_nm _ s)
theorem nods_id {xs : List Nod} {k : Nat} (hk : k < xs.length) (i : UInt64) : (xs.flatMap NC).set (k * 66 + 1) (W64 i) = (xs.set k { xs.getD k nod0 with id := i }).flatMap NC := by
  have hl := flatF_length NC_length xs
  rw [← spliced_one _ _ _ (by rw [hl]; omega)]
  exact flatF_set NC_length nod0 (off := 1) xs k hk (by simp) (NC_id _ i)
theorem nods_priv {xs : List Nod} {k : Nat} (hk : k < xs.length) (K : Y32) : spliced (xs.flatMap NC) (k * 66 + 2) (K.val.map W8) = (xs.set k { xs.getD k nod0 with priv := K }).flatMap NC :=
  flatF_set NC_length nod0 (off := 2) xs k hk (by rw [List.length_map, K.2]; omega) (NC_putPriv _ K)
theorem nods_pub {xs : List Nod} {k : Nat} (hk : k < xs.length) (K : Y32) : spliced (xs.flatMap NC) (k * 66 + 34) (K.val.map W8) = (xs.set k { xs.getD k nod0 with pub := K }).flatMap NC :=
  flatF_set NC_length nod0 (off := 34) xs k hk (by rw [List.length_map, K.2]; omega) (NC_putPub _ K)
/-! ### Lists by place -/
def tabN (n : Nat) (f : Nat → Nod) : List Nod := (List.range n).map f
theorem tabN_length (n : Nat) (f : Nat → Nod) : (tabN n f).length = n := by rw [tabN, List.length_map, List.length_range]
theorem tabN_get {n k : Nat} (f : Nat → Nod) (h : k < n) : (tabN n f)[k]? = some (f k) := by rw [tabN, List.getElem?_map, List.getElem?_range h]; rfl
theorem tabN_getD {n k : Nat} (f : Nat → Nod) (h : k < n) : (tabN n f).getD k nod0 = f k := by rw [List.getD_eq_getElem?_getD, tabN_get f h]; rfl
theorem tabN_ext {xs : List Nod} {n : Nat} {f : Nat → Nod} (hl : xs.length = n) (h : ∀ j, j < n → xs[j]? = some (f j)) : xs = tabN n f := by
  apply List.ext_getElem?
  intro j
  rcases Nat.lt_or_ge j n with hj | hj
  · rw [h j hj, tabN_get f hj]
  · rw [List.getElem?_eq_none (by omega), List.getElem?_eq_none (by rw [tabN_length]; exact hj)]
theorem tabN_set {n k : Nat} {f g : Nat → Nod} (hg : ∀ j, j ≠ k → g j = f j) (y : Nod) (hy : k < n → y = g k) : (tabN n f).set k y = tabN n g := by
  refine tabN_ext (by rw [List.length_set, tabN_length]) fun j hj => ?_
  rw [List.getElem?_set]
  by_cases h : k = j
  · subst h
    rw [if_pos rfl, if_pos (by rw [tabN_length]; exact hj), hy hj]
  · rw [if_neg h, tabN_get f hj, hg j (fun e => h e.symm)]
/-! ### The nodes -/
def nodeOf (i : Nat) (s : ByteArray) : Nod := ⟨s, UInt64.ofNat (i + 1), zero32, zero32⟩
/-- Behind 'k' rounds of the first loop. -/
def madeAt (ss : List ByteArray) (k : Nat) : List Nod := tabN ss.length fun j => if j < k then nodeOf j (ss.getD j .empty) else nod0
def nodsOf (ss : List ByteArray) : List Nod := tabN ss.length fun j => nodeOf j (ss.getD j .empty)
theorem madeAt_zero (ss : List ByteArray) : madeAt ss 0 = List.replicate ss.length nod0 := by
  rw [madeAt]
  refine (tabN_ext (by rw [List.length_replicate]) fun j hj => ?_).symm
  rw [List.getElem?_replicate, if_pos hj, if_neg (by omega)]
theorem madeAt_all (ss : List ByteArray) : madeAt ss ss.length = nodsOf ss := by
  rw [madeAt, nodsOf]
  refine tabN_ext (tabN_length _ _) fun j hj => ?_
  rw [tabN_get _ hj, if_pos hj]
theorem made_step (ss : List ByteArray) (k : Nat) (hk : k < ss.length) : (((madeAt ss k).flatMap NC).set (k * 66) (.string (ss.getD k .empty))).set (k * 66 + 1) (W64 (UInt64.ofNat (k + 1))) = (madeAt ss (k + 1)).flatMap NC := by
  have hl : (madeAt ss k).length = ss.length := tabN_length _ _
  rw [nods_nm (by omega), nods_id (by rw [List.length_set]; omega), List.set_set]
  congr 1
  rw [madeAt, madeAt]
  refine tabN_set (fun j hj => ?_) _ (fun _ => ?_)
  · by_cases h : j < k
    · rw [if_pos (by omega), if_pos h]
    · rw [if_neg (by omega), if_neg h]
  · rw [if_pos (by omega), List.getD_eq_getElem?_getD, List.getElem?_set_self (by rw [tabN_length]; exact hk), Option.getD_some, tabN_getD _ hk, if_neg (by omega)]
    rfl
def nodeB : List UInt8 := [110, 111, 100, 101]
def keyK (seed : List UInt8) (s : ByteArray) : List UInt8 := expB (macTag nodeB seed) (strB s) 32
theorem keyK_length (seed : List UInt8) (s : ByteArray) : (keyK seed s).length = 32 := expB_length _ _ _
def keyY (seed : List UInt8) (s : ByteArray) : Y32 := ⟨keyK seed s, keyK_length seed s⟩
def pubY (K : List UInt8) : Y32 := ⟨pubK K, pubK_length K⟩
def keyed (seed : List UInt8) (i : Nat) (s : ByteArray) : Nod := ⟨s, UInt64.ofNat (i + 1), keyY seed s, pubY (keyK seed s)⟩
/-- Behind 'k' rounds of the second loop. -/
def keyAt (seed : List UInt8) (ss : List ByteArray) (k : Nat) : List Nod := tabN ss.length fun j => if j < k then keyed seed j (ss.getD j .empty) else nodeOf j (ss.getD j .empty)
/-- The nodes that are made. -/
def makeL (seed : List UInt8) (ss : List ByteArray) : List Nod := tabN ss.length fun j => keyed seed j (ss.getD j .empty)
theorem keyAt_zero (seed : List UInt8) (ss : List ByteArray) : keyAt seed ss 0 = nodsOf ss := by
  rw [keyAt, nodsOf]
  refine tabN_ext (tabN_length _ _) fun j hj => ?_
  rw [tabN_get _ hj, if_neg (by omega)]
theorem keyAt_all (seed : List UInt8) (ss : List ByteArray) : keyAt seed ss ss.length = makeL seed ss := by
  rw [keyAt, makeL]
  refine tabN_ext (tabN_length _ _) fun j hj => ?_
  rw [tabN_get _ hj, if_pos hj]
theorem keyAt_length (seed : List UInt8) (ss : List ByteArray) (k : Nat) : (keyAt seed ss k).length = ss.length := tabN_length _ _
theorem keyAt_name (seed : List UInt8) (ss : List ByteArray) (k j : Nat) (h : j < ss.length) : ((keyAt seed ss k).getD j nod0).nm = ss.getD j .empty := by
  rw [keyAt, tabN_getD _ h]
  split <;> rfl
theorem key_step (seed : List UInt8) (ss : List ByteArray) (k : Nat) (hk : k < ss.length) : spliced (spliced ((keyAt seed ss k).flatMap NC) (k * 66 + 2) ((keyK seed (ss.getD k .empty)).map W8)) (k * 66 + 34) ((pubK (keyK seed (ss.getD k .empty))).map W8) = (keyAt seed ss (k + 1)).flatMap NC := by
  have hl := keyAt_length seed ss k
  have h1 := nods_priv (xs := keyAt seed ss k) (k := k) (by omega) (keyY seed (ss.getD k .empty))
  have h2 := nods_pub (xs := (keyAt seed ss k).set k { (keyAt seed ss k).getD k nod0 with priv := keyY seed (ss.getD k .empty) }) (k := k) (by rw [List.length_set]; omega) (pubY (keyK seed (ss.getD k .empty)))
  have e1 : (keyY seed (ss.getD k .empty)).val = keyK seed (ss.getD k .empty) := rfl
  have e2 : (pubY (keyK seed (ss.getD k .empty))).val = pubK (keyK seed (ss.getD k .empty)) := rfl
  rw [e1] at h1
  rw [e2] at h2
  rw [h1, h2, List.set_set]
  congr 1
  rw [keyAt, keyAt]
  refine tabN_set (fun j hj => ?_) _ (fun _ => ?_)
  · by_cases h : j < k
    · rw [if_pos (by omega), if_pos h]
    · rw [if_neg (by omega), if_neg h]
  · rw [if_pos (by omega), List.getD_eq_getElem?_getD, List.getElem?_set_self (by rw [tabN_length]; exact hk), Option.getD_some, tabN_getD _ hk, if_neg (by omega)]
    rfl
end Go.Proofs.YtdojjnbpidogfaaGreat
namespace Go.Proofs.YtdojjnbpidogfaaGreat
open Go.RowKit
open Go.BigFrame

end Go.Proofs.YtdojjnbpidogfaaGreat
namespace Go.Proofs.YtdojjnbpidogfaaGreat
open Go.RowKit
open Go.BigFrame

theorem run_part_one {P : Program} {t : TypeId} {d : TypeDesc} {k : Nat} {v : Value} (hu : P.underlying t = some d) (hd : aggDesc d = false) {zs : List Value} (hz : zs[k]? = some v) (w : World) : (part t zs.toArray k).run P w = .ok v w := by
  have ha : (isAgg t).run P w = .ok false w := by
    unfold isAgg
    simp only [Sem.run_bind, run_underlying hu]
    cases d <;> simp_all [aggDesc]
  unfold part
  simp [Sem.run_bind, ha, Result.andThen_ok, hz]
theorem run_eqS_cons {P : Program} {d k : Nat} {t : TypeId} {f : Field} {fs : List Field} (hf : f.type = t) (hu : P.underlying t = some .string) (hn : f.name ≠ "_") {xs ys : List Value} {p q : ByteArray} (ho : f.offset = k) (hp : xs[k]? = some (.string p)) (hq : ys[k]? = some (.string q)) (w : World) :
    (Op.eqFields (d + 1) xs.toArray ys.toArray (f :: fs)).run P w = if p.toList == q.toList then (Op.eqFields (d + 1) xs.toArray ys.toArray fs).run P w else .ok false w := by
  rw [Op.eqFields, if_pos hn]
  simp only [Sem.run_bind, hf, ho, run_part_one hu rfl hp, run_part_one hu rfl hq, Result.andThen_ok, run_equalIn_string w d t p q hu]
  cases p.toList == q.toList <;> simp
theorem run_eq64_cons {P : Program} {d k : Nat} {t : TypeId} {f : Field} {fs : List Field} (hf : f.type = t) (hu : P.underlying t = some (.int .u64)) (hn : f.name ≠ "_") {xs ys : List Value} {p q : UInt64} (ho : f.offset = k) (hp : xs[k]? = some (W64 p)) (hq : ys[k]? = some (W64 q)) (w : World) :
    (Op.eqFields (d + 1) xs.toArray ys.toArray (f :: fs)).run P w = if p == q then (Op.eqFields (d + 1) xs.toArray ys.toArray fs).run P w else .ok false w := by
  rw [Op.eqFields, if_pos hn]
  simp only [Sem.run_bind, hf, ho, run_part_one hu rfl hp, run_part_one hu rfl hq, Result.andThen_ok, heq_w64 t _ hu d p q w]
  cases p == q <;> simp
/-- Are two nodes the same. -/
def eqNod (x y : Nod) : Bool := x.nm.toList == y.nm.toList && (x.id == y.id && (x.priv.val == y.priv.val && x.pub.val == y.pub.val))
@[go_sem] theorem eqNod_self (x : Nod) : eqNod x x = true := by simp [eqNod]
theorem NC_priv32 (x : Nod) : ((NC x).drop 2).take 32 = x.priv.val.map W8 := by
  have h1 : (x.priv.val.map W8).length = 32 := by rw [List.length_map, x.priv.2]
  rw [NC, List.drop_succ_cons, List.drop_succ_cons, List.drop_zero, List.take_left' h1]
theorem NC_pub32 (x : Nod) : ((NC x).drop 34).take 32 = x.pub.val.map W8 := by
  have h1 : (x.priv.val.map W8).length = 32 := by rw [List.length_map, x.priv.2]
  rw [NC, show (34 : Nat) = 32 + 1 + 1 from rfl, List.drop_succ_cons, List.drop_succ_cons, List.drop_left' h1, List.take_of_length_le (by rw [List.length_map, x.pub.2]; omega)]
set_option maxRecDepth 100000 in
theorem run_eqF_nod (x y : Nod) (w : World) {fs : Array Field} (hu : Tryz.prog.underlying 71 = some (.struct fs)) : (Op.eqFields 9999 (NC x).toArray (NC y).toArray fs.toList).run Tryz.prog w = .ok (eqNod x y) w := by
  rw [Tryz.underlying71] at hu
  cases hu
  rw [run_eqS_cons (d := 9998) (k := 0) rfl Tryz.underlying9 (by decide) rfl rfl rfl, run_eq64_cons (d := 9998) (k := 1) rfl Tryz.underlying25 (by decide) rfl rfl rfl,
    run_eq32_cons (d := 9997) (k := 2) rfl (by decide) rfl (NC_priv32 x) (NC_priv32 y) x.priv.2 y.priv.2, run_eq32_cons (d := 9997) (k := 34) rfl (by decide) rfl (NC_pub32 x) (NC_pub32 y) x.pub.2 y.pub.2, run_eq32_nil]
  rw [eqNod]
  cases x.nm.toList == y.nm.toList <;> cases x.id == y.id <;> cases x.priv.val == y.priv.val <;> cases x.pub.val == y.pub.val <;> rfl
theorem eqg_nod : Tryz.prog.eqGuardType Tryz.prog.depth 71 = false := by kernel_rfl
@[go_sem high] theorem eqGuard_nod (op : BinOp) (x y : Operand) (xs ys : Array Value) (w : World) : (eqGuard op 71 x y (.agg xs) (.agg ys)).run Tryz.prog w = .ok () w := run_eqGuard_agg w op _ x y xs ys eqg_nod
set_option maxRecDepth 100000 in
@[go_sem high] theorem run_eql_nod (x y : Nod) (w : World) : (binOp .eql 71 (.agg (NC x).toArray) (.agg (NC y).toArray)).run Tryz.prog w = .ok (.bool (eqNod x y)) w := by
  rw [run_eql_s Tryz.underlying71 (by kernel_rfl), run_eqF_nod x y w Tryz.underlying71]
  rfl
set_option maxRecDepth 100000 in
@[go_sem high] theorem run_neq_nod (x y : Nod) (w : World) : (binOp .neq 71 (.agg (NC x).toArray) (.agg (NC y).toArray)).run Tryz.prog w = .ok (.bool (!eqNod x y)) w := by
  rw [run_neq_s Tryz.underlying71 (by kernel_rfl), run_eqF_nod x y w Tryz.underlying71]
  rfl
section
variable {P : Program} {ops : Array Oper} {rest : List Oper} {o : Oper} {a : Act} {w : World} {Q : Exit → Act → World → Prop}
/-- '[]T{x}', x of several cells. -/
theorem build_oneC (hw : Region.wanted o (yielded ops a.tmps) = true) (t : TypeId) (x : Operand) (ho : o.op = .buildSlice t 1 #[(0, x)]) (e : TypeId) (sz : Nat) (z : Value) (vs : List Value) (ht : P.underlying t = some (.slice e)) (hz : (P.info? e).map (fun i => (i.zero, i.size)) = some (some z, sz)) (hs0 : 0 < sz) (hsm : sz ≤ 65536)
    (hbl : vs.length = sz) (hx : a.eval x = .agg vs.toArray)
    (h : wpList P ops Q rest (a.put o.dst (.slice (some ⟨w.heap.size, 0, none⟩) 1 1)) (w.alloc (.cells vs.toArray e))) : wpList P ops Q (o :: rest) a w :=
  BigFrame.wpList_want hw fun K hK => by
    have hr := run_buildK (v := .agg vs.toArray) ht hz hs0 hsm rfl hbl w
    unfold Oper.wp
    simp only [execOp, ho, List.map_toArray, List.map_cons, List.map_nil, hx, Sem.run_bind, hr, Result.andThen_ok, Sem.run_pure]
    exact hK _ _ h
end
theorem zeroN : (Tryz.prog.info? 71).bind (·.zero) = some (.agg (NC nod0).toArray) := by kernel_rfl
theorem infoN2 : (Tryz.prog.info? 71).map (fun i => (i.zero, i.size)) = some (some (.agg (NC nod0).toArray), 66) := by kernel_rfl
/-- api.Node{Name: s}, api.Node{Name: s, Id: i}, api.Node{}. -/
theorem built_nod1 (s : ByteArray) : Tryz.prog.built 71 [(0, .string s)] = some (NC ⟨s, 0, zero32, zero32⟩).toArray := by
  rw [built_struct (pl := [(0, 1), (1, 1), (2, 32), (34, 32)]) Tryz.underlying71 zeroN (by kernel_rfl), fill_cons (vs := [.string s]) (off := 0) rfl rfl (by rw [NC_length]; simp), fill_nil]
  exact congrArg (fun l => some (List.toArray l)) (NC_nm nod0 s).symm
theorem built_nod2 (s : ByteArray) (i : UInt64) : Tryz.prog.built 71 [(0, .string s), (1, W64 i)] = some (NC ⟨s, i, zero32, zero32⟩).toArray := by
  rw [built_struct (pl := [(0, 1), (1, 1), (2, 32), (34, 32)]) Tryz.underlying71 zeroN (by kernel_rfl), fill_cons (vs := [.string s]) (off := 0) rfl rfl (by rw [NC_length]; simp), ← NC_nm, fill_cons (vs := [W64 i]) (off := 1) rfl rfl (by rw [NC_length]; simp), fill_nil, ← NC_id]
  rfl
theorem built_nod0 : Tryz.prog.built 71 [] = some (NC nod0).toArray := by
  rw [built_struct (pl := [(0, 1), (1, 1), (2, 32), (34, 32)]) Tryz.underlying71 zeroN (by kernel_rfl), fill_nil]
end Go.Proofs.YtdojjnbpidogfaaGreat
namespace Go.Proofs.YtdojjnbpidogfaaGreat
open Go.RowKit
open Go.BigFrame

theorem any_eq {xs ys : List Nod} {p : Nod → Bool} (hl : xs.length = ys.length) (h : ∀ k, k < xs.length → p (xs.getD k nod0) = p (ys.getD k nod0)) : xs.any p = ys.any p := by
  by_cases he : ∃ k, k < xs.length ∧ p (xs.getD k nod0) = true
  · obtain ⟨k, hk, hp⟩ := he
    rw [any_true hk hp, any_true (xs := ys) (by omega) ((h k hk).symm.trans hp)]
  · have hf : ∀ k, k < xs.length → p (xs.getD k nod0) = false := fun k hk => by
      cases e : p (xs.getD k nod0)
      · rfl
      · exact absurd ⟨k, hk, e⟩ he
    rw [any_false hf, any_false (xs := ys) fun k hk => (h k (by omega)).symm.trans (hf k (by omega))]
theorem range_eq {n : Nat} {p q : Nat → Bool} (h : ∀ k, k < n → p k = q k) : (List.range n).any p = (List.range n).any q := by
  by_cases he : ∃ k, k < n ∧ p k = true
  · obtain ⟨k, hk, hp⟩ := he
    rw [range_true hk hp, range_true hk ((h k hk).symm.trans hp)]
  · have hf : ∀ k, k < n → p k = false := fun k hk => by
      cases e : p k
      · rfl
      · exact absurd ⟨k, hk, e⟩ he
    rw [range_false hf, range_false fun k hk => (h k hk).symm.trans (hf k hk)]
/-- The check sees names and numbers alone. -/
theorem checkN_eq {xs ys : List Nod} (hl : xs.length = ys.length) (h : ∀ k, k < xs.length → (xs.getD k nod0).nm = (ys.getD k nod0).nm ∧ (xs.getD k nod0).id = (ys.getD k nod0).id) : checkN xs = checkN ys := by
  have h1 : xs.any badN = ys.any badN := any_eq hl fun k hk => by rw [badN, badN, (h k hk).1, (h k hk).2]
  have h2 : (List.range xs.length).any (dupAt xs) = (List.range ys.length).any (dupAt ys) := by
    rw [← hl]
    refine range_eq fun i hi => ?_
    rw [dupAt, dupAt]
    refine range_eq fun j hj => ?_
    rw [sameN, sameN, (h i hi).1, (h i hi).2, (h j (by omega)).1, (h j (by omega)).2]
  rw [checkN, checkN, hl, h1, ← hl, h2, ← hl]
end Go.Proofs.YtdojjnbpidogfaaGreat
namespace Go.Proofs.YtdojjnbpidogfaaGreat
open Go.RowKit
open Go.BigFrame

/-! ### Rows with room behind -/
theorem spliced_app (l rest : List Value) (off : Nat) (vs : List Value) (h : off + vs.length ≤ l.length) : spliced (l ++ rest) off vs = spliced l off vs ++ rest := by
  simp only [spliced]
  rw [List.take_append_of_le_length (by omega), List.drop_append_of_le_length h]
  simp only [List.append_assoc]
theorem own_blkF {w : World} {base sz n c : Nat} {e : TypeId} {A : Option Addr} {vs : List Value} (h : w.ownsRow base e sz (.slice A n c) n vs) (hn : 0 < n) : ∃ g rest, A = some ⟨g, 0, none⟩ ∧ base ≤ g ∧ Blk w g e (vs ++ rest) := by
  rcases h.2 with ⟨hv, h0⟩ | ⟨g, cap, cur, hv, hb, hh, hnc, hm, hs, ht⟩
  · omega
  · cases hv
    refine ⟨g, cur.toList.drop (n * sz), rfl, hb, ?_⟩
    rw [show vs = cur.toList.take (n * sz) by simpa using ht.symm, List.take_append_drop]
    exact hh
theorem blk_rdF_app {α : Type} {F : α → List Value} {sz : Nat} {d : α} {w : World} {n : Nat} {xs : List α} {rest : List Value} (hF : ∀ x, (F x).length = sz) {g : Nat} {t : TypeId} (h : Blk w g t (xs.flatMap F ++ rest)) (hn : xs.length = n) : RdF F sz d w (some ⟨g, 0, none⟩) n xs := by
  refine ⟨hn, fun _ => ⟨g, 0, rfl, h.lt, fun j i v hj hv => ?_⟩⟩
  rw [Nat.zero_add]
  have e := flatF_get hF d xs j (by omega) hv
  refine h.cellD _ ?_
  rw [List.getElem?_append_left (List.getElem?_eq_some_iff.1 e).1]
  exact e
theorem size66 : (Tryz.prog.info? 71).map (·.size) = some 66 := by kernel_rfl
section
variable {ops : Array Oper} {rest : List Oper} {o : Oper} {a : Act} {w : World} {Q : Exit → Act → World → Prop}
/-- A whole node is loaded. -/
theorem load_nod (hgd : Region.wanted o (yielded ops a.tmps) = true) (x : Operand) (ho : o.op = .load 71 x) {g off : Nat} {y : Nod} (hc : ∀ i v, (NC y)[i]? = some v → w.cell? ⟨g, off + i, none⟩ = some v) (hx : a.eval x = .pointer (some ⟨g, off, none⟩))
    (h : wpList Tryz.prog ops Q rest (a.put o.dst (.agg (NC y).toArray)) w) : wpList Tryz.prog ops Q (o :: rest) a w :=
  wpList_load_at hgd _ x ho g off _ hc hx _ Tryz.underlying71 rfl (by rw [NC_length]; exact size66) h
theorem quiet_nod {J : Act → Prop} (x : Operand) (ho : o.op = .load 71 x) {w0 : World} {g off : Nat} {y : Nod} (hc : ∀ i v, (NC y)[i]? = some v → w0.cell? ⟨g, off + i, none⟩ = some v) (hg : g < w0.heap.size) (hx : a.eval x = .pointer (some ⟨g, off, none⟩)) (h : J (a.put o.dst (.agg (NC y).toArray))) :
    o.quiet Tryz.prog a (fun w' => ∃ x, w' = grow w0 x) J :=
  quiet_load_agg _ x ho g off (NC y) (fun w' hw j v hv => by obtain ⟨y, rfl⟩ := hw; exact ((Later.below ⟨y, rfl⟩).cell (p := ⟨g, off + j, none⟩) hg).trans (hc j v hv)) hx _ Tryz.underlying71 rfl (by rw [NC_length]; exact size66) h
end
theorem blk_oneN (w : World) (t : TypeId) (x : Nod) : Blk (w.alloc (.cells (NC x).toArray t)) w.heap.size t ([x].flatMap NC) := by
  rw [List.flatMap_cons, List.flatMap_nil, List.append_nil]
  exact Blk.new w t _
end Go.Proofs.YtdojjnbpidogfaaGreat
namespace Go.Proofs.YtdojjnbpidogfaaGreat
open Go.RowKit
open Go.BigFrame

theorem zeroD : (Tryz.prog.info? 76).bind (·.zero) = some (.agg (NC nod0).toArray) := by kernel_rfl
theorem size66d : (Tryz.prog.info? 76).map (·.size) = some 66 := by kernel_rfl
theorem spliced_NC (l : List Value) (x : Nod) (h : l.length = 66) : spliced l 0 (NC x) = NC x := spliced_all _ _ (by rw [NC_length, h])
theorem built_dnode (x : Nod) : Tryz.prog.built 76 [(0, .agg (NC x).toArray)] = some (NC x).toArray := by
  rw [built_struct (pl := [(0, 66)]) Tryz.underlying76 zeroD (by kernel_rfl), fill_cons (vs := NC x) (off := 0) rfl (by rw [NC_length]; rfl) (by rw [NC_length, NC_length]; omega), fill_nil, spliced_NC _ _ (NC_length _)]
theorem built_dnode0 : Tryz.prog.built 76 [] = some (NC nod0).toArray := by
  rw [built_struct (pl := [(0, 66)]) Tryz.underlying76 zeroD (by kernel_rfl), fill_nil]
section
variable {ops : Array Oper} {rest : List Oper} {o : Oper} {a : Act} {w : World} {Q : Exit → Act → World → Prop}
/-- A whole node is stored. -/
theorem store_nod {ty : TypeId} (hi : (Tryz.prog.info? ty).map (·.size) = some 66) (hgd : o.guard = none) (hd : o.dst = none) (x y : Operand) (ho : o.op = .store ty x y) {g : Nat} {t : TypeId} {l : List Value} {z : Nod} (hg : Blk w g t l) (hx : a.eval x = .pointer (some ⟨g, 0, none⟩)) (hy : a.eval y = .agg (NC z).toArray) (hl : l.length = 66)
    (h : ∀ w', Blk w' g t (NC z) → Only g w w' → wpList Tryz.prog ops Q rest a w') : wpList Tryz.prog ops Q (o :: rest) a w :=
  wpList_store_blk hgd hd _ x y ho g t l _ hg hx hy 66 hi (NC_length _) hl (NC_one _) h
theorem load_dnode (hgd : Region.wanted o (yielded ops a.tmps) = true) (x : Operand) (ho : o.op = .load 76 x) {g off : Nat} {y : Nod} (hc : ∀ i v, (NC y)[i]? = some v → w.cell? ⟨g, off + i, none⟩ = some v) (hx : a.eval x = .pointer (some ⟨g, off, none⟩))
    (h : wpList Tryz.prog ops Q rest (a.put o.dst (.agg (NC y).toArray)) w) : wpList Tryz.prog ops Q (o :: rest) a w :=
  wpList_load_at hgd _ x ho g off _ hc hx _ Tryz.underlying76 rfl (by rw [NC_length]; exact size66d) h
theorem quiet_dnode {J : Act → Prop} (x : Operand) (ho : o.op = .load 76 x) {w0 : World} {g off : Nat} {y : Nod} (hc : ∀ i v, (NC y)[i]? = some v → w0.cell? ⟨g, off + i, none⟩ = some v) (hg : g < w0.heap.size) (hx : a.eval x = .pointer (some ⟨g, off, none⟩)) (h : J (a.put o.dst (.agg (NC y).toArray))) :
    o.quiet Tryz.prog a (fun w' => ∃ x, w' = grow w0 x) J :=
  quiet_load_agg _ x ho g off (NC y) (fun w' hw j v hv => by obtain ⟨y, rfl⟩ := hw; exact ((Later.below ⟨y, rfl⟩).cell (p := ⟨g, off + j, none⟩) hg).trans (hc j v hv)) hx _ Tryz.underlying76 rfl (by rw [NC_length]; exact size66d) h
end
theorem blk_cells {w : World} {g : Nat} {t : TypeId} {y : Nod} (h : Blk w g t (NC y)) : ∀ i v, (NC y)[i]? = some v → w.cell? ⟨g, 0 + i, none⟩ = some v := fun i v hv => by
  rw [Nat.zero_add]
  exact h.cellD i hv
set_option maxRecDepth 100000 in
theorem nodePublic_any (x : Nod) (w : World) :
    Calls Tryz.prog 24 #[.agg (NC x).toArray] w fun e w' => ∃ g, e = .returned (.slice (some ⟨g, 0, none⟩) 32 32) ∧ w.heap.size ≤ g ∧ Blk w' g 5 (x.pub.val.map W8) ∧ Later w w' := by
  have hb0 : Blk (w.alloc (.cells (NC x).toArray 76)) w.heap.size 76 (NC x) := Blk.new _ _ _
  have hc : ∀ j v, (x.pub.val.map W8)[j]? = some v → (w.alloc (.cells (NC x).toArray 76)).cell? ⟨w.heap.size, 34 + j, none⟩ = some v := fun j v hv => hb0.cellD _ (NC_pub x hv)
  go_enter Tryz.func24, Tryz.ntmps24
  go_wp2_with (first
    | (refine load_32 rfl _ rfl hc x.pub.2 rfl ?_)
    | fail)
  (with_reducible refine (copyKey_any x.pub.val x.pub.2 _).mono ?_); rintro e w2 ⟨g2, rfl, hg2, hb2, l2⟩
  go_wp2
  go_ret
  exact ⟨g2, rfl, by simp at hg2; omega, hb2, (later_alloc _ _).trans l2⟩
set_option maxRecDepth 100000 in
theorem nodePrivate_any (x : Nod) (w : World) :
    Calls Tryz.prog 47 #[.agg (NC x).toArray] w fun e w' => ∃ g, e = .returned (.slice (some ⟨g, 0, none⟩) 32 32) ∧ w.heap.size ≤ g ∧ Blk w' g 5 (x.priv.val.map W8) ∧ Later w w' := by
  have hb0 : Blk (w.alloc (.cells (NC x).toArray 76)) w.heap.size 76 (NC x) := Blk.new _ _ _
  have hc : ∀ j v, (x.priv.val.map W8)[j]? = some v → (w.alloc (.cells (NC x).toArray 76)).cell? ⟨w.heap.size, 2 + j, none⟩ = some v := fun j v hv => hb0.cellD _ (NC_priv x hv)
  go_enter Tryz.func47, Tryz.ntmps47
  go_wp2_with (first
    | (refine load_32 rfl _ rfl hc x.priv.2 rfl ?_)
    | fail)
  (with_reducible refine (copyKey_any x.priv.val x.priv.2 _).mono ?_); rintro e w2 ⟨g2, rfl, hg2, hb2, l2⟩
  go_wp2
  go_ret
  exact ⟨g2, rfl, by simp at hg2; omega, hb2, (later_alloc _ _).trans l2⟩
/-- The first node of this kind. -/
def findBy (p : Nod → Bool) (xs : List Nod) : Nod × Nat := match xs.find? p with | some x => (x, 0) | none => (nod0, 4)
theorem find_hit {xs : List Nod} {p : Nod → Bool} {k : Nat} (hk : k < xs.length) (hp : ∀ j, j < k → p (xs.getD j nod0) = false) (h : p (xs.getD k nod0) = true) : findBy p xs = (xs.getD k nod0, 0) := by
  have : xs.find? p = some (xs.getD k nod0) := by
    rw [List.find?_eq_some_iff_getElem]
    refine ⟨h, k, hk, by rw [List.getD_eq_getElem?_getD, List.getElem?_eq_getElem hk]; rfl, fun j hj => ?_⟩
    have := hp j hj
    rw [List.getD_eq_getElem?_getD, List.getElem?_eq_getElem (by omega)] at this
    simpa using this
  rw [findBy, this]
theorem find_not {xs : List Nod} {p : Nod → Bool} (hp : ∀ j, j < xs.length → p (xs.getD j nod0) = false) : findBy p xs = (nod0, 4) := by
  have : xs.find? p = none := by
    rw [List.find?_eq_none]
    intro x hx
    obtain ⟨k, hk, rfl⟩ := List.getElem_of_mem hx
    have := hp k hk
    rw [List.getD_eq_getElem?_getD, List.getElem?_eq_getElem hk] at this
    simpa using this
  rw [findBy, this]
def byName (s : ByteArray) (x : Nod) : Bool := x.nm.toList == s.toList
def byId (i : UInt64) (x : Nod) : Bool := x.id == i
/-- The same, in a checked directory. -/
def findN (p : Nod → Bool) (xs : List Nod) : Nod × Nat := if checkN xs = 0 then findBy p xs else (nod0, checkN xs)
end Go.Proofs.YtdojjnbpidogfaaGreat

