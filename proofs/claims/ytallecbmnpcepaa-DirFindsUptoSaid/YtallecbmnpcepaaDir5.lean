/-
  dir: nodes that are made.
-/
import Derived.Test.YtallecbmnpcepaaMacB
import Derived.Test.YtallecbmnpcepaaDir4
namespace Go.Proofs.Ytallecbmnpcepaa
open Go.RowKit
open Go.BigFrame

/-! ### Cells of a node that are turned -/
theorem NC_nm (x : Nod) (s : ByteArray) : NC { x with nm := s } = spliced (NC x) 0 [.string s] := by simp [NC, spliced]
theorem NC_id (x : Nod) (i : UInt64) : NC { x with id := i } = spliced (NC x) 1 [W64 i] := by simp [NC, spliced]
theorem NC_putPriv (x : Nod) (K : Y32) : NC { x with priv := K } = spliced (NC x) 2 (K.val.map W8) := by
  have h1 : (x.priv.val.map W8).length = 32 := by rw [List.length_map, x.priv.2]
  have h2 : (K.val.map W8).length = 32 := by rw [List.length_map, K.2]
  simp only [NC, spliced, h2]
  rw [show (2 + 32 : Nat) = 32 + 1 + 1 from rfl, List.drop_succ_cons, List.drop_succ_cons, List.drop_left' h1]
  rfl
theorem NC_putPub (x : Nod) (K : Y32) : NC { x with pub := K } = spliced (NC x) 34 (K.val.map W8) := by
  have h1 : (x.priv.val.map W8).length = 32 := by rw [List.length_map, x.priv.2]
  have h2 : (K.val.map W8).length = 32 := by rw [List.length_map, K.2]
  have h3 : (NC x).length = 66 := NC_length x
  rw [spliced, h2, List.drop_eq_nil_of_le (by omega), List.append_nil]
  simp only [NC]
  rw [show (34 : Nat) = 32 + 1 + 1 from rfl, List.take_succ_cons, List.take_succ_cons, List.take_left' h1]
  rfl
theorem nods_nm {xs : List Nod} {k : Nat} (hk : k < xs.length) (s : ByteArray) : (xs.flatMap NC).set (k * 66) (.string s) = (xs.set k { xs.getD k nod0 with nm := s }).flatMap NC := by
  have hl := flatF_length NC_length xs
  rw [← spliced_one _ _ _ (by rw [hl]; omega)]
  exact flatF_set NC_length nod0 (off := 0) xs k hk (by simp) (NC_nm _ s)
theorem nods_id {xs : List Nod} {k : Nat} (hk : k < xs.length) (i : UInt64) : (xs.flatMap NC).set (k * 66 + 1) (W64 i) = (xs.set k { xs.getD k nod0 with id := i }).flatMap NC := by
  have hl := flatF_length NC_length xs
  rw [← spliced_one _ _ _ (by rw [hl]; omega)]
  exact flatF_set NC_length nod0 (off := 1) xs k hk (by simp) (NC_id _ i)
theorem nods_priv {xs : List Nod} {k : Nat} (hk : k < xs.length) (K : Y32) : spliced (xs.flatMap NC) (k * 66 + 2) (K.val.map W8) = (xs.set k { xs.getD k nod0 with priv := K }).flatMap NC :=
  flatF_set NC_length nod0 (off := 2) xs k hk (by rw [List.length_map, K.2]; omega) (NC_putPriv _ K)
theorem nods_pub {xs : List Nod} {k : Nat} (hk : k < xs.length) (K : Y32) : spliced (xs.flatMap NC) (k * 66 + 34) (K.val.map W8) = (xs.set k { xs.getD k nod0 with pub := K }).flatMap NC :=
  flatF_set NC_length nod0 (off := 34) xs k hk (by rw [List.length_map, K.2]; omega) (NC_putPub _ K)
/-! ### Lists by place -/
def tabN (n : Nat) (f : Nat → Nod) : List Nod := (List.range n).map f
theorem tabN_length (n : Nat) (f : Nat → Nod) : (tabN n f).length = n := by rw [tabN, List.length_map, List.length_range]
theorem tabN_get {n k : Nat} (f : Nat → Nod) (h : k < n) : (tabN n f)[k]? = some (f k) := by rw [tabN, List.getElem?_map, List.getElem?_range h]; rfl
theorem tabN_getD {n k : Nat} (f : Nat → Nod) (h : k < n) : (tabN n f).getD k nod0 = f k := by rw [List.getD_eq_getElem?_getD, tabN_get f h]; rfl
theorem tabN_ext {xs : List Nod} {n : Nat} {f : Nat → Nod} (hl : xs.length = n) (h : ∀ j, j < n → xs[j]? = some (f j)) : xs = tabN n f := by
  apply List.ext_getElem?
  intro j
  rcases Nat.lt_or_ge j n with hj | hj
  · rw [h j hj, tabN_get f hj]
  · rw [List.getElem?_eq_none (by omega), List.getElem?_eq_none (by rw [tabN_length]; exact hj)]
theorem tabN_set {n k : Nat} {f g : Nat → Nod} (hg : ∀ j, j ≠ k → g j = f j) (y : Nod) (hy : k < n → y = g k) : (tabN n f).set k y = tabN n g := by
  refine tabN_ext (by rw [List.length_set, tabN_length]) fun j hj => ?_
  rw [List.getElem?_set]
  by_cases h : k = j
  · subst h
    rw [if_pos rfl, if_pos (by rw [tabN_length]; exact hj), hy hj]
  · rw [if_neg h, tabN_get f hj, hg j (fun e => h e.symm)]
/-! ### The nodes -/
def nodeOf (i : Nat) (s : ByteArray) : Nod := ⟨s, UInt64.ofNat (i + 1), zero32, zero32⟩
/-- Behind 'k' rounds of the first loop. -/
def madeAt (ss : List ByteArray) (k : Nat) : List Nod := tabN ss.length fun j => if j < k then nodeOf j (ss.getD j .empty) else nod0
def nodsOf (ss : List ByteArray) : List Nod := tabN ss.length fun j => nodeOf j (ss.getD j .empty)
theorem madeAt_zero (ss : List ByteArray) : madeAt ss 0 = List.replicate ss.length nod0 := by
  rw [madeAt]
  refine (tabN_ext (by rw [List.length_replicate]) fun j hj => ?_).symm
  rw [List.getElem?_replicate, if_pos hj, if_neg (by omega)]
theorem madeAt_all (ss : List ByteArray) : madeAt ss ss.length = nodsOf ss := by
  rw [madeAt, nodsOf]
  refine tabN_ext (tabN_length _ _) fun j hj => ?_
  rw [tabN_get _ hj, if_pos hj]
theorem made_step (ss : List ByteArray) (k : Nat) (hk : k < ss.length) : (((madeAt ss k).flatMap NC).set (k * 66) (.string (ss.getD k .empty))).set (k * 66 + 1) (W64 (UInt64.ofNat (k + 1))) = (madeAt ss (k + 1)).flatMap NC := by
  have hl : (madeAt ss k).length = ss.length := tabN_length _ _
  rw [nods_nm (by omega), nods_id (by rw [List.length_set]; omega), List.set_set]
  congr 1
  rw [madeAt, madeAt]
  refine tabN_set (fun j hj => ?_) _ (fun _ => ?_)
  · by_cases h : j < k
    · rw [if_pos (by omega), if_pos h]
    · rw [if_neg (by omega), if_neg h]
  · rw [if_pos (by omega), List.getD_eq_getElem?_getD, List.getElem?_set_self (by rw [tabN_length]; exact hk), Option.getD_some, tabN_getD _ hk, if_neg (by omega)]
    rfl
def nodeB : List UInt8 := [110, 111, 100, 101]
def keyK (seed : List UInt8) (s : ByteArray) : List UInt8 := expB (macTag nodeB seed) (strB s) 32
theorem keyK_length (seed : List UInt8) (s : ByteArray) : (keyK seed s).length = 32 := expB_length _ _ _
def keyY (seed : List UInt8) (s : ByteArray) : Y32 := ⟨keyK seed s, keyK_length seed s⟩
def pubY (K : List UInt8) : Y32 := ⟨pubK K, pubK_length K⟩
def keyed (seed : List UInt8) (i : Nat) (s : ByteArray) : Nod := ⟨s, UInt64.ofNat (i + 1), keyY seed s, pubY (keyK seed s)⟩
/-- Behind 'k' rounds of the second loop. -/
def keyAt (seed : List UInt8) (ss : List ByteArray) (k : Nat) : List Nod := tabN ss.length fun j => if j < k then keyed seed j (ss.getD j .empty) else nodeOf j (ss.getD j .empty)
/-- The nodes that are made. -/
def makeL (seed : List UInt8) (ss : List ByteArray) : List Nod := tabN ss.length fun j => keyed seed j (ss.getD j .empty)
theorem keyAt_zero (seed : List UInt8) (ss : List ByteArray) : keyAt seed ss 0 = nodsOf ss := by
  rw [keyAt, nodsOf]
  refine tabN_ext (tabN_length _ _) fun j hj => ?_
  rw [tabN_get _ hj, if_neg (by omega)]
theorem keyAt_all (seed : List UInt8) (ss : List ByteArray) : keyAt seed ss ss.length = makeL seed ss := by
  rw [keyAt, makeL]
  refine tabN_ext (tabN_length _ _) fun j hj => ?_
  rw [tabN_get _ hj, if_pos hj]
theorem keyAt_length (seed : List UInt8) (ss : List ByteArray) (k : Nat) : (keyAt seed ss k).length = ss.length := tabN_length _ _
theorem keyAt_name (seed : List UInt8) (ss : List ByteArray) (k j : Nat) (h : j < ss.length) : ((keyAt seed ss k).getD j nod0).nm = ss.getD j .empty := by
  rw [keyAt, tabN_getD _ h]
  split <;> rfl
theorem key_step (seed : List UInt8) (ss : List ByteArray) (k : Nat) (hk : k < ss.length) : spliced (spliced ((keyAt seed ss k).flatMap NC) (k * 66 + 2) ((keyK seed (ss.getD k .empty)).map W8)) (k * 66 + 34) ((pubK (keyK seed (ss.getD k .empty))).map W8) = (keyAt seed ss (k + 1)).flatMap NC := by
  have hl := keyAt_length seed ss k
  have h1 := nods_priv (xs := keyAt seed ss k) (k := k) (by omega) (keyY seed (ss.getD k .empty))
  have h2 := nods_pub (xs := (keyAt seed ss k).set k { (keyAt seed ss k).getD k nod0 with priv := keyY seed (ss.getD k .empty) }) (k := k) (by rw [List.length_set]; omega) (pubY (keyK seed (ss.getD k .empty)))
  have e1 : (keyY seed (ss.getD k .empty)).val = keyK seed (ss.getD k .empty) := rfl
  have e2 : (pubY (keyK seed (ss.getD k .empty))).val = pubK (keyK seed (ss.getD k .empty)) := rfl
  rw [e1] at h1
  rw [e2] at h2
  rw [h1, h2, List.set_set]
  congr 1
  rw [keyAt, keyAt]
  refine tabN_set (fun j hj => ?_) _ (fun _ => ?_)
  · by_cases h : j < k
    · rw [if_pos (by omega), if_pos h]
    · rw [if_neg (by omega), if_neg h]
  · rw [if_pos (by omega), List.getD_eq_getElem?_getD, List.getElem?_set_self (by rw [tabN_length]; exact hk), Option.getD_some, tabN_getD _ hk, if_neg (by omega)]
    rfl
end Go.Proofs.Ytallecbmnpcepaa
