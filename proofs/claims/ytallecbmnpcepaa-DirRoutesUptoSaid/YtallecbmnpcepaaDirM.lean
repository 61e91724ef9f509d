/-
  dir: nodes that are made.
  dir.Make.
-/
import Derived.Test.YtallecbmnpcepaaMacB
import Derived.Test.YtallecbmnpcepaaDirQ
namespace Go.Proofs.Ytallecbmnpcepaa
open Go.RowKit
open Go.BigFrame

/-! ### Cells of a node that are turned -/
theorem NC_nm (x : Nod) (s : ByteArray) : NC { x with nm := s } = spliced (NC x) 0 [.string s] := by simp [NC, spliced]
theorem NC_id (x : Nod) (i : UInt64) : NC { x with id := i } = spliced (NC x) 1 [W64 i] := by simp [NC, spliced]
theorem NC_putPriv (x : Nod) (K : Y32) : NC { x with priv := K } = spliced (NC x) 2 (K.val.map W8) := by
  have h1 : (x.priv.val.map W8).length = 32 := by rw [List.length_map, x.priv.2]
  have h2 : (K.val.map W8).length = 32 := by rw [List.length_map, K.2]
  simp only [NC, spliced, h2]
  rw [show (2 + 32 : Nat) = 32 + 1 + 1 from rfl, List.drop_succ_cons, List.drop_succ_cons, List.drop_left' h1]
  rfl
theorem NC_putPub (x : Nod) (K : Y32) : NC { x with pub := K } = spliced (NC x) 34 (K.val.map W8) := by
  have h1 : (x.priv.val.map W8).length = 32 := by rw [List.length_map, x.priv.2]
  have h2 : (K.val.map W8).length = 32 := by rw [List.length_map, K.2]
  have h3 : (NC x).length = 66 := NC_length x
  rw [spliced, h2, List.drop_eq_nil_of_le (by omega), List.append_nil]
  simp only [NC]
  rw [show (34 : Nat) = 32 + 1 + 1 from rfl, List.take_succ_cons, List.take_succ_cons, List.take_left' h1]
  rfl
theorem nods_nm {xs : List Nod} {k : Nat} (hk : k < xs.length) (s : ByteArray) : (xs.flatMap NC).set (k * 66) (.string s) = (xs.set k { xs.getD k nod0 with nm := s }).flatMap NC := by
  have hl := flatF_length NC_length xs
  rw [← spliced_one _ _ _ (by rw [hl]; omega)]
  exact flatF_set NC_length nod0 (off := 0) xs k hk (by simp) (NC_nm _ s)
theorem nods_id {xs : List Nod} {k : Nat} (hk : k < xs.length) (i : UInt64) : (xs.flatMap NC).set (k * 66 + 1) (W64 i) = (xs.set k { xs.getD k nod0 with id := i }).flatMap NC := by
  have hl := flatF_length NC_length xs
  rw [← spliced_one _ _ _ (by rw [hl]; omega)]
  exact flatF_set NC_length nod0 (off := 1) xs k hk (by simp) (NC_id _ i)
theorem nods_priv {xs : List Nod} {k : Nat} (hk : k < xs.length) (K : Y32) : spliced (xs.flatMap NC) (k * 66 + 2) (K.val.map W8) = (xs.set k { xs.getD k nod0 with priv := K }).flatMap NC :=
  flatF_set NC_length nod0 (off := 2) xs k hk (by rw [List.length_map, K.2]; omega) (NC_putPriv _ K)
theorem nods_pub {xs : List Nod} {k : Nat} (hk : k < xs.length) (K : Y32) : spliced (xs.flatMap NC) (k * 66 + 34) (K.val.map W8) = (xs.set k { xs.getD k nod0 with pub := K }).flatMap NC :=
  flatF_set NC_length nod0 (off := 34) xs k hk (by rw [List.length_map, K.2]; omega) (NC_putPub _ K)
/-! ### Lists by place -/
def tabN (n : Nat) (f : Nat → Nod) : List Nod := (List.range n).map f
theorem tabN_length (n : Nat) (f : Nat → Nod) : (tabN n f).length = n := by rw [tabN, List.length_map, List.length_range]
theorem tabN_get {n k : Nat} (f : Nat → Nod) (h : k < n) : (tabN n f)[k]? = some (f k) := by rw [tabN, List.getElem?_map, List.getElem?_range h]; rfl
theorem tabN_getD {n k : Nat} (f : Nat → Nod) (h : k < n) : (tabN n f).getD k nod0 = f k := by rw [List.getD_eq_getElem?_getD, tabN_get f h]; rfl
theorem tabN_ext {xs : List Nod} {n : Nat} {f : Nat → Nod} (hl : xs.length = n) (h : ∀ j, j < n → xs[j]? = some (f j)) : xs = tabN n f := by
  apply List.ext_getElem?
  intro j
  rcases Nat.lt_or_ge j n with hj | hj
  · rw [h j hj, tabN_get f hj]
  · rw [List.getElem?_eq_none (by omega), List.getElem?_eq_none (by rw [tabN_length]; exact hj)]
theorem tabN_set {n k : Nat} {f g : Nat → Nod} (hg : ∀ j, j ≠ k → g j = f j) (y : Nod) (hy : k < n → y = g k) : (tabN n f).set k y = tabN n g := by
  refine tabN_ext (by rw [List.length_set, tabN_length]) fun j hj => ?_
  rw [List.getElem?_set]
  by_cases h : k = j
  · subst h
    rw [if_pos rfl, if_pos (by rw [tabN_length]; exact hj), hy hj]
  · rw [if_neg h, tabN_get f hj, hg j (fun e => h e.symm)]
/-! ### The nodes -/
def nodeOf (i : Nat) (s : ByteArray) : Nod := ⟨s, UInt64.ofNat (i + 1), zero32, zero32⟩
/-- Behind 'k' rounds of the first loop. -/
def madeAt (ss : List ByteArray) (k : Nat) : List Nod := tabN ss.length fun j => if j < k then nodeOf j (ss.getD j .empty) else nod0
def nodsOf (ss : List ByteArray) : List Nod := tabN ss.length fun j => nodeOf j (ss.getD j .empty)
theorem madeAt_zero (ss : List ByteArray) : madeAt ss 0 = List.replicate ss.length nod0 := by
  rw [madeAt]
  refine (tabN_ext (by rw [List.length_replicate]) fun j hj => ?_).symm
  rw [List.getElem?_replicate, if_pos hj, if_neg (by omega)]
theorem madeAt_all (ss : List ByteArray) : madeAt ss ss.length = nodsOf ss := by
  rw [madeAt, nodsOf]
  refine tabN_ext (tabN_length _ _) fun j hj => ?_
  rw [tabN_get _ hj, if_pos hj]
theorem made_step (ss : List ByteArray) (k : Nat) (hk : k < ss.length) : (((madeAt ss k).flatMap NC).set (k * 66) (.string (ss.getD k .empty))).set (k * 66 + 1) (W64 (UInt64.ofNat (k + 1))) = (madeAt ss (k + 1)).flatMap NC := by
  have hl : (madeAt ss k).length = ss.length := tabN_length _ _
  rw [nods_nm (by omega), nods_id (by rw [List.length_set]; omega), List.set_set]
  congr 1
  rw [madeAt, madeAt]
  refine tabN_set (fun j hj => ?_) _ (fun _ => ?_)
  · by_cases h : j < k
    · rw [if_pos (by omega), if_pos h]
    · rw [if_neg (by omega), if_neg h]
  · rw [if_pos (by omega), List.getD_eq_getElem?_getD, List.getElem?_set_self (by rw [tabN_length]; exact hk), Option.getD_some, tabN_getD _ hk, if_neg (by omega)]
    rfl
def nodeB : List UInt8 := [110, 111, 100, 101]
def keyK (seed : List UInt8) (s : ByteArray) : List UInt8 := expB (macTag nodeB seed) (strB s) 32
theorem keyK_length (seed : List UInt8) (s : ByteArray) : (keyK seed s).length = 32 := expB_length _ _ _
def keyY (seed : List UInt8) (s : ByteArray) : Y32 := ⟨keyK seed s, keyK_length seed s⟩
def pubY (K : List UInt8) : Y32 := ⟨pubK K, pubK_length K⟩
def keyed (seed : List UInt8) (i : Nat) (s : ByteArray) : Nod := ⟨s, UInt64.ofNat (i + 1), keyY seed s, pubY (keyK seed s)⟩
/-- Behind 'k' rounds of the second loop. -/
def keyAt (seed : List UInt8) (ss : List ByteArray) (k : Nat) : List Nod := tabN ss.length fun j => if j < k then keyed seed j (ss.getD j .empty) else nodeOf j (ss.getD j .empty)
/-- The nodes that are made. -/
def makeL (seed : List UInt8) (ss : List ByteArray) : List Nod := tabN ss.length fun j => keyed seed j (ss.getD j .empty)
theorem keyAt_zero (seed : List UInt8) (ss : List ByteArray) : keyAt seed ss 0 = nodsOf ss := by
  rw [keyAt, nodsOf]
  refine tabN_ext (tabN_length _ _) fun j hj => ?_
  rw [tabN_get _ hj, if_neg (by omega)]
theorem keyAt_all (seed : List UInt8) (ss : List ByteArray) : keyAt seed ss ss.length = makeL seed ss := by
  rw [keyAt, makeL]
  refine tabN_ext (tabN_length _ _) fun j hj => ?_
  rw [tabN_get _ hj, if_pos hj]
theorem keyAt_length (seed : List UInt8) (ss : List ByteArray) (k : Nat) : (keyAt seed ss k).length = ss.length := tabN_length _ _
theorem keyAt_name (seed : List UInt8) (ss : List ByteArray) (k j : Nat) (h : j < ss.length) : ((keyAt seed ss k).getD j nod0).nm = ss.getD j .empty := by
  rw [keyAt, tabN_getD _ h]
  split <;> rfl
theorem key_step (seed : List UInt8) (ss : List ByteArray) (k : Nat) (hk : k < ss.length) : spliced (spliced ((keyAt seed ss k).flatMap NC) (k * 66 + 2) ((keyK seed (ss.getD k .empty)).map W8)) (k * 66 + 34) ((pubK (keyK seed (ss.getD k .empty))).map W8) = (keyAt seed ss (k + 1)).flatMap NC := by
  have hl := keyAt_length seed ss k
  have h1 := nods_priv (xs := keyAt seed ss k) (k := k) (by omega) (keyY seed (ss.getD k .empty))
  have h2 := nods_pub (xs := (keyAt seed ss k).set k { (keyAt seed ss k).getD k nod0 with priv := keyY seed (ss.getD k .empty) }) (k := k) (by rw [List.length_set]; omega) (pubY (keyK seed (ss.getD k .empty)))
  have e1 : (keyY seed (ss.getD k .empty)).val = keyK seed (ss.getD k .empty) := rfl
  have e2 : (pubY (keyK seed (ss.getD k .empty))).val = pubK (keyK seed (ss.getD k .empty)) := rfl
  rw [e1] at h1
  rw [e2] at h2
  rw [h1, h2, List.set_set]
  congr 1
  rw [keyAt, keyAt]
  refine tabN_set (fun j hj => ?_) _ (fun _ => ?_)
  · by_cases h : j < k
    · rw [if_pos (by omega), if_pos h]
    · rw [if_neg (by omega), if_neg h]
  · rw [if_pos (by omega), List.getD_eq_getElem?_getD, List.getElem?_set_self (by rw [tabN_length]; exact hk), Option.getD_some, tabN_getD _ hk, if_neg (by omega)]
    rfl
end Go.Proofs.Ytallecbmnpcepaa
namespace Go.Proofs.Ytallecbmnpcepaa
open Go.RowKit
open Go.BigFrame

/-- The error of names. -/
def makeE (ss : List ByteArray) : Nat := checkN (nodsOf ss)
theorem makeE_size {ss : List ByteArray} (h : 64 < ss.length) : makeE ss = 2 := check_size (by rw [nodsOf, tabN_length]; exact h)
theorem makeE_ok {ss : List ByteArray} (h : makeE ss = 0) : ss.length ≤ 64 ∧ ∀ j, j < ss.length → (ss.getD j .empty).size ≤ 16 := by
  have hl : (nodsOf ss).length = ss.length := tabN_length _ _
  rw [makeE, checkN, hl] at h
  split at h
  · omega
  · rename_i h64
    refine ⟨by omega, fun j hj => ?_⟩
    split at h
    · omega
    · rename_i hb
      have hb' : (nodsOf ss).any badN = false := by simpa using hb
      rw [List.any_eq_false] at hb'
      have := hb' _ (nod_mem (xs := nodsOf ss) (k := j) (by omega))
      rw [nodsOf, tabN_getD _ hj] at this
      have h2 : okName (ss.getD j .empty) = true := by
        cases e : okName (ss.getD j .empty)
        · exact absurd (by rw [badN]; simp only [nodeOf, e]; simp) this
        · rfl
      exact ((okName_iff _).1 h2).2.1
set_option maxRecDepth 100000 in
theorem dmake_any (A B : Option Addr) (n c m d : Nat) (seed : List UInt8) (ss : List ByteArray) (w : World) (hx : RdB w A n seed) (hc : n ≤ c) (hn : n ≤ 35184372088832) (hb : Strs w B m ss) (hm : m ≤ 1099511627776) (hs : ∀ s ∈ ss, s.size ≤ 140737488355328) :
    Calls Try.prog 14 #[.slice A n c, .slice B m d] w fun e w' => ∃ v, e = .returned (.tuple #[v, .int .i64 (makeE ss : Nat)]) ∧ (makeE ss ≠ 0 → v = .slice none 0 0) ∧ (makeE ss = 0 → ∃ g, v = .slice (some ⟨g, 0, none⟩) m m ∧ w.heap.size ≤ g ∧ Blk w' g 45 ((makeL seed ss).flatMap NC)) ∧ Later w w' := by
  have hml : ss.length = m := by simpa using hb.1
  by_cases h64 : 64 < m
  · have hE := hid (makeE_size (ss := ss) (by omega))
    go_enter Try.func14, Try.ntmps14
    go_wp2
    go_ret2
    exact ⟨.slice none 0 0, by rw [hE.out]; rfl, fun _ => rfl, fun h => absurd (h.symm.trans hE.out) (by decide), Later.refl w⟩
  · go_enter Try.func14, Try.ntmps14
    go_wp2_with (first
      | (refine wpList_make_f NC_length (by omega) nod0 rfl _ _ _ rfl 45 88 Try.underlying22 infoN _ _ _ _ m rfl rfl rfl rfl (by omega) (by omega) ?_; intro w1 hb1 hl1)
      | fail)
    rw [← hml, ← madeAt_zero] at hb1
    generalize hg : w.heap.size = g at *
    replace hg := hid hg
    go_loopw [23] (fun i wr => ∃ k : Nat, i = .int .i64 k ∧ k ≤ m ∧ Blk wr g 45 ((madeAt ss k).flatMap NC) ∧ Later w wr) (fun i _ => m - (intOf i).toNat)
    case atStart => exact ⟨0, rfl, by omega, hb1, hl1⟩
    case round =>
      clear hb1 hl1
      obtain ⟨k, rfl, hk, hb1, L⟩ := hrel
      by_cases hlt : k < m
      · obtain ⟨b, o, rfl, hbb, hck⟩ := (hb.later L).at_ hlt
        have hst := hid (made_step ss k (by omega))
        have hlen : ((madeAt ss k).flatMap NC).length = m * 66 := by rw [flatF_length NC_length, madeAt, tabN_length, hml]
        generalize ss.getD k .empty = s at *
        generalize (madeAt ss k).flatMap NC = l at *
        go_wp2_with (first
          | (refine wpList_store_in rfl rfl _ _ _ rfl _ _ _ _ hb1 rfl ?hl rfl (by kernel_rfl) ?_; (case hl => rw [hlen]; omega); intro v2 w2 hv2 hb2 ho2; simp [go_sem] at hv2; subst hv2)
          | (refine wpList_store_in rfl rfl _ _ _ rfl _ _ _ _ hb2 rfl ?hl2 rfl (by kernel_rfl) ?_; (case hl2 => rw [List.length_set, hlen]; omega); intro v3 w3 hv3 hb3 ho3; simp [go_sem] at hv3; subst hv3)
          | fail)
        rw [ofIntNat_w64, show UInt64.ofNat k + 1 = UInt64.ofNat (k + 1) by rw [UInt64.ofNat_add]; rfl, hst.out] at hb3
        have hgl : w.heap.size ≤ g := Nat.le_of_eq hg.out
        exact ⟨⟨k + 1, rfl, by omega, hb3, (L.only ho2 hgl).only ho3 hgl⟩, by simp [intOf]; omega⟩
      · obtain rfl : k = m := by omega
        have hgl := hid (Nat.le_of_eq hg.out)
        rw [← hml, madeAt_all] at hb1
        have hnl : (nodsOf ss).length = k := by rw [nodsOf, tabN_length, hml]
        have hns : ∀ x ∈ nodsOf ss, x.nm.size ≤ 140737488355328 := by
          intro x hx
          obtain ⟨j, hj, rfl⟩ := List.mem_map.1 hx
          exact hs _ (by rw [List.getD_eq_getElem?_getD, List.getElem?_eq_getElem (List.mem_range.1 hj)]; exact List.getElem_mem _)
        have hC := hid (dcheck_any (some ⟨g, 0, none⟩) k k (nodsOf ss) wr (blk_rdF NC_length hb1 hnl) (by omega) hns)
        have hE : checkN (nodsOf ss) = makeE ss := rfl
        rw [hE] at hC
        clear hE hns hs
        go_wp2_with fail
        refine (hC.out).mono ?_
        rintro e w2 ⟨rfl, l2⟩
        replace hb1 := hb1.later l2
        replace L := L.trans l2
        clear l2 hC
        by_cases hE0 : makeE ss = 0
        · have hEE := hid hE0
          have hok := hid (makeE_ok hE0)
          rw [hE0]
          clear hE0
          have hT := macTag_length nodeB seed
          have ht := fun B w h1 h2 => extract_any B A 4 4 n c nodeB seed w h1 (by omega) (by omega) h2 hc (by omega)
          have he := fun A B w (s : ByteArray) h1 h2 (h3 : s.size ≤ 1048576) => expand_is A B 32 32 1 1 32 32 rfl (macTag nodeB seed) [strB s] w h1 (by omega) (by omega) h2 (by omega) (by rw [flatten_one, strB_length]; omega) (by omega)
          have hd : ∀ s, expB (macTag nodeB seed) [strB s].flatten 32 = keyK seed s := fun s => by rw [flatten_one]; rfl
          simp only [hd] at he
          generalize macTag nodeB seed = T at *
          have HT := hid ht
          have HE := hid he
          clear ht he hd
          rw [← keyAt_zero seed] at hb1
          go_wp2_with (first
            | (refine wpList_convert_lit rfl _ _ rfl 5 Try.underlying33 Try.underlying5 w2 (nodeB.map W8) rfl w2.heap.size 4 4 rfl rfl ?_; intro w3 hl3 hr3 hz3)
            | (go_at_call 36; refine (HT.out _ _ hr3 ((hx.later L).later hl3)).mono ?_; rintro e w4 ⟨rfl, hl4⟩)
            | (refine store_B rfl rfl _ _ rfl (Blk.new w4 _ (List.replicate 32 (.int .u8 0))) rfl rfl hT rfl ?_; intro w5 hb5 ho5)
            | fail)
          have j4 := hl3.trans hl4
          have j5 : Later w2 w5 := (j4.trans (later_alloc _ _)).only ho5 j4.size
          have hgk : w4.heap.size ≠ g := by have := hb1.lt; have := j4.size; omega
          have hgk0 : w.heap.size ≤ w4.heap.size := (L.trans j4).size
          replace hb1 := hb1.later j5
          replace L := L.trans j5
          clear j4 j5 hl3 hr3 hz3 hl4 ho5
          generalize w4.heap.size = gk at *
          go_loopw [52] (fun i wr => ∃ j : Nat, i = .int .i64 j ∧ j ≤ k ∧ Blk wr gk 43 (T.map W8) ∧ Blk wr g 45 ((keyAt seed ss j).flatMap NC) ∧ Later w wr) (fun i _ => k - (intOf i).toNat)
          case atStart => exact ⟨0, rfl, by omega, hb5, hb1, L⟩
          case round =>
            clear hb5 hb1 L
            obtain ⟨j, rfl, hj, hK, hN, L⟩ := hrel
            by_cases hlt : j < k
            · have hkl := keyAt_length seed ss j
              have hcell : wr.cell? ⟨g, j * 66, none⟩ = some (.string (ss.getD j .empty)) := by
                rw [← keyAt_name seed ss j j (by omega)]
                exact hN.cellD _ (flatF_get NC_length nod0 (i := 0) _ j (by omega) rfl)
              have hsz := (hok.out).2 j (by omega)
              have hst := hid (key_step seed ss j (by omega))
              have hKl := keyK_length seed (ss.getD j .empty)
              have hfl : ((keyAt seed ss j).flatMap NC).length = k * 66 := by rw [flatF_length NC_length, hkl, hml]
              have hsl := strB_length (ss.getD j .empty)
              generalize ss.getD j .empty = s at *
              have hE := hid (fun A B w h1 h2 => HE.out A B w s h1 h2 (by omega))
              generalize keyK seed s = D at *
              generalize (keyAt seed ss j).flatMap NC = l at *
              go_wp2_with fail
              refine wp_region_parts [([0, 1, 2, 3, 4, 5], 6), ([], 7), ([], 8)] [9, 10, 11, 12, 13] [] (by as_aux_lemma => kernel_rfl) (by as_aux_lemma => kernel_rfl) (by intro _ _ d _ _ h; cases d <;> exact h) ?_
              simp only [wpParts, pick, List.getElem?_cons_succ, List.getElem?_cons_zero, Option.toList_some, List.cons_append, List.nil_append]
              repeat (go_big_quiet_step (fail))
              refine wpQuiet_nil ?_
              go_wp2_with (first
                | (refine wpList_convert_str rfl _ _ _ rfl 5 Try.underlying9 Try.underlying33 Try.underlying5 s rfl ?_; intro c1 w1 hl1 hr1 hc1 hz1)
                | fail)
              simp only [Act.put, List.setIfInBounds_toArray, List.set_cons_succ, List.set_cons_zero]
              try refine ⟨by first | assumption | exact later_drew _ | exact later_alloc _ _ | exact Later.refl _, ?_⟩
              try simp only [wpParts, pick, List.getElem?_cons_succ, List.getElem?_cons_zero, Option.toList_some, List.cons_append, List.nil_append]
              repeat (go_big_quiet_step (fail))
              refine wpQuiet_nil ?_
              go_wp2_with fail
              try refine ⟨by first | assumption | exact later_drew _ | exact later_alloc _ _ | exact Later.refl _, ?_⟩
              try simp only [wpParts, pick, List.getElem?_cons_succ, List.getElem?_cons_zero, Option.toList_some, List.cons_append, List.nil_append]
              repeat (go_big_quiet_step (fail))
              refine wpQuiet_nil ?_
              go_wp2_with fail
              have hK1 := (hK.drew.later hl1).later (later_alloc w1 (.cells #[.slice (some ⟨wr.heap.size, 0, none⟩) s.size c1] 33))
              have hN1 := (hN.drew.later hl1).later (later_alloc w1 (.cells #[.slice (some ⟨wr.heap.size, 0, none⟩) s.size c1] 33))
              have L1 := (L.drew.trans hl1).trans (later_alloc w1 (.cells #[.slice (some ⟨wr.heap.size, 0, none⟩) s.size c1] 33))
              have hprt : Parts (w1.alloc (.cells #[.slice (some ⟨wr.heap.size, 0, none⟩) s.size c1] 33)) (fun _ => False) (some ⟨w1.heap.size, 0, none⟩) 1 [strB s] := parts_of ((Blk.new w1 33 [.slice (some ⟨wr.heap.size, 0, none⟩) s.size c1]).rd rfl) ⟨part_of (hr1.later (later_alloc _ _)) hc1, trivial⟩
              refine (hE.out (some ⟨gk, 0, none⟩) (some ⟨w1.heap.size, 0, none⟩) _ (hK1.rd (by rw [List.length_map, hT])) hprt).mono ?_
              rintro e w2 ⟨A2, rfl, hfr2, hl2⟩
              clear hprt
              replace hK1 := hK1.later hl2
              replace hN1 := hN1.later hl2
              replace L1 := L1.trans hl2
              go_wp2_with fail
              try refine ⟨by first | assumption | exact later_drew _ | exact later_alloc _ _ | exact Later.refl _, ?_⟩
              try simp only [wpParts, pick, List.getElem?_cons_succ, List.getElem?_cons_zero, Option.toList_some, List.cons_append, List.nil_append]
              repeat (go_big_quiet_step (fail))
              refine wpQuiet_nil ?_
              have hpk := pub_ok D hKl
              have hpl : (pubK D).length = 32 := pubK_length D
              have hpd : multB D (nb 9) = pubK D := rfl
              have hP := hid (fun w h => public_any A2 32 32 D w h (by omega))
              rw [hpk, hpd] at hP
              clear hpk hpd
              generalize pubK D = PD at *
              go_wp2_with (first
                | (refine wpList_copy_rd rfl _ _ _ _ rfl 5 Try.underlying33 size8 g (j * 66 + 2) 32 32 45 l hN1 A2 32 32 (D.map W8) hfr2.rd (w8_one _) rfl rfl (by rw [hfl]; omega) ?_; intro w3 hb3 ho3; rw [List.take_of_length_le (by rw [List.length_map, hKl]; omega)] at hb3)
                | fail)
              have hgz : g < (w1.alloc (.cells #[.slice (some ⟨wr.heap.size, 0, none⟩) s.size c1] 33)).heap.size := Nat.lt_of_lt_of_le hN.drew.lt (hl1.trans (later_alloc _ _)).size
              have hrd3 : RdB w3 A2 32 D := by
                obtain ⟨h1, ⟨_, h2⟩ | ⟨g2, rest, rfl, h2, hB2⟩⟩ := hfr2
                · omega
                · exact rd_pre' (hB2.only ho3 (by omega)) (by rw [List.length_map, h1])
              replace hK1 := hK1.only ho3 hgk
              replace L1 := L1.only ho3 hgl.out
              (with_reducible refine (hP.out _ hrd3).mono ?_); rintro e w4 ⟨rfl, hl4⟩
              replace hb3 := hb3.later hl4
              replace hK1 := hK1.later hl4
              replace L1 := L1.trans hl4
              have hne5 : g ≠ w4.heap.size := by have := hb3.lt; omega
              have hne6 : gk ≠ w4.heap.size := by have := hK1.lt; omega
              go_wp2_with (first
                | (refine store_B rfl rfl _ _ rfl (Blk.new w4 _ (List.replicate 32 (.int .u8 0))) rfl rfl hpl rfl ?_; intro w5 hb5 ho5; have hb35 := (hb3.later (later_alloc _ _)).only ho5 hne5)
                | (refine load_B rfl _ rfl hb5 hpl rfl ?_)
                | (refine wpList_store_agg rfl rfl 43 _ _ rfl g (j * 66 + 34) 45 (spliced l (j * 66 + 2) (D.map W8)) (PD.map W8) hb35 rfl rfl (by rw [List.length_map, hpl]; exact size32b) ?hf (w8_one _) ?_; (case hf => rw [spliced_length _ _ _ (by rw [hfl, List.length_map, hKl]; omega), hfl, List.length_map, hpl]; omega); intro w6 hb6 ho6; rw [hst.out] at hb6)
                | fail)
              have hK5 := (hK1.later (later_alloc _ _)).only ho5 hne6
              have L5 := (L1.trans (later_alloc _ _)).only ho5 L1.size
              exact ⟨⟨j + 1, rfl, by omega, hK5.only ho6 hgk, hb6, L5.only ho6 hgl.out⟩, by simp [intOf]; omega⟩
            · obtain rfl : j = k := by omega
              rw [← hml, keyAt_all] at hN
              go_wp2
              go_ret2
              exact ⟨.slice (some ⟨g, 0, none⟩) j j, by rw [hEE.out]; rfl, fun h => absurd hEE.out h, fun _ => ⟨g, rfl, hgl.out, hN⟩, L⟩
        · have hne : ((makeE ss : Int) != 0) = true := by simpa using hE0
          have hEE := hid hE0
          clear hE0
          go_wp2
          go_ret2
          exact ⟨.slice none 0 0, rfl, fun _ => rfl, fun h => absurd h hEE.out, L⟩
end Go.Proofs.Ytallecbmnpcepaa
