/-
  dir: nodes are found.
-/
import Derived.Test.YtallecbmnpcepaaDir8
import Derived.Test.YtallecbmnpcepaaDir9
namespace Go.Proofs.Ytallecbmnpcepaa
open Go.RowKit
open Go.BigFrame

theorem zeroD : (Try.prog.info? 47).bind (·.zero) = some (.agg (NC nod0).toArray) := by kernel_rfl
theorem size66d : (Try.prog.info? 47).map (·.size) = some 66 := by kernel_rfl
theorem spliced_NC (l : List Value) (x : Nod) (h : l.length = 66) : spliced l 0 (NC x) = NC x := spliced_all _ _ (by rw [NC_length, h])
theorem built_dnode (x : Nod) : Try.prog.built 47 [(0, .agg (NC x).toArray)] = some (NC x).toArray := by
  rw [built_struct (pl := [(0, 66)]) Try.underlying47 zeroD (by kernel_rfl), fill_cons (vs := NC x) (off := 0) rfl (by rw [NC_length]; rfl) (by rw [NC_length, NC_length]; omega), fill_nil, spliced_NC _ _ (NC_length _)]
theorem built_dnode0 : Try.prog.built 47 [] = some (NC nod0).toArray := by
  rw [built_struct (pl := [(0, 66)]) Try.underlying47 zeroD (by kernel_rfl), fill_nil]
section
variable {ops : Array Oper} {rest : List Oper} {o : Oper} {a : Act} {w : World} {Q : Exit → Act → World → Prop}
/-- A whole node is stored. -/
theorem store_nod {ty : TypeId} (hi : (Try.prog.info? ty).map (·.size) = some 66) (hgd : o.guard = none) (hd : o.dst = none) (x y : Operand) (ho : o.op = .store ty x y) {g : Nat} {t : TypeId} {l : List Value} {z : Nod} (hg : Blk w g t l) (hx : a.eval x = .pointer (some ⟨g, 0, none⟩)) (hy : a.eval y = .agg (NC z).toArray) (hl : l.length = 66)
    (h : ∀ w', Blk w' g t (NC z) → Only g w w' → wpList Try.prog ops Q rest a w') : wpList Try.prog ops Q (o :: rest) a w :=
  wpList_store_blk hgd hd _ x y ho g t l _ hg hx hy 66 hi (NC_length _) hl (NC_one _) h
theorem load_dnode (hgd : Region.wanted o (yielded ops a.tmps) = true) (x : Operand) (ho : o.op = .load 47 x) {g off : Nat} {y : Nod} (hc : ∀ i v, (NC y)[i]? = some v → w.cell? ⟨g, off + i, none⟩ = some v) (hx : a.eval x = .pointer (some ⟨g, off, none⟩))
    (h : wpList Try.prog ops Q rest (a.put o.dst (.agg (NC y).toArray)) w) : wpList Try.prog ops Q (o :: rest) a w :=
  wpList_load_at hgd _ x ho g off _ hc hx _ Try.underlying47 rfl (by rw [NC_length]; exact size66d) h
theorem quiet_dnode {J : Act → Prop} (x : Operand) (ho : o.op = .load 47 x) {w0 : World} {g off : Nat} {y : Nod} (hc : ∀ i v, (NC y)[i]? = some v → w0.cell? ⟨g, off + i, none⟩ = some v) (hg : g < w0.heap.size) (hx : a.eval x = .pointer (some ⟨g, off, none⟩)) (h : J (a.put o.dst (.agg (NC y).toArray))) :
    o.quiet Try.prog a (fun w' => ∃ x, w' = grow w0 x) J :=
  quiet_load_agg _ x ho g off (NC y) (fun w' hw j v hv => by obtain ⟨y, rfl⟩ := hw; exact ((Later.below ⟨y, rfl⟩).cell (p := ⟨g, off + j, none⟩) hg).trans (hc j v hv)) hx _ Try.underlying47 rfl (by rw [NC_length]; exact size66d) h
end
theorem blk_cells {w : World} {g : Nat} {t : TypeId} {y : Nod} (h : Blk w g t (NC y)) : ∀ i v, (NC y)[i]? = some v → w.cell? ⟨g, 0 + i, none⟩ = some v := fun i v hv => by
  rw [Nat.zero_add]
  exact h.cellD i hv
set_option maxRecDepth 100000 in
theorem nodePublic_any (x : Nod) (w : World) :
    Calls Try.prog 22 #[.agg (NC x).toArray] w fun e w' => ∃ g, e = .returned (.slice (some ⟨g, 0, none⟩) 32 32) ∧ w.heap.size ≤ g ∧ Blk w' g 5 (x.pub.val.map W8) ∧ Later w w' := by
  have hb0 : Blk (w.alloc (.cells (NC x).toArray 47)) w.heap.size 47 (NC x) := Blk.new _ _ _
  have hc : ∀ j v, (x.pub.val.map W8)[j]? = some v → (w.alloc (.cells (NC x).toArray 47)).cell? ⟨w.heap.size, 34 + j, none⟩ = some v := fun j v hv => hb0.cellD _ (NC_pub x hv)
  go_enter Try.func22, Try.ntmps22
  go_wp2_with (first
    | (refine load_32 rfl _ rfl hc x.pub.2 rfl ?_)
    | fail)
  (with_reducible refine (copyKey_any x.pub.val x.pub.2 _).mono ?_); rintro e w2 ⟨g2, rfl, hg2, hb2, l2⟩
  go_wp2
  go_ret
  exact ⟨g2, rfl, by simp at hg2; omega, hb2, (later_alloc _ _).trans l2⟩
set_option maxRecDepth 100000 in
theorem nodePrivate_any (x : Nod) (w : World) :
    Calls Try.prog 23 #[.agg (NC x).toArray] w fun e w' => ∃ g, e = .returned (.slice (some ⟨g, 0, none⟩) 32 32) ∧ w.heap.size ≤ g ∧ Blk w' g 5 (x.priv.val.map W8) ∧ Later w w' := by
  have hb0 : Blk (w.alloc (.cells (NC x).toArray 47)) w.heap.size 47 (NC x) := Blk.new _ _ _
  have hc : ∀ j v, (x.priv.val.map W8)[j]? = some v → (w.alloc (.cells (NC x).toArray 47)).cell? ⟨w.heap.size, 2 + j, none⟩ = some v := fun j v hv => hb0.cellD _ (NC_priv x hv)
  go_enter Try.func23, Try.ntmps23
  go_wp2_with (first
    | (refine load_32 rfl _ rfl hc x.priv.2 rfl ?_)
    | fail)
  (with_reducible refine (copyKey_any x.priv.val x.priv.2 _).mono ?_); rintro e w2 ⟨g2, rfl, hg2, hb2, l2⟩
  go_wp2
  go_ret
  exact ⟨g2, rfl, by simp at hg2; omega, hb2, (later_alloc _ _).trans l2⟩
/-- The first node of this kind. -/
def findBy (p : Nod → Bool) (xs : List Nod) : Nod × Nat := match xs.find? p with | some x => (x, 0) | none => (nod0, 4)
theorem find_hit {xs : List Nod} {p : Nod → Bool} {k : Nat} (hk : k < xs.length) (hp : ∀ j, j < k → p (xs.getD j nod0) = false) (h : p (xs.getD k nod0) = true) : findBy p xs = (xs.getD k nod0, 0) := by
  have : xs.find? p = some (xs.getD k nod0) := by
    rw [List.find?_eq_some_iff_getElem]
    refine ⟨h, k, hk, by rw [List.getD_eq_getElem?_getD, List.getElem?_eq_getElem hk]; rfl, fun j hj => ?_⟩
    have := hp j hj
    rw [List.getD_eq_getElem?_getD, List.getElem?_eq_getElem (by omega)] at this
    simpa using this
  rw [findBy, this]
theorem find_not {xs : List Nod} {p : Nod → Bool} (hp : ∀ j, j < xs.length → p (xs.getD j nod0) = false) : findBy p xs = (nod0, 4) := by
  have : xs.find? p = none := by
    rw [List.find?_eq_none]
    intro x hx
    obtain ⟨k, hk, rfl⟩ := List.getElem_of_mem hx
    have := hp k hk
    rw [List.getD_eq_getElem?_getD, List.getElem?_eq_getElem hk] at this
    simpa using this
  rw [findBy, this]
def byName (s : ByteArray) (x : Nod) : Bool := x.nm.toList == s.toList
def byId (i : UInt64) (x : Nod) : Bool := x.id == i
/-- The same, in a checked directory. -/
def findN (p : Nod → Bool) (xs : List Nod) : Nod × Nat := if checkN xs = 0 then findBy p xs else (nod0, checkN xs)
set_option maxRecDepth 100000 in
theorem dnamed_any (A : Option Addr) (n c : Nat) (xs : List Nod) (s : ByteArray) (w : World) (hx : RdN w A n xs) (hn : n ≤ 1099511627776) :
    Calls Try.prog 40 #[.slice A n c, .string s] w fun e w' => e = .returned (.tuple #[.agg (NC (findBy (byName s) xs).1).toArray, .int .i64 (findBy (byName s) xs).2]) ∧ Later w w' := by
  have hl0 := hx.1
  have hb0 : Blk (w.alloc (.cells (NC nod0).toArray 47)) w.heap.size 47 (NC nod0) := Blk.new _ _ _
  go_enter Try.func40, Try.ntmps40
  go_wp2
  go_loopw [9] (fun i wr => ∃ k : Nat, i = .int .i64 k ∧ k ≤ n ∧ Hid (∀ j, j < k → byName s (xs.getD j nod0) = false) ∧ Blk wr w.heap.size 47 (NC nod0) ∧ Later w wr) (fun i _ => n - (intOf i).toNat)
  case atStart => exact ⟨0, rfl, by omega, hid (fun j hj => absurd hj (by omega)), hb0, later_alloc _ _⟩
  case round =>
    clear hb0
    obtain ⟨k, rfl, hk, hp, hb0, L⟩ := hrel
    by_cases hlt : k < n
    · obtain ⟨b, o, rfl, hb, hc⟩ := (hx.later L).at_ hlt
      have hhit := hid (fun h : byName s (xs.getD k nod0) = true => find_hit (p := byName s) (by omega) hp.out h)
      have hnext := hid (fun h : byName s (xs.getD k nod0) = false => below_succ (p := fun j => byName s (xs.getD j nod0) = false) hp.out h)
      generalize xs.getD k nod0 = x at *
      have c0 : wr.cell? ⟨b, o + k * 66, none⟩ = some (.string x.nm) := hc 0 _ rfl
      cases hnm : (x.nm.toList == s.toList)
      · go_wp2
        exact ⟨⟨k + 1, rfl, by omega, hid (hnext.out hnm), hb0, L⟩, by simp [intOf]; omega⟩
      · have hres := hid (hhit.out hnm)
        go_wp2_with (first
          | (refine load_nod rfl _ rfl hc rfl ?_)
          | (refine wpList_build_w rfl _ _ rfl (NC x) (by simp only [List.map_toArray, List.map_cons, List.map_nil]; exact built_dnode x) ?_)
          | (refine store_nod size66d rfl rfl _ _ rfl hb0 rfl rfl (NC_length _) ?_; intro w9 hb9 ho9)
          | fail)
        exact bodyPost_ret (results_blk_tmp rfl _ _ _ _ _ _ hb9 rfl Try.underlying47 rfl (by rw [NC_length]; exact size66d)) rfl ⟨by rw [hres.out]; rfl, L.only ho9 (Nat.le_refl _)⟩
    · obtain rfl : k = n := by omega
      have hres := hid (find_not (p := byName s) (xs := xs) (by rw [hl0]; exact hp.out))
      go_wp2_with (first
        | (refine wpList_build_w rfl _ _ rfl (NC nod0) (by simp only [List.map_toArray, List.map_nil]; exact built_dnode0) ?_)
        | (refine store_nod size66d rfl rfl _ _ rfl hb0 rfl rfl (NC_length _) ?_; intro w9 hb9 ho9)
        | fail)
      exact bodyPost_ret (results_blk_tmp rfl _ _ _ _ _ _ hb9 rfl Try.underlying47 rfl (by rw [NC_length]; exact size66d)) rfl ⟨by rw [hres.out]; rfl, L.only ho9 (Nat.le_refl _)⟩
set_option maxRecDepth 100000 in
theorem dfind_any (A : Option Addr) (n c : Nat) (xs : List Nod) (s : ByteArray) (w : World) (hx : RdN w A n xs) (hn : n ≤ 1099511627776) (hs : ∀ x ∈ xs, x.nm.size ≤ 140737488355328) :
    Calls Try.prog 20 #[.slice A n c, .string s] w fun e w' => e = .returned (.tuple #[.agg (NC (findN (byName s) xs).1).toArray, .int .i64 (findN (byName s) xs).2]) ∧ Later w w' := by
  have hb0 : Blk (w.alloc (.cells (NC nod0).toArray 47)) w.heap.size 47 (NC nod0) := Blk.new _ _ _
  have hC := hid (fun w h => dcheck_any A n c xs w h hn hs)
  have hN := hid (fun w h => dnamed_any A n c xs s w h hn)
  go_enter Try.func20, Try.ntmps20
  go_wp2_with fail
  refine (hC.out _ (hx.later (later_alloc _ _))).mono ?_
  rintro e w1 ⟨rfl, l1⟩
  replace hb0 := hb0.later l1
  have L := (later_alloc w (.cells (NC nod0).toArray 47)).trans l1
  by_cases h0 : checkN xs = 0
  · have hres := hid (show findN (byName s) xs = findBy (byName s) xs by rw [findN, if_pos h0])
    rw [h0]
    clear h0
    go_wp2_with fail
    refine (hN.out _ (hx.later L)).mono ?_
    rintro e w2 ⟨rfl, l2⟩
    replace hb0 := hb0.later l2
    have hr1 := hid (congrArg Prod.fst hres.out)
    have hr2 := hid (congrArg Prod.snd hres.out)
    generalize (findBy (byName s) xs).1 = R at *
    generalize (findBy (byName s) xs).2 = E at *
    go_wp2_with (first
      | (refine store_nod size66d rfl rfl _ _ rfl hb0 rfl rfl (NC_length _) ?_; intro w9 hb9 ho9)
      | fail)
    exact bodyPost_ret (results_blk_tmp rfl _ _ _ _ _ _ hb9 rfl Try.underlying47 rfl (by rw [NC_length]; exact size66d)) rfl ⟨by rw [hr1.out, hr2.out]; rfl, (L.trans l2).only ho9 (Nat.le_refl _)⟩
  · have hres := hid (show findN (byName s) xs = (nod0, checkN xs) by rw [findN, if_neg h0])
    have hne : ((checkN xs : Int) != 0) = true := by simpa using h0
    clear h0
    go_wp2_with (first
      | (refine wpList_build_w rfl _ _ rfl (NC nod0) (by simp only [List.map_toArray, List.map_nil]; exact built_dnode0) ?_)
      | (refine store_nod size66d rfl rfl _ _ rfl hb0 rfl rfl (NC_length _) ?_; intro w9 hb9 ho9)
      | fail)
    exact bodyPost_ret (results_blk_tmp rfl _ _ _ _ _ _ hb9 rfl Try.underlying47 rfl (by rw [NC_length]; exact size66d)) rfl ⟨by rw [hres.out]; rfl, L.only ho9 (Nat.le_refl _)⟩
set_option maxRecDepth 100000 in
theorem dat_any (A : Option Addr) (n c : Nat) (xs : List Nod) (i : UInt64) (w : World) (hx : RdN w A n xs) (hn : n ≤ 1099511627776) (hs : ∀ x ∈ xs, x.nm.size ≤ 140737488355328) :
    Calls Try.prog 18 #[.slice A n c, W64 i] w fun e w' => e = .returned (.tuple #[.agg (NC (findN (byId i) xs).1).toArray, .int .i64 (findN (byId i) xs).2]) ∧ Later w w' := by
  have hl0 := hx.1
  have hb0 : Blk (w.alloc (.cells (NC nod0).toArray 47)) w.heap.size 47 (NC nod0) := Blk.new _ _ _
  have hC := hid (fun w h => dcheck_any A n c xs w h hn hs)
  go_enter Try.func18, Try.ntmps18
  go_wp2_with fail
  refine (hC.out _ (hx.later (later_alloc _ _))).mono ?_
  rintro e w1 ⟨rfl, l1⟩
  replace hb0 := hb0.later l1
  have L := (later_alloc w (.cells (NC nod0).toArray 47)).trans l1
  by_cases h0 : checkN xs = 0
  · have hres := hid (show findN (byId i) xs = findBy (byId i) xs by rw [findN, if_pos h0])
    rw [h0]
    clear h0
    go_wp2
    go_loopw [16] (fun j wr => ∃ k : Nat, j = .int .i64 k ∧ k ≤ n ∧ Hid (∀ j, j < k → byId i (xs.getD j nod0) = false) ∧ Blk wr w.heap.size 47 (NC nod0) ∧ Later w wr) (fun j _ => n - (intOf j).toNat)
    case atStart => exact ⟨0, rfl, by omega, hid (fun j hj => absurd hj (by omega)), hb0, L⟩
    case round =>
      clear hb0 L
      obtain ⟨k, rfl, hk, hp, hb0, L⟩ := hrel
      by_cases hlt : k < n
      · obtain ⟨b, o, rfl, hb, hc⟩ := (hx.later L).at_ hlt
        have hhit := hid (fun h : byId i (xs.getD k nod0) = true => find_hit (p := byId i) (by omega) hp.out h)
        have hnext := hid (fun h : byId i (xs.getD k nod0) = false => below_succ (p := fun j => byId i (xs.getD j nod0) = false) hp.out h)
        generalize xs.getD k nod0 = x at *
        have c1 : wr.cell? ⟨b, o + k * 66 + 1, none⟩ = some (W64 x.id) := hc 1 _ rfl
        cases hie : (x.id == i)
        · go_wp2
          exact ⟨⟨k + 1, rfl, by omega, hid (hnext.out hie), hb0, L⟩, by simp [intOf]; omega⟩
        · have hres2 := hid (hres.out.trans (hhit.out hie))
          go_wp2_with (first
            | (refine load_nod rfl _ rfl hc rfl ?_)
            | (refine wpList_build_w rfl _ _ rfl (NC x) (by simp only [List.map_toArray, List.map_cons, List.map_nil]; exact built_dnode x) ?_)
            | (refine store_nod size66d rfl rfl _ _ rfl hb0 rfl rfl (NC_length _) ?_; intro w9 hb9 ho9)
            | fail)
          exact bodyPost_ret (results_blk_tmp rfl _ _ _ _ _ _ hb9 rfl Try.underlying47 rfl (by rw [NC_length]; exact size66d)) rfl ⟨by rw [hres2.out]; rfl, L.only ho9 (Nat.le_refl _)⟩
      · obtain rfl : k = n := by omega
        have hres2 := hid (hres.out.trans (find_not (p := byId i) (xs := xs) (by rw [hl0]; exact hp.out)))
        go_wp2_with (first
          | (refine wpList_build_w rfl _ _ rfl (NC nod0) (by simp only [List.map_toArray, List.map_nil]; exact built_dnode0) ?_)
          | (refine store_nod size66d rfl rfl _ _ rfl hb0 rfl rfl (NC_length _) ?_; intro w9 hb9 ho9)
          | fail)
        exact bodyPost_ret (results_blk_tmp rfl _ _ _ _ _ _ hb9 rfl Try.underlying47 rfl (by rw [NC_length]; exact size66d)) rfl ⟨by rw [hres2.out]; rfl, L.only ho9 (Nat.le_refl _)⟩
  · have hres := hid (show findN (byId i) xs = (nod0, checkN xs) by rw [findN, if_neg h0])
    have hne : ((checkN xs : Int) != 0) = true := by simpa using h0
    clear h0
    go_wp2_with (first
      | (refine wpList_build_w rfl _ _ rfl (NC nod0) (by simp only [List.map_toArray, List.map_nil]; exact built_dnode0) ?_)
      | (refine store_nod size66d rfl rfl _ _ rfl hb0 rfl rfl (NC_length _) ?_; intro w9 hb9 ho9)
      | fail)
    exact bodyPost_ret (results_blk_tmp rfl _ _ _ _ _ _ hb9 rfl Try.underlying47 rfl (by rw [NC_length]; exact size66d)) rfl ⟨by rw [hres.out]; rfl, L.only ho9 (Nat.le_refl _)⟩
/-- By name, or, if that is empty, by number. -/
def byEither (s : ByteArray) (i : UInt64) (x : Nod) : Bool := if s.toList.isEmpty = true then byId i x else byName s x
set_option maxRecDepth 100000 in
set_option maxHeartbeats 4000000 in
theorem dfind_ref (A : Option Addr) (n c : Nat) (xs : List Nod) (s : ByteArray) (i : UInt64) (w : World) (hx : RdN w A n xs) (hn : n ≤ 1099511627776) (hs : ∀ x ∈ xs, x.nm.size ≤ 140737488355328) :
    Calls Try.prog 19 #[.slice A n c, .string s, W64 i] w fun e w' => e = .returned (.tuple #[.agg (NC (findN (byEither s i) xs).1).toArray, .int .i64 (findN (byEither s i) xs).2]) ∧ Later w w' := by
  have hl0 := hx.1
  have hb0 : Blk (w.alloc (.cells (NC nod0).toArray 45)) w.heap.size 45 (NC nod0) := Blk.new _ _ _
  have hC := hid (fun w h => dcheck_ref A n c xs w h hn hs)
  go_enter Try.func19, Try.ntmps19
  go_wp2_with fail
  refine (hC.out _ (hx.later (later_alloc _ _))).mono ?_
  rintro e w1 ⟨rfl, l1⟩
  replace hb0 := hb0.later l1
  have L := (later_alloc w (.cells (NC nod0).toArray 45)).trans l1
  by_cases h0 : checkN xs = 0
  · have hres := hid (show findN (byEither s i) xs = findBy (byEither s i) xs by rw [findN, if_pos h0])
    rw [h0]
    clear h0
    go_wp2
    go_loopw [9] (fun j wr => ∃ k : Nat, j = .int .i64 k ∧ k ≤ n ∧ Hid (∀ j, j < k → byEither s i (xs.getD j nod0) = false) ∧ Blk wr w.heap.size 45 (NC nod0) ∧ Later w wr) (fun j _ => n - (intOf j).toNat)
    case atStart => exact ⟨0, rfl, by omega, hid (fun j hj => absurd hj (by omega)), hb0, L⟩
    case round =>
      clear hb0 L
      obtain ⟨k, rfl, hk, hp, hb0, L⟩ := hrel
      by_cases hlt : k < n
      · obtain ⟨b, o, rfl, hb, hc⟩ := (hx.later L).at_ hlt
        have hhit := hid (fun h : byEither s i (xs.getD k nod0) = true => find_hit (p := byEither s i) (by omega) hp.out h)
        have hnext := hid (fun h : byEither s i (xs.getD k nod0) = false => below_succ (p := fun j => byEither s i (xs.getD j nod0) = false) hp.out h)
        generalize xs.getD k nod0 = x at *
        have c0 : wr.cell? ⟨b, o + k * 66, none⟩ = some (.string x.nm) := hc 0 _ rfl
        have c1 : wr.cell? ⟨b, o + k * 66 + 1, none⟩ = some (W64 x.id) := hc 1 _ rfl
        have hE := hid (show byEither s i x = if s.toList.isEmpty = true then x.id == i else x.nm.toList == s.toList from rfl)
        cases he : s.toList.isEmpty
        all_goals (cases hnm : (x.nm.toList == s.toList) <;> cases hie : (x.id == i))
        all_goals
          go_wp2_with (first
            | (refine load_nod rfl _ rfl hc rfl ?_)
            | (refine store_nod size66 rfl rfl _ _ rfl hb0 rfl rfl (NC_length _) ?_; intro w9 hb9 ho9)
            | fail)
          first
            | exact ⟨⟨k + 1, by go_num, by omega, hid (hnext.out (by rw [hE.out, he, hnm, hie]; rfl)), hb0, L⟩, by simp [intOf]; omega⟩
            | exact bodyPost_ret (results_blk_tmp rfl _ _ _ _ _ _ hb9 rfl Try.underlying45 rfl (by rw [NC_length]; exact size66)) rfl ⟨by rw [hres.out.trans (hhit.out (by rw [hE.out, he, hnm, hie]; rfl))]; rfl, L.only ho9 (Nat.le_refl _)⟩
      · obtain rfl : k = n := by omega
        have hres2 := hid (hres.out.trans (find_not (p := byEither s i) (xs := xs) (by rw [hl0]; exact hp.out)))
        go_wp2_with (first
          | (refine wpList_build_w rfl _ _ rfl (NC nod0) (by simp only [List.map_toArray, List.map_nil]; exact built_nod0) ?_)
          | (refine store_nod size66 rfl rfl _ _ rfl hb0 rfl rfl (NC_length _) ?_; intro w9 hb9 ho9)
          | fail)
        exact bodyPost_ret (results_blk_tmp rfl _ _ _ _ _ _ hb9 rfl Try.underlying45 rfl (by rw [NC_length]; exact size66)) rfl ⟨by rw [hres2.out]; rfl, L.only ho9 (Nat.le_refl _)⟩
  · have hres := hid (show findN (byEither s i) xs = (nod0, checkN xs) by rw [findN, if_neg h0])
    have hne : ((checkN xs : Int) != 0) = true := by simpa using h0
    clear h0
    go_wp2_with (first
      | (refine wpList_build_w rfl _ _ rfl (NC nod0) (by simp only [List.map_toArray, List.map_nil]; exact built_nod0) ?_)
      | (refine store_nod size66 rfl rfl _ _ rfl hb0 rfl rfl (NC_length _) ?_; intro w9 hb9 ho9)
      | fail)
    exact bodyPost_ret (results_blk_tmp rfl _ _ _ _ _ _ hb9 rfl Try.underlying45 rfl (by rw [NC_length]; exact size66)) rfl ⟨by rw [hres.out]; rfl, L.only ho9 (Nat.le_refl _)⟩
end Go.Proofs.Ytallecbmnpcepaa
