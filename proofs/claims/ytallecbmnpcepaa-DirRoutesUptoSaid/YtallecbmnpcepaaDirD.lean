/-
  The law DirFinds: its walk.
-/
import Derived.Test.YtallecbmnpcepaaDirB
namespace Go.Proofs.Ytallecbmnpcepaa
open Go.RowKit
open Go.BigFrame

theorem run_eqIn_s {P : Program} {t : TypeId} {fs : Array Field} (hu : P.underlying t = some (.struct fs)) (hp : P.stoodInHeld t = false) (d : Nat) (xs ys : Array Value) (w : World) : (Op.equalIn (d + 1) t (.agg xs) (.agg ys)).run P w = (Op.eqFields d xs ys fs.toList).run P w := by
  have e : P.fieldsOf t = fs := by unfold Program.fieldsOf; rw [hu]
  rw [run_equalIn_struct w d t xs ys (by rw [e]; exact hu) hp, e]
set_option maxRecDepth 100000 in
theorem run_eqF_nodD (d : Nat) (x y : Nod) (w : World) {fs : Array Field} (hu : Try.prog.underlying 45 = some (.struct fs)) : (Op.eqFields (d + 2) (NC x).toArray (NC y).toArray fs.toList).run Try.prog w = .ok (eqNod x y) w := by
  rw [Try.underlying45] at hu
  cases hu
  rw [run_eqS_cons (d := d + 1) (k := 0) rfl Try.underlying9 (by decide) rfl rfl rfl, run_eq64_cons (d := d + 1) (k := 1) rfl Try.underlying42 (by decide) rfl rfl rfl,
    run_eq32_cons (d := d) (k := 2) rfl (by decide) rfl (NC_priv32 x) (NC_priv32 y) x.priv.2 y.priv.2, run_eq32_cons (d := d) (k := 34) rfl (by decide) rfl (NC_pub32 x) (NC_pub32 y) x.pub.2 y.pub.2, run_eq32_nil]
  rw [eqNod]
  cases x.nm.toList == y.nm.toList <;> cases x.id == y.id <;> cases x.priv.val == y.priv.val <;> cases x.pub.val == y.pub.val <;> rfl
theorem NC_whole (x : Nod) : ((NC x).drop 0).take 66 = NC x := by rw [List.drop_zero, List.take_of_length_le (by rw [NC_length]; omega)]
set_option maxRecDepth 100000 in
theorem run_eqF_dnode (x y : Nod) (w : World) {fs : Array Field} (hu : Try.prog.underlying 47 = some (.struct fs)) : (Op.eqFields 9999 (NC x).toArray (NC y).toArray fs.toList).run Try.prog w = .ok (eqNod x y) w := by
  rw [Try.underlying47] at hu
  cases hu
  rw [Op.eqFields, if_pos (by decide)]
  simp only [Sem.run_bind, run_part_agg Try.underlying45 rfl size66 (NC x) _ (NC_whole x), run_part_agg Try.underlying45 rfl size66 (NC y) _ (NC_whole y), Result.andThen_ok]
  rw [run_eqIn_s Try.underlying45 (by kernel_rfl) 9998, run_eqF_nodD 9996 x y w Try.underlying45]
  cases eqNod x y <;> simp [Op.eqFields]
theorem eqg_dnode : Try.prog.eqGuardType Try.prog.depth 47 = false := by kernel_rfl
@[go_sem high] theorem eqGuard_dnode (op : BinOp) (x y : Operand) (xs ys : Array Value) (w : World) : (eqGuard op 47 x y (.agg xs) (.agg ys)).run Try.prog w = .ok () w := run_eqGuard_agg w op _ x y xs ys eqg_dnode
set_option maxRecDepth 100000 in
@[go_sem high] theorem run_eql_dnode (x y : Nod) (w : World) : (binOp .eql 47 (.agg (NC x).toArray) (.agg (NC y).toArray)).run Try.prog w = .ok (.bool (eqNod x y)) w := by
  rw [run_eql_s Try.underlying47 (by kernel_rfl), run_eqF_dnode x y w Try.underlying47]
  rfl
theorem either_empty {s : ByteArray} (i : UInt64) (h : s.toList.isEmpty = true) : byEither s i = byId i := by
  funext x
  rw [byEither, if_pos h]
theorem either_name {s : ByteArray} (i : UInt64) (h : s.toList.isEmpty = false) : byEither s i = byName s := by
  funext x
  rw [byEither, if_neg (by rw [h]; decide)]
/-- In a checked directory no name is empty. -/
theorem find_empty {xs : List Nod} {s : ByteArray} (h : s.toList.isEmpty = true) : findN (byName s) xs = (nod0, if checkN xs = 0 then 4 else checkN xs) := by
  rw [findN]
  by_cases hc : checkN xs = 0
  · rw [if_pos hc, if_pos hc]
    refine find_not fun j hj => ?_
    cases e : byName s (xs.getD j nod0)
    · rfl
    · exfalso
      rw [byName, beq_iff_eq] at e
      have hb : badN (xs.getD j nod0) = true := by
        rw [badN, Bool.or_eq_true]
        refine .inr ?_
        rw [okName_len (.inl ?_)]
        · rfl
        · have h2 : (xs.getD j nod0).nm.toList.length = 0 := by rw [e, List.isEmpty_iff.1 h]; rfl
          rw [ByteArray.toList_eq] at h2
          have h3 : (xs.getD j nod0).nm.size = 0 := by simpa using h2
          omega
      rw [checkN] at hc
      split at hc
      · omega
      · rw [if_pos (any_true hj hb)] at hc
        omega
  · rw [if_neg hc, if_neg hc]
set_option maxRecDepth 100000 in
set_option maxHeartbeats 4000000 in
theorem dirFinds_walk (A : Option Addr) (n c : Nat) (xs : List Nod) (s : ByteArray) (i : UInt64) (w : World) (hx : RdN w A n xs) (hn : n ≤ 1048576) (hs : ∀ x ∈ xs, x.nm.size ≤ 1048576) :
    Calls Try.prog 5 #[.slice A n c, .string s, W64 i] w fun e w' => e = .returned (.bool true) ∧ Later w w' := by
  have hs' : ∀ x ∈ xs, x.nm.size ≤ 140737488355328 := fun x h => Nat.le_trans (hs x h) (by omega)
  have hl0 := hx.1
  have hAt := hid (fun A c w h => dat_any A n c xs i w h (by omega) hs')
  have hFi := hid (fun A c w h => dfind_any A n c xs s w h (by omega) hs')
  have hR1 := hid (fun w h => dfind_ref A n c xs ⟨#[]⟩ i w h (by omega) hs')
  have hR2 := hid (fun w h => dfind_ref A n c xs s 0 w h (by omega) hs')
  have hCk := hid (fun w h => dcheck_ref A n c xs w h (by omega) hs')
  rw [either_empty (s := ⟨#[]⟩) i (by rw [ByteArray.toList_eq]; rfl)] at hR1
  generalize hf1 : findN (byId i) xs = f1 at *
  clear hf1
  obtain ⟨x1, e1⟩ := f1
  simp only at hAt hR1
  have hself1 := eqNod_self x1
  go_enter Try.func5, Try.ntmps5
  go_wp2_with fail
  refine (awake09 _).mono ?_
  rintro e w1 ⟨rfl, L⟩
  go_wp2_with fail
  refine (ntwin_any A n c xs _ (hx.later L) (by omega)).mono ?_
  rintro e w2 ⟨A2, c2, rfl, o2, l2⟩
  have r2 : RdN w2 A2 n xs := own_rdF NC_length o2 hl0
  replace L := L.trans l2
  clear o2 l2
  go_wp2_with fail
  refine (hAt.out A2 c2 _ r2).mono ?_
  rintro e w3 ⟨rfl, l3⟩
  replace L := L.trans l3
  clear l3 r2
  go_wp2_with (first
    | (refine store_nod size66d rfl rfl _ _ rfl (Blk.new w3 _ (NC nod0)) rfl rfl (NC_length _) ?_; intro w4 hb4 ho4)
    | fail)
  have g7 : w.heap.size ≤ w3.heap.size := L.size
  replace L := (L.trans (later_alloc _ _)).only ho4 g7
  clear ho4
  generalize w3.heap.size = g at *
  refine (hR1.out _ (hx.later L)).mono ?_
  rintro e w5 ⟨rfl, l5⟩
  replace hb4 := hb4.later l5
  replace L := L.trans l5
  clear l5
  go_wp2_with (first
    | (refine store_nod size66 rfl rfl _ _ rfl (Blk.new w5 _ (NC nod0)) rfl rfl (NC_length _) ?_; intro w6 hb6 ho6; have hb46 := (hb4.later (later_alloc _ _)).only ho6 (by have := hb4.lt; omega))
    | (refine load_nod rfl _ rfl (blk_cells hb46) rfl ?_)
    | (refine load_nod rfl _ rfl (blk_cells hb6) rfl ?_)
    | fail)
  have hb7 := hb46
  have g9 : w.heap.size ≤ w5.heap.size := L.size
  replace L := (L.trans (later_alloc _ _)).only ho6 g9
  have hg79 : g ≠ w5.heap.size := by have := hb4.lt; omega
  clear ho6 hb46 hb4
  generalize w5.heap.size = g' at *
  refine (ntwin_any A n c xs _ (hx.later L) (by omega)).mono ?_
  rintro e w7 ⟨A7, c7, rfl, o7, l7⟩
  have r7 : RdN w7 A7 n xs := own_rdF NC_length o7 hl0
  replace L := L.trans l7
  replace hb7 := hb7.later l7
  replace hb6 := hb6.later l7
  clear o7 l7
  go_wp2_with fail
  refine (hFi.out A7 c7 _ r7).mono ?_
  rintro e w8 ⟨rfl, l8⟩
  replace L := L.trans l8
  replace hb7 := hb7.later l8
  replace hb6 := hb6.later l8
  clear l8 r7
  have hemp := hid (fun h => find_empty (xs := xs) (s := s) h)
  cases he : s.toList.isEmpty
  · rw [either_name 0 he] at hR2
    generalize findN (byName s) xs = f2 at *
    obtain ⟨x2, e2⟩ := f2
    simp only at hR2
    have hself2 := eqNod_self x2
    clear hemp
    go_wp2_with (first
      | (refine store_nod size66d rfl rfl _ _ rfl hb7 rfl rfl (NC_length _) ?_; intro w9 hb9 ho9)
      | fail)
    replace L := L.only ho9 g7
    replace hb6 := hb6.only ho9 (fun e => hg79 e.symm)
    refine (hR2.out _ (hx.later L)).mono ?_
    rintro e w10 ⟨rfl, l10⟩
    replace L := L.trans l10
    replace hb9 := hb9.later l10
    replace hb6 := hb6.later l10
    go_wp2_with (first
      | (refine store_nod size66 rfl rfl _ _ rfl hb6 rfl rfl (NC_length _) ?_; intro w11 hb11 ho11)
      | fail)
    replace L := L.only ho11 g9
    replace hb9 := hb9.only ho11 hg79
    go_wp2_with fail
    have hg9 : g < w11.drew.heap.size := hb9.lt
    have hg11 : g' < w11.drew.heap.size := hb11.lt
    refine wp_region_parts [([0, 1, 2, 3, 4, 5, 6, 7, 8, 9, 10, 12, 13], 11), ([], 14), ([15, 16, 17, 19, 20], 18), ([], 21)] [22, 23] [] (by as_aux_lemma => kernel_rfl) (by as_aux_lemma => kernel_rfl) (by intro _ _ d _ _ h; cases d <;> exact h) ?_
    simp only [wpParts, pick, List.getElem?_cons_succ, List.getElem?_cons_zero, Option.toList_some, List.cons_append, List.nil_append]
    repeat (first | go_big_quiet_skip | (go_big_quiet_want; (first | refine quiet_nod _ rfl (blk_cells hb9.drew) hg9 rfl ?_ | refine quiet_nod _ rfl (blk_cells hb11.drew) hg11 rfl ?_ | refine quiet_dnode _ rfl (blk_cells hb9.drew) hg9 rfl ?_); simp only [Act.put, List.setIfInBounds_toArray, List.set_cons_succ, List.set_cons_zero]; go_big_quiet_on) | (go_big_quiet_step (fail)))
    refine wpQuiet_nil ?_
    replace hb9 := hb9.drew
    replace hb11 := hb11.drew
    replace L := L.drew
    clear hg9 hg11
    go_wp2_with fail
    refine (nodePublic_any x2 _).mono ?_
    rintro e w12 ⟨g12, rfl, _, hp12, l12⟩
    replace hb9 := hb9.later l12
    replace hb11 := hb11.later l12
    replace L := L.trans l12
    go_wp2_with fail
    try refine ⟨by first | assumption | exact later_drew _ | exact later_alloc _ _ | exact Later.refl _, ?_⟩
    try simp only [wpParts, pick, List.getElem?_cons_succ, List.getElem?_cons_zero, Option.toList_some, List.cons_append, List.nil_append]
    repeat (first | go_big_quiet_skip | (go_big_quiet_want; (first | refine quiet_nod _ rfl (blk_cells hb9) hb9.lt rfl ?_ | refine quiet_nod _ rfl (blk_cells hb11) hb11.lt rfl ?_ | refine quiet_dnode _ rfl (blk_cells hb9) hb9.lt rfl ?_); simp only [Act.put, List.setIfInBounds_toArray, List.set_cons_succ, List.set_cons_zero]; go_big_quiet_on) | (go_big_quiet_step (fail)))
    refine wpQuiet_nil ?_
    go_wp2_with fail
    refine (equal_any (some ⟨g12, 0, none⟩) (some ⟨g', 34, none⟩) 32 32 32 32 x2.pub.val x2.pub.val _ (blk_rdB hp12 x2.pub.2) (rdB_cells hb11.lt (fun j v hv => hb11.cellD _ (NC_pub x2 hv)) x2.pub.2) (by omega) (by omega)).mono ?_
    rintro e w13 ⟨rfl, l13⟩
    replace hb9 := hb9.later l13
    replace hb11 := hb11.later l13
    replace L := L.trans l13
    go_wp2_with fail
    try refine ⟨by first | assumption | exact later_drew _ | exact later_alloc _ _ | exact Later.refl _, ?_⟩
    try simp only [wpParts, pick, List.getElem?_cons_succ, List.getElem?_cons_zero, Option.toList_some, List.cons_append, List.nil_append]
    repeat (first | go_big_quiet_skip | (go_big_quiet_want; (first | refine quiet_nod _ rfl (blk_cells hb9) hb9.lt rfl ?_ | refine quiet_nod _ rfl (blk_cells hb11) hb11.lt rfl ?_ | refine quiet_dnode _ rfl (blk_cells hb9) hb9.lt rfl ?_); simp only [Act.put, List.setIfInBounds_toArray, List.set_cons_succ, List.set_cons_zero]; go_big_quiet_on) | (go_big_quiet_step (fail)))
    refine wpQuiet_nil ?_
    go_wp2_with fail
    refine (nodePrivate_any x2 _).mono ?_
    rintro e w14 ⟨g14, rfl, _, hp14, l14⟩
    replace hb9 := hb9.later l14
    replace hb11 := hb11.later l14
    replace L := L.trans l14
    go_wp2_with fail
    try refine ⟨by first | assumption | exact later_drew _ | exact later_alloc _ _ | exact Later.refl _, ?_⟩
    try simp only [wpParts, pick, List.getElem?_cons_succ, List.getElem?_cons_zero, Option.toList_some, List.cons_append, List.nil_append]
    repeat (first | go_big_quiet_skip | (go_big_quiet_want; (first | refine quiet_nod _ rfl (blk_cells hb9) hb9.lt rfl ?_ | refine quiet_nod _ rfl (blk_cells hb11) hb11.lt rfl ?_ | refine quiet_dnode _ rfl (blk_cells hb9) hb9.lt rfl ?_); simp only [Act.put, List.setIfInBounds_toArray, List.set_cons_succ, List.set_cons_zero]; go_big_quiet_on) | (go_big_quiet_step (fail)))
    refine wpQuiet_nil ?_
    go_wp2_with fail
    refine (equal_any (some ⟨g14, 0, none⟩) (some ⟨g', 2, none⟩) 32 32 32 32 x2.priv.val x2.priv.val _ (blk_rdB hp14 x2.priv.2) (rdB_cells hb11.lt (fun j v hv => hb11.cellD _ (NC_priv x2 hv)) x2.priv.2) (by omega) (by omega)).mono ?_
    rintro e w15 ⟨rfl, l15⟩
    replace L := L.trans l15
    go_wp2_with fail
    try refine ⟨by first | assumption | exact later_drew _ | exact later_alloc _ _ | exact Later.refl _, ?_⟩
    try simp only [wpParts, pick, List.getElem?_cons_succ, List.getElem?_cons_zero, Option.toList_some, List.cons_append, List.nil_append]
    repeat (go_big_quiet_step (fail))
    refine wpQuiet_nil ?_
    go_wp2
    go_ret
    exact ⟨rfl, L⟩
  · have hres := hemp.out he
    clear hemp hR2
    have hself0 := eqNod_self nod0
    by_cases hc : checkN xs = 0
    · rw [if_pos hc] at hres
      rw [hres]
      rw [hc] at hCk
      clear hc hres
      go_wp2_with (first
        | (refine store_nod size66d rfl rfl _ _ rfl hb7 rfl rfl (NC_length _) ?_; intro w9 hb9 ho9)
        | fail)
      replace L := L.only ho9 g7
      refine (hCk.out _ (hx.later L)).mono ?_
      rintro e w10 ⟨rfl, l10⟩
      replace L := L.trans l10
      replace hb9 := hb9.later l10
      go_wp2_with (first
        | (refine load_dnode rfl _ rfl (blk_cells hb9) rfl ?_)
        | (refine wpList_build_w rfl _ _ rfl (NC nod0) (by simp only [List.map_toArray, List.map_nil]; exact built_dnode0) ?_)
        | fail)
      go_ret
      exact ⟨rfl, L⟩
    · rw [if_neg hc] at hres
      rw [hres]
      have hcb : ((checkN xs : Int) == 0) = false := by simpa using hc
      clear hc hres
      generalize checkN xs = E at *
      go_wp2_with (first
        | (refine store_nod size66d rfl rfl _ _ rfl hb7 rfl rfl (NC_length _) ?_; intro w9 hb9 ho9)
        | fail)
      replace L := L.only ho9 g7
      refine (hCk.out _ (hx.later L)).mono ?_
      rintro e w10 ⟨rfl, l10⟩
      replace L := L.trans l10
      replace hb9 := hb9.later l10
      go_wp2_with (first
        | (refine load_dnode rfl _ rfl (blk_cells hb9) rfl ?_)
        | (refine wpList_build_w rfl _ _ rfl (NC nod0) (by simp only [List.map_toArray, List.map_nil]; exact built_dnode0) ?_)
        | fail)
      go_ret
      exact ⟨rfl, L⟩
theorem dirFinds_all (A : Option Addr) (n c : Nat) (xs : List Nod) (s : ByteArray) (a : Int) (w : World) (hx : RdN w A n xs) (hn : n ≤ 1048576) (hs : ∀ x ∈ xs, x.nm.size ≤ 1048576) (ha : (Lit.int .u64 a).wf = true) :
    Calls Try.prog 5 #[.slice A n c, .string s, .int .u64 a] w fun e w' => e = .returned (.bool true) ∧ Later w w' := by
  have hr : 0 ≤ a ∧ a ≤ 18446744073709551615 := by simpa [Lit.wf, IntKind.min, IntKind.max, IntKind.signed, IntKind.bits] using ha
  rw [lit_w64 a hr.1 (by omega)]
  exact dirFinds_walk A n c xs s _ w hx hn hs
end Go.Proofs.Ytallecbmnpcepaa
