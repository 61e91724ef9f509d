/-
  The law DirRoutes: its walk.
-/
import Derived.Test.YtallecbmnpcepaaDirD
import Derived.Test.YtallecbmnpcepaaDirR
namespace Go.Proofs.Ytallecbmnpcepaa
open Go.RowKit
open Go.BigFrame

theorem infoSt : (Try.prog.info? 62).map (fun i => (i.zero, i.size, i.bytes)) = some (some (.agg (SC stp0).toArray), 3, 32) := by kernel_rfl
section
variable {ops : Array Oper} {rest : List Oper} {o : Oper} {a : Act} {w : World} {Q : Exit → Act → World → Prop}
theorem load_hop (hgd : Region.wanted o (yielded ops a.tmps) = true) (x : Operand) (ho : o.op = .load 66 x) {g off : Nat} {y : Hp} (hc : ∀ i v, (HC y)[i]? = some v → w.cell? ⟨g, off + i, none⟩ = some v) (hx : a.eval x = .pointer (some ⟨g, off, none⟩))
    (h : wpList Try.prog ops Q rest (a.put o.dst (.agg (HC y).toArray)) w) : wpList Try.prog ops Q (o :: rest) a w :=
  wpList_load_at hgd _ x ho g off _ hc hx _ Try.underlying66 rfl (by rw [HC_length]; exact sizeH) h
theorem store_hop (hgd : o.guard = none) (hd : o.dst = none) (x y : Operand) (ho : o.op = .store 66 x y) {g : Nat} {t : TypeId} {l : List Value} {z : Hp} (hg : Blk w g t l) (hx : a.eval x = .pointer (some ⟨g, 0, none⟩)) (hy : a.eval y = .agg (HC z).toArray) (hl : l.length = 68)
    (h : ∀ w', Blk w' g t (HC z) → Only g w w' → wpList Try.prog ops Q rest a w') : wpList Try.prog ops Q (o :: rest) a w :=
  wpList_store_blk hgd hd _ x y ho g t l _ hg hx hy 68 sizeH (HC_length _) hl (HC_one _) h
end
theorem hop_cells {w : World} {g : Nat} {t : TypeId} {y : Hp} (h : Blk w g t (HC y)) : ∀ i v, (NC y.nod)[i]? = some v → w.cell? ⟨g, 0 + i, none⟩ = some v := fun i v hv => by
  rw [Nat.zero_add]
  exact h.cellD i (HC_nod y hv)
theorem routeE_ok {xs : List Nod} {ts : List Stp} (h : routeE xs ts = 0) : ts.length ≤ 5 ∧ (∀ k, k < ts.length → badS (ts.getD k stp0) = false) ∧ ∀ k, k < ts.length → missN xs (ts.getD k stp0) = false := by
  rw [routeE] at h
  split at h
  · omega
  · rename_i h1
    split at h
    · omega
    · rename_i h2
      split at h
      · rename_i h3
        exact absurd h h3
      · split at h
        · omega
        · rename_i h4
          refine ⟨by omega, fun k hk => ?_, fun k hk => ?_⟩
          · cases e : badS (ts.getD k stp0)
            · rfl
            · exact absurd (anyS_true hk e) h1
          · cases e : missN xs (ts.getD k stp0)
            · rfl
            · exact absurd (anyS_true hk e) h4
theorem routeL_getD (xs : List Nod) (ts : List Stp) (k : Nat) (h : k < ts.length) : (routeL xs ts).getD k hp0 = hopOf xs (ts.getD k stp0) := by
  rw [routeL, List.getD_eq_getElem?_getD, List.getElem?_map, List.getD_eq_getElem?_getD, List.getElem?_eq_getElem h]
  rfl
theorem hop_name {xs : List Nod} {t : Stp} (h : missN xs t = false) : (hopOf xs t).nod.nm.toList = t.nm.toList := by
  rw [missN] at h
  rw [hopOf]
  unfold findBy at h ⊢
  cases e : xs.find? (byName t.nm) with
  | none => rw [e] at h; simp at h
  | some x =>
    have := List.find?_some e
    rw [byName, beq_iff_eq] at this
    exact this
theorem hop_delay {xs : List Nod} {ts : List Stp} (h : routeE xs ts = 0) : ∀ x ∈ routeL xs ts, 0 ≤ x.delay ∧ x.delay ≤ 1000000 := by
  intro x hx
  obtain ⟨t, ht, rfl⟩ := List.mem_map.1 hx
  obtain ⟨k, hk, rfl⟩ := List.getElem_of_mem ht
  have hb := (routeE_ok h).2.1 k hk
  rw [List.getD_eq_getElem?_getD, List.getElem?_eq_getElem hk] at hb
  have hb' : badS ts[k] = false := hb
  have hn : ¬ (ts[k].delay < 0 ∨ 1000000 < ts[k].delay ∨ ts[k].flags < 0 ∨ 255 < ts[k].flags) := fun hh => absurd hb' (by rw [(badS_iff _).2 hh]; decide)
  show 0 ≤ ts[k].delay ∧ ts[k].delay ≤ 1000000
  omega
set_option maxRecDepth 100000 in
set_option maxHeartbeats 16000000 in
theorem dirRoutes_walk (A B : Option Addr) (n c m d : Nat) (xs : List Nod) (ts : List Stp) (w : World) (hx : RdN w A n xs) (hn : n ≤ 1048576) (hs : ∀ x ∈ xs, x.nm.size ≤ 1048576) (ht : RdS w B m ts) (hm : m ≤ 1048576) :
    Calls Try.prog 7 #[.slice A n c, .slice B m d] w fun e w' => e = .returned (.bool true) ∧ Later w w' := by
  have hs' : ∀ x ∈ xs, x.nm.size ≤ 140737488355328 := fun x h => Nat.le_trans (hs x h) (by omega)
  have hl0 := hx.1
  have hml := ht.1
  go_enter Try.func7, Try.ntmps7
  go_wp2_with fail
  refine (awake09 _).mono ?_
  rintro e w1 ⟨rfl, L⟩
  go_wp2_with fail
  refine (ntwin_any A n c xs _ (hx.later L) (by omega)).mono ?_
  rintro e w2 ⟨A2, c2, rfl, o2, l2⟩
  have r2 : RdN w2 A2 n xs := own_rdF NC_length o2 hl0
  replace L := L.trans l2
  clear o2 l2
  go_wp2_with (first
    | (refine wpList_append_f SC_length SC_one (by omega) rfl _ _ _ rfl 62 _ 32 Try.underlying69 infoSt rfl w2 _ 0 [] (own_of_blk0 (Blk.new w2 _ []) (Nat.le_refl _)) (later_alloc _ _) B m d ts (ht.later (L.alloc _)) rfl rfl (by omega) (by omega) ?_; intro A3 c3 w3 hown3 hl3 _; rw [Nat.zero_add, List.nil_append] at hown3)
    | fail)
  have r3 : RdS w3 A3 m ts := own_rdF SC_length hown3 hml
  refine (droute_any A2 A3 n c2 _ c3 xs ts _ (r2.later hl3) (by omega) hs' (by simpa using r3) (by omega)).mono ?_
  rintro e w4 ⟨v4, rfl, hbad4, hok4, l4⟩
  replace L := (L.trans hl3).trans l4
  clear r2 r3 hown3
  go_wp2_with fail
  refine (droute_ref A B n c m d xs ts _ (hx.later L) (by omega) hs' (ht.later L) (by omega)).mono ?_
  rintro e w5 ⟨v5, rfl, hbad5, hok5, l5⟩
  replace L := L.trans l5
  obtain ⟨k, zs, A4, c4, A5, c5, rfl, rfl, r4, r5, hk5, hkm, hnm, hdl⟩ : ∃ k zs A4 c4 A5 c5, v4 = .slice A4 k c4 ∧ v5 = .slice A5 k c5 ∧ RdH w5 A4 k zs ∧ RdH w5 A5 k zs ∧ k ≤ 5 ∧ k ≤ m ∧ (∀ j, j < k → (zs.getD j hp0).nod.nm.toList = (ts.getD j stp0).nm.toList) ∧ ∀ x ∈ zs, 0 ≤ x.delay ∧ x.delay ≤ 1000000 := by
    by_cases hE : routeE xs ts = 0
    · obtain ⟨g, rfl, _, hN⟩ := hok4 hE
      obtain ⟨A5, c5, rfl, hR⟩ := hok5 hE
      have h5 := routeE_ok hE
      refine ⟨_, routeL xs ts, _, _, _, _, rfl, rfl, blk_rdF HC_length (hN.later l5) (by rw [routeL, List.length_map]; simpa using hml), by simpa using hR, by omega, by omega, fun j hj => ?_, hop_delay hE⟩
      rw [routeL_getD _ _ _ (by omega)]
      exact hop_name (h5.2.2 j (by omega))
    · obtain rfl := hbad4 hE
      obtain rfl := hbad5 hE
      exact ⟨0, [], _, _, _, _, rfl, rfl, rdF_none _, rdF_none _, by omega, by omega, fun j hj => absurd hj (by omega), by simp⟩
  have hzl := r4.1
  have hP := hid (fun w h => dpublics_any A4 k c4 zs w h (by omega))
  have hT := hid (fun w h => dtotal_any A4 k c4 zs w h (by omega) hdl)
  have hsm := hid (sumD_le zs hdl)
  clear hbad4 hbad5 hok4 hok5 hdl
  generalize routeE xs ts = E at *
  go_wp2_with fail
  refine (hP.out _ r4).mono ?_
  rintro e w6 ⟨gp, gs, rfl, _, hbp, hgl, hgs, _, l6⟩
  replace L := L.trans l6
  replace r4 := r4.later l6
  replace r5 := r5.later l6
  replace ht := ht.later L
  have hgs' := hid hgs
  have hnm' := hid hnm
  clear l6 hP hgs hnm l5 l4 hl3 hx
  go_wp2
  go_loopw [10, 49] (fun s i wr => ∃ j : Nat, i = .int .i64 j ∧ j ≤ k ∧ s = .int .i64 (sumD (zs.take j)) ∧ Later w6 wr) (fun _ i _ => k - (intOf i).toNat)
  case atStart => exact ⟨0, rfl, by omega, rfl, Later.refl _⟩
  case round =>
    obtain ⟨j, rfl, hj, rfl, l7⟩ := hrel
    by_cases hlt : j < k
    · obtain ⟨b, o, rfl, hbb, hc⟩ := (r4.later l7).at_ hlt
      obtain ⟨b5, o5, rfl, hb5', hc5'⟩ := r5.at_ hlt
      obtain ⟨bs, os, rfl, hbs', hcs'⟩ := ht.at_ (show j < m by omega)
      have hnmj' := hid (hnm'.out j hlt)
      obtain ⟨bj, hbj⟩ : ∃ bj, gs[j]? = some bj := ⟨_, List.getElem?_eq_getElem (by omega)⟩
      obtain ⟨hbjl, hBj⟩ := hgs'.out j bj hbj
      have hpc := hid (show ∀ w, Blk w gp 33 (gs.map S32) → w.cell? ⟨gp, j, none⟩ = some (.slice (some ⟨bj, 0, none⟩) 32 32) from fun w h => h.cellD j (by rw [List.getElem?_map, hbj]; rfl))
      have hsum := hsm.out (j + 1) (by omega)
      have hst := hid (sumD_take zs j (by omega))
      rw [hst.out] at hsum
      have hw : IntKind.i64.wrap (sumD (zs.take j) + (zs.getD j hp0).delay) = sumD (zs.take j) + (zs.getD j hp0).delay := by rw [IntKind.wrap_i64]; omega
      clear hsum hbj
      generalize zs.getD j hp0 = z at *
      have s00 : w6.cell? ⟨bs, os + j * 3, none⟩ = some (.string (ts.getD j stp0).nm) := hcs' 0 _ rfl
      generalize (ts.getD j stp0).nm = tn at *
      generalize sumD (zs.take j) = sm at *
      clear hcs'
      go_wp2_with (first
        | (refine load_hop rfl _ rfl hc rfl ?_)
        | (refine store_hop rfl rfl _ _ rfl (Blk.new wr _ (HC hp0)) rfl rfl (HC_length _) ?_; intro w8 hb8 ho8)
        | fail)
      have L8 : Later w6 w8.drew := ((l7.trans (later_alloc wr _)).only ho8 l7.size).drew
      have hgb : w6.heap.size ≤ wr.heap.size := l7.size
      replace hb8 := hb8.drew
      clear ho8 hc hbb
      generalize wr.heap.size = gb at *
      have hb5 : b5 < w8.drew.heap.size := Nat.lt_of_lt_of_le hb5' L8.size
      have hc5 := fun i v hv => (L8.below.cell (p := ⟨b5, o5 + j * 68 + i, none⟩) hb5').trans (hc5' i v hv)
      have hnmj := hnmj'.out
      replace hBj := hBj.later L8
      have hbp8 := hbp.later L8
      have s0 := (L8.below.cell (p := ⟨bs, os + j * 3, none⟩) hbs').trans s00
      clear s00
      have hcn5 : ∀ i v, (NC z.nod)[i]? = some v → w8.drew.cell? ⟨b5, o5 + j * 68 + i, none⟩ = some v := fun i v hv => hc5 i v (HC_nod _ hv)
      have q1 : w8.drew.cell? ⟨b5, o5 + j * 68 + 1, none⟩ = some (W64 z.nod.id) := hcn5 1 _ rfl
      have q66 : w8.drew.cell? ⟨b5, o5 + j * 68 + 66, none⟩ = some (.int .i64 z.delay) := hc5 66 _ (HC_delay z)
      have q67 : w8.drew.cell? ⟨b5, o5 + j * 68 + 67, none⟩ = some (.int .i64 z.flags) := hc5 67 _ (HC_flags z)
      have f0 : w8.drew.cell? ⟨gb, 0, none⟩ = some (.string z.nod.nm) := hb8.cellD 0 (HC_nod z (i := 0) rfl)
      have f1 : w8.drew.cell? ⟨gb, 1, none⟩ = some (W64 z.nod.id) := hb8.cellD 1 (HC_nod z (i := 1) rfl)
      have f66 : w8.drew.cell? ⟨gb, 66, none⟩ = some (.int .i64 z.delay) := hb8.cellD 66 (HC_delay z)
      have f67 : w8.drew.cell? ⟨gb, 67, none⟩ = some (.int .i64 z.flags) := hb8.cellD 67 (HC_flags z)
      have hself := eqNod_self z.nod
      have hbq : (z.nod.nm.toList == tn.toList) = true := by rw [hnmj]; simp
      clear hc5
      go_wp2_with fail
      refine wp_region_parts [] [0, 1, 2, 3, 4, 5, 6, 7, 8, 9, 10, 11, 12, 13, 14, 15, 16, 17, 18, 19, 20, 21, 22, 23, 24, 25, 26, 27, 28, 29, 30, 31, 32, 33, 34, 35, 36, 37, 38, 39, 40, 41, 42, 43, 44, 45, 46, 47, 48, 49, 50, 51, 52, 53] [] (by as_aux_lemma => kernel_rfl) (by as_aux_lemma => kernel_rfl) (by intro _ _ d _ _ h; cases d <;> exact h) ?_
      simp only [wpParts, pick, List.getElem?_cons_succ, List.getElem?_cons_zero, Option.toList_some, List.cons_append, List.nil_append]
      repeat (first | go_big_quiet_skip | (go_big_quiet_want; (first | refine quiet_nod _ rfl (hop_cells hb8) hb8.lt rfl ?_ | refine quiet_nod _ rfl hcn5 hb5 rfl ?_ | refine quiet_dnode _ rfl (hop_cells hb8) hb8.lt rfl ?_); simp only [Act.put, List.setIfInBounds_toArray, List.set_cons_succ, List.set_cons_zero]; go_big_quiet_on) | (go_big_quiet_step (fail)))
      refine wpQuiet_nil ?_
      clear q1 q66 q67 f0 f1 f66 f67 s0 hbq hself hnmj
      have hcn6 := fun i v hv => (((later_drew w8.drew).below.cell (p := ⟨b5, o5 + j * 68 + i, none⟩) hb5)).trans (hcn5 i v hv)
      replace hb8 := hb8.drew
      replace hBj := hBj.drew
      replace hbp8 := hbp8.drew
      replace L8 := L8.drew
      have hb56 : b5 < w8.drew.drew.heap.size := hb5
      clear hcn5 hb5
      go_wp2_with fail
      refine wp_region_parts [([0, 1, 3, 4, 5, 6, 7, 8], 2), ([], 9), ([10, 11, 12, 13, 14, 15, 16, 17, 18, 19], 20), ([21, 22, 23, 24, 25, 27, 28, 29, 30], 26), ([], 31)] [32, 33] [] (by as_aux_lemma => kernel_rfl) (by as_aux_lemma => kernel_rfl) (by intro _ _ d _ _ h; cases d <;> exact h) ?_
      simp only [wpParts, pick, List.getElem?_cons_succ, List.getElem?_cons_zero, Option.toList_some, List.cons_append, List.nil_append]
      repeat (first | go_big_quiet_skip | (go_big_quiet_want; (first | refine quiet_dnode _ rfl (hop_cells hb8) hb8.lt rfl ?_ | refine quiet_nod _ rfl (hop_cells hb8) hb8.lt rfl ?_); simp only [Act.put, List.setIfInBounds_toArray, List.set_cons_succ, List.set_cons_zero]; go_big_quiet_on) | (go_big_quiet_step (fail)))
      refine wpQuiet_nil ?_
      replace hb8 := hb8.drew
      replace hBj := hBj.drew
      replace hbp8 := hbp8.drew
      replace L8 := L8.drew
      have hrd5 : RdB w8.drew.drew.drew (some ⟨b5, o5 + j * 68 + 34, none⟩) 32 z.nod.pub.val := rdB_cells hb56 (fun q v hv => by rw [Nat.add_assoc _ 34 q]; exact hcn6 _ _ (NC_pub _ hv)) z.nod.pub.2
      go_wp2_with fail
      refine (nodePublic_any z.nod _).mono ?_
      rintro e w9 ⟨g9, rfl, _, hp9, l9⟩
      replace hb8 := hb8.later l9
      replace hBj := hBj.later l9
      replace hbp8 := hbp8.later l9
      replace L8 := L8.trans l9
      replace hrd5 := hrd5.later l9
      go_wp2_with fail
      try refine ⟨by first | assumption | exact later_drew _ | exact later_alloc _ _ | exact Later.refl _, ?_⟩
      try simp only [wpParts, pick, List.getElem?_cons_succ, List.getElem?_cons_zero, Option.toList_some, List.cons_append, List.nil_append]
      repeat (go_big_quiet_step (fail))
      refine wpQuiet_nil ?_
      go_wp2_with fail
      refine (equal_any (some ⟨g9, 0, none⟩) (some ⟨b5, o5 + j * 68 + 34, none⟩) 32 32 32 32 z.nod.pub.val z.nod.pub.val _ (blk_rdB hp9 z.nod.pub.2) hrd5 (by omega) (by omega)).mono ?_
      rintro e w10 ⟨rfl, l10⟩
      replace hb8 := hb8.later l10
      replace hBj := hBj.later l10
      replace hbp8 := hbp8.later l10
      replace L8 := L8.trans l10
      have p10 := hpc.out _ hbp8
      go_wp2_with fail
      try refine ⟨by first | assumption | exact later_drew _ | exact later_alloc _ _ | exact Later.refl _, ?_⟩
      try simp only [wpParts, pick, List.getElem?_cons_succ, List.getElem?_cons_zero, Option.toList_some, List.cons_append, List.nil_append]
      repeat (first | go_big_quiet_skip | (go_big_quiet_want; (first | refine quiet_dnode _ rfl (hop_cells hb8) hb8.lt rfl ?_ | refine quiet_nod _ rfl (hop_cells hb8) hb8.lt rfl ?_); simp only [Act.put, List.setIfInBounds_toArray, List.set_cons_succ, List.set_cons_zero]; go_big_quiet_on) | (go_big_quiet_step (fail)))
      refine wpQuiet_nil ?_
      go_wp2_with fail
      refine (equal_any (some ⟨bj, 0, none⟩) (some ⟨gb, 34, none⟩) 32 32 32 32 z.nod.pub.val z.nod.pub.val _ (blk_rdB hBj z.nod.pub.2) (rdB_cells hb8.lt (fun j v hv => hb8.cellD _ (HC_nod z (NC_pub _ hv))) z.nod.pub.2) (by omega) (by omega)).mono ?_
      rintro e w11 ⟨rfl, l11⟩
      replace hb8 := hb8.later l11
      replace L8 := L8.trans l11
      clear p10
      go_wp2_with fail
      try refine ⟨by first | assumption | exact later_drew _ | exact later_alloc _ _ | exact Later.refl _, ?_⟩
      try simp only [wpParts, pick, List.getElem?_cons_succ, List.getElem?_cons_zero, Option.toList_some, List.cons_append, List.nil_append]
      repeat (first | go_big_quiet_skip | (go_big_quiet_want; (first | refine quiet_dnode _ rfl (hop_cells hb8) hb8.lt rfl ?_ | refine quiet_nod _ rfl (hop_cells hb8) hb8.lt rfl ?_); simp only [Act.put, List.setIfInBounds_toArray, List.set_cons_succ, List.set_cons_zero]; go_big_quiet_on) | (go_big_quiet_step (fail)))
      refine wpQuiet_nil ?_
      go_wp2_with fail
      refine (nodePrivate_any z.nod _).mono ?_
      rintro e w12 ⟨g12, rfl, _, hp12, l12⟩
      replace hb8 := hb8.later l12
      replace L8 := L8.trans l12
      go_wp2_with fail
      try refine ⟨by first | assumption | exact later_drew _ | exact later_alloc _ _ | exact Later.refl _, ?_⟩
      try simp only [wpParts, pick, List.getElem?_cons_succ, List.getElem?_cons_zero, Option.toList_some, List.cons_append, List.nil_append]
      repeat (first | go_big_quiet_skip | (go_big_quiet_want; (first | refine quiet_dnode _ rfl (hop_cells hb8) hb8.lt rfl ?_ | refine quiet_nod _ rfl (hop_cells hb8) hb8.lt rfl ?_); simp only [Act.put, List.setIfInBounds_toArray, List.set_cons_succ, List.set_cons_zero]; go_big_quiet_on) | (go_big_quiet_step (fail)))
      refine wpQuiet_nil ?_
      go_wp2_with fail
      refine (equal_any (some ⟨g12, 0, none⟩) (some ⟨gb, 2, none⟩) 32 32 32 32 z.nod.priv.val z.nod.priv.val _ (blk_rdB hp12 z.nod.priv.2) (rdB_cells hb8.lt (fun j v hv => hb8.cellD _ (HC_nod z (NC_priv _ hv))) z.nod.priv.2) (by omega) (by omega)).mono ?_
      rintro e w13 ⟨rfl, l13⟩
      replace hb8 := hb8.later l13
      replace L8 := L8.trans l13
      have f66 : w13.cell? ⟨gb, 66, none⟩ = some (.int .i64 z.delay) := hb8.cellD 66 (HC_delay z)
      go_wp2_with fail
      try refine ⟨by first | assumption | exact later_drew _ | exact later_alloc _ _ | exact Later.refl _, ?_⟩
      try simp only [wpParts, pick, List.getElem?_cons_succ, List.getElem?_cons_zero, Option.toList_some, List.cons_append, List.nil_append]
      repeat (go_big_quiet_step (fail))
      refine wpQuiet_nil ?_
      go_wp2
      exact ⟨⟨j + 1, rfl, by omega, by rw [hst.out], L8⟩, by simp [intOf]; omega⟩
    · obtain rfl : j = k := by omega
      rw [List.take_of_length_le (by omega)]
      go_wp2_with fail
      refine (hT.out _ (r4.later l7)).mono ?_
      rintro e w9 ⟨rfl, l9⟩
      go_wp2
      go_ret
      exact ⟨rfl, (L.trans l7).trans l9⟩
end Go.Proofs.Ytallecbmnpcepaa
