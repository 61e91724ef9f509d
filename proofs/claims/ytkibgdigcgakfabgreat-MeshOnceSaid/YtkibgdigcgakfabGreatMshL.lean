/-
  mesh.Letters.
-/
import Derived.Test.YtkibgdigcgakfabGreatMshS
namespace Go.Proofs.YtkibgdigcgakfabGreat
open Go.RowKit
open Go.BigFrame

theorem AvC_one (x : Arv) (h : x.va.oneCell' = true) : ∀ u ∈ AvC x, u.oneCell' = true := by
  intro u hu
  rcases List.mem_append.1 hu with hu | hu
  · exact PaC_one _ h u hu
  · simp only [List.mem_cons, List.mem_map] at hu
    rcases hu with rfl | rfl | rfl | ⟨b, _, rfl⟩ <;> rfl
theorem size24a : (Tryz.prog.info? 36).map (·.size) = some 24 := by kernel_rfl
theorem zeroAd : (Tryz.prog.info? 66).bind (·.zero) = some (.agg #[W64 0, W64 0]) := by kernel_rfl
theorem size2a : (Tryz.prog.info? 66).map (·.size) = some 2 := by kernel_rfl
theorem built_ad (a b : UInt64) : Tryz.prog.built 66 [(0, W64 a), (1, W64 b)] = some [W64 a, W64 b].toArray := by
  rw [built_struct (zs := [W64 0, W64 0]) (pl := [(0, 1), (1, 1)]) Tryz.underlying66 zeroAd (by kernel_rfl), fill_cons (vs := [W64 a]) (off := 0) rfl rfl (by simp), fill_cons (vs := [W64 b]) (off := 1) rfl rfl (by simp [spliced]), fill_nil]
  rfl
theorem blk_ne {w : World} {g g' : Nat} {t t' : TypeId} {l l' : List Value} (h : Blk w g t l) (h' : Blk w g' t' l') (hne : t ≠ t') : g ≠ g' := by
  rintro rfl
  have := h.symm.trans h'
  simp only [Option.some.injEq, Obj.cells.injEq] at this
  exact hne this.2.1
def pv0 : List Value := List.replicate 16 (.slice none 0 0)
theorem zeroMs : (Tryz.prog.info? 71).bind (·.zero) = some (.agg (MsC 0 [] pv0).toArray) := by kernel_rfl
theorem built_ms (a : UInt64) : Tryz.prog.built 71 [(0, W64 a)] = some (MsC a [] pv0).toArray := by
  rw [built_struct (pl := [(0, 1), (1, 1), (2, 1), (3, 16), (19, 16)]) Tryz.underlying71 zeroMs (by kernel_rfl), fill_cons (vs := [W64 a]) (off := 0) rfl rfl (by rw [MsC_length _ _ _ (by simp [pv0])]; simp), fill_nil]
  rfl
theorem infoLt : (Tryz.prog.info? 40).map (fun i => (i.zero, i.size, i.bytes)) = some (some (.agg (LtC lv0).toArray), 4, 48) := by kernel_rfl
theorem infoLt2 : (Tryz.prog.info? 40).map (fun i => (i.zero, i.size)) = some (some (.agg (LtC lv0).toArray), 4) := by kernel_rfl
theorem infoPa2 : (Tryz.prog.info? 32).map (fun i => (i.zero, i.size)) = some (some (.agg (PaC prt0 (.slice none 0 0)).toArray), 5) := by kernel_rfl
theorem zeroLt : (Tryz.prog.info? 40).bind (·.zero) = some (.agg (LtC lv0).toArray) := by kernel_rfl
theorem built_lt (y : Ltv) : Tryz.prog.built 40 [(0, W64 y.lt.to), (1, W64 y.lt.id), (2, .int .i64 y.lt.tk), (3, .slice y.va y.vn y.vc)] = some (LtC y).toArray := by
  rw [built_struct (pl := [(0, 1), (1, 1), (2, 1), (3, 1)]) Tryz.underlying40 zeroLt (by kernel_rfl), fill_cons (vs := [W64 y.lt.to]) (off := 0) rfl rfl (by simp [LtC]), fill_cons (vs := [W64 y.lt.id]) (off := 1) rfl rfl (by simp [LtC, spliced]),
    fill_cons (vs := [.int .i64 y.lt.tk]) (off := 2) rfl rfl (by simp [LtC, spliced]), fill_cons (vs := [.slice y.va y.vn y.vc]) (off := 3) rfl rfl (by simp [LtC, spliced]), fill_nil]
  rfl
theorem avr_cells {w : World} {g : Nat} {t : TypeId} {ar : Arr} {v : Value} (h : Blk w g t (AvC ⟨ar, v⟩)) : w.cell? ⟨g, 5, none⟩ = some (W8 ar.kd) ∧ w.cell? ⟨g, 6, none⟩ = some (W64 ar.to) ∧ w.cell? ⟨g, 7, none⟩ = some (.int .i64 ar.tk) ∧ w.cell? ⟨g, 0, none⟩ = some (W8 ar.pt.kd) ∧ w.cell? ⟨g, 1, none⟩ = some (W64 ar.pt.id) :=
  ⟨h.cellD 5 rfl, h.cellD 6 rfl, h.cellD 7 rfl, h.cellD 0 rfl, h.cellD 1 rfl⟩
theorem part_cells {w : World} {g : Nat} {t : TypeId} {ar : Arr} {v : Value} (h : Blk w g t (AvC ⟨ar, v⟩)) : ∀ (j : Nat) u, (PaC ar.pt v)[j]? = some u → w.cell? ⟨g, 0 + j, none⟩ = some u := by
  intro j u hu
  rw [Nat.zero_add]
  refine h.cellD j ?_
  have hl := (List.getElem?_eq_some_iff.1 hu).1
  rw [AvC, List.getElem?_append_left hl]
  exact hu
theorem msg_new (w : World) (base : Nat) (id : UInt64) (hb : base ≤ w.heap.size) : MsgAt (w.alloc (.cells (MsC id [] pv0).toArray 71)) base w.heap.size id [] pv0 := by
  refine ⟨Blk.new w _ _, hb, by simp [pv0], fun i v hv => .inl ⟨?_, rfl⟩⟩
  rw [pv0, List.getElem?_replicate] at hv
  split at hv
  · exact (Option.some.inj hv).symm
  · cases hv
theorem lookZero (w : World) : (zeroValue 67).run Tryz.prog w = .ok (.pointer none) w := by kernel_rfl
set_option maxRecDepth 100000 in
set_option maxHeartbeats 4000000 in
theorem letters_any (A : Option Addr) (n c : Nat) (xs : List Arv) (w : World) (hx : RdF AvC 24 av0 w A n xs) (hok : ∀ x ∈ xs, AvOk w x) (hn : n ≤ 1048576) :
    Calls Tryz.prog 8 #[.slice A n c] w fun e w' => ∃ v ys, e = .returned v ∧ (∃ bm k f K, LSt w w' bm k f K v ys) ∧ ys.map (·.lt) = ltrs (xs.map (·.ar)) n := by
  have hxl := hx.1
  go_enter Tryz.func8, Tryz.ntmps8
  have hmm := @run_makeMap Tryz.prog
  go_wp2
  go_loopw [3, 14] (fun v3 i wr => ∃ (k m : Nat) (f : UInt64 × UInt64 → Option Nat) (ys : List Ltv), k ≤ n ∧ i = .int .i64 k ∧ m ≤ k ∧ ys.length ≤ k ∧ LSt w wr w.heap.size m f (keptBy ((xs.map (·.ar)).take k)) v3 ys ∧ ys.map (·.lt) = ltrs (xs.map (·.ar)) k) (fun _ i _ => n - (intOf i).toNat)
  case atStart =>
    refine ⟨0, 0, fun _ => none, [], by omega, rfl, by omega, by simp, ⟨later_made w _, PMap.made w addrK, Nat.le_refl _, by simp, fun _ _ => rfl, by simp, ?_, by simp⟩, rfl⟩
    exact ⟨by simp, .inl ⟨rfl, rfl⟩⟩
  case round =>
    clear hmm
    obtain ⟨k, m, f, ys, hk, rfl, hm, hyl, S, hys⟩ := hrel
    by_cases hlt : k < n
    · obtain ⟨b, o, rfl, hb, hc⟩ := (hx.later S.lat).at_ hlt
      have hmem : xs.getD k av0 ∈ xs := by
        rw [List.getD_eq_getElem?_getD, List.getElem?_eq_getElem (by omega)]
        exact List.getElem_mem _
      have har : (xs.map (·.ar))[k]? = some (xs.getD k av0).ar := by
        rw [List.getElem?_map, List.getD_eq_getElem?_getD, List.getElem?_eq_getElem (by omega)]
        rfl
      have htk : (xs.map (·.ar)).take (k + 1) = (xs.map (·.ar)).take k ++ [(xs.getD k av0).ar] := by
        rw [List.take_add_one, har]
        rfl
      have hls := ltrs_succ (xs.map (·.ar)) k _ har
      have hks := fun y => keptBy_succ ((xs.map (·.ar)).take k) y (xs.getD k av0).ar
      have hkok := keptOk_by ((xs.map (·.ar)).take k)
      rw [← htk] at hks
      obtain ⟨A5, n5, c5, hva, hnc5, hrd5⟩ := hok _ hmem
      generalize xs.getD k av0 = x at *
      obtain ⟨ar, va⟩ := x
      simp only at har htk hls hks hva hrd5
      subst hva
      generalize (xs.map (·.ar)).take k = T at *
      generalize hK' : keptBy ((xs.map (·.ar)).take (k + 1)) = K' at *
      have hKs : (fun y => if mine y ar then tkK pid y.2 (keptBy T y) ar.pt else keptBy T y) = K' := by
        funext y
        exact (hks y).symm
      have HKs := hid hKs
      have HLs := hid hls
      have HY := hid hys
      clear hks hls hys hKs har htk hmem
      generalize hK : keptBy T = K at *
      by_cases hsk : ar.kd = 2 ∧ ar.pt.kd = 1
      · obtain ⟨hkd, hpk⟩ := hsk
        have hb1 : (ar.kd != 2) = false := by simp [hkd]
        have hb3 : (ar.pt.kd != 1) = false := by simp [hpk]
        have hxm : ∀ y, mine y ar = decide (y = (ar.to, ar.pt.id)) := by
          intro y
          unfold mine
          rw [hkd, hpk]
          apply Bool.eq_iff_iff.2
          simp only [Bool.and_eq_true, beq_iff_eq, decide_eq_true_eq]
          constructor
          · rintro ⟨⟨_, h1⟩, h2⟩
            exact Prod.ext h1.symm h2.symm
          · rintro rfl
            simp
        have hKn : (fun y => if y = (ar.to, ar.pt.id) then tkK pid ar.pt.id (K (ar.to, ar.pt.id)) ar.pt else K y) = K' := by
          rw [← HKs.out]
          funext y
          rw [hxm y]
          by_cases hy : y = (ar.to, ar.pt.id)
          · subst hy
            simp
          · simp [hy]
        have HKn := hid hKn
        clear hKn hxm HKs
        have hfc : f (ar.to, ar.pt.id) = none ∨ ∃ g, f (ar.to, ar.pt.id) = some g := by
          cases f (ar.to, ar.pt.id)
          · exact .inl rfl
          · exact .inr ⟨_, rfl⟩
        have hfc2 : (f (ar.to, ar.pt.id) = none) ∨ ∃ G, f (ar.to, ar.pt.id) = some G := hfc
        clear hfc
        rcases hfc2 with hfx | ⟨G, hfx⟩
        case' inl =>
          go_wp2_with (first
            | (refine wpList_load_at ?hw _ _ rfl b (o + k * 24) (AvC ⟨ar, .slice A5 n5 c5⟩) hc rfl _ Tryz.underlying36 rfl (by rw [AvC_length]; exact size24a) ?_; (case hw => rfl))
            | (refine wpList_store_blk rfl rfl _ _ _ rfl wr.heap.size _ _ (AvC ⟨ar, .slice A5 n5 c5⟩) (Blk.new wr _ (AvC av0)) rfl rfl 24 size24a (AvC_length ⟨ar, .slice A5 n5 c5⟩) (AvC_length av0) (AvC_one ⟨ar, .slice A5 n5 c5⟩ rfl) ?_; intro w2 hb2 ho2
               obtain ⟨e5, e6, e7, e0, e1⟩ := avr_cells hb2
               have hlt2 : wr.heap.size < w2.heap.size := hb2.lt
               have l2 : Later wr w2 := (later_alloc wr _).only ho2 (Nat.le_refl _))
            | (refine wpList_look rfl _ _ rfl Tryz.underlying64 (lookZero _) rfl (S.later (l2.trans (later_alloc _ _))).map (ar.to, ar.pt.id) rfl ?_; rw [hfx]; simp only [ptrV])
            | (refine wpList_build_w ?hw 71 _ rfl (MsC ar.pt.id [] pv0) (by simp only [List.map_toArray, List.map_cons, List.map_nil]; exact built_ms _) ?_; (case hw => rfl))
            | (refine wpList_put rfl _ _ _ rfl Tryz.underlying64 rfl (S.later (l2.trans ((later_alloc _ _).trans (later_alloc _ _)))).map (by unfold maxLen; omega) (ar.to, ar.pt.id) (w2.heap.size + 1) rfl rfl ?_; intro w5 hp5 ho5
               have S4 := S.later (l2.trans ((later_alloc w2 (.cells #[W64 ar.to, W64 ar.pt.id] 66)).trans (later_alloc _ (.cells (MsC ar.pt.id [] pv0).toArray 71))))
               have hb5 := blk_onlyM (hb2.later ((later_alloc w2 (.cells #[W64 ar.to, W64 ar.pt.id] 66)).trans (later_alloc _ (.cells (MsC ar.pt.id [] pv0).toArray 71)))) S4.map.obj.choose_spec.choose_spec ho5)
            | (refine wpList_load_at ?hw _ _ rfl wr.heap.size 0 (PaC ar.pt (.slice A5 n5 c5)) (part_cells hb5) rfl _ Tryz.underlying32 rfl (by rw [PaC_length]; exact size5p) ?_; (case hw => rfl))
            | (refine build_oneC ?hw 26 _ rfl 32 5 _ (PaC ar.pt (.slice A5 n5 c5)) Tryz.underlying26 infoPa2 (by omega) (by omega) (PaC_length _ _) rfl ?_; (case hw => rfl))
            | fail)
          have em : (w2.alloc (.cells #[W64 ar.to, W64 ar.pt.id] 66)).heap.size = w2.heap.size + 1 := by simp
          have hmn := msg_new (w2.alloc (.cells #[W64 ar.to, W64 ar.pt.id] 66)) w.heap.size ar.pt.id (by have := S.lat.size; omega)
          rw [em] at hmn
          have S5a := S4.put (x0 := (ar.to, ar.pt.id)) (g := w2.heap.size + 1) hfx hmn (fun y hy => by
            obtain ⟨_, hm⟩ := S.msg y _ hy
            have := hm.blk.lt
            omega) hp5 ho5
          obtain ⟨m5, hm5, f5, hG, S5⟩ : ∃ m5, m5 ≤ k + 1 ∧ ∃ f5 : UInt64 × UInt64 → Option Nat, f5 (ar.to, ar.pt.id) = some (w2.heap.size + 1) ∧ LSt w w5 w.heap.size m5 f5 K u3 ys := ⟨m + 1, by omega, _, by simp, S5a⟩
          clear S5a hmn em S4 hp5 ho5
          generalize w2.heap.size + 1 = G at *
        case' inr =>
          go_wp2_with (first
            | (refine wpList_load_at ?hw _ _ rfl b (o + k * 24) (AvC ⟨ar, .slice A5 n5 c5⟩) hc rfl _ Tryz.underlying36 rfl (by rw [AvC_length]; exact size24a) ?_; (case hw => rfl))
            | (refine wpList_store_blk rfl rfl _ _ _ rfl wr.heap.size _ _ (AvC ⟨ar, .slice A5 n5 c5⟩) (Blk.new wr _ (AvC av0)) rfl rfl 24 size24a (AvC_length ⟨ar, .slice A5 n5 c5⟩) (AvC_length av0) (AvC_one ⟨ar, .slice A5 n5 c5⟩ rfl) ?_; intro w2 hb2 ho2
               obtain ⟨e5, e6, e7, e0, e1⟩ := avr_cells hb2
               have hlt2 : wr.heap.size < w2.heap.size := hb2.lt
               have l2 : Later wr w2 := (later_alloc wr _).only ho2 (Nat.le_refl _)
               have hb5 := hb2.later (later_alloc w2 (.cells #[W64 ar.to, W64 ar.pt.id] 66)))
            | (refine wpList_look rfl _ _ rfl Tryz.underlying64 (lookZero _) rfl (S.later (l2.trans (later_alloc _ _))).map (ar.to, ar.pt.id) rfl ?_; rw [hfx]; simp only [ptrV])
            | (refine wpList_load_at ?hw _ _ rfl wr.heap.size 0 (PaC ar.pt (.slice A5 n5 c5)) (part_cells hb5) rfl _ Tryz.underlying32 rfl (by rw [PaC_length]; exact size5p) ?_; (case hw => rfl))
            | (refine build_oneC ?hw 26 _ rfl 32 5 _ (PaC ar.pt (.slice A5 n5 c5)) Tryz.underlying26 infoPa2 (by omega) (by omega) (PaC_length _ _) rfl ?_; (case hw => rfl))
            | fail)
          have S5a := S.later (l2.trans (later_alloc w2 (.cells #[W64 ar.to, W64 ar.pt.id] 66)))
          obtain ⟨m5, hm5, f5, hG, S5⟩ : ∃ m5, m5 ≤ k + 1 ∧ ∃ f5 : UInt64 × UInt64 → Option Nat, f5 (ar.to, ar.pt.id) = some G ∧ LSt w (w2.alloc (.cells #[W64 ar.to, W64 ar.pt.id] 66)) w.heap.size m5 f5 K u3 ys := ⟨m, by omega, f, hfx, S5a⟩
          clear S5a
          have em : (w2.alloc (.cells #[W64 ar.to, W64 ar.pt.id] 66)).heap.size = w2.heap.size + 1 := by simp
          rw [← em]
          clear em
          generalize w2.alloc (.cells #[W64 ar.to, W64 ar.pt.id] 66) = w5 at *
        all_goals
          clear S ho2 e5 e6 e7 e0 e1 hlt2 l2 hb2 hfx
          have T6 := S5.later (later_alloc w5 (.cells (PaC ar.pt (.slice A5 n5 c5)).toArray 32))
          obtain ⟨pv6, M6⟩ := T6.msg (ar.to, ar.pt.id) G hG
          have hb6 := hb5.later (later_alloc w5 (.cells (PaC ar.pt (.slice A5 n5 c5)).toArray 32))
          have hav : Avoid (· = G) A5 n5 := fun h0 ad had e => by
            obtain ⟨b', o', hA, hlt', _⟩ := hrd5.2 h0
            rw [hA] at had
            cases had
            have := M6.low
            simp only at e
            omega
          have hkx := hkok (ar.to, ar.pt.id)
          have hks := hkx.small
          refine (take1_any w.heap.size G ar.pt.id (K (ar.to, ar.pt.id)) pv6 ar.pt A5 n5 c5 w5.heap.size 32 _ M6 hkx (hrd5.later T6.lat) hav T6.lat.size (by omega) (Blk.new w5 _ _)).mono ?_
          rintro e w7 ⟨rfl, ⟨pv7, M7⟩, O7⟩
          have S7 := T6.took hG M7 O7
          have hb7 := hb6.only O7 (blk_ne hb6 M6.blk (by decide))
          clear T6 M6 hb6 hav O7 S5 hb5
          rw [HKn.out] at S7
          have hKT : Hid (keptBy T (ar.to, ar.pt.id) = K (ar.to, ar.pt.id)) := hid (by rw [hK])
          have hcell := avr_cells hb7
          have hok1 := hid (fun h : tkE pid ar.pt.id (K (ar.to, ar.pt.id)) ar.pt = 0 => (show tkK pid ar.pt.id (K (ar.to, ar.pt.id)) ar.pt = K (ar.to, ar.pt.id) ++ [ar.pt] by rw [tkK, if_pos h]))
          have hkn : KeptOk (tkK pid ar.pt.id (K (ar.to, ar.pt.id)) ar.pt) := hkx.snoc
          have HSk := hid (fun h : ltrOf T ar = [] => (show ys.map (·.lt) = ltrs (xs.map (·.ar)) (k + 1) by rw [HY.out, HLs.out, h, List.append_nil]))
          have HLt : Hid (ltrOf T ar = if ar.kd = 2 ∧ ar.pt.kd = 1 ∧ tkE pid ar.pt.id (K (ar.to, ar.pt.id)) ar.pt = 0 ∧ ((K (ar.to, ar.pt.id)).length : Int) + 1 = ar.pt.ct then [⟨ar.to, ar.pt.id, ar.tk, whole (K (ar.to, ar.pt.id) ++ [ar.pt])⟩] else []) := hid (by rw [ltrOf, hKT.out])
          by_cases hE : tkE pid ar.pt.id (K (ar.to, ar.pt.id)) ar.pt = 0
          · rw [hE]
            have hap := hok1.out hE
            rw [hap] at M7 hkn
            have hct : ctOf (K (ar.to, ar.pt.id) ++ [ar.pt]) = ar.pt.ct := ctOf_snoc _ _
            have hlen : ((K (ar.to, ar.pt.id) ++ [ar.pt]).length : Int) = ((K (ar.to, ar.pt.id)).length : Nat) + 1 := by simp
            have hMi := missing_any w.heap.size G ar.pt.id _ pv7 w7 M7 hkn (by simp)
            have hMb : Hid (∀ (_ : ((K (ar.to, ar.pt.id)).length : Int) + 1 = ar.pt.ct) (w' : World) (l : Later w7 w'), _) := hid (fun hf w' l => mbytes_any w.heap.size G ar.pt.id _ pv7 w' (M7.later l) hkn (by simp) (by rw [hlen, hct]; exact hf))
            have hle := (hkn.ct (by simp)).2.2.1
            rw [hct, hlen] at hMi hle
            have hc16 := (prtE_ok (tkE_zero hE).2.1).2.1
            have HE := hid hE
            clear hct hlen hap hE hok1 M7 hkn hkx hKT
            generalize whole (K (ar.to, ar.pt.id) ++ [ar.pt]) = WH at *
            generalize (K (ar.to, ar.pt.id)).length = KL at *
            go_wp2_with fail
            refine hMi.mono ?_
            rintro e w8 ⟨rfl, j8⟩
            have S8 := S7.later j8
            have hb8 := hb7.later j8
            obtain ⟨e5, e6, e7, e0, e1⟩ := avr_cells hb8
            clear hMi S7 hb7 hcell
            by_cases hfull : (KL : Int) + 1 = ar.pt.ct
            · have hd : decide ((KL : Int) + 1 < ar.pt.ct) = false := decide_eq_false (by omega)
              have hB := hMb.out hfull w8 j8
              have hl1 := hid (HLt.out.trans (if_pos ⟨hkd, hpk, HE.out, hfull⟩))
              clear hMb HSk HLt hfull
              go_wp2_with fail
              refine hB.mono ?_
              rintro e w9 ⟨A9, n9, c9, rfl, hown9, j9⟩
              have S9 := S8.later j9
              have hb9 := hb8.later j9
              have hw9 : w.heap.size ≤ w8.heap.size := S8.lat.size
              clear S8 hb8 hB e5 e6 e7 e0 e1 hd
              obtain ⟨e5, e6, e7, e0, e1⟩ := avr_cells hb9
              obtain ⟨y, hy⟩ : ∃ y : Ltv, y = ⟨⟨ar.to, ar.pt.id, ar.tk, WH⟩, A9, n9, c9⟩ := ⟨_, rfl⟩
              have hyb := hid (built_lt y)
              go_wp2_with (first
                | (refine wpList_build_w ?hw 40 _ rfl (LtC y) (by simp only [List.map_toArray, List.map_cons, List.map_nil]; rw [← hyb.out, hy]; rfl) ?_; (case hw => rfl))
                | (refine build_oneC ?hw 37 _ rfl 40 4 _ (LtC y) Tryz.underlying37 infoLt2 (by omega) (by omega) rfl rfl ?_; (case hw => rfl))
                | (refine wpList_append_f (F := LtC) (d := lv0) LtC_length LtC_one (by omega) rfl _ _ _ rfl 40 _ 48 Tryz.underlying37 infoLt rfl w _ _ _ (own_laterF S9.own (later_alloc _ _)) (S9.lat.trans (later_alloc _ _)) (some ⟨w9.heap.size, 0, none⟩) 1 1 [y] (blk_rdF LtC_length (by rw [show [y].flatMap LtC = LtC y by simp]; exact Blk.new w9 _ _) rfl) rfl rfl (by omega) (by omega) ?_; intro A10 c10 w10 hown10 hl10 hg10)
                | fail)
              have hown9' := own_later (own_mono hown9 hw9) (later_alloc w9 (.cells (LtC y).toArray 40))
              have hys2 : (ys ++ [y]).map (·.lt) = ltrs (xs.map (·.ar)) (k + 1) := by
                rw [List.map_append, HY.out, HLs.out, hl1.out, hy]
                rfl
              have S10 := (S9.later (later_alloc w9 (.cells (LtC y).toArray 40))).wrote (y := y) (by simpa using hown10) hg10 hl10 (by rw [hy]; rw [hy] at hown9'; exact hown9')
              exact ⟨⟨k + 1, m5, f5, ys ++ [y], by omega, by go_num, by omega, by simp; omega, by rw [hK']; exact S10, hys2⟩, by simp [intOf]; omega⟩
            · have hd : decide ((KL : Int) + 1 < ar.pt.ct) = true := decide_eq_true (by omega)
              have hsk := hid (HSk.out (by rw [HLt.out, if_neg (fun h => hfull h.2.2.2)]))
              clear HSk HLt hMb hfull
              go_wp2_with fail
              exact ⟨⟨k + 1, m5, f5, ys, by omega, by go_num, by omega, by omega, by rw [hK']; exact S8, hsk.out⟩, by simp [intOf]; omega⟩
          · have hsk := hid (HSk.out (by rw [HLt.out, if_neg (fun h => hE h.2.2.1)]))
            have hE1 : ((tkE pid ar.pt.id (K (ar.to, ar.pt.id)) ar.pt : Nat) : Int) ≠ 0 := by omega
            clear HSk HLt hok1 hkn M7 hKT
            generalize tkE pid ar.pt.id (K (ar.to, ar.pt.id)) ar.pt = E at *
            have hE2 : ((E : Int) != 0) = true := by rw [bne_iff_ne]; exact hE1
            go_wp2_with fail
            exact ⟨⟨k + 1, m5, f5, ys, by omega, by go_num, by omega, by omega, by rw [hK']; exact S7, hsk.out⟩, by simp [intOf]; omega⟩
      · have hno : ∀ y, mine y ar = false := by
          intro y
          unfold mine
          by_cases h1 : ar.kd = 2
          · have h2 : (ar.pt.kd == 1) = false := by
              rw [beq_eq_false_iff_ne]
              exact fun h => hsk ⟨h1, h⟩
            rw [h2]
            simp
          · have h2 : (ar.kd == 2) = false := by simpa using h1
            rw [h2]
            simp
        have hKK : K = K' := by
          rw [← HKs.out]
          funext y
          rw [hno y]
          rfl
        have hl0 : ltrOf T ar = [] := by
          unfold ltrOf
          rw [if_neg (fun h => hsk ⟨h.1, h.2.1⟩)]
        have HLx := hid (show ys.map (·.lt) = ltrs (xs.map (·.ar)) (k + 1) by rw [HY.out, HLs.out, hl0, List.append_nil])
        subst hKK
        have FIN := hid (fun (w' : World) (l : Later wr w') => S.later l)
        clear HKs HLs HY hl0 hno S
        have hb1 : (ar.kd != 2) = true ∨ ((ar.kd != 2) = false ∧ (ar.pt.kd != 1) = true) := by
          by_cases h1 : ar.kd = 2
          · exact .inr ⟨by simp [h1], by rw [bne_iff_ne]; exact fun h => hsk ⟨h1, h⟩⟩
          · exact .inl (by simpa using h1)
        clear hsk
        rcases hb1 with hb1 | ⟨hb1, hb3⟩
        all_goals
          go_wp2_with (first
            | (refine wpList_load_at ?hw _ _ rfl b (o + k * 24) (AvC ⟨ar, .slice A5 n5 c5⟩) hc rfl _ Tryz.underlying36 rfl (by rw [AvC_length]; exact size24a) ?_; (case hw => rfl))
            | (refine wpList_store_blk rfl rfl _ _ _ rfl wr.heap.size _ _ (AvC ⟨ar, .slice A5 n5 c5⟩) (Blk.new wr _ (AvC av0)) rfl rfl 24 size24a (AvC_length ⟨ar, .slice A5 n5 c5⟩) (AvC_length av0) (AvC_one ⟨ar, .slice A5 n5 c5⟩ rfl) ?_; intro w2 hb2 ho2
               obtain ⟨e5, e6, e7, e0, e1⟩ := avr_cells hb2
               have hlt2 : wr.heap.size < w2.heap.size := hb2.lt
               have l2 : Later wr w2 := (later_alloc wr _).only ho2 (Nat.le_refl _))
            | fail)
          exact ⟨⟨k + 1, m, f, ys, by omega, by go_num, by omega, by omega, by rw [hK']; exact FIN.out _ l2, HLx.out⟩, by simp [intOf]; omega⟩
    · obtain rfl : k = n := by omega
      go_wp2_with fail
      go_ret
      exact ⟨_, ys, rfl, ⟨_, _, _, _, S⟩, hys⟩
end Go.Proofs.YtkibgdigcgakfabGreat
