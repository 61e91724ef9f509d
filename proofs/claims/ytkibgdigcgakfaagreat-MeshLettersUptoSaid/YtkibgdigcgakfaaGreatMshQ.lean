/-
  shallotref17.Letters.
-/
import Derived.Test.YtkibgdigcgakfaaGreatMshW
import Derived.Test.YtkibgdigcgakfaaGreatMshS
namespace Go.Proofs.YtkibgdigcgakfaaGreat
open Go.RowKit
open Go.BigFrame

theorem quiet_buildM {P : Program} {C : World → Prop} {a : Act} {o : Oper} {K : Act → Prop} (t : TypeId) (parts : Array (Nat × Operand)) (ho : o.op = .build t parts) (vs : List Value) (hb : P.built t (parts.map fun (i, x) => (i, a.eval x)).toList = some vs.toArray)
    (h : K (a.put o.dst (.agg vs.toArray))) : o.quiet P a C K :=
  ⟨.agg vs.toArray, fun w hw => by
    unfold Oper.quietAt execOp
    simp only [ho, Sem.run_bind, run_build w t _ _ hb, Result.andThen_ok]
    exact ⟨rfl, rfl⟩, h⟩
theorem size24r : (Tryz.prog.info? 31).map (·.size) = some 24 := by kernel_rfl
theorem infoLr : (Tryz.prog.info? 53).map (fun i => (i.zero, i.size, i.bytes)) = some (some (.agg (LtC lv0).toArray), 4, 48) := by kernel_rfl
theorem infoLr2 : (Tryz.prog.info? 53).map (fun i => (i.zero, i.size)) = some (some (.agg (LtC lv0).toArray), 4) := by kernel_rfl
theorem zeroLr : (Tryz.prog.info? 53).bind (·.zero) = some (.agg (LtC lv0).toArray) := by kernel_rfl
theorem built_lr (y : Ltv) : Tryz.prog.built 53 [(0, W64 y.lt.to), (1, W64 y.lt.id), (2, .int .i64 y.lt.tk), (3, .slice y.va y.vn y.vc)] = some (LtC y).toArray := by
  rw [built_struct (pl := [(0, 1), (1, 1), (2, 1), (3, 1)]) Tryz.underlying53 zeroLr (by kernel_rfl), fill_cons (vs := [W64 y.lt.to]) (off := 0) rfl rfl (by simp [LtC]), fill_cons (vs := [W64 y.lt.id]) (off := 1) rfl rfl (by simp [LtC, spliced]),
    fill_cons (vs := [.int .i64 y.lt.tk]) (off := 2) rfl rfl (by simp [LtC, spliced]), fill_cons (vs := [.slice y.va y.vn y.vc]) (off := 3) rfl rfl (by simp [LtC, spliced]), fill_nil]
  rfl
structure RSt (w wr : World) (v3 : Value) (ys : List Ltv) : Prop where
  lat : Later w wr
  own : wr.ownsRow w.heap.size 53 4 v3 ys.length (ys.flatMap LtC)
  txt : ∀ y ∈ ys, OwnB wr w.heap.size y.va y.vn y.vc y.lt.tx
section
variable {w wr w' : World} {v3 : Value} {ys : List Ltv}
theorem RSt.later (h : RSt w wr v3 ys) (hl : Later wr w') : RSt w w' v3 ys := ⟨h.lat.trans hl, own_laterF h.own hl, fun y hy => own_later (h.txt y hy) hl⟩
theorem RSt.grown {b sz m : Nat} {e : TypeId} {v : Value} {vs : List Value} (h : RSt w wr v3 ys) (hr : wr.ownsRow b e sz v m vs) (h1 : (53 : TypeId) ≠ e) (h2 : (5 : TypeId) ≠ e) (hg : wr.grownBy w' v.ownBlock) (hl : Later w w') : RSt w w' v3 ys :=
  ⟨hl, own_otherK h.own hr h1 hg, fun y hy => own_otherK (h.txt y hy) hr h2 hg⟩
theorem RSt.wrote (h : RSt w wr v3 ys) {y : Ltv} {v3' : Value} (hown : w'.ownsRow w.heap.size 53 4 v3' (ys.length + 1) (ys.flatMap LtC ++ LtC y)) (hg : wr.grownBy w' v3.ownBlock) (hl : Later w w')
    (ht : OwnB wr w.heap.size y.va y.vn y.vc y.lt.tx) : RSt w w' v3' (ys ++ [y]) := by
  have txt : ∀ y : Ltv, OwnB wr w.heap.size y.va y.vn y.vc y.lt.tx → OwnB w' w.heap.size y.va y.vn y.vc y.lt.tx := fun y h2 => own_otherK h2 h.own (by decide) hg
  refine ⟨hl, ?_, fun z hz => ?_⟩
  · rw [List.length_append, List.length_singleton, List.flatMap_append]
    simpa using hown
  · rcases List.mem_append.1 hz with hz | hz
    · exact txt z (h.txt z hz)
    · obtain rfl : z = y := by simpa using hz
      exact txt z ht
end
theorem avr_cellsR {w : World} {g : Nat} {t : TypeId} {ar : Arr} {v : Value} (h : Blk w g t (AvC ⟨ar, v⟩)) : w.cell? ⟨g, 5, none⟩ = some (W8 ar.kd) ∧ w.cell? ⟨g, 6, none⟩ = some (W64 ar.to) ∧ w.cell? ⟨g, 7, none⟩ = some (.int .i64 ar.tk) ∧ w.cell? ⟨g, 0, none⟩ = some (W8 ar.pt.kd) ∧ w.cell? ⟨g, 1, none⟩ = some (W64 ar.pt.id) :=
  ⟨h.cellD 5 rfl, h.cellD 6 rfl, h.cellD 7 rfl, h.cellD 0 rfl, h.cellD 1 rfl⟩
theorem part_cellsR {w : World} {g : Nat} {t : TypeId} {ar : Arr} {v : Value} (h : Blk w g t (AvC ⟨ar, v⟩)) : ∀ (j : Nat) u, (PaC ar.pt v)[j]? = some u → w.cell? ⟨g, 0 + j, none⟩ = some u := by
  intro j u hu
  rw [Nat.zero_add]
  refine h.cellD j ?_
  have hl := (List.getElem?_eq_some_iff.1 hu).1
  rw [AvC, List.getElem?_append_left hl]
  exact hu
theorem AvC_oneR (x : Arv) (h : x.va.oneCell' = true) : ∀ u ∈ AvC x, u.oneCell' = true := by
  intro u hu
  rcases List.mem_append.1 hu with hu | hu
  · exact PaC_one _ h u hu
  · simp only [List.mem_cons, List.mem_map] at hu
    rcases hu with rfl | rfl | rfl | ⟨b, _, rfl⟩ <;> rfl
theorem mine_cases (to id : UInt64) (br : Arr) : ((br.kd == 2) = false ∧ mine (to, id) br = false) ∨ ((br.kd == 2) = true ∧ (((br.pt.kd == 1) = false ∧ mine (to, id) br = false) ∨ ((br.pt.kd == 1) = true ∧ (((br.to == to) = false ∧ mine (to, id) br = false) ∨ ((br.to == to) = true ∧
    (((br.pt.id == id) = false ∧ mine (to, id) br = false) ∨ ((br.pt.id == id) = true ∧ mine (to, id) br = true))))))) := by
  unfold mine
  cases br.kd == 2 <;> cases br.pt.kd == 1 <;> cases br.to == to <;> cases br.pt.id == id <;> simp
theorem tksK_sub {α : Type} (pr : α → Prt) (id : UInt64) : ∀ (xs ks : List α) (q : α), q ∈ tksK pr id ks xs → q ∈ ks ∨ q ∈ xs
  | [], ks, q, h => .inl h
  | x :: xs, ks, q, h => by
    have h' : q ∈ tksK pr id (tkK pr id ks x) xs := h
    rcases tksK_sub pr id xs _ q h' with h1 | h1
    · unfold tkK at h1
      split at h1
      · rcases List.mem_append.1 h1 with h2 | h2
        · exact .inl h2
        · exact .inr (by simp at h2; simp [h2])
      · exact .inl h1
    · exact .inr (List.mem_cons_of_mem _ h1)
theorem filt1 {α β : Type} (p : α → Bool) (f : α → β) (x : α) : ([x].filter p).map f = if p x = true then [f x] else [] := by
  cases h : p x <;> simp [h]
set_option maxRecDepth 100000 in
set_option maxHeartbeats 40000000 in
theorem letters_ref (A : Option Addr) (n c : Nat) (xs : List Arv) (w : World) (hx : RdF AvC 24 av0 w A n xs) (hok : ∀ x ∈ xs, AvOk w x) (hn : n ≤ 1048576) :
    Calls Tryz.prog 8 #[.slice A n c] w fun e w' => ∃ v ys, e = .returned v ∧ RSt w w' v ys ∧ ys.map (·.lt) = ltrs (xs.map (·.ar)) n := by
  have hxl := hx.1
  go_enter Tryz.func8, Tryz.ntmps8
  go_wp2
  go_loopw [3, 4] (fun v3 i wr => ∃ (k : Nat) (ys : List Ltv), k ≤ n ∧ i = .int .i64 k ∧ ys.length ≤ k ∧ RSt w wr v3 ys ∧ ys.map (·.lt) = ltrs (xs.map (·.ar)) k) (fun _ i _ => n - (intOf i).toNat)
  case atStart => exact ⟨0, [], by omega, rfl, by simp, ⟨Later.refl w, ⟨by simp, .inl ⟨rfl, rfl⟩⟩, by simp⟩, rfl⟩
  case round =>
    obtain ⟨k, ys, hk, rfl, hyl, S, hys⟩ := hrel
    by_cases hlt : k < n
    · obtain ⟨b, o, rfl, hb, hc⟩ := (hx.later S.lat).at_ hlt
      have hmem : xs.getD k av0 ∈ xs := by
        rw [List.getD_eq_getElem?_getD, List.getElem?_eq_getElem (by omega)]
        exact List.getElem_mem _
      have har : (xs.map (·.ar))[k]? = some (xs.getD k av0).ar := by
        rw [List.getElem?_map, List.getD_eq_getElem?_getD, List.getElem?_eq_getElem (by omega)]
        rfl
      have hls := ltrs_succ (xs.map (·.ar)) k _ har
      have hkok := keptOk_by ((xs.map (·.ar)).take k)
      obtain ⟨A5, n5, c5, hva, hnc5, hrd5⟩ := hok _ hmem
      generalize xs.getD k av0 = x at *
      obtain ⟨ar, va⟩ := x
      simp only at har hls hva hrd5
      subst hva
      have HLs := hid hls
      have HY := hid hys
      clear hls hys har hmem
      by_cases hsk : ar.kd = 2 ∧ ar.pt.kd = 1
      · obtain ⟨hkd, hpk⟩ := hsk
        have hb1 : (ar.kd != 2) = false := by simp [hkd]
        have hb3 : (ar.pt.kd != 1) = false := by simp [hpk]
        go_wp2_with (first
          | (refine wpList_load_at ?hw _ _ rfl b (o + k * 24) (AvC ⟨ar, .slice A5 n5 c5⟩) hc rfl _ Tryz.underlying31 rfl (by rw [AvC_length]; exact size24r) ?_; (case hw => rfl))
          | (refine wpList_store_blk rfl rfl _ _ _ rfl wr.heap.size _ _ (AvC ⟨ar, .slice A5 n5 c5⟩) (Blk.new wr _ (AvC av0)) rfl rfl 24 size24r (AvC_length _) (AvC_length av0) (AvC_oneR _ rfl) ?_; intro w2 hb2 ho2
             obtain ⟨e5, e6, e7, e0, e1⟩ := avr_cellsR hb2
             have l2 : Later wr w2 := (later_alloc wr _).only ho2 (Nat.le_refl _))
          | fail)
        have S2 := S.later l2
        generalize wr.heap.size = g5 at *
        clear S ho2 l2 hc
        obtain ⟨X, hX⟩ : ∃ X, X = (ar.to, ar.pt.id) := ⟨_, rfl⟩
        go_loopw [6, 7] (fun pv kv w' => ∃ (j : Nat) (A' : Option Addr) (c' : Nat) (Ps : List Pv), j ≤ k ∧ kv = .int .i64 j ∧ pv = .slice A' Ps.length c' ∧ Ps.length ≤ j ∧ w'.ownsRow w.heap.size 28 5 (.slice A' Ps.length c') Ps.length (Ps.flatMap PvC) ∧
          Hid (Ps.map Pv.p = (((xs.map (·.ar)).take j).filter (mine X)).map (·.pt)) ∧ (∀ q ∈ Ps, PvOk w q) ∧ RSt w w' u3 ys ∧ Blk w' g5 31 (AvC ⟨ar, .slice A5 n5 c5⟩)) (fun _ kv _ => k - (intOf kv).toNat)
        case atStart => exact ⟨0, none, 0, [], by omega, rfl, rfl, by simp, ⟨by simp, .inl ⟨rfl, rfl⟩⟩, hid rfl, by simp, S2, hb2⟩
        case round =>
          clear S2 hb2 e5 e6 e7 e0 e1
          obtain ⟨j, A6, c6, Ps, hj, rfl, rfl, hpl, hown, hPs, hPk, S, hb5⟩ := hrel
          obtain ⟨e5, e6, e7, e0, e1⟩ := avr_cellsR hb5
          have hg5 := hb5.lt
          by_cases hjk : j < k
          · obtain ⟨b', o', hA', hb, hc⟩ := (hx.later S.lat).at_ (show j < n by omega)
            obtain ⟨rfl, rfl⟩ : b = b' ∧ o = o' := by simpa using hA'
            have hmem : xs.getD j av0 ∈ xs := by
              rw [List.getD_eq_getElem?_getD, List.getElem?_eq_getElem (by omega)]
              exact List.getElem_mem _
            have htk : (xs.map (·.ar)).take (j + 1) = (xs.map (·.ar)).take j ++ [(xs.getD j av0).ar] := by
              rw [List.take_add_one, List.getElem?_map, List.getD_eq_getElem?_getD, List.getElem?_eq_getElem (by omega)]
              rfl
            obtain ⟨A7, n7, c7, hva, hnc7, hrd7⟩ := hok _ hmem
            have hfl : (((xs.map (·.ar)).take (j + 1)).filter (mine X)).map (·.pt) = Ps.map Pv.p ++ (if mine X (xs.getD j av0).ar = true then [(xs.getD j av0).ar.pt] else []) := by
              rw [htk, List.filter_append, List.map_append, ← hPs.out, filt1]
            generalize xs.getD j av0 = x at *
            obtain ⟨br, va⟩ := x
            simp only at hva hrd7 hfl
            subst hva
            have HF := hid hfl
            clear hfl htk hmem hA'
            have hcs := mine_cases ar.to ar.pt.id br
            rw [← hX] at hcs
            rcases hcs with ⟨q1, q0⟩ | ⟨q1, ⟨q2, q0⟩ | ⟨q2, ⟨q3, q0⟩ | ⟨q3, ⟨q4, q0⟩ | ⟨q4, q0⟩⟩⟩⟩
            case' inr.inr.inr.inr =>
              have hmt := hid (HF.out.trans (by rw [if_pos q0]))
              clear HF q0
              go_wp2_with (first
                | (refine wpList_load_at ?hw _ _ rfl b (o + j * 24) (AvC ⟨br, .slice A7 n7 c7⟩) hc rfl _ Tryz.underlying31 rfl (by rw [AvC_length]; exact size24r) ?_; (case hw => rfl))
                | (refine wpList_store_blk rfl rfl _ _ _ rfl wr.heap.size _ _ (AvC ⟨br, .slice A7 n7 c7⟩) (Blk.new wr _ (AvC av0)) rfl rfl 24 size24r (AvC_length _) (AvC_length av0) (AvC_oneR _ rfl) ?_; intro w2 hb2 ho2
                   have l2 : Later wr w2 := (later_alloc wr _).only ho2 (Nat.le_refl _)
                   have hb5' := hb5.later l2
                   obtain ⟨e5, e6, e7, e0, e1⟩ := avr_cellsR hb5'
                   obtain ⟨f5, f6, f7, f0, f1⟩ := avr_cellsR hb2)
                | (refine wpList_load_at ?hw _ _ rfl wr.heap.size 0 (PaC br.pt (.slice A7 n7 c7)) (part_cellsR hb2) rfl _ Tryz.underlying28 rfl (by rw [PaC_length]; exact size5p) ?_; (case hw => rfl))
                | (refine build_oneC ?hw 66 _ rfl 28 5 _ (PaC br.pt (.slice A7 n7 c7)) Tryz.underlying66 infoPv2 (by omega) (by omega) (PaC_length _ _) rfl ?_; (case hw => rfl))
                | (refine wpList_append_f (F := PvC) (d := pvz) PvC_length PvC_one (by omega) rfl _ _ _ rfl 28 _ 56 Tryz.underlying66 infoPv rfl w _ _ _ (own_laterF hown (l2.trans (later_alloc _ _))) (S.lat.trans (l2.trans (later_alloc _ _))) (some ⟨w2.heap.size, 0, none⟩) 1 1 [⟨br.pt, A7, n7, c7⟩] (blk_rdF PvC_length (show Blk (w2.alloc (.cells (PaC br.pt (.slice A7 n7 c7)).toArray 28)) w2.heap.size 28 ([(⟨br.pt, A7, n7, c7⟩ : Pv)].flatMap PvC) from Blk.new w2 _ _) rfl) rfl rfl (by omega) (by omega) ?_; intro A8 c8 w8 hown8 hl8 hg8)
                | fail)
              have hb9 := blk_grownK (hb5'.later (later_alloc w2 (.cells (PaC br.pt (.slice A7 n7 c7)).toArray 28))) (own_laterF hown (l2.trans (later_alloc w2 (.cells (PaC br.pt (.slice A7 n7 c7)).toArray 28)))) (by decide) hg8
              have S9 := (S.later (l2.trans (later_alloc w2 (.cells (PaC br.pt (.slice A7 n7 c7)).toArray 28)))).grown (own_laterF hown (l2.trans (later_alloc w2 (.cells (PaC br.pt (.slice A7 n7 c7)).toArray 28)))) (by decide) (by decide) hg8 hl8
              have hPk2 : ∀ q ∈ Ps ++ [⟨br.pt, A7, n7, c7⟩], PvOk w q := by
                intro q hq
                rcases List.mem_append.1 hq with hq | hq
                · exact hPk q hq
                · obtain rfl : q = ⟨br.pt, A7, n7, c7⟩ := by simpa using hq
                  exact ⟨hnc7, hrd7⟩
              have hmt2 : Hid ((Ps ++ [(⟨br.pt, A7, n7, c7⟩ : Pv)]).map Pv.p = (((xs.map (·.ar)).take (j + 1)).filter (mine X)).map (·.pt)) := hid (by rw [hmt.out, List.map_append]; rfl)
              exact ⟨⟨j + 1, A8, c8, Ps ++ [⟨br.pt, A7, n7, c7⟩], by omega, by go_num, by simp, by simp; omega, by simpa using hown8, hmt2, hPk2, S9, hb9⟩, by simp [intOf]; omega⟩
            all_goals
              have hmt := hid (HF.out.trans (by rw [if_neg (by rw [q0]; decide), List.append_nil]))
              clear HF q0
              go_wp2_with (first
                | (refine wpList_load_at ?hw _ _ rfl b (o + j * 24) (AvC ⟨br, .slice A7 n7 c7⟩) hc rfl _ Tryz.underlying31 rfl (by rw [AvC_length]; exact size24r) ?_; (case hw => rfl))
                | (refine wpList_store_blk rfl rfl _ _ _ rfl wr.heap.size _ _ (AvC ⟨br, .slice A7 n7 c7⟩) (Blk.new wr _ (AvC av0)) rfl rfl 24 size24r (AvC_length _) (AvC_length av0) (AvC_oneR _ rfl) ?_; intro w2 hb2 ho2
                   have l2 : Later wr w2 := (later_alloc wr _).only ho2 (Nat.le_refl _)
                   have hb5' := hb5.later l2
                   obtain ⟨e5, e6, e7, e0, e1⟩ := avr_cellsR hb5'
                   obtain ⟨f5, f6, f7, f0, f1⟩ := avr_cellsR hb2)
                | fail)
              exact ⟨⟨j + 1, A6, c6, Ps, by omega, by go_num, rfl, by omega, own_laterF hown l2, hid hmt.out.symm, hPk, S.later l2, hb5'⟩, by simp [intOf]; omega⟩
          · obtain rfl : j = k := by omega
            have hPd : ∀ q ∈ Ps, q.p.da.length = q.vn := fun q hq => (hPk q hq).2.len
            have hT1 := hid (fun (w' : World) (l : Later wr w') => rtake11_ref none A6 0 0 Ps.length c6 ar.pt.id [] Ps w' (rdF_none w') (own_rdF (d := pvz) PvC_length (own_laterF hown l) rfl) hPd (by omega) (by omega))
            have hL1 : (tksK Pv.p ar.pt.id [] Ps).map Pv.p = keptBy ((xs.map (·.ar)).take j) (ar.to, ar.pt.id) := by
              rw [tksK_map, hPs.out, hX]
              rfl
            go_wp2_with fail
            refine (hT1.out wr (Later.refl wr)).mono ?_
            rintro e w3 ⟨A9, c9, L1, E1, rfl, hL, hE1, hown1, l3⟩
            rw [← hL] at hL1
            have hPk1 : ∀ q ∈ L1, PvOk w q := fun q hq => by
              rw [hL] at hq
              rcases tksK_sub Pv.p ar.pt.id Ps [] q hq with h | h
              · cases h
              · exact hPk q h
            have hkx := hkok (ar.to, ar.pt.id)
            have HLt : Hid (ltrOf ((xs.map (·.ar)).take j) ar = if tkE Pv.p ar.pt.id L1 ar.pt = 0 ∧ (L1.length : Int) + 1 = ar.pt.ct then [⟨ar.to, ar.pt.id, ar.tk, whole (L1.map Pv.p ++ [ar.pt])⟩] else []) := hid (by
              unfold ltrOf
              rw [← hL1, tkE_map, List.length_map]
              by_cases hc : tkE Pv.p ar.pt.id L1 ar.pt = 0 ∧ (L1.length : Int) + 1 = ar.pt.ct
              · rw [if_pos hc, if_pos ⟨hkd, hpk, hc⟩]
              · rw [if_neg hc, if_neg (fun h => hc h.2.2)])
            rw [← hL1] at hkx
            clear hL hE1 hL1
            have HY2 := hid (fun h : ltrOf ((xs.map (·.ar)).take j) ar = [] => (show ys.map (·.lt) = ltrs (xs.map (·.ar)) (j + 1) by rw [HY.out, HLs.out, h, List.append_nil]))
            have S3 := S.later l3
            have hb5' := hb5.later l3
            have hE2 : Hid (tksE Pv.p ar.pt.id L1 [⟨ar.pt, A5, n5, c5⟩] = tkE Pv.p ar.pt.id L1 ar.pt) := hid (by
              show (if tkE Pv.p ar.pt.id L1 ar.pt ≠ 0 then tkE Pv.p ar.pt.id L1 ar.pt else 0) = _
              split <;> simp_all)
            have hT2 := hid (fun (w' : World) (l : Later w3 w') (hb : Blk w' w3.heap.size 28 (PaC ar.pt (.slice A5 n5 c5))) => rtake11_ref A9 (some ⟨w3.heap.size, 0, none⟩) L1.length c9 1 1 ar.pt.id L1 [⟨ar.pt, A5, n5, c5⟩] w' (own_rdF (d := pvz) PvC_length (own_laterF hown1 l) rfl)
              (blk_rdF PvC_length (show Blk w' w3.heap.size 28 ([(⟨ar.pt, A5, n5, c5⟩ : Pv)].flatMap PvC) by simp only [List.flatMap_cons, List.flatMap_nil, List.append_nil]; exact hb) rfl) (by simpa using hrd5.len) (by have := hkx.small; rw [List.length_map] at this; omega) (by omega))
            clear e5 e6 e7 e0 e1 hT1 S hb5 hown hPs hPk hPd
            obtain ⟨e5, e6, e7, e0, e1⟩ := avr_cellsR hb5'
            have hg5' := hb5'.lt
            go_wp2_with (first
              | (refine wpList_load_at ?hw _ _ rfl g5 0 (PaC ar.pt (.slice A5 n5 c5)) (part_cellsR hb5') rfl _ Tryz.underlying28 rfl (by rw [PaC_length]; exact size5p) ?_; (case hw => rfl))
              | (refine build_oneC ?hw 66 _ rfl 28 5 _ (PaC ar.pt (.slice A5 n5 c5)) Tryz.underlying66 infoPv2 (by omega) (by omega) (PaC_length _ _) rfl ?_; (case hw => rfl))
              | fail)
            refine (hT2.out _ (later_alloc _ _) (Blk.new w3 _ _)).mono ?_
            rintro e w4 ⟨A10, c10, L2, E2, rfl, hL2, hE2', hown2, l4⟩
            rw [hE2.out] at hE2'
            have l34 := (later_alloc w3 (.cells (PaC ar.pt (.slice A5 n5 c5)).toArray 28)).trans l4
            have S4 := S3.later l34
            have hb4 := hb5'.later l34
            clear e5 e6 e7 e0 e1 hT2 hE2 S3 hb5'
            obtain ⟨e5, e6, e7, e0, e1⟩ := avr_cellsR hb4
            have hL2' : L2 = tkK Pv.p ar.pt.id L1 ⟨ar.pt, A5, n5, c5⟩ := hL2
            clear hL2
            by_cases hz : tkE Pv.p ar.pt.id L1 ar.pt = 0
            · have hap : L2 = L1 ++ [⟨ar.pt, A5, n5, c5⟩] := by rw [hL2', tkK, if_pos hz]
              rw [hz] at hE2'
              subst hE2'
              clear hL2'
              have hzk : tkE pid ar.pt.id (L1.map Pv.p) ar.pt = 0 := by rw [tkE_map]; exact hz
              have hall := (tkE_zero hzk).2.2.2
              have hk2 : KeptOk (L1.map Pv.p ++ [ar.pt]) := by
                have := hkx.snoc (id := ar.pt.id) (p := ar.pt)
                rwa [tkK, if_pos hzk] at this
              have hm2 : L2.map Pv.p = L1.map Pv.p ++ [ar.pt] := by rw [hap, List.map_append]; rfl
              have hl2 : L2.length = L1.length + 1 := by rw [hap]; simp
              have hct0 : (L2.getD 0 pvz).p.ct = ar.pt.ct := by
                rw [hap]
                cases L1 with
                | nil => rfl
                | cons q L1 => exact (hall q.p (by simp)).1
              have hPk2 : ∀ q ∈ L2, PvOk w q := by
                rw [hap]
                intro q hq
                rcases List.mem_append.1 hq with hq | hq
                · exact hPk1 q hq
                · obtain rfl : q = ⟨ar.pt, A5, n5, c5⟩ := by simpa using hq
                  exact ⟨hnc5, hrd5⟩
              have hda2 : ∀ q ∈ L2, q.p.da.length ≤ 450 := fun q hq => (prtE_ok (hk2.good q.p (by rw [← hm2]; exact List.mem_map_of_mem hq)).2).2.2.2.2
              have hsm := hk2.small
              rw [← hm2, List.length_map] at hsm
              obtain ⟨b2, o2, rfl, hbb, hcc⟩ := (own_rdF (d := pvz) PvC_length hown2 rfl).at_ (k := 0) (by omega)
              have q3 := hcc 3 (.int .i64 (L2.getD 0 pvz).p.ct) rfl
              rw [hct0, Nat.zero_mul, Nat.add_zero] at q3
              have hp2 : 0 < L2.length := by omega
              have hp3 : (0 : Int) < (L2.length : Nat) := by omega
              have hW := hid (fun (w' : World) (l : Later w4 w') => whole_ref (some ⟨b2, o2, none⟩) L2.length c10 L2 w' (own_rdF (d := pvz) PvC_length (own_laterF hown2 l) rfl) (fun q hq => (hPk2 q hq).later (S4.lat.trans l)) hda2 hsm)
              rw [hm2] at hW
              rw [← hm2] at HLt
              rw [hm2] at HLt
              have HL2 := hid hl2
              clear hall hk2 hct0 hPk2 hda2 hcc hap hPk1 hkx hzk hm2
              generalize hWd : whole (L1.map Pv.p ++ [ar.pt]) = W at *
              rw [hz] at HLt
              clear hz hWd
              by_cases hfull : (L1.length : Int) + 1 = ar.pt.ct
              · have hl1 := hid (HLt.out.trans (if_pos ⟨rfl, hfull⟩))
                have hq1 : decide (((L2.length : Nat) : Int) = ar.pt.ct) = true := decide_eq_true (by omega)
                have hq2 : (((L2.length : Nat) : Int) == ar.pt.ct) = true := by rw [beq_iff_eq]; omega
                clear HLt HY2 hl2 hfull
                go_wp2_with fail
                refine wp_region_parts [([0, 1, 2, 3, 4, 5, 6, 7, 8], 9), ([10], 11)] [] [12, 13] (by as_aux_lemma => kernel_rfl) (by as_aux_lemma => kernel_rfl) (by intro _ _ d _ _ h; cases d <;> exact h) ?_
                simp only [wpParts, pick, List.getElem?_cons_succ, List.getElem?_cons_zero, Option.toList_some, List.cons_append, List.nil_append]
                repeat (go_big_quiet_step (fail))
                refine wpQuiet_nil ?_
                go_wp2_with fail
                refine (hW.out _ (later_drew _)).mono ?_
                rintro e w5 ⟨A11, m11, c11, rfl, hown5, l5⟩
                go_wp2_with fail
                have S5 := S4.later ((later_drew _).trans l5)
                have hw5 : w.heap.size ≤ w4.drew.heap.size := S4.lat.size
                obtain ⟨Y, hY⟩ : ∃ Y : Ltv, Y = ⟨⟨ar.to, ar.pt.id, ar.tk, W⟩, A11, m11, c11⟩ := ⟨_, rfl⟩
                have hyb := hid (built_lr Y)
                clear e5 e6 e7 e0 e1 hW q3 S4 hb4
                try refine ⟨by first | assumption | exact later_drew _ | exact later_alloc _ _ | exact Later.refl _, ?_⟩
                try simp only [wpParts, pick, List.getElem?_cons_succ, List.getElem?_cons_zero, Option.toList_some, List.cons_append, List.nil_append]
                repeat (first | go_big_quiet_skip | (go_big_quiet_want; (refine quiet_buildM _ _ rfl (LtC Y) (by simp only [List.map_toArray, List.map_cons, List.map_nil]; rw [← hyb.out, hY]; rfl) ?_); simp only [Act.put, List.setIfInBounds_toArray, List.set_cons_succ, List.set_cons_zero]; go_big_quiet_on) | (go_big_quiet_step (fail)))
                refine wpQuiet_nil ?_
                go_wp2_with (first
                  | (refine build_oneC ?hw 38 _ rfl 53 4 _ (LtC Y) Tryz.underlying38 infoLr2 (by omega) (by omega) rfl rfl ?_; (case hw => rfl))
                  | fail)
                try refine ⟨by first | assumption | exact later_drew _ | exact later_alloc _ _ | exact Later.refl _, ?_⟩
                try simp only [wpParts, pick, List.getElem?_cons_succ, List.getElem?_cons_zero, Option.toList_some, List.cons_append, List.nil_append]
                repeat (go_big_quiet_step (fail))
                refine wpQuiet_nil ?_
                go_wp2_with (first
                  | (refine wpList_append_f (F := LtC) (d := lv0) LtC_length LtC_one (by omega) rfl _ _ _ rfl 53 _ 48 Tryz.underlying38 infoLr rfl w _ _ _ (own_laterF S5.own (later_alloc _ _)) (S5.lat.trans (later_alloc _ _)) (some ⟨w5.heap.size, 0, none⟩) 1 1 [Y] (blk_rdF LtC_length (show Blk (w5.alloc (.cells (LtC Y).toArray 53)) w5.heap.size 53 ([Y].flatMap LtC) by simp only [List.flatMap_cons, List.flatMap_nil, List.append_nil]; exact Blk.new w5 _ _) rfl) rfl rfl (by omega) (by omega) ?_; intro A12 c12 w12 hown12 hl12 hg12)
                  | fail)
                have hown5' := own_later (own_mono hown5 hw5) (later_alloc w5 (.cells (LtC Y).toArray 53))
                have hys2 : (ys ++ [Y]).map (·.lt) = ltrs (xs.map (·.ar)) (j + 1) := by
                  rw [List.map_append, HY.out, HLs.out, hl1.out, hY]
                  rfl
                have S10 := (S5.later (later_alloc w5 (.cells (LtC Y).toArray 53))).wrote (y := Y) (by simpa using hown12) hg12 hl12 (by rw [hY]; rw [hY] at hown5'; exact hown5')
                exact ⟨⟨j + 1, ys ++ [Y], by omega, by go_num, by simp; omega, S10, hys2⟩, by simp [intOf]; omega⟩
              · have hsk := hid (HY2.out (by rw [HLt.out, if_neg (fun h => hfull h.2)]))
                have hq1 : decide (((L2.length : Nat) : Int) = ar.pt.ct) = false := decide_eq_false (by omega)
                have hq2 : (((L2.length : Nat) : Int) == ar.pt.ct) = false := by rw [beq_eq_false_iff_ne]; omega
                clear HLt HY2 hl2 hfull hW
                go_wp2_with fail
                exact ⟨⟨j + 1, ys, by omega, by go_num, by omega, S4, hsk.out⟩, by simp [intOf]; omega⟩
            · have hsk := hid (HY2.out (by rw [HLt.out, if_neg (fun h => hz h.1)]))
              rw [← hE2'] at hz
              have hz1 : ((E2 : Int) == 0) = false := by rw [beq_eq_false_iff_ne]; omega
              have hz2 : decide ((E2 : Int) = 0) = false := decide_eq_false (by omega)
              clear hL2' hE2' HLt HY2
              go_wp2_with fail
              exact ⟨⟨j + 1, ys, by omega, by go_num, by omega, S4, hsk.out⟩, by simp [intOf]; omega⟩
      · have hl0 : ltrOf ((xs.map (·.ar)).take k) ar = [] := by
          unfold ltrOf
          rw [if_neg (fun h => hsk ⟨h.1, h.2.1⟩)]
        have HLx := hid (show ys.map (·.lt) = ltrs (xs.map (·.ar)) (k + 1) by rw [HY.out, HLs.out, hl0, List.append_nil])
        clear HLs HY hl0
        have hb1 : (ar.kd != 2) = true ∨ ((ar.kd != 2) = false ∧ (ar.pt.kd != 1) = true) := by
          by_cases h1 : ar.kd = 2
          · exact .inr ⟨by simp [h1], by rw [bne_iff_ne]; exact fun h => hsk ⟨h1, h⟩⟩
          · exact .inl (by simpa using h1)
        clear hsk
        rcases hb1 with hb1 | ⟨hb1, hb3⟩
        all_goals
          go_wp2_with (first
            | (refine wpList_load_at ?hw _ _ rfl b (o + k * 24) (AvC ⟨ar, .slice A5 n5 c5⟩) hc rfl _ Tryz.underlying31 rfl (by rw [AvC_length]; exact size24r) ?_; (case hw => rfl))
            | (refine wpList_store_blk rfl rfl _ _ _ rfl wr.heap.size _ _ (AvC ⟨ar, .slice A5 n5 c5⟩) (Blk.new wr _ (AvC av0)) rfl rfl 24 size24r (AvC_length _) (AvC_length av0) (AvC_oneR _ rfl) ?_; intro w2 hb2 ho2
               obtain ⟨e5, e6, e7, e0, e1⟩ := avr_cellsR hb2
               have l2 : Later wr w2 := (later_alloc wr _).only ho2 (Nat.le_refl _))
            | fail)
          exact ⟨⟨k + 1, ys, by omega, by go_num, by omega, S.later l2, HLx.out⟩, by simp [intOf]; omega⟩
    · obtain rfl : k = n := by omega
      go_wp2_with fail
      go_ret
      exact ⟨_, ys, rfl, S, hys⟩
end Go.Proofs.YtkibgdigcgakfaaGreat
