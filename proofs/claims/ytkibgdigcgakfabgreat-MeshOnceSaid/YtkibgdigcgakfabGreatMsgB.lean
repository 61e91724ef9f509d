/-
  frame.Message: Take of one part, Missing, Bytes.
-/
import Derived.Test.YtkibgdigcgakfabGreatMsg
namespace Go.Proofs.YtkibgdigcgakfabGreat
open Go.RowKit
open Go.BigFrame

theorem KeptOk.ct {ks : List Prt} (h : KeptOk ks) (hne : ks ≠ []) : 1 ≤ ctOf ks ∧ ctOf ks ≤ 16 ∧ (ks.length : Int) ≤ ctOf ks ∧ ∀ q ∈ ks, q.ct = ctOf ks := by
  have hl : ks.getLast? = some (ks.getLast hne) := List.getLast?_eq_some_getLast hne
  have hm := List.getLast_mem hne
  generalize ks.getLast hne = l at hl hm
  have hc : ctOf ks = l.ct := by rw [ctOf, hl]; rfl
  obtain ⟨h1, h2, _⟩ := prtE_ok (h.good l hm).2
  have hs : ∀ q ∈ ks, q.ct = l.ct := fun q hq => h.same q hq l hm
  rw [hc]
  exact ⟨h1, h2, h.le hs (by omega), hs⟩
theorem daAt_le {ks : List Prt} (h : KeptOk ks) (i : Nat) : (daAt ks i).length ≤ 450 := by
  unfold daAt
  cases hf : ks.find? (fun q => q.ix == (i : Int)) with
  | none => simp
  | some r => exact (prtE_ok (h.good r (List.mem_of_find?_eq_some hf)).2).2.2.2.2
theorem flat_le {f : Nat → List UInt8} {c : Nat} (h : ∀ i, (f i).length ≤ c) : ∀ n, ((List.range n).map f).flatten.length ≤ n * c
  | 0 => by simp
  | n + 1 => by
    have := flat_le h n
    have := h n
    rw [List.range_succ, List.map_append, List.flatten_append, List.length_append, Nat.add_mul]
    simp only [List.map_cons, List.map_nil, List.flatten_cons, List.flatten_nil, List.append_nil]
    omega
set_option maxRecDepth 100000 in
set_option maxHeartbeats 4000000 in
/-- One part alone. -/
theorem take1_any (base g : Nat) (id : UInt64) (ks : List Prt) (pv : List Value) (p : Prt) (A : Option Addr) (n c : Nat) (bt : Nat) (t : TypeId) (w : World) (hm : MsgAt w base g id ks pv) (hk : KeptOk ks) (hr : RdB w A n p.da) (hav : Avoid (· = g) A n) (hb : base ≤ w.heap.size) (hkl : ks.length ≤ 1048576)
    (hbt : Blk w bt t (PaC p (.slice A n c))) :
    Calls Tryz.prog 17 #[.pointer (some ⟨g, 0, none⟩), .slice (some ⟨bt, 0, none⟩) 1 1] w fun e w' => e = .returned (.int .i64 (tkE pid id ks p : Nat)) ∧ (∃ pv', MsgAt w' base g id (tkK pid id ks p) pv') ∧ Only g w w' := by
  have H := hid (fun (w' : World) (l : Later w w') => takeOne_any base g id ks pv p A n c w' (hm.later l) hk (hr.later l) hav (Nat.le_trans hb l.size) hkl)
  generalize tkE pid id ks p = E at *
  generalize tkK pid id ks p = K at *
  clear hm hk hr hav
  go_enter Tryz.func17, Tryz.ntmps17
  go_wp2
  go_loopw [5, 11] (fun f i wr => (i = .int .i64 0 ∧ f = .int .i64 0 ∧ Later w wr) ∨ (i = .int .i64 1 ∧ f = .int .i64 (E : Nat) ∧ (∃ pv', MsgAt wr base g id K pv') ∧ Only g w wr)) (fun _ i _ => 1 - (intOf i).toNat)
  case atStart => exact .inl ⟨rfl, rfl, Later.refl w⟩
  case round =>
    rcases hrel with ⟨rfl, rfl, L⟩ | ⟨rfl, rfl, h2, h3⟩
    · have hbt' := hbt.later L
      have hbl := hbt'.lt
      have B1 := bag_new wr 32 pz0
      go_wp2_with (first
        | (refine load_Pa rfl _ rfl hbt' rfl ?_)
        | (refine store_Pa rfl rfl _ _ rfl (B1.nth 0 rfl) rfl rfl rfl rfl ?_; intro w2 hb2 ho2
           have l2 : Later wr w2 := B1.lat.only ho2 (Nat.le_refl _))
        | (refine load_Pa rfl _ rfl hb2 rfl ?_)
        | fail)
      (refine (H.out _ (L.trans l2)).mono ?_); rintro e w3 ⟨rfl, hM3, o3⟩
      have O3 : Only g w w3 := (L.trans l2).thenOnly o3
      clear H hbt' B1 hb2 ho2 l2 o3 L
      by_cases hE : E = 0
      · subst hE
        go_wp2_with fail
        exact ⟨.inr ⟨by go_num, rfl, hM3, O3⟩, by simp [intOf]⟩
      · have hE1 : ((E : Int) != 0) = true := by
          rw [bne_iff_ne]
          omega
        go_wp2_with fail
        exact ⟨.inr ⟨by go_num, rfl, hM3, O3⟩, by simp [intOf]⟩
    · go_wp2_with fail
      go_ret
      exact ⟨rfl, h2, h3⟩
set_option maxRecDepth 100000 in
theorem missing_any (base g : Nat) (id : UInt64) (ks : List Prt) (pv : List Value) (w : World) (hm : MsgAt w base g id ks pv) (hk : KeptOk ks) (hne : ks ≠ []) :
    Calls Tryz.prog 18 #[.pointer (some ⟨g, 0, none⟩)] w fun e w' => e = .returned (.int .i64 (ctOf ks - (ks.length : Int))) ∧ Later w w' := by
  obtain ⟨c0, c1, c2⟩ := hm.cells
  obtain ⟨h1, h2, h3, _⟩ := hk.ct hne
  have hpos := List.length_pos_iff.2 hne
  generalize ctOf ks = CT at *
  generalize ks.length = KL at *
  have h0 : decide ((KL : Int) = 0) = false := decide_eq_false (by omega)
  go_enter Tryz.func18, Tryz.ntmps18
  go_wp2_with fail
  refine wp_region_parts [] [0, 1, 2, 3, 4, 5, 6, 7, 8, 9] [] (by as_aux_lemma => kernel_rfl) (by as_aux_lemma => kernel_rfl) (by intro _ _ d _ _ h; cases d <;> exact h) ?_
  simp only [wpParts, pick, List.getElem?_cons_succ, List.getElem?_cons_zero, Option.toList_some, List.cons_append, List.nil_append]
  repeat (go_big_quiet_step (fail))
  refine wpQuiet_nil ?_
  go_wp2_with fail
  go_ret
  exact ⟨rfl, later_drew w⟩
set_option maxRecDepth 100000 in
set_option maxHeartbeats 1000000 in
theorem mbytes_any (base g : Nat) (id : UInt64) (ks : List Prt) (pv : List Value) (w : World) (hm : MsgAt w base g id ks pv) (hk : KeptOk ks) (hne : ks ≠ []) (hf : (ks.length : Int) = ctOf ks) :
    Calls Tryz.prog 19 #[.pointer (some ⟨g, 0, none⟩)] w fun e w' => ∃ A n c, e = .returned (.tuple #[.slice A n c, .int .i64 0]) ∧ OwnB w' w.heap.size A n c (whole ks) ∧ Later w w' := by
  have HM := hid (fun (w' : World) (l : Later w w') => missing_any base g id ks pv w' (hm.later l) hk hne)
  obtain ⟨h1, h2, h3, _⟩ := hk.ct hne
  have hw := whole_eq hk
  have hfl : (List.range ks.length).flatMap (daAt ks) = ((List.range ks.length).map (daAt ks)).flatten := by rw [List.flatMap_def]
  rw [hfl] at hw
  have hle := flat_le (daAt_le hk) ks.length
  have hP : Hid (∀ w', Later w w' → Parts w' (fun _ => False) (some ⟨g, 19, none⟩) ks.length ((List.range ks.length).map (daAt ks))) := by
    refine hid fun w' l => ⟨pv.take ks.length, ?_, fun _ _ _ h => h, by rw [List.length_take, hm.len, List.length_map, List.length_range]; omega, fun j v p hv hp => ?_⟩
    · refine ⟨by rw [List.length_take, hm.len]; omega, fun _ => ⟨g, 19, rfl, (hm.blk.later l).lt, fun j u hu => ?_⟩⟩
      rw [List.getElem?_take] at hu
      split at hu
      · refine (hm.blk.later l).cellD (19 + j) ?_
        have hl : ((hvOf ks).map Value.bool).length = 16 := by simp [hvOf]
        rw [MsC, show 19 + j = (16 + j) + 1 + 1 + 1 by omega, List.getElem?_cons_succ, List.getElem?_cons_succ, List.getElem?_cons_succ, List.getElem?_append_right (by omega), hl, show 16 + j - 16 = j by omega]
        exact hu
      · cases hu
    · rw [List.getElem?_take] at hv
      split at hv
      · rename_i hj
        rw [List.getElem?_map, List.getElem?_range hj] at hp
        obtain rfl : daAt ks j = p := Option.some.inj hp
        rcases (hm.later l).pcs j v hv with ⟨rfl, e⟩ | ⟨gp, rfl, _, hb⟩
        · exact ⟨none, 0, 0, rfl, Nat.le_refl _, by rw [e]; exact rdb_none w', fun _ _ h => by cases h⟩
        · exact ⟨_, _, _, rfl, Nat.le_refl _, hb.rd (by simp), fun _ _ _ h => h⟩
      · cases hv
  obtain ⟨c0, c1, c2⟩ := hm.cells
  have HJ := hid (fun (w' : World) (l : Later w w') => cjoin_any (some ⟨g, 19, none⟩) ks.length 16 _ w' (hP.out w' l) (by omega) (by omega))
  rw [← hf] at h2 HM c1
  rw [Int.sub_self] at HM
  rw [← hw] at HJ
  generalize whole ks = W at *
  generalize ks.length = KL at *
  clear hP hw hfl hle hf
  go_enter Tryz.func19, Tryz.ntmps19
  go_wp2_with fail
  (refine (HM.out _ (Later.refl w)).mono ?_); rintro e w2 ⟨rfl, j2⟩
  have hb2 := hm.blk.later j2
  have d1 : w2.cell? ⟨g, 1, none⟩ = some (.int .i64 (KL : Nat)) := (j2.below.cell (p := ⟨g, 1, none⟩) hm.blk.lt).trans c1
  go_wp2_with fail
  refine wp_region_parts [([0, 1, 2, 3, 4, 5, 6, 7], 8)] [9, 10] [] (by as_aux_lemma => kernel_rfl) (by as_aux_lemma => kernel_rfl) (by intro _ _ d _ _ h; cases d <;> exact h) ?_
  simp only [wpParts, pick, List.getElem?_cons_succ, List.getElem?_cons_zero, Option.toList_some, List.cons_append, List.nil_append]
  repeat (go_big_quiet_step (fail))
  refine wpQuiet_nil ?_
  go_wp2_with fail
  (refine (HJ.out _ (j2.trans (later_drew _))).mono ?_); rintro e w3 ⟨A', c', rfl, hown, j3⟩
  go_wp2_with fail
  try refine ⟨by first | assumption | exact later_drew _ | exact later_alloc _ _ | exact Later.refl _, ?_⟩
  try simp only [wpParts, pick, List.getElem?_cons_succ, List.getElem?_cons_zero, Option.toList_some, List.cons_append, List.nil_append]
  repeat (go_big_quiet_step (fail))
  refine wpQuiet_nil ?_
  go_wp2_with fail
  go_ret2
  exact ⟨_, _, _, rfl, own_mono hown (j2.trans (later_drew _)).size, (j2.trans (later_drew _)).trans j3⟩
end Go.Proofs.YtkibgdigcgakfabGreat
