/-
  shallotlaw17.arrival.
-/
import Derived.Test.YtkibgdigcgakfaaGreatMshT
namespace Go.Proofs.YtkibgdigcgakfaaGreat
open Go.RowKit
open Go.BigFrame

abbrev az0 : List Value := [.int .u8 0, .int .u64 0, .int .i64 0, .int .i64 0, .slice none 0 0, .int .u8 0, .int .u64 0, .int .i64 0, .int .u8 0, .int .u8 0, .int .u8 0, .int .u8 0, .int .u8 0, .int .u8 0, .int .u8 0, .int .u8 0, .int .u8 0, .int .u8 0, .int .u8 0, .int .u8 0, .int .u8 0, .int .u8 0, .int .u8 0, .int .u8 0]
theorem quiet_partM {P : Program} {o : Oper} {a : Act} {J : Act → Prop} (ty : TypeId) (x : Operand) (ho : o.op = .load ty x) {w0 : World} {g : Nat} {t : TypeId} {l : List Value} (off : Nat) (vs : List Value) (hb : Blk w0 g t l) (hx : a.eval x = .pointer (some ⟨g, off, none⟩))
    (hv : ∀ j v, vs[j]? = some v → l[off + j]? = some v) (d : TypeDesc) (hu : P.underlying ty = some d) (hd : aggDesc d = true) (hi : (P.info? ty).map (·.size) = some vs.length) (h : J (a.put o.dst (.agg vs.toArray))) : o.quiet P a (fun w' => ∃ x, w' = grow w0 x) J :=
  quiet_load_agg _ x ho g off vs (fun _ hw j v hv' => by obtain ⟨y, rfl⟩ := hw; exact (hb.later ⟨y, rfl⟩).cellD _ (hv j v hv')) hx d hu hd hi h
theorem quiet_buildV {P : Program} {C : World → Prop} {a : Act} {o : Oper} {K : Act → Prop} (t : TypeId) (parts : Array (Nat × Operand)) (ho : o.op = .build t parts) (vs : List Value) (hb : P.built t (parts.map fun (i, x) => (i, a.eval x)).toList = some vs.toArray)
    (h : K (a.put o.dst (.agg vs.toArray))) : o.quiet P a C K :=
  ⟨.agg vs.toArray, fun w hw => by
    unfold Oper.quietAt execOp
    simp only [ho, Sem.run_bind, run_build w t _ _ hb, Result.andThen_ok]
    exact ⟨rfl, rfl⟩, h⟩
theorem AvC_part (ar : Arr) (v : Value) : ∀ (j : Nat) u, (PaC ar.pt v)[j]? = some u → (AvC ⟨ar, v⟩)[0 + j]? = some u := by
  intro j u hu
  rw [Nat.zero_add]
  have hl := (List.getElem?_eq_some_iff.1 hu).1
  rw [AvC, List.getElem?_append_left hl]
  exact hu
theorem AvC_mark (ar : Arr) (v : Value) : ∀ (j : Nat) u, (ar.ma.val.map W8)[j]? = some u → (AvC ⟨ar, v⟩)[8 + j]? = some u := by
  intro j u hu
  rw [AvC, List.getElem?_append_right (by simp [PaC]; omega), show 8 + j - (PaC ar.pt v).length = j + 1 + 1 + 1 by simp [PaC]; omega]
  simpa using hu
theorem size16m : (Tryz.prog.info? 29).map (·.size) = some 16 := by kernel_rfl
theorem size24w : (Tryz.prog.info? 33).map (·.size) = some 24 := by kernel_rfl
theorem AvC_oneV (ar : Arr) (A : Option Addr) (n c : Nat) : ∀ u ∈ AvC ⟨ar, .slice A n c⟩, u.oneCell' = true := by
  intro u hu
  rcases List.mem_append.1 hu with hu | hu
  · exact PaC_one _ rfl u hu
  · simp only [List.mem_cons, List.mem_map] at hu
    rcases hu with rfl | rfl | rfl | ⟨b, _, rfl⟩ <;> rfl
set_option maxRecDepth 100000 in
set_option maxHeartbeats 1000000 in
theorem arrival_any (ar : Arr) (A : Option Addr) (n c : Nat) (w : World) (hr : RdB w A n ar.pt.da) (hn : n ≤ 1048576) :
    Calls Tryz.prog 5 #[.agg (AvC ⟨ar, .slice A n c⟩).toArray] w fun e w' => ∃ A' c', e = .returned (.agg (AvC ⟨ar, .slice A' n c'⟩).toArray) ∧ OwnB w' w.heap.size A' n c' ar.pt.da ∧ Later w w' := by
  have B1 := bag_new w 31 (AvC ⟨ar, .slice A n c⟩)
  have hs1 : (w.alloc (.cells (AvC ⟨ar, .slice A n c⟩).toArray 31)).heap.size = w.heap.size + 1 := by simp
  have B2 : Bag w ((w.alloc (.cells (AvC ⟨ar, .slice A n c⟩).toArray 31)).alloc (.cells az0.toArray 33)) [((w.alloc (.cells (AvC ⟨ar, .slice A n c⟩).toArray 31)).heap.size, 33, az0), (w.heap.size, 31, AvC ⟨ar, .slice A n c⟩)] :=
    B1.add (later_alloc _ _) (by simp) (by simp) (Blk.new _ _ _)
  rw [hs1] at B2
  have hP := B2.nth 1 rfl
  have e5 := hP.cellD 5 (u := W8 ar.kd) rfl
  have e6 := hP.cellD 6 (u := W64 ar.to) rfl
  have e7 := hP.cellD 7 (u := .int .i64 ar.tk) rfl
  have hbw := hid (built_aw ar)
  go_enter Tryz.func5, Tryz.ntmps5
  go_wp2_with fail
  have hsW : ((w.alloc (.cells (AvC ⟨ar, .slice A n c⟩).toArray 31)).alloc (.cells az0.toArray 33)).heap.size = w.heap.size + 2 := by simp
  generalize ((w.alloc (.cells (AvC ⟨ar, .slice A n c⟩).toArray 31)).alloc (.cells az0.toArray 33)) = W at *
  refine wp_region_parts [([0, 1, 3, 4, 5, 6, 7, 8, 9, 10], 2)] [11] [12] (by as_aux_lemma => kernel_rfl) (by as_aux_lemma => kernel_rfl) (by intro _ _ d _ _ h; cases d <;> exact h) ?_
  simp only [wpParts, pick, List.getElem?_cons_succ, List.getElem?_cons_zero, Option.toList_some, List.cons_append, List.nil_append]
  repeat (first | go_big_quiet_skip | (go_big_quiet_want; (first | refine quiet_partM _ _ rfl 0 (PaC ar.pt (.slice A n c)) (B2.drew.nth 1 rfl) rfl (AvC_part _ _) _ Tryz.underlying28 rfl (by rw [PaC_length]; exact size5p) ?_ | refine quiet_partM _ _ rfl 8 (ar.ma.val.map W8) (B2.drew.nth 1 rfl) rfl (AvC_mark _ _) _ Tryz.underlying29 rfl (by rw [List.length_map, ar.ma.2]; exact size16m) ?_); simp only [Act.put, List.setIfInBounds_toArray, List.set_cons_succ, List.set_cons_zero]; go_big_quiet_on) | (go_big_quiet_step (fail)))
  refine wpQuiet_nil ?_
  go_wp2_with fail
  refine (twin11_any ar.pt A n c _ (hr.later B2.drew.lat) hn).mono ?_
  rintro e w3 ⟨A3, c3, rfl, hown3, l3⟩
  go_wp2_with fail
  have B3 := B2.drew.later l3
  have hs4 : W.drew.heap.size = w.heap.size + 2 := hsW
  rw [hs4] at hown3
  clear e5 e6 e7
  try refine ⟨by first | assumption | exact later_drew _ | exact later_alloc _ _ | exact Later.refl _, ?_⟩
  try simp only [wpParts, pick, List.getElem?_cons_succ, List.getElem?_cons_zero, Option.toList_some, List.cons_append, List.nil_append]
  repeat (first | go_big_quiet_skip | (go_big_quiet_want; (refine quiet_buildV _ _ rfl (AvC ⟨ar, .slice A3 n c3⟩) (by simp only [List.map_toArray, List.map_cons, List.map_nil]; exact hbw.out A3 n c3) ?_); simp only [Act.put, List.setIfInBounds_toArray, List.set_cons_succ, List.set_cons_zero]; go_big_quiet_on) | (go_big_quiet_step (fail)))
  refine wpQuiet_nil ?_
  go_wp2_with (first
    | (refine wpList_store_blk rfl rfl _ _ _ rfl (w.heap.size + 1) _ _ (AvC ⟨ar, .slice A3 n c3⟩) (B3.nth 0 rfl) rfl rfl 24 size24w (AvC_length _) rfl (AvC_oneV _ _ _ _) ?_; intro w5 hb5 ho5)
    | fail)
  have o5 := own_grown hown3 ho5 (fun k hk => .inl (by simp only [Option.some.injEq] at hk; omega))
  exact bodyPost_ret (results_blk rfl _ _ _ _ _ _ hb5 rfl Tryz.underlying33 rfl (by rw [AvC_length]; exact size24w)) rfl ⟨A3, c3, rfl, own_mono o5 (by omega), B3.lat.only ho5 (by omega)⟩
end Go.Proofs.YtkibgdigcgakfaaGreat
