/-
  shallotlaw05: FieldForms.
-/
import Derived.Test.YtmdjhbiiifnfiaaFLaw3
namespace Go.Proofs.Ytmdjhbiiifnfiaa
open Go.RowKit
open Go.BigFrame

def ofs32 (l : List Nat) : List UInt32 := l.map UInt32.ofNat
theorem NL_ofs (n : Nat) : NL n = (ofs32 (dig B32 8 n)).map W32 := by rw [NL, ofs32, List.map_map]; rfl
theorem ofs32_inj {l m : List Nat} (hl : ∀ x ∈ l, x < B32) (hm : ∀ x ∈ m, x < B32) (h : ofs32 l = ofs32 m) : l = m := by
  have e : ∀ l : List Nat, (∀ x ∈ l, x < B32) → (ofs32 l).map UInt32.toNat = l := by
    intro l hl
    rw [ofs32, List.map_map]
    conv => rhs; rw [← List.map_id l]
    apply List.map_congr_left
    intro x hx
    exact tn32 (hl x hx)
  rw [← e l hl, ← e m hm, h]
theorem ofs32_beq {x y : Nat} (hx : x < T256) (hy : y < T256) : (ofs32 (dig B32 8 x) == ofs32 (dig B32 8 y)) = (x == y) := by
  rw [Bool.eq_iff_iff, beq_iff_eq, beq_iff_eq]
  refine ⟨fun h => ?_, fun h => by rw [h]⟩
  have := ofs32_inj (dig_lt B32_pos 8 x) (dig_lt B32_pos 8 y) h
  exact dig_inj (k := 8) (B := B32) (by rw [B32_8]; exact hx) (by rw [B32_8]; exact hy) this
theorem size32 : (Try.prog.info? 33).map (·.size) = some 1 := by kernel_rfl
theorem eqg_N : Try.prog.eqGuardType Try.prog.depth 35 = false := by kernel_rfl
@[go_sem high] theorem eqGuard_N (op : BinOp) (x y : Operand) (xs ys : Array Value) (w : World) : (eqGuard op 35 x y (.agg xs) (.agg ys)).run Try.prog w = .ok () w := run_eqGuard_agg w op _ x y xs ys eqg_N
@[go_sem high] theorem run_eql_N (x y : Nat) (hx : x < T256) (hy : y < T256) (w : World) : (binOp .eql 35 (NN x) (NN y)).run Try.prog w = .ok (.bool (x == y)) w := by
  rw [run_eql_struct, NL_ofs, NL_ofs, run_equalIn_arr w 0 W32 9998 35 33 8 Try.underlying35 size32 Try.underlying33 rfl (heq_w32 _ _ Try.underlying33) _ _ (by rw [ofs32, List.length_map, dig_length]) (by rw [ofs32, List.length_map, dig_length]), ofs32_beq hx hy]
  rfl
@[go_sem] theorem rem_n32_2 (T : TypeId) (x : Nat) (hx : x < B32) : binOp .rem T (n32 x) (.int .u32 2) = pure (n32 (x % 2)) := by
  rw [n32, rem_w32i _ _ _ (by omega) (by omega) (by decide), n32_w]
  rw [UInt32.toNat_mod, tn32 hx]
  have : x % 2 < B32 := by unfold B32; omega
  rw [Nat.mod_eq_of_lt this]
  rfl
@[go_sem] theorem eql_n32i (T : TypeId) (x : Nat) (k : Int) (hx : x < B32) (h0 : 0 ≤ k) (h1 : k < 4294967296) : binOp .eql T (n32 x) (.int .u32 k) = pure (.bool (x == k.toNat)) := by
  rw [n32_lit k h0 h1, n32, n32, eql_w32]
  congr 2
  rw [Bool.eq_iff_iff]
  simp only [beq_iff_eq, ← UInt32.toNat_inj, tn32 hx]
  rw [tn32 (show k.toNat < B32 by unfold B32; omega)]
theorem quiet_build1 {ops : Array Oper} {C : World → Prop} {a : Act} {o : Oper} {K : Act → Prop} (n : Nat) (hn : n < B64) (x : Operand) (ho : o.op = .build 28 #[(0, x)]) (hx : a.eval x = n64 n) (h : K (a.put o.dst (E n))) : o.quiet Try.prog a C K :=
  ⟨E n, fun w hw => by
    have hb : Try.prog.built 28 (((#[(0, x)] : Array (Nat × Operand)).map fun (i, x) => (i, a.eval x)).toList) = some (EL n).toArray := by
      simp only [List.map_toArray, List.map_cons, List.map_nil, hx]
      rw [EL_small hn]
      kernel_rfl
    unfold Oper.quietAt execOp
    simp only [ho, Sem.run_bind, run_build w _ _ _ hb, Result.andThen_ok, Sem.run_pure]
    exact ⟨rfl, rfl⟩, h⟩
set_option maxRecDepth 100000 in
set_option maxHeartbeats 4000000 in
theorem fieldForms_walk (a b n : Nat) (ha : a < T256) (hb : b < T256) (hn : n < B64) (w : World) :
    Calls Try.prog 4 #[E a, E b, n64 n] w fun e w' => e = .returned (.bool true) ∧ Later w w' := by
  have h1 : Blk ((w.alloc (.cells (EL a).toArray 24)).alloc (.cells (EL b).toArray 24)) w.heap.size 24 (EL a) := (Blk.new _ _ _).later (later_alloc _ _)
  have h2 : Blk ((w.alloc (.cells (EL a).toArray 24)).alloc (.cells (EL b).toArray 24)) (w.heap.size + 1) 24 (EL b) := Blk.new' _ _ _ (by simp)
  have L0 : Later w ((w.alloc (.cells (EL a).toArray 24)).alloc (.cells (EL b).toArray 24)) := (later_alloc _ _).trans (later_alloc _ _)
  have haP : a % P25 < P25 := Nat.mod_lt _ P25_pos
  have hbP : b % P25 < P25 := Nat.mod_lt _ P25_pos
  have haT : a % P25 < T256 := Nat.lt_trans haP (by decide)
  have hbT : b % P25 < T256 := Nat.lt_trans hbP (by decide)
  have hnT : n < T256 := small_T256 hn
  have cNorm := hid (norm_any a ha)
  have cNa := hid (norm_ref a ha)
  have cNb := hid (norm_ref b hb)
  have cIs := hid (lawIs_eq (a % P25) haT)
  have cOf := hid (of_any n hn)
  have cBy := hid (bytes_any a ha)
  have cBr := hid (show ∀ w, Calls Try.prog 29 #[NN (a % P25)] w fun e w' => e = .returned (BB (a % P25)) ∧ Later w w' from fun w => by have := bytes_ref (a % P25) haT w; rwa [Nat.mod_mod] at this)
  have cFi := hid (is_any a b ha hb)
  have cOdd := hid (odd_any a ha)
  have hl0 : lem (a % P25) 0 % 2 = a % P25 % 2 := by unfold lem B32; omega
  have hbl := nb_length (a % P25)
  generalize a % P25 = x at *
  generalize b % P25 = y at *
  have hbb : ∀ W, (binOp .neq 42 (BB x) (BB x)).run Try.prog W = .ok (.bool false) W := fun W => by rw [run_neq_b32 _ _ hbl hbl]; simp
  have hee : ∀ W, (binOp .neq 28 (E n) (E n)).run Try.prog W = .ok (.bool false) W := fun W => by rw [run_neq_E _ _ hnT hnT]; simp
  have hee2 : ∀ W, (binOp .neq 28 (E n) (.agg #[n64 n, .int .u64 0, .int .u64 0, .int .u64 0])).run Try.prog W = .ok (.bool false) W := fun W => by
    have := hee W
    rwa [show E n = .agg #[n64 n, .int .u64 0, .int .u64 0, .int .u64 0] by rw [E, EL_small hn]] at this ⊢
  clear hee
  have HL0 := hid hl0
  clear hl0
  go_enter Try.func4, Try.ntmps4
  go_wp2_with fail
  (with_reducible refine (awake05 _).mono ?_); rintro e w2 ⟨rfl, hl2⟩
  replace h1 := h1.later hl2
  replace h2 := h2.later hl2
  replace L0 := L0.trans hl2
  go_wp2_with fail
  refine wp_region_makers [0, 3] [([], 1, 1), ([], 1, 2), ([], 1, 4), ([], 1, 5), ([], 2, 6), ([], 2, 7)] [] [8, 9] [6, 7] (fun _ => (fun g => .pointer (some ⟨g, 0, none⟩), .cells (List.replicate 8 (Value.int .u32 0)).toArray 35)) (by as_aux_lemma => kernel_rfl) (by as_aux_lemma => kernel_rfl) (by intro _ _ d _ _ h; cases d <;> exact h) (by intro _ _ d _ _ h; cases d <;> exact h) ?_
  simp only [pick, List.getElem?_cons_succ, List.getElem?_cons_zero, Option.toList_some, List.cons_append, List.nil_append]
  repeat (first | go_big_quiet_skip | (go_big_quiet_want; (first | refine quiet_4 _ rfl h1.drew rfl ?_ | refine quiet_4 _ rfl h2.drew rfl ?_); simp only [Act.put, List.setIfInBounds_toArray, List.set_cons_succ, List.set_cons_zero]; go_big_quiet_on) | (go_big_quiet_step (fail)))
  refine wpQuiet_nil ?_
  refine ⟨?mk, ?_⟩
  case mk =>
    refine ⟨fun o ho => ?_, fun o ho => ?_, trivial⟩
    all_goals
      simp only [List.getElem?_cons_succ, List.getElem?_cons_zero, Option.some.injEq] at ho
      subst ho
      refine ⟨rfl, fun W => ?_⟩
      unfold execOp
      simp [go_sem]
  simp only [wpPartsM, pick, List.getElem?_cons_succ, List.getElem?_cons_zero, Option.toList_some, List.cons_append, List.nil_append]
  refine wpQuiet_nil ?_
  intro v1 j1
  have Lr := (later_drew _).trans j1
  clear j1
  go_wp2_with fail
  (with_reducible refine (from_any a _).mono ?_); rintro e u ⟨rfl, j2⟩
  go_wp2_with fail
  try refine ⟨by first | assumption | exact later_drew _ | exact later_alloc _ _ | exact Later.refl _, ?_⟩
  try simp only [wpParts, pick, List.getElem?_cons_succ, List.getElem?_cons_zero, Option.toList_some, List.cons_append, List.nil_append]
  repeat (go_big_quiet_step (fail))
  refine wpQuiet_nil ?_
  intro v j3
  replace Lr := (Lr.trans j2).trans j3
  clear j2 j3
  go_wp2_with fail
  (with_reducible refine (cNa.out _).mono ?_); rintro e u ⟨rfl, j2⟩
  go_wp2_with fail
  try refine ⟨by first | assumption | exact later_drew _ | exact later_alloc _ _ | exact Later.refl _, ?_⟩
  try simp only [wpParts, pick, List.getElem?_cons_succ, List.getElem?_cons_zero, Option.toList_some, List.cons_append, List.nil_append]
  repeat (go_big_quiet_step (fail))
  refine wpQuiet_nil ?_
  intro v j3
  replace Lr := (Lr.trans j2).trans j3
  clear j2 j3
  go_wp2_with fail
  (with_reducible refine (from_any b _).mono ?_); rintro e u ⟨rfl, j2⟩
  go_wp2_with fail
  try refine ⟨by first | assumption | exact later_drew _ | exact later_alloc _ _ | exact Later.refl _, ?_⟩
  try simp only [wpParts, pick, List.getElem?_cons_succ, List.getElem?_cons_zero, Option.toList_some, List.cons_append, List.nil_append]
  repeat (go_big_quiet_step (fail))
  refine wpQuiet_nil ?_
  intro v j3
  replace Lr := (Lr.trans j2).trans j3
  clear j2 j3
  go_wp2_with fail
  (with_reducible refine (cNb.out _).mono ?_); rintro e u ⟨rfl, j2⟩
  go_wp2_with fail
  try refine ⟨by first | assumption | exact later_drew _ | exact later_alloc _ _ | exact Later.refl _, ?_⟩
  try simp only [wpParts, pick, List.getElem?_cons_succ, List.getElem?_cons_zero, Option.toList_some, List.cons_append, List.nil_append]
  repeat (go_big_quiet_step (fail))
  refine wpQuiet_nil ?_
  replace Lr := Lr.trans j2
  clear j2
  intro v5 g5 j5 hg5 _ hb5
  refine wpQuiet_nil ?_
  intro v6 g6 j6 hg6 hn6 hb6
  refine wpQuiet_nil ?_
  intro v7 j7
  replace Lr := Lr.trans ((j5.trans j6).trans j7)
  have hX : Blk v7 g5 35 (List.replicate 8 (Value.int .u32 0)) := Blk.later hb5 (j6.trans j7)
  have hY : Blk v7 g6 35 (List.replicate 8 (Value.int .u32 0)) := Blk.later hb6 j7
  have hne : g5 ≠ g6 := fun e => hn6 (.inl e.symm)
  have hs2 := h2.lt
  replace h1 := h1.later Lr
  replace h2 := h2.later Lr
  replace L0 := L0.trans Lr
  have hgg5 : w.heap.size + 1 < g5 := Nat.lt_of_lt_of_le hs2 hg5
  have hgg6 : w.heap.size + 1 < g6 := Nat.lt_of_lt_of_le hs2 hg6
  clear j5 j6 j7 hb5 hb6 Lr hn6 hg5 hg6 hs2 hl2
  simp only [List.getElem?_cons_succ, List.getElem?_cons_zero, Option.bind_some, Act.put, List.setIfInBounds_toArray, List.set_cons_succ, List.set_cons_zero]
  go_wp2_with (first
    | (refine store_N rfl rfl _ _ rfl hX rfl rfl rfl ?_; intro w3 hb3 ho3
       have hY3 := hY.only ho3 (fun e => hne e.symm))
    | (refine store_N rfl rfl _ _ rfl hY3 rfl rfl rfl ?_; intro w4 hb4 ho4)
    | fail)
  have hx := hb3.only ho4 hne
  have hy := hb4
  replace h1 := (h1.only ho3 (by omega)).only ho4 (by omega)
  replace h2 := (h2.only ho3 (by omega)).only ho4 (by omega)
  replace L0 := (L0.only ho3 (by omega)).only ho4 (by omega)
  clear hb3 hb4 hX hY hY3 ho3 ho4
  replace h1 := h1.drew
  replace h2 := h2.drew
  replace hx := hx.drew
  replace hy := hy.drew
  replace L0 := L0.trans (later_drew _)
  refine wp_region_parts [([0, 2], 1), ([], 3), ([4, 5, 6, 8, 9], 7), ([10, 11, 12, 13, 15], 14), ([], 16)] [17, 18] [] (by as_aux_lemma => kernel_rfl) (by as_aux_lemma => kernel_rfl) (by intro _ _ d _ _ h; cases d <;> exact h) ?_
  simp only [wpParts, pick, List.getElem?_cons_succ, List.getElem?_cons_zero, Option.toList_some, List.cons_append, List.nil_append]
  repeat (first | go_big_quiet_skip | (go_big_quiet_want; (first | refine quiet_4 _ rfl h1 rfl ?_ | refine quiet_4 _ rfl h2 rfl ?_ | refine quiet_N _ rfl hx rfl ?_ | refine quiet_N _ rfl hy rfl ?_ | refine quiet_build1 n hn _ rfl rfl ?_); simp only [Act.put, List.setIfInBounds_toArray, List.set_cons_succ, List.set_cons_zero]; go_big_quiet_on) | (go_big_quiet_step (fail)))
  refine wpQuiet_nil ?_
  go_wp2_with fail
  (with_reducible refine (cNorm.out _).mono ?_); rintro e u ⟨rfl, k0⟩
  replace h1 := h1.later k0
  replace h2 := h2.later k0
  replace hx := hx.later k0
  replace hy := hy.later k0
  replace L0 := L0.trans k0
  go_wp2_with fail
  try refine ⟨by first | assumption | exact later_drew _ | exact later_alloc _ _ | exact Later.refl _, ?_⟩
  try simp only [wpParts, pick, List.getElem?_cons_succ, List.getElem?_cons_zero, Option.toList_some, List.cons_append, List.nil_append]
  repeat (first | go_big_quiet_skip | (go_big_quiet_want; (first | refine quiet_4 _ rfl h1 rfl ?_ | refine quiet_4 _ rfl h2 rfl ?_ | refine quiet_N _ rfl hx rfl ?_ | refine quiet_N _ rfl hy rfl ?_ | refine quiet_build1 n hn _ rfl rfl ?_); simp only [Act.put, List.setIfInBounds_toArray, List.set_cons_succ, List.set_cons_zero]; go_big_quiet_on) | (go_big_quiet_step (fail)))
  refine wpQuiet_nil ?_
  clear k0
  go_wp2_with fail
  (with_reducible refine (cIs.out _).mono ?_); rintro e u ⟨rfl, k0⟩
  replace h1 := h1.later k0
  replace h2 := h2.later k0
  replace hx := hx.later k0
  replace hy := hy.later k0
  replace L0 := L0.trans k0
  go_wp2_with fail
  try refine ⟨by first | assumption | exact later_drew _ | exact later_alloc _ _ | exact Later.refl _, ?_⟩
  try simp only [wpParts, pick, List.getElem?_cons_succ, List.getElem?_cons_zero, Option.toList_some, List.cons_append, List.nil_append]
  repeat (first | go_big_quiet_skip | (go_big_quiet_want; (first | refine quiet_4 _ rfl h1 rfl ?_ | refine quiet_4 _ rfl h2 rfl ?_ | refine quiet_N _ rfl hx rfl ?_ | refine quiet_N _ rfl hy rfl ?_ | refine quiet_build1 n hn _ rfl rfl ?_); simp only [Act.put, List.setIfInBounds_toArray, List.set_cons_succ, List.set_cons_zero]; go_big_quiet_on) | (go_big_quiet_step (fail)))
  refine wpQuiet_nil ?_
  clear k0
  go_wp2_with fail
  (with_reducible refine (cOf.out _).mono ?_); rintro e u ⟨rfl, k0⟩
  replace h1 := h1.later k0
  replace h2 := h2.later k0
  replace hx := hx.later k0
  replace hy := hy.later k0
  replace L0 := L0.trans k0
  go_wp2_with fail
  try refine ⟨by first | assumption | exact later_drew _ | exact later_alloc _ _ | exact Later.refl _, ?_⟩
  try simp only [wpParts, pick, List.getElem?_cons_succ, List.getElem?_cons_zero, Option.toList_some, List.cons_append, List.nil_append]
  repeat (first | go_big_quiet_skip | (go_big_quiet_want; (first | refine quiet_4 _ rfl h1 rfl ?_ | refine quiet_4 _ rfl h2 rfl ?_ | refine quiet_N _ rfl hx rfl ?_ | refine quiet_N _ rfl hy rfl ?_ | refine quiet_build1 n hn _ rfl rfl ?_); simp only [Act.put, List.setIfInBounds_toArray, List.set_cons_succ, List.set_cons_zero]; go_big_quiet_on) | (go_big_quiet_step (fail)))
  refine wpQuiet_nil ?_
  clear k0
  go_wp2_with fail
  (with_reducible refine (cBy.out _).mono ?_); rintro e u ⟨rfl, k0⟩
  replace h1 := h1.later k0
  replace h2 := h2.later k0
  replace hx := hx.later k0
  replace hy := hy.later k0
  replace L0 := L0.trans k0
  go_wp2_with fail
  try refine ⟨by first | assumption | exact later_drew _ | exact later_alloc _ _ | exact Later.refl _, ?_⟩
  try simp only [wpParts, pick, List.getElem?_cons_succ, List.getElem?_cons_zero, Option.toList_some, List.cons_append, List.nil_append]
  repeat (first | go_big_quiet_skip | (go_big_quiet_want; (first | refine quiet_4 _ rfl h1 rfl ?_ | refine quiet_4 _ rfl h2 rfl ?_ | refine quiet_N _ rfl hx rfl ?_ | refine quiet_N _ rfl hy rfl ?_ | refine quiet_build1 n hn _ rfl rfl ?_); simp only [Act.put, List.setIfInBounds_toArray, List.set_cons_succ, List.set_cons_zero]; go_big_quiet_on) | (go_big_quiet_step (fail)))
  refine wpQuiet_nil ?_
  clear k0
  go_wp2_with fail
  (with_reducible refine (cBr.out _).mono ?_); rintro e u ⟨rfl, k0⟩
  replace h1 := h1.later k0
  replace h2 := h2.later k0
  replace hx := hx.later k0
  replace hy := hy.later k0
  replace L0 := L0.trans k0
  go_wp2_with fail
  try refine ⟨by first | assumption | exact later_drew _ | exact later_alloc _ _ | exact Later.refl _, ?_⟩
  try simp only [wpParts, pick, List.getElem?_cons_succ, List.getElem?_cons_zero, Option.toList_some, List.cons_append, List.nil_append]
  repeat (first | go_big_quiet_skip | (go_big_quiet_want; (first | refine quiet_4 _ rfl h1 rfl ?_ | refine quiet_4 _ rfl h2 rfl ?_ | refine quiet_N _ rfl hx rfl ?_ | refine quiet_N _ rfl hy rfl ?_ | refine quiet_build1 n hn _ rfl rfl ?_); simp only [Act.put, List.setIfInBounds_toArray, List.set_cons_succ, List.set_cons_zero]; go_big_quiet_on) | (go_big_quiet_step (fail)))
  refine wpQuiet_nil ?_
  clear k0
  go_wp2_with fail
  have dx := hx.drew.cellD 0 (NL_get x 0 (by omega))
  have hl0 := HL0.out
  have hx2 : (x % 2 < B32) = True := eq_true (Nat.lt_trans (Nat.mod_lt _ (by omega)) (by decide : 2 < B32))
  replace h1 := h1.drew
  replace h2 := h2.drew
  replace hx := hx.drew
  replace hy := hy.drew
  replace L0 := L0.trans (later_drew _)
  refine wp_region_parts [([0, 1, 3, 4, 5], 2), ([6, 7, 8, 10, 11, 12, 13], 9)] [14, 15, 16] [] (by as_aux_lemma => kernel_rfl) (by as_aux_lemma => kernel_rfl) (by intro _ _ d _ _ h; cases d <;> exact h) ?_
  simp only [wpParts, pick, List.getElem?_cons_succ, List.getElem?_cons_zero, Option.toList_some, List.cons_append, List.nil_append]
  repeat (first | go_big_quiet_skip | (go_big_quiet_want; (first | refine quiet_4 _ rfl h1 rfl ?_ | refine quiet_4 _ rfl h2 rfl ?_ | refine quiet_N _ rfl hx rfl ?_ | refine quiet_N _ rfl hy rfl ?_ | refine quiet_build1 n hn _ rfl rfl ?_); simp only [Act.put, List.setIfInBounds_toArray, List.set_cons_succ, List.set_cons_zero]; go_big_quiet_on) | (go_big_quiet_step (fail)))
  refine wpQuiet_nil ?_
  go_wp2_with fail
  (with_reducible refine (cFi.out _).mono ?_); rintro e u ⟨rfl, k0⟩
  replace h1 := h1.later k0
  replace h2 := h2.later k0
  replace hx := hx.later k0
  replace hy := hy.later k0
  replace L0 := L0.trans k0
  obtain ⟨z, hz⟩ : ∃ z, z = (x == y) := ⟨_, rfl⟩
  rw [← hz]
  have hxy : ∀ W, (binOp .eql 35 (NN x) (NN y)).run Try.prog W = .ok (.bool z) W := fun W => by rw [run_eql_N _ _ haT hbT, hz]
  clear hz
  replace dx := hx.cellD 0 (NL_get x 0 (by omega))
  go_wp2_with fail
  try refine ⟨by first | assumption | exact later_drew _ | exact later_alloc _ _ | exact Later.refl _, ?_⟩
  try simp only [wpParts, pick, List.getElem?_cons_succ, List.getElem?_cons_zero, Option.toList_some, List.cons_append, List.nil_append]
  repeat (first | go_big_quiet_skip | (go_big_quiet_want; (first | refine quiet_4 _ rfl h1 rfl ?_ | refine quiet_4 _ rfl h2 rfl ?_ | refine quiet_N _ rfl hx rfl ?_ | refine quiet_N _ rfl hy rfl ?_ | refine quiet_build1 n hn _ rfl rfl ?_); simp only [Act.put, List.setIfInBounds_toArray, List.set_cons_succ, List.set_cons_zero]; go_big_quiet_on) | (go_big_quiet_step (fail)))
  refine wpQuiet_nil ?_
  clear k0
  go_wp2_with fail
  (with_reducible refine (cOdd.out _).mono ?_); rintro e u ⟨rfl, k0⟩
  replace h1 := h1.later k0
  replace h2 := h2.later k0
  replace hx := hx.later k0
  replace hy := hy.later k0
  replace L0 := L0.trans k0
  go_wp2_with fail
  try refine ⟨by first | assumption | exact later_drew _ | exact later_alloc _ _ | exact Later.refl _, ?_⟩
  try simp only [wpParts, pick, List.getElem?_cons_succ, List.getElem?_cons_zero, Option.toList_some, List.cons_append, List.nil_append]
  repeat (first | go_big_quiet_skip | (go_big_quiet_want; (first | refine quiet_4 _ rfl h1 rfl ?_ | refine quiet_4 _ rfl h2 rfl ?_ | refine quiet_N _ rfl hx rfl ?_ | refine quiet_N _ rfl hy rfl ?_ | refine quiet_build1 n hn _ rfl rfl ?_); simp only [Act.put, List.setIfInBounds_toArray, List.set_cons_succ, List.set_cons_zero]; go_big_quiet_on) | (go_big_quiet_step (fail)))
  refine wpQuiet_nil ?_
  clear k0
  go_wp2
  go_ret
  exact ⟨rfl, L0⟩
end Go.Proofs.Ytmdjhbiiifnfiaa
