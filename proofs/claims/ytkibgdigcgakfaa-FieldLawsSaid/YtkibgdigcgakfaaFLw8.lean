/-
  FieldLaws: its walk.
-/
import Derived.Test.YtkibgdigcgakfaaFLaws
import Derived.Test.YtkibgdigcgakfaaCMult
import Derived.Test.YtkibgdigcgakfaaBag
import Derived.Test.YtkibgdigcgakfaaBagMore
import Derived.Test.YtkibgdigcgakfaaFlG
namespace Go.Proofs.Ytkibgdigcgakfaa
open Go.RowKit
open Go.BigFrame
set_option linter.unusedSimpArgs false
set_option linter.unusedVariables false

theorem sum3 (x y z : Nat) (hx : x < T256) (hy : y < T256) (hz : z < T256) (w : World) (g : Nat) (hb : Blk w g 26 (EL x ++ (EL y ++ EL z))) :
    Calls Try.prog 6 #[.slice (some ⟨g, 0, none⟩) 3 3] w fun e w' => e = .returned (E ((x + (y + z)) % P25)) ∧ Later w w' := by
  have := sum_any (some ⟨g, 0, none⟩) 3 3 [x, y, z] w (rdE_new [x, y, z] 3 hb (by simp) rfl) (by intro v hv; simp at hv; rcases hv with rfl | rfl | rfl; exact hx; exact hy; exact hz) (by omega)
  rwa [show [x, y, z].sum = x + (y + z) by simp] at this
theorem product3 (x y z : Nat) (hx : x < T256) (hy : y < T256) (hz : z < T256) (w : World) (g : Nat) (hb : Blk w g 26 (EL x ++ (EL y ++ EL z))) :
    Calls Try.prog 7 #[.slice (some ⟨g, 0, none⟩) 3 3] w fun e w' => e = .returned (E (prodN [x, y, z] % P25)) ∧ Later w w' :=
  product_any (some ⟨g, 0, none⟩) 3 3 [x, y, z] w (rdE_new [x, y, z] 3 hb (by simp) rfl) (by intro v hv; simp at hv; rcases hv with rfl | rfl | rfl; exact hx; exact hy; exact hz) (by omega) (by omega)
theorem makes_row3 {ops : Array Oper} {o : Oper} {a : Act} (hw : Region.wanted o (yielded ops a.tmps) = true) (x y z : Operand) (ho : o.op = .buildSlice 64 3 #[(0, x), (1, y), (2, z)]) (n m l : Nat) (hx : a.eval x = E n) (hy : a.eval y = E m) (hz : a.eval z = E l) :
    Makes Try.prog ops o (fun g => .slice (some ⟨g, 0, none⟩) 3 3) (.cells (EL n ++ (EL m ++ EL l)).toArray 26) a :=
  ⟨hw, fun w => by
    have hr := run_build3 n m l w
    simp only [execOp, ho, List.map_toArray, List.map_cons, List.map_nil, hx, hy, hz, Sem.run_bind, hr, Result.andThen_ok, Sem.run_pure]⟩
theorem quiet_4b {o : Oper} {a : Act} {K : Act → Prop} (x : Operand) (ho : o.op = .load 24 x) {w0 : World} {g : Nat} {t : TypeId} {n : Nat} (hb : Blk w0 g t (EL n)) (hx : a.eval x = .pointer (some ⟨g, 0, none⟩)) (h : K (a.put o.dst (E n))) :
    o.quiet Try.prog a (Below w0.heap.size w0) K :=
  quiet_load_agg _ x ho g 0 (EL n) (fun w' hw j v hv => by rw [Nat.zero_add]; exact Blk.cellD ((hw.block g hb.lt).trans hb) j hv) hx _ Try.underlying24 rfl (by rw [EL_length]; exact size4) h
/-! The laws of the numbers. -/
theorem l_sum3 (a b c : Nat) : (a + (b + c)) % P25 = fadd (fadd a b) c := by unfold fadd; rw [Nat.mod_add_mod, Nat.add_assoc]
theorem l_prod3 (a b c : Nat) : prodN [a, b, c] % P25 = fmul (fmul a b) c := by
  unfold fmul
  rw [Nat.mod_mul_mod, show prodN [a, b, c] = a * b * c by simp [prodN, Nat.mul_assoc]]
theorem l_add (a b : Nat) : fadd b a = fadd a b := by unfold fadd; rw [Nat.add_comm]
theorem l_mul (a b : Nat) : fmul b a = fmul a b := by unfold fmul; rw [Nat.mul_comm]
theorem l_spread (a b c : Nat) : fmul a (fadd b c) = fadd (fmul a b) (fmul a c) := by
  unfold fmul fadd
  rw [Nat.mul_mod_mod, ← Nat.add_mod, Nat.mul_add]
theorem l_undo1 (a b : Nat) : fsub (fadd a b) b = a % P25 := by
  unfold fsub fadd
  have := Nat.mod_lt b P25_pos
  rw [Nat.mod_add_mod]
  have e : a + b + (P25 - b % P25) = a + P25 * (b / P25 + 1) := by
    have := Nat.div_add_mod b P25
    rw [Nat.mul_add, Nat.mul_one]
    omega
  rw [e, Nat.add_mul_mod_self_left]
theorem l_undo2 (a b : Nat) : fadd (fsub a b) b = a % P25 := by
  unfold fsub fadd
  have := Nat.mod_lt b P25_pos
  rw [Nat.mod_add_mod]
  have e : a + (P25 - b % P25) + b = a + P25 * (b / P25 + 1) := by
    have := Nat.div_add_mod b P25
    rw [Nat.mul_add, Nat.mul_one]
    omega
  rw [e, Nat.add_mul_mod_self_left]
def feBytes : List UInt8 := 236 :: (List.replicate 30 255 ++ [127])
theorem num_fe : num feBytes = P25 - 1 := by decide
theorem fill_236 (l : List Value) (hl : l = List.replicate 32 (Value.int .u8 255)) : (l.set 0 (.int .u8 236)).set 31 (.int .u8 127) = feBytes.map W8 := by
  subst hl
  rfl
theorem built_el0 : Try.prog.built 26 [] = some (EL 0).toArray := by kernel_rfl
theorem pinv_zero (a : Nat) (h : a % P25 = 0) : pinv a = 0 := by
  unfold pinv
  rw [Nat.pow_mod, h, Nat.zero_pow (by unfold P25; omega)]
  rfl
theorem pinv_pinv (a : Nat) (h : a % P25 ≠ 0) : pinv (pinv a) = a % P25 := by
  have h1 := mul_pinv a h
  have h2 : pinv a % P25 ≠ 0 := by
    intro e
    rw [Nat.mul_mod, e, Nat.mul_zero, Nat.zero_mod] at h1
    exact absurd h1 (by decide)
  have h3 := mul_pinv (pinv a) h2
  have h4 : pinv (pinv a) % P25 = pinv (pinv a) := Nat.mod_eq_of_lt (pinv_lt _)
  calc pinv (pinv a) = (1 * pinv (pinv a)) % P25 := by rw [Nat.one_mul, h4]
    _ = (a * pinv a % P25 * pinv (pinv a)) % P25 := by rw [h1]
    _ = (a * (pinv a * pinv (pinv a))) % P25 := by rw [Nat.mod_mul_mod, Nat.mul_assoc]
    _ = (a * (pinv a * pinv (pinv a) % P25)) % P25 := by rw [Nat.mul_mod_mod]
    _ = a % P25 := by rw [h3, Nat.mul_one]
set_option maxRecDepth 100000 in
set_option maxHeartbeats 16000000 in
theorem fieldLaws_walk (a b c : Nat) (ha : a < T256) (hb : b < T256) (hc : c < T256) (w : World) : Calls Try.prog 3 #[E a, E b, E c] w fun e w' => e = .returned (.bool true) ∧ Later w w' := by
  have B1 := bag_new w 24 (EL a)
  have B2 := B1.add (later_alloc _ (.cells (EL b).toArray 24)) (k := w.heap.size + 1) (by simp) (by omega) (Blk.new' _ _ (EL b) (by simp))
  have B3 := B2.fresh (later_alloc _ (.cells (EL c).toArray 24)) (k := w.heap.size + 2) (by simp) (Blk.new' _ _ (EL c) (by simp))
  have ts := fadd_T a b
  have tp := fmul_T a b
  have tu := fadd_T b c
  have tac := fmul_T a c
  have td := fsub_T a b
  have kab := hid (sum2 a b ha hb)
  have kba := hid (sum2 b a hb ha)
  rw [l_add] at kba
  have pab := hid (product2 a b ha hb)
  have pba := hid (product2 b a hb ha)
  rw [l_mul] at pba
  have ksc := hid (sum2 (fadd a b) c ts hc)
  have k3 := hid (sum3 a b c ha hb hc)
  rw [l_sum3] at k3
  have ppc := hid (product2 (fmul a b) c tp hc)
  have p3 := hid (product3 a b c ha hb hc)
  rw [l_prod3] at p3
  have kbc := hid (sum2 b c hb hc)
  have pau := hid (product2 a (fadd b c) ha tu)
  have pac := hid (product2 a c ha hc)
  have kpp := hid (sum2 (fmul a b) (fmul a c) tp tac)
  rw [← l_spread] at kpp
  have sub1 := hid (sub2 (fadd a b) b ts hb)
  rw [l_undo1] at sub1
  have nrm := hid (norm_any a ha)
  have sub0 := hid (sub2 a b ha hb)
  have kdb := hid (sum2 (fsub a b) b td hb)
  rw [l_undo2] at kdb
  have sqa := hid (square1 a ha)
  have paa := hid (product2 a a ha ha)
  have taa := fmul_T a a
  have tmu := fmul_T a (fadd b c)
  have tsc := fadd_T (fadd a b) c
  have tpc := fmul_T (fmul a b) c
  have tna : a % P25 < T256 := Nat.lt_trans (Nat.mod_lt _ P25_pos) (by decide)
  have nrn := hid (norm_any (a % P25) tna)
  rw [Nat.mod_mod] at nrn
  have hz0 := hid (is_any a 0 ha (by decide))
  have kin := hid (inv_any a ha)
  have tiv := pinv_T a
  have kii := hid (inv_any (pinv a) tiv)
  have pai := hid (product2 a (pinv a) ha tiv)
  have pzr := hid (pinv_zero a)
  have pnz := hid (pinv_pinv a)
  have mnz : Hid (a % P25 ≠ 0 → fmul a (pinv a) = 1) := hid (fun h => mul_pinv a h)
  have fnz : Hid (a % P25 ≠ 0 → a ^ num feBytes % P25 = 1) := hid (fun h => by rw [num_fe]; exact fermat a h)
  have hpw := hid (power_any a ha)
  have hof : Hid (∀ w, Calls Try.prog 13 #[.int .u64 1] w fun e w' => e = .returned (E 1) ∧ Later w w') := hid (of_any 1 (by decide))
  have hbe := hid built_el0
  generalize pinv (pinv a) = II at *
  generalize pinv a = IV at *
  generalize fmul a IV = AI at *
  generalize fmul a a = AA at *
  generalize fadd a b = S at *
  generalize fmul a b = M at *
  generalize fadd b c = U at *
  generalize fmul a c = AC at *
  generalize fsub a b = D at *
  generalize fmul a U = MU at *
  generalize fadd S c = SC at *
  generalize fmul M c = MC at *
  go_enter Try.func3, Try.ntmps3
  go_wp2_with fail
  (with_reducible refine (awake05 _).mono ?_); rintro e w2 ⟨rfl, hl2⟩
  have B := B3.later hl2
  clear B1 B2 B3 hl2
  go_wp2_with fail
  refine wp_region_fresh [0, 1, 2] [3, 4, 5] [6, 7, 8] (fun _ => (fun g => .pointer (some ⟨g, 0, none⟩), .cells (List.replicate 4 (Value.int .u64 0)).toArray 26)) (by as_aux_lemma => kernel_rfl) (by as_aux_lemma => kernel_rfl) (by intro _ _ d _ _ h; cases d <;> exact h) ?_
  refine ⟨?mk, ?_⟩
  case mk =>
    refine ⟨fun o ho => ?_, fun o ho => ?_, fun o ho => ?_, trivial⟩
    all_goals
      simp only [List.getElem?_cons_succ, List.getElem?_cons_zero, Option.some.injEq] at ho
      subst ho
      exact makes_cell rfl rfl
  simp only [pick, List.getElem?_cons_succ, List.getElem?_cons_zero, Option.toList_some, List.cons_append, List.nil_append]
  repeat (first | go_big_quiet_skip | (go_big_quiet_want; (first | refine quiet_4b _ rfl (B.nth 2 rfl) rfl ?_ | refine quiet_4b _ rfl (B.nth 1 rfl) rfl ?_ | refine quiet_4b _ rfl (B.nth 0 rfl) rfl ?_); simp only [Act.put, List.setIfInBounds_toArray, List.set_cons_succ, List.set_cons_zero]; go_big_quiet_on))
  refine wpQuiet_nil ?_
  simp only [wpMade, wpTailT, List.getElem?_cons_succ, List.getElem?_cons_zero, Option.bind_some, Act.put, List.setIfInBounds_toArray, List.set_cons_succ, List.set_cons_zero]
  intro v1 gx j1 hg1 _ hb1 v2 gy j2 hg2 hn2 hb2 v3 gz j3 hg3 hn3 hb3 v4 j4
  simp only [or_false, not_or] at hn2 hn3
  have nxy : gx ≠ gy := fun e => hn2 e.symm
  have nyz : gy ≠ gz := fun e => hn3.1 e.symm
  have nxz : gx ≠ gz := fun e => hn3.2 e.symm
  have hX : Blk v4 gx 26 (List.replicate 4 (Value.int .u64 0)) := Blk.later (show Blk v1 gx _ _ from hb1) (j2.trans (j3.trans j4))
  have hY : Blk v4 gy 26 (List.replicate 4 (Value.int .u64 0)) := Blk.later (show Blk v2 gy _ _ from hb2) (j3.trans j4)
  have hZ : Blk v4 gz 26 (List.replicate 4 (Value.int .u64 0)) := Blk.later (show Blk v3 gz _ _ from hb3) j4
  have la : Later w2 v4 := (later_drew w2).trans ((j1.trans j2).trans (j3.trans j4))
  have lx : w.heap.size ≤ gx := Nat.le_trans B.lat.size hg1
  have ly : w.heap.size ≤ gy := Nat.le_trans B.lat.size hg2
  have lz : w.heap.size ≤ gz := Nat.le_trans B.lat.size hg3
  have D0 : Bag w v4 [(gx, 26, List.replicate 4 (Value.int .u64 0)), (gy, 26, List.replicate 4 (Value.int .u64 0)), (gz, 26, List.replicate 4 (Value.int .u64 0))] :=
    ⟨B.lat.trans la, by intro p hp; simp only [List.mem_cons, List.not_mem_nil, or_false] at hp; rcases hp with rfl | rfl | rfl; exact hX; exact hY; exact hZ, by intro p hp; simp only [List.mem_cons, List.not_mem_nil, or_false] at hp; rcases hp with rfl | rfl | rfl; exact lx; exact ly; exact lz, by simp [nxy, nyz, nxz]⟩
  clear hX hY hZ hb1 hb2 hb3 hn2 hn3 j1 j2 j3 j4 B lx ly lz nxy nyz nxz
  simp only [pick, List.getElem?_cons_succ, List.getElem?_cons_zero, Option.toList_some, List.cons_append, List.nil_append]
  refine store_E rfl rfl _ _ rfl (D0.nth 0 rfl) rfl rfl rfl ?_
  intro u1 hb1 ho1
  have D1 := D0.write 0 rfl ho1 hb1
  replace la := la.only ho1 hg1
  refine ⟨la.below, ?_⟩
  refine store_E rfl rfl _ _ rfl (D1.nth 1 rfl) rfl rfl rfl ?_
  intro u2 hb2 ho2
  have D2 := D1.write 1 rfl ho2 hb2
  replace la := la.only ho2 hg2
  refine ⟨la.below, ?_⟩
  refine store_E rfl rfl _ _ rfl (D2.nth 2 rfl) rfl rfl rfl ?_
  intro u3 hb3 ho3
  have D3 := D2.write 2 rfl ho3 hb3
  replace la := la.only ho3 hg3
  refine ⟨la.below, ?_⟩
  clear la hg1 hg2 hg3
  go_wp2_with fail
  have C0 : Bag w u3 [(gx, 26, EL a), (gy, 26, EL b), (gz, 26, EL c)] := D3
  clear D0 D1 D2 D3 hb1 hb2 hb3 ho1 ho2 ho3
  have C1 := C0.drew
  refine wp_region_guarded [0, 1, 4, 5] [([], 2, 2), ([], 1, 3), ([], 2, 6), ([], 1, 7), ([8, 9, 10, 11, 14, 15], 4, 12), ([], 4, 16), ([], 2, 12), ([], 1, 13), ([], 2, 16), ([], 1, 17), ([18, 19, 20, 21, 22, 25, 28, 29, 30], 4, 23), ([], 4, 31), ([], 2, 23), ([], 1, 24), ([], 4, 26), ([], 2, 26), ([], 1, 27), ([], 2, 31), ([], 1, 32), ([33, 34, 35, 36, 37, 40, 43, 44, 45], 4, 38), ([], 4, 46), ([], 2, 38), ([], 1, 39), ([], 4, 41), ([], 2, 41), ([], 1, 42), ([], 2, 46), ([], 1, 47)] [48, 49] [] [2, 6] (fun i => if i = 46 then (fun g => .slice (some ⟨g, 0, none⟩) 3 3, .cells (EL a ++ (EL b ++ EL c)).toArray 26) else (if i = 31 then (fun g => .slice (some ⟨g, 0, none⟩) 3 3, .cells (EL a ++ (EL b ++ EL c)).toArray 26) else (if i = 41 then (fun g => .slice (some ⟨g, 0, none⟩) 2 2, .cells (EL M ++ EL c).toArray 26) else (if i = 26 then (fun g => .slice (some ⟨g, 0, none⟩) 2 2, .cells (EL S ++ EL c).toArray 26) else (if i = 16 then (fun g => .slice (some ⟨g, 0, none⟩) 2 2, .cells (EL b ++ EL a).toArray 26) else (if i = 6 then (fun g => .slice (some ⟨g, 0, none⟩) 2 2, .cells (EL b ++ EL a).toArray 26) else ((fun g => .slice (some ⟨g, 0, none⟩) 2 2, .cells (EL a ++ EL b).toArray 26)))))))) (by as_aux_lemma => kernel_rfl) (by as_aux_lemma => exact fg4_ok) (by intro _ _ d _ _ h; cases d <;> exact h) (by intro _ _ d _ _ h; cases d <;> exact h) ?_
  simp only [pick, List.getElem?_cons_succ, List.getElem?_cons_zero, Option.toList_some, List.cons_append, List.nil_append]
  repeat (first | go_big_quiet_skip | (go_big_quiet_want; (first | refine quiet_E _ rfl (C1.nth 0 rfl) rfl ?_ | refine quiet_E _ rfl (C1.nth 1 rfl) rfl ?_ | refine quiet_E _ rfl (C1.nth 2 rfl) rfl ?_); simp only [Act.put, List.setIfInBounds_toArray, List.set_cons_succ, List.set_cons_zero]; go_big_quiet_on) | (go_big_quiet_step (fail)))
  refine wpQuiet_nil ?_
  refine ⟨?mk4, ?_⟩
  case mk4 =>
    refine ⟨fun o ho => ?_, fun o ho => ?_, trivial⟩
    all_goals
      simp only [List.getElem?_cons_succ, List.getElem?_cons_zero, Option.some.injEq] at ho
      subst ho
    · exact makes_row2 rfl _ _ rfl a b rfl rfl
    · exact makes_row2 rfl _ _ rfl b a rfl rfl
  simp only [wpPartsG, pick, List.getElem?_cons_succ, List.getElem?_cons_zero, Option.toList_some, List.cons_append, List.nil_append, reduceIte, Option.bind_some]
  refine wpQuiet_nil ?_
  intro va1 ga1 ja1 _ _ ha1
  have Ca2 := C1.later ja1
  clear C1
  have ba1 : Blk va1 ga1 26 (EL a ++ EL b) := ha1
  clear ha1
  refine wpQuiet_nil ?_
  intro va3 ja3
  go_wp2_with fail
  (with_reducible refine (kab.out _ ga1 (ba1.later ja3)).mono ?_); rintro e ua3 ⟨rfl, ia3⟩
  clear ba1
  go_wp2_with fail
  refine ⟨ia3, ?_⟩
  have la3 := ja3.trans ia3
  have Ca4 := Ca2.later la3
  clear Ca2
  clear ja3 ia3 la3
  refine wpQuiet_nil ?_
  intro va5 ga5 ja5 _ _ ha5
  have Ca6 := Ca4.later ja5
  clear Ca4
  have ba5 : Blk va5 ga5 26 (EL b ++ EL a) := ha5
  clear ha5
  refine wpQuiet_nil ?_
  intro va7 ja7
  go_wp2_with fail
  (with_reducible refine (kba.out _ ga5 (ba5.later ja7)).mono ?_); rintro e ua7 ⟨rfl, ia7⟩
  clear ba5
  go_wp2_with fail
  refine ⟨ia7, ?_⟩
  have la7 := ja7.trans ia7
  have Ca8 := Ca6.later la7
  clear Ca6
  clear ja7 ia7 la7
  repeat (first | go_big_quiet_skip | (go_big_quiet_want; (first | refine quiet_E _ rfl (Ca8.nth 0 rfl) rfl ?_ | refine quiet_E _ rfl (Ca8.nth 1 rfl) rfl ?_ | refine quiet_E _ rfl (Ca8.nth 2 rfl) rfl ?_); simp only [Act.put, List.setIfInBounds_toArray, List.set_cons_succ, List.set_cons_zero]; go_big_quiet_on) | (go_big_quiet_step (fail)))
  refine wpQuiet_nil ?_
  refine ⟨fun o ho => ?_, ?_⟩
  · simp only [List.getElem?_cons_succ, List.getElem?_cons_zero, Option.some.injEq] at ho
    subst ho
    exact makes_row2 rfl _ _ rfl a b rfl rfl
  refine wpQuiet_nil ?_
  refine ⟨fun o ho => ?_, ?_⟩
  · simp only [List.getElem?_cons_succ, List.getElem?_cons_zero, Option.some.injEq] at ho
    subst ho
    exact makes_row2 rfl _ _ rfl b a rfl rfl
  refine wpQuiet_nil ?_
  intro va9 ga9 ja9 _ _ ha9
  have Ca10 := Ca8.later ja9
  clear Ca8
  have ba9 : Blk va9 ga9 26 (EL a ++ EL b) := ha9
  clear ha9
  refine wpQuiet_nil ?_
  intro va11 ja11
  go_wp2_with fail
  (with_reducible refine (pab.out _ ga9 (ba9.later ja11)).mono ?_); rintro e ua11 ⟨rfl, ia11⟩
  clear ba9
  go_wp2_with fail
  refine ⟨ia11, ?_⟩
  have la11 := ja11.trans ia11
  have Ca12 := Ca10.later la11
  clear Ca10
  clear ja11 ia11 la11
  refine wpQuiet_nil ?_
  intro va13 ga13 ja13 _ _ ha13
  have Ca14 := Ca12.later ja13
  clear Ca12
  have ba13 : Blk va13 ga13 26 (EL b ++ EL a) := ha13
  clear ha13
  refine wpQuiet_nil ?_
  intro va15 ja15
  go_wp2_with fail
  (with_reducible refine (pba.out _ ga13 (ba13.later ja15)).mono ?_); rintro e ua15 ⟨rfl, ia15⟩
  clear ba13
  go_wp2_with fail
  refine ⟨ia15, ?_⟩
  have la15 := ja15.trans ia15
  have Ca16 := Ca14.later la15
  clear Ca14
  clear ja15 ia15 la15
  repeat (first | go_big_quiet_skip | (go_big_quiet_want; (first | refine quiet_E _ rfl (Ca16.nth 0 rfl) rfl ?_ | refine quiet_E _ rfl (Ca16.nth 1 rfl) rfl ?_ | refine quiet_E _ rfl (Ca16.nth 2 rfl) rfl ?_); simp only [Act.put, List.setIfInBounds_toArray, List.set_cons_succ, List.set_cons_zero]; go_big_quiet_on) | (go_big_quiet_step (fail)))
  refine wpQuiet_nil ?_
  refine ⟨fun o ho => ?_, ?_⟩
  · simp only [List.getElem?_cons_succ, List.getElem?_cons_zero, Option.some.injEq] at ho
    subst ho
    exact makes_row2 rfl _ _ rfl a b rfl rfl
  refine wpQuiet_nil ?_
  refine ⟨fun o ho => ?_, ?_⟩
  · simp only [List.getElem?_cons_succ, List.getElem?_cons_zero, Option.some.injEq] at ho
    subst ho
    exact makes_row3 rfl _ _ _ rfl a b c rfl rfl rfl
  refine wpQuiet_nil ?_
  intro va17 ga17 ja17 _ _ ha17
  have Ca18 := Ca16.later ja17
  clear Ca16
  have ba17 : Blk va17 ga17 26 (EL a ++ EL b) := ha17
  clear ha17
  refine wpQuiet_nil ?_
  intro va19 ja19
  go_wp2_with fail
  (with_reducible refine (kab.out _ ga17 (ba17.later ja19)).mono ?_); rintro e ua19 ⟨rfl, ia19⟩
  clear ba17
  go_wp2_with fail
  refine ⟨ia19, ?_⟩
  have la19 := ja19.trans ia19
  have Ca20 := Ca18.later la19
  clear Ca18
  clear ja19 ia19 la19
  refine wpQuiet_nil ?_
  refine ⟨fun o ho => ?_, ?_⟩
  · simp only [List.getElem?_cons_succ, List.getElem?_cons_zero, Option.some.injEq] at ho
    subst ho
    exact makes_row2 rfl _ _ rfl S c rfl rfl
  refine wpQuiet_nil ?_
  intro va21 ga21 ja21 _ _ ha21
  have Ca22 := Ca20.later ja21
  clear Ca20
  have ba21 : Blk va21 ga21 26 (EL S ++ EL c) := ha21
  clear ha21
  refine wpQuiet_nil ?_
  intro va23 ja23
  go_wp2_with fail
  (with_reducible refine (ksc.out _ ga21 (ba21.later ja23)).mono ?_); rintro e ua23 ⟨rfl, ia23⟩
  clear ba21
  go_wp2_with fail
  refine ⟨ia23, ?_⟩
  have la23 := ja23.trans ia23
  have Ca24 := Ca22.later la23
  clear Ca22
  clear ja23 ia23 la23
  refine wpQuiet_nil ?_
  intro va25 ga25 ja25 _ _ ha25
  have Ca26 := Ca24.later ja25
  clear Ca24
  have ba25 : Blk va25 ga25 26 (EL a ++ (EL b ++ EL c)) := ha25
  clear ha25
  refine wpQuiet_nil ?_
  intro va27 ja27
  go_wp2_with fail
  (with_reducible refine (k3.out _ ga25 (ba25.later ja27)).mono ?_); rintro e ua27 ⟨rfl, ia27⟩
  clear ba25
  go_wp2_with fail
  refine ⟨ia27, ?_⟩
  have la27 := ja27.trans ia27
  have Ca28 := Ca26.later la27
  clear Ca26
  clear ja27 ia27 la27
  repeat (first | go_big_quiet_skip | (go_big_quiet_want; (first | refine quiet_E _ rfl (Ca28.nth 0 rfl) rfl ?_ | refine quiet_E _ rfl (Ca28.nth 1 rfl) rfl ?_ | refine quiet_E _ rfl (Ca28.nth 2 rfl) rfl ?_); simp only [Act.put, List.setIfInBounds_toArray, List.set_cons_succ, List.set_cons_zero]; go_big_quiet_on) | (go_big_quiet_step (fail)))
  refine wpQuiet_nil ?_
  refine ⟨fun o ho => ?_, ?_⟩
  · simp only [List.getElem?_cons_succ, List.getElem?_cons_zero, Option.some.injEq] at ho
    subst ho
    exact makes_row2 rfl _ _ rfl a b rfl rfl
  refine wpQuiet_nil ?_
  refine ⟨fun o ho => ?_, ?_⟩
  · simp only [List.getElem?_cons_succ, List.getElem?_cons_zero, Option.some.injEq] at ho
    subst ho
    exact makes_row3 rfl _ _ _ rfl a b c rfl rfl rfl
  refine wpQuiet_nil ?_
  intro va29 ga29 ja29 _ _ ha29
  have Ca30 := Ca28.later ja29
  clear Ca28
  have ba29 : Blk va29 ga29 26 (EL a ++ EL b) := ha29
  clear ha29
  refine wpQuiet_nil ?_
  intro va31 ja31
  go_wp2_with fail
  (with_reducible refine (pab.out _ ga29 (ba29.later ja31)).mono ?_); rintro e ua31 ⟨rfl, ia31⟩
  clear ba29
  go_wp2_with fail
  refine ⟨ia31, ?_⟩
  have la31 := ja31.trans ia31
  have Ca32 := Ca30.later la31
  clear Ca30
  clear ja31 ia31 la31
  refine wpQuiet_nil ?_
  refine ⟨fun o ho => ?_, ?_⟩
  · simp only [List.getElem?_cons_succ, List.getElem?_cons_zero, Option.some.injEq] at ho
    subst ho
    exact makes_row2 rfl _ _ rfl M c rfl rfl
  refine wpQuiet_nil ?_
  intro va33 ga33 ja33 _ _ ha33
  have Ca34 := Ca32.later ja33
  clear Ca32
  have ba33 : Blk va33 ga33 26 (EL M ++ EL c) := ha33
  clear ha33
  refine wpQuiet_nil ?_
  intro va35 ja35
  go_wp2_with fail
  (with_reducible refine (ppc.out _ ga33 (ba33.later ja35)).mono ?_); rintro e ua35 ⟨rfl, ia35⟩
  clear ba33
  go_wp2_with fail
  refine ⟨ia35, ?_⟩
  have la35 := ja35.trans ia35
  have Ca36 := Ca34.later la35
  clear Ca34
  clear ja35 ia35 la35
  refine wpQuiet_nil ?_
  intro va37 ga37 ja37 _ _ ha37
  have Ca38 := Ca36.later ja37
  clear Ca36
  have ba37 : Blk va37 ga37 26 (EL a ++ (EL b ++ EL c)) := ha37
  clear ha37
  refine wpQuiet_nil ?_
  intro va39 ja39
  go_wp2_with fail
  (with_reducible refine (p3.out _ ga37 (ba37.later ja39)).mono ?_); rintro e ua39 ⟨rfl, ia39⟩
  clear ba37
  go_wp2_with fail
  refine ⟨ia39, ?_⟩
  have la39 := ja39.trans ia39
  have Ca40 := Ca38.later la39
  clear Ca38
  clear ja39 ia39 la39
  repeat (first | go_big_quiet_skip | (go_big_quiet_want; (first | refine quiet_E _ rfl (Ca40.nth 0 rfl) rfl ?_ | refine quiet_E _ rfl (Ca40.nth 1 rfl) rfl ?_ | refine quiet_E _ rfl (Ca40.nth 2 rfl) rfl ?_); simp only [Act.put, List.setIfInBounds_toArray, List.set_cons_succ, List.set_cons_zero]; go_big_quiet_on) | (go_big_quiet_step (fail)))
  refine wpQuiet_nil ?_
  intro vq jq
  have Ca41 := Ca40.later jq
  clear Ca40
  clear jq
  try simp only [List.getElem?_cons_succ, List.getElem?_cons_zero, Option.bind_some, Act.put, List.setIfInBounds_toArray, List.set_cons_succ, List.set_cons_zero]
  go_wp2_with fail
  as_aux_lemma =>
    have Cb0 := Ca41.drew
    clear Ca41
    refine wp_region_guarded [0, 1, 2, 7, 8, 11, 12] [([], 2, 3), ([], 1, 4), ([], 4, 5), ([], 2, 5), ([], 1, 6), ([], 2, 9), ([], 1, 10), ([], 2, 13), ([], 1, 14), ([], 4, 15), ([], 2, 15), ([], 1, 16), ([17, 18, 19, 20, 23, 25], 4, 21), ([], 2, 21), ([], 1, 22), ([], 1, 24), ([], 1, 26), ([27, 28, 29, 30, 31, 33, 36], 1, 32), ([], 4, 34), ([], 2, 34), ([], 1, 35), ([], 1, 37)] [38, 39] [] [3, 9, 13] (fun i => if i = 34 then (fun g => .slice (some ⟨g, 0, none⟩) 2 2, .cells (EL D ++ EL b).toArray 26) else (if i = 15 then (fun g => .slice (some ⟨g, 0, none⟩) 2 2, .cells (EL M ++ EL AC).toArray 26) else (if i = 13 then (fun g => .slice (some ⟨g, 0, none⟩) 2 2, .cells (EL a ++ EL c).toArray 26) else (if i = 5 then (fun g => .slice (some ⟨g, 0, none⟩) 2 2, .cells (EL a ++ EL U).toArray 26) else (if i = 3 then (fun g => .slice (some ⟨g, 0, none⟩) 2 2, .cells (EL b ++ EL c).toArray 26) else ((fun g => .slice (some ⟨g, 0, none⟩) 2 2, .cells (EL a ++ EL b).toArray 26))))))) (by as_aux_lemma => kernel_rfl) (by as_aux_lemma => exact fg6_ok) (by intro _ _ d _ _ h; cases d <;> exact h) (by intro _ _ d _ _ h; cases d <;> exact h) ?_
    simp only [pick, List.getElem?_cons_succ, List.getElem?_cons_zero, Option.toList_some, List.cons_append, List.nil_append]
    repeat (first | go_big_quiet_skip | (go_big_quiet_want; (first | refine quiet_E _ rfl (Cb0.nth 0 rfl) rfl ?_ | refine quiet_E _ rfl (Cb0.nth 1 rfl) rfl ?_ | refine quiet_E _ rfl (Cb0.nth 2 rfl) rfl ?_); simp only [Act.put, List.setIfInBounds_toArray, List.set_cons_succ, List.set_cons_zero]; go_big_quiet_on) | (go_big_quiet_step (fail)))
    refine wpQuiet_nil ?_
    refine ⟨?mkb, ?_⟩
    case mkb =>
      refine ⟨fun o ho => ?_, fun o ho => ?_, fun o ho => ?_, trivial⟩
      all_goals
        simp only [List.getElem?_cons_succ, List.getElem?_cons_zero, Option.some.injEq] at ho
        subst ho
      · exact makes_row2 rfl _ _ rfl b c rfl rfl
      · exact makes_row2 rfl _ _ rfl a b rfl rfl
      · exact makes_row2 rfl _ _ rfl a c rfl rfl
    simp only [wpPartsG, pick, List.getElem?_cons_succ, List.getElem?_cons_zero, Option.toList_some, List.cons_append, List.nil_append, reduceIte, Option.bind_some]
    refine wpQuiet_nil ?_
    intro vb1 gb1 jb1 _ _ hb1
    have Cb2 := Cb0.later jb1
    clear Cb0
    have bb1 : Blk vb1 gb1 26 (EL b ++ EL c) := hb1
    clear hb1
    refine wpQuiet_nil ?_
    intro vb3 jb3
    go_wp2_with fail
    (with_reducible refine (kbc.out _ gb1 (bb1.later jb3)).mono ?_); rintro e ub3 ⟨rfl, ib3⟩
    clear bb1
    go_wp2_with fail
    refine ⟨ib3, ?_⟩
    have lb3 := jb3.trans ib3
    have Cb4 := Cb2.later lb3
    clear Cb2
    clear jb3 ib3 lb3
    refine wpQuiet_nil ?_
    refine ⟨fun o ho => ?_, ?_⟩
    · simp only [List.getElem?_cons_succ, List.getElem?_cons_zero, Option.some.injEq] at ho
      subst ho
      exact makes_row2 rfl _ _ rfl a U rfl rfl
    refine wpQuiet_nil ?_
    intro vb5 gb5 jb5 _ _ hb5
    have Cb6 := Cb4.later jb5
    clear Cb4
    have bb5 : Blk vb5 gb5 26 (EL a ++ EL U) := hb5
    clear hb5
    refine wpQuiet_nil ?_
    intro vb7 jb7
    go_wp2_with fail
    (with_reducible refine (pau.out _ gb5 (bb5.later jb7)).mono ?_); rintro e ub7 ⟨rfl, ib7⟩
    clear bb5
    go_wp2_with fail
    refine ⟨ib7, ?_⟩
    have lb7 := jb7.trans ib7
    have Cb8 := Cb6.later lb7
    clear Cb6
    clear jb7 ib7 lb7
    refine wpQuiet_nil ?_
    intro vb9 gb9 jb9 _ _ hb9
    have Cb10 := Cb8.later jb9
    clear Cb8
    have bb9 : Blk vb9 gb9 26 (EL a ++ EL b) := hb9
    clear hb9
    refine wpQuiet_nil ?_
    intro vb11 jb11
    go_wp2_with fail
    (with_reducible refine (pab.out _ gb9 (bb9.later jb11)).mono ?_); rintro e ub11 ⟨rfl, ib11⟩
    clear bb9
    go_wp2_with fail
    refine ⟨ib11, ?_⟩
    have lb11 := jb11.trans ib11
    have Cb12 := Cb10.later lb11
    clear Cb10
    clear jb11 ib11 lb11
    refine wpQuiet_nil ?_
    intro vb13 gb13 jb13 _ _ hb13
    have Cb14 := Cb12.later jb13
    clear Cb12
    have bb13 : Blk vb13 gb13 26 (EL a ++ EL c) := hb13
    clear hb13
    refine wpQuiet_nil ?_
    intro vb15 jb15
    go_wp2_with fail
    (with_reducible refine (pac.out _ gb13 (bb13.later jb15)).mono ?_); rintro e ub15 ⟨rfl, ib15⟩
    clear bb13
    go_wp2_with fail
    refine ⟨ib15, ?_⟩
    have lb15 := jb15.trans ib15
    have Cb16 := Cb14.later lb15
    clear Cb14
    clear jb15 ib15 lb15
    refine wpQuiet_nil ?_
    refine ⟨fun o ho => ?_, ?_⟩
    · simp only [List.getElem?_cons_succ, List.getElem?_cons_zero, Option.some.injEq] at ho
      subst ho
      exact makes_row2 rfl _ _ rfl M AC rfl rfl
    refine wpQuiet_nil ?_
    intro vb17 gb17 jb17 _ _ hb17
    have Cb18 := Cb16.later jb17
    clear Cb16
    have bb17 : Blk vb17 gb17 26 (EL M ++ EL AC) := hb17
    clear hb17
    refine wpQuiet_nil ?_
    intro vb19 jb19
    go_wp2_with fail
    (with_reducible refine (kpp.out _ gb17 (bb17.later jb19)).mono ?_); rintro e ub19 ⟨rfl, ib19⟩
    clear bb17
    go_wp2_with fail
    refine ⟨ib19, ?_⟩
    have lb19 := jb19.trans ib19
    have Cb20 := Cb18.later lb19
    clear Cb18
    clear jb19 ib19 lb19
    repeat (first | go_big_quiet_skip | (go_big_quiet_want; (first | refine quiet_E _ rfl (Cb20.nth 0 rfl) rfl ?_ | refine quiet_E _ rfl (Cb20.nth 1 rfl) rfl ?_ | refine quiet_E _ rfl (Cb20.nth 2 rfl) rfl ?_); simp only [Act.put, List.setIfInBounds_toArray, List.set_cons_succ, List.set_cons_zero]; go_big_quiet_on) | (go_big_quiet_step (fail)))
    refine wpQuiet_nil ?_
    refine ⟨fun o ho => ?_, ?_⟩
    · simp only [List.getElem?_cons_succ, List.getElem?_cons_zero, Option.some.injEq] at ho
      subst ho
      exact makes_row2 rfl _ _ rfl a b rfl rfl
    refine wpQuiet_nil ?_
    intro vb21 gb21 jb21 _ _ hb21
    have Cb22 := Cb20.later jb21
    clear Cb20
    have bb21 : Blk vb21 gb21 26 (EL a ++ EL b) := hb21
    clear hb21
    refine wpQuiet_nil ?_
    intro vb23 jb23
    go_wp2_with fail
    (with_reducible refine (kab.out _ gb21 (bb21.later jb23)).mono ?_); rintro e ub23 ⟨rfl, ib23⟩
    clear bb21
    go_wp2_with fail
    refine ⟨ib23, ?_⟩
    have lb23 := jb23.trans ib23
    have Cb24 := Cb22.later lb23
    clear Cb22
    clear jb23 ib23 lb23
    refine wpQuiet_nil ?_
    intro vb25 jb25
    go_wp2_with fail
    (with_reducible refine (sub1.out _).mono ?_); rintro e ub25 ⟨rfl, ib25⟩
    go_wp2_with fail
    refine ⟨ib25, ?_⟩
    have lb25 := jb25.trans ib25
    have Cb26 := Cb24.later lb25
    clear Cb24
    clear jb25 ib25 lb25
    refine wpQuiet_nil ?_
    intro vb27 jb27
    go_wp2_with fail
    (with_reducible refine (nrm.out _).mono ?_); rintro e ub27 ⟨rfl, ib27⟩
    go_wp2_with fail
    refine ⟨ib27, ?_⟩
    have lb27 := jb27.trans ib27
    have Cb28 := Cb26.later lb27
    clear Cb26
    clear jb27 ib27 lb27
    repeat (first | go_big_quiet_skip | (go_big_quiet_want; (first | refine quiet_E _ rfl (Cb28.nth 0 rfl) rfl ?_ | refine quiet_E _ rfl (Cb28.nth 1 rfl) rfl ?_ | refine quiet_E _ rfl (Cb28.nth 2 rfl) rfl ?_); simp only [Act.put, List.setIfInBounds_toArray, List.set_cons_succ, List.set_cons_zero]; go_big_quiet_on) | (go_big_quiet_step (fail)))
    refine wpQuiet_nil ?_
    intro vb29 jb29
    go_wp2_with fail
    (with_reducible refine (sub0.out _).mono ?_); rintro e ub29 ⟨rfl, ib29⟩
    go_wp2_with fail
    refine ⟨ib29, ?_⟩
    have lb29 := jb29.trans ib29
    have Cb30 := Cb28.later lb29
    clear Cb28
    clear jb29 ib29 lb29
    refine wpQuiet_nil ?_
    refine ⟨fun o ho => ?_, ?_⟩
    · simp only [List.getElem?_cons_succ, List.getElem?_cons_zero, Option.some.injEq] at ho
      subst ho
      exact makes_row2 rfl _ _ rfl D b rfl rfl
    refine wpQuiet_nil ?_
    intro vb31 gb31 jb31 _ _ hb31
    have Cb32 := Cb30.later jb31
    clear Cb30
    have bb31 : Blk vb31 gb31 26 (EL D ++ EL b) := hb31
    clear hb31
    refine wpQuiet_nil ?_
    intro vb33 jb33
    go_wp2_with fail
    (with_reducible refine (kdb.out _ gb31 (bb31.later jb33)).mono ?_); rintro e ub33 ⟨rfl, ib33⟩
    clear bb31
    go_wp2_with fail
    refine ⟨ib33, ?_⟩
    have lb33 := jb33.trans ib33
    have Cb34 := Cb32.later lb33
    clear Cb32
    clear jb33 ib33 lb33
    refine wpQuiet_nil ?_
    intro vb35 jb35
    go_wp2_with fail
    (with_reducible refine (nrm.out _).mono ?_); rintro e ub35 ⟨rfl, ib35⟩
    go_wp2_with fail
    refine ⟨ib35, ?_⟩
    have lb35 := jb35.trans ib35
    have Cb36 := Cb34.later lb35
    clear Cb34
    clear jb35 ib35 lb35
    repeat (first | go_big_quiet_skip | (go_big_quiet_want; (first | refine quiet_E _ rfl (Cb36.nth 0 rfl) rfl ?_ | refine quiet_E _ rfl (Cb36.nth 1 rfl) rfl ?_ | refine quiet_E _ rfl (Cb36.nth 2 rfl) rfl ?_); simp only [Act.put, List.setIfInBounds_toArray, List.set_cons_succ, List.set_cons_zero]; go_big_quiet_on) | (go_big_quiet_step (fail)))
    refine wpQuiet_nil ?_
    intro vr jr
    have Cb37 := Cb36.later jr
    clear Cb36
    clear jr
    go_wp2_with fail
    as_aux_lemma =>
      have Cc0 := Cb37.drew
      clear Cb37
      refine wp_region_makers [0, 2, 3] [([], 1, 1), ([], 2, 4), ([], 1, 5), ([6, 7, 8, 11], 1, 9), ([], 1, 10), ([], 1, 12)] [13, 14] [] [4] (fun _ => (fun g => .slice (some ⟨g, 0, none⟩) 2 2, .cells (EL a ++ EL a).toArray 26)) (by as_aux_lemma => kernel_rfl) (by as_aux_lemma => kernel_rfl) (by intro _ _ d _ _ h; cases d <;> exact h) (by intro _ _ d _ _ h; cases d <;> exact h) ?_
      simp only [pick, List.getElem?_cons_succ, List.getElem?_cons_zero, Option.toList_some, List.cons_append, List.nil_append]
      repeat (first | go_big_quiet_skip | (go_big_quiet_want; (first | refine quiet_E _ rfl (Cc0.nth 0 rfl) rfl ?_ | refine quiet_E _ rfl (Cc0.nth 1 rfl) rfl ?_ | refine quiet_E _ rfl (Cc0.nth 2 rfl) rfl ?_); simp only [Act.put, List.setIfInBounds_toArray, List.set_cons_succ, List.set_cons_zero]; go_big_quiet_on) | (go_big_quiet_step (fail)))
      refine wpQuiet_nil ?_
      refine ⟨?mkc, ?_⟩
      case mkc =>
        refine ⟨fun o ho => ?_, trivial⟩
        all_goals
          simp only [List.getElem?_cons_succ, List.getElem?_cons_zero, Option.some.injEq] at ho
          subst ho
        · exact makes_row2 rfl _ _ rfl a a rfl rfl
      simp only [wpPartsM, pick, List.getElem?_cons_succ, List.getElem?_cons_zero, Option.toList_some, List.cons_append, List.nil_append, reduceIte, Option.bind_some]
      refine wpQuiet_nil ?_
      intro vc1 jc1
      go_wp2_with fail
      (with_reducible refine (sqa.out _).mono ?_); rintro e uc1 ⟨rfl, ic1⟩
      go_wp2_with fail
      refine ⟨ic1, ?_⟩
      have lc1 := jc1.trans ic1
      have Cc2 := Cc0.later lc1
      clear Cc0
      clear jc1 ic1 lc1
      refine wpQuiet_nil ?_
      intro vc3 gc3 jc3 _ _ hc3
      have Cc4 := Cc2.later jc3
      clear Cc2
      have bc3 : Blk vc3 gc3 26 (EL a ++ EL a) := hc3
      clear hc3
      refine wpQuiet_nil ?_
      intro vc5 jc5
      go_wp2_with fail
      (with_reducible refine (paa.out _ gc3 (bc3.later jc5)).mono ?_); rintro e uc5 ⟨rfl, ic5⟩
      clear bc3
      go_wp2_with fail
      refine ⟨ic5, ?_⟩
      have lc5 := jc5.trans ic5
      have Cc6 := Cc4.later lc5
      clear Cc4
      clear jc5 ic5 lc5
      repeat (first | go_big_quiet_skip | (go_big_quiet_want; (first | refine quiet_E _ rfl (Cc6.nth 0 rfl) rfl ?_ | refine quiet_E _ rfl (Cc6.nth 1 rfl) rfl ?_ | refine quiet_E _ rfl (Cc6.nth 2 rfl) rfl ?_); simp only [Act.put, List.setIfInBounds_toArray, List.set_cons_succ, List.set_cons_zero]; go_big_quiet_on) | (go_big_quiet_step (fail)))
      refine wpQuiet_nil ?_
      intro vc7 jc7
      go_wp2_with fail
      (with_reducible refine (nrm.out _).mono ?_); rintro e uc7 ⟨rfl, ic7⟩
      go_wp2_with fail
      refine ⟨ic7, ?_⟩
      have lc7 := jc7.trans ic7
      have Cc8 := Cc6.later lc7
      clear Cc6
      clear jc7 ic7 lc7
      refine wpQuiet_nil ?_
      intro vc9 jc9
      go_wp2_with fail
      (with_reducible refine (nrn.out _).mono ?_); rintro e uc9 ⟨rfl, ic9⟩
      go_wp2_with fail
      refine ⟨ic9, ?_⟩
      have lc9 := jc9.trans ic9
      have Cc10 := Cc8.later lc9
      clear Cc8
      clear jc9 ic9 lc9
      refine wpQuiet_nil ?_
      intro vc11 jc11
      go_wp2_with fail
      (with_reducible refine (nrm.out _).mono ?_); rintro e uc11 ⟨rfl, ic11⟩
      go_wp2_with fail
      refine ⟨ic11, ?_⟩
      have lc11 := jc11.trans ic11
      have Cc12 := Cc10.later lc11
      clear Cc10
      clear jc11 ic11 lc11
      repeat (first | go_big_quiet_skip | (go_big_quiet_want; (first | refine quiet_E _ rfl (Cc12.nth 0 rfl) rfl ?_ | refine quiet_E _ rfl (Cc12.nth 1 rfl) rfl ?_ | refine quiet_E _ rfl (Cc12.nth 2 rfl) rfl ?_); simp only [Act.put, List.setIfInBounds_toArray, List.set_cons_succ, List.set_cons_zero]; go_big_quiet_on) | (go_big_quiet_step (fail)))
      refine wpQuiet_nil ?_
      intro vs js
      have Cc13 := Cc12.later js
      clear Cc12
      clear js
      as_aux_lemma =>
        go_wp2_with (first
          | (refine load_E ?hw _ rfl (Cc13.nth 0 rfl) rfl ?_; (case hw => rfl))
          | fail)
        (with_reducible refine (kin.out _).mono ?_); rintro e x1 ⟨rfl, i1⟩
        have K1 := Cc13.later i1
        clear Cc13 i1
        go_wp2_with (first
          | (refine store_E rfl rfl _ _ rfl (Blk.new x1 _ (List.replicate 4 (Value.int .u64 0))) rfl rfl rfl ?_; intro x2 hb2 ho2
             have l2 : Later x1 x2 := (later_alloc x1 _).only ho2 (Nat.le_refl _)
             have K2 := K1.fresh l2 (Nat.le_refl _) hb2)
          | (refine load_E ?hw _ rfl (K2.nth 1 rfl) rfl ?_; (case hw => rfl))
          | (refine build_want ?hw 26 _ rfl (EL 0) (by simp only [List.map_toArray, List.map_nil]; exact hbe.out) ?_; (case hw => rfl))
          | fail)
        generalize x1.heap.size = gi at *
        (with_reducible refine (hz0.out _).mono ?_); rintro e x3 ⟨rfl, i3⟩
        have K3 := K2.later i3
        clear K1 K2 hb2 ho2 l2 i3
        by_cases hz : a % P25 = 0
        · have fz : (a % P25 == 0 % P25) = true := by rw [hz]; rfl
          have fz2 : (a % P25 == 0) = true := by rw [hz]; rfl
          have p0 : (IV == 0) = true := beq_iff_eq.2 (pzr.out hz)
          clear hz
          go_wp2_with (first
            | (refine load_E ?hw _ rfl (K3.nth 0 rfl) rfl ?_; (case hw => rfl))
            | (refine build_want ?hw 26 _ rfl (EL 0) (by simp only [List.map_toArray, List.map_nil]; exact hbe.out) ?_; (case hw => rfl))
            | fail)
          go_ret
          exact ⟨by first | rfl | simp [p0], K3.lat⟩
        · have fz : (a % P25 == 0 % P25) = false := beq_eq_false_iff_ne.2 (by rw [Nat.zero_mod]; exact hz)
          have fz2 : (a % P25 == 0) = false := beq_eq_false_iff_ne.2 hz
          have e1 := pnz.out hz
          have e2 := mnz.out hz
          have e3 := hid (fnz.out hz)
          subst e1 e2
          clear hz
          go_wp2_with (first
            | (refine wpList_make_n rfl _ _ 31 rfl 5 (.int .u8 0) 1 Try.underlying31 info8 rfl _ _ _ _ 32 rfl rfl rfl rfl (by omega) (by omega) ?_; intro x4 hb4 hl4)
            | fail)
          have K4 := K3.fresh hl4 (Nat.le_refl _) hb4
          clear K3 hb4 hl4
          generalize x3.heap.size = gb at *
          go_loopw [134] (fun i wr => ∃ k : Nat, k ≤ 32 ∧ i = .int .i64 k ∧ Bag w wr [(gb, 5, filled (List.replicate 32 (.int .u8 255)) (List.replicate 32 (.int .u8 0)) k), (gi, 26, EL IV), (gx, 26, EL a), (gy, 26, EL b), (gz, 26, EL c)]) (fun i _ => 32 - (intOf i).toNat)
          case atStart => exact ⟨0, by omega, rfl, by rw [filled_zero]; exact K4⟩
          case round =>
            clear K4
            obtain ⟨k, hk, rfl, K⟩ := hrel
            by_cases hlt : k < 32
            · go_wp2_with (first
                | (refine wpList_store_in rfl rfl _ _ _ rfl _ _ _ _ (K.nth 0 rfl) rfl ?hl rfl (by kernel_rfl) ?_; (case hl => rw [filled_length _ _ _ (by rfl)]; exact hlt); intro v w6 hv hb6 ho6; simp [go_sem] at hv; subst hv)
                | fail)
              rw [filled_step _ _ _ _ (by rfl) hlt (by rw [List.getElem?_replicate, if_pos hlt])] at hb6
              have K6 := K.write 0 rfl ho6 hb6
              exact ⟨⟨k + 1, by omega, by go_num, K6⟩, by simp [intOf]; omega⟩
            · have HF := hid (fill_236 _ (filled_all (List.replicate 32 (Value.int .u8 255)) (List.replicate 32 (.int .u8 0)) 32 rfl rfl))
              rw [show k = 32 by omega] at K
              have hkf : decide ((k : Int) < 32) = false := by simp; omega
              go_wp2_with (first
                | (refine wpList_store_in rfl rfl _ _ _ rfl _ _ _ _ (K.nth 0 rfl) rfl ?hl rfl (by kernel_rfl) ?_; (case hl => rw [filled_length _ _ _ (by rfl)]; decide); intro v w6 hv hb6 ho6; simp [go_sem] at hv; subst hv
                   have K6 := K.write 0 rfl ho6 hb6)
                | (refine wpList_store_in rfl rfl _ _ _ rfl _ _ _ _ (K6.nth 0 rfl) rfl ?hl rfl (by kernel_rfl) ?_; (case hl => rw [List.length_set, filled_length _ _ _ (by rfl)]; decide); intro v w7 hv hb7 ho7; simp [go_sem] at hv; subst hv
                   rw [HF.out] at hb7
                   have K7 := K6.write 0 rfl ho7 hb7)
                | fail)
              have K8 : Bag w w7 [(gb, 5, feBytes.map W8), (gi, 26, EL IV), (gx, 26, EL a), (gy, 26, EL b), (gz, 26, EL c)] := K7
              clear K K6 K7 hb6 hb7 ho6 ho7 HF
              have K9 := K8.drew
              clear K8
              refine wp_region_parts [([0, 1], 2), ([], 3), ([], 4), ([5, 6, 7, 9], 8), ([], 10), ([11, 12, 13, 14, 15], 16), ([], 17)] [18, 19, 20] [] (by as_aux_lemma => kernel_rfl) (by as_aux_lemma => kernel_rfl) (by intro _ _ d _ _ h; cases d <;> exact h) ?_
              simp only [wpParts, pick, List.getElem?_cons_succ, List.getElem?_cons_zero, Option.toList_some, List.cons_append, List.nil_append]
              repeat (first | go_big_quiet_skip | (go_big_quiet_want; (first | refine quiet_E _ rfl (K9.nth 1 rfl) rfl ?_ | refine quiet_E _ rfl (K9.nth 2 rfl) rfl ?_); simp only [Act.put, List.setIfInBounds_toArray, List.set_cons_succ, List.set_cons_zero]; go_big_quiet_on) | (go_big_quiet_step (fail)))
              refine wpQuiet_nil ?_
              go_wp2_with (first | (refine build_row2 ?hw _ _ rfl a IV rfl rfl ?_; (case hw => rfl)) | fail)
              have bq := Blk.new w7.drew 26 (EL a ++ EL IV)
              have K10 := K9.later (later_alloc w7.drew (.cells (EL a ++ EL IV).toArray 26))
              try refine ⟨by first | assumption | exact later_drew _ | exact later_alloc _ _ | exact Later.refl _, ?_⟩
              try simp only [wpParts, pick, List.getElem?_cons_succ, List.getElem?_cons_zero, Option.toList_some, List.cons_append, List.nil_append]
              repeat (go_big_quiet_step (fail))
              refine wpQuiet_nil ?_
              go_wp2_with fail
              refine (pai.out _ _ bq).mono ?_
              rintro e y1 ⟨rfl, m1⟩
              have K11 := K10.later m1
              go_wp2_with fail
              try refine ⟨by first | assumption | exact later_drew _ | exact later_alloc _ _ | exact Later.refl _, ?_⟩
              try simp only [wpParts, pick, List.getElem?_cons_succ, List.getElem?_cons_zero, Option.toList_some, List.cons_append, List.nil_append]
              repeat (go_big_quiet_step (fail))
              refine wpQuiet_nil ?_
              go_wp2_with fail
              refine (hof.out _).mono ?_
              rintro e y2 ⟨rfl, m2⟩
              have K12 := K11.later m2
              go_wp2_with fail
              clear m1
              try refine ⟨by first | assumption | exact later_drew _ | exact later_alloc _ _ | exact Later.refl _, ?_⟩
              try simp only [wpParts, pick, List.getElem?_cons_succ, List.getElem?_cons_zero, Option.toList_some, List.cons_append, List.nil_append]
              repeat (first | go_big_quiet_skip | (go_big_quiet_want; (first | refine quiet_E _ rfl (K12.nth 1 rfl) rfl ?_ | refine quiet_E _ rfl (K12.nth 2 rfl) rfl ?_); simp only [Act.put, List.setIfInBounds_toArray, List.set_cons_succ, List.set_cons_zero]; go_big_quiet_on) | (go_big_quiet_step (fail)))
              refine wpQuiet_nil ?_
              go_wp2_with fail
              refine (kii.out _).mono ?_
              rintro e y3 ⟨rfl, m3⟩
              have K13 := K12.later m3
              go_wp2_with fail
              clear m2
              try refine ⟨by first | assumption | exact later_drew _ | exact later_alloc _ _ | exact Later.refl _, ?_⟩
              try simp only [wpParts, pick, List.getElem?_cons_succ, List.getElem?_cons_zero, Option.toList_some, List.cons_append, List.nil_append]
              repeat (go_big_quiet_step (fail))
              refine wpQuiet_nil ?_
              go_wp2_with fail
              refine (nrm.out _).mono ?_
              rintro e y4 ⟨rfl, m4⟩
              have K14 := K13.later m4
              go_wp2_with fail
              clear m3
              try refine ⟨by first | assumption | exact later_drew _ | exact later_alloc _ _ | exact Later.refl _, ?_⟩
              try simp only [wpParts, pick, List.getElem?_cons_succ, List.getElem?_cons_zero, Option.toList_some, List.cons_append, List.nil_append]
              repeat (first | go_big_quiet_skip | (go_big_quiet_want; (first | refine quiet_E _ rfl (K14.nth 1 rfl) rfl ?_ | refine quiet_E _ rfl (K14.nth 2 rfl) rfl ?_); simp only [Act.put, List.setIfInBounds_toArray, List.set_cons_succ, List.set_cons_zero]; go_big_quiet_on) | (go_big_quiet_step (fail)))
              refine wpQuiet_nil ?_
              go_wp2_with fail
              refine (hpw.out _ 32 _ feBytes _ (blk_rdB (K14.nth 0 rfl) rfl) (by omega)).mono ?_
              rintro e y5 ⟨rfl, m5⟩
              rw [e3.out]
              have K15 := K14.later m5
              go_wp2_with fail
              clear m4
              try refine ⟨by first | assumption | exact later_drew _ | exact later_alloc _ _ | exact Later.refl _, ?_⟩
              try simp only [wpParts, pick, List.getElem?_cons_succ, List.getElem?_cons_zero, Option.toList_some, List.cons_append, List.nil_append]
              repeat (go_big_quiet_step (fail))
              refine wpQuiet_nil ?_
              go_wp2_with fail
              refine (hof.out _).mono ?_
              rintro e y6 ⟨rfl, m6⟩
              have K16 := K15.later m6
              go_wp2_with fail
              clear m5
              try refine ⟨by first | assumption | exact later_drew _ | exact later_alloc _ _ | exact Later.refl _, ?_⟩
              try simp only [wpParts, pick, List.getElem?_cons_succ, List.getElem?_cons_zero, Option.toList_some, List.cons_append, List.nil_append]
              repeat (go_big_quiet_step (fail))
              refine wpQuiet_nil ?_
              go_wp2_with fail
              go_ret
              exact ⟨rfl, K16.lat⟩
end Go.Proofs.Ytkibgdigcgakfaa
