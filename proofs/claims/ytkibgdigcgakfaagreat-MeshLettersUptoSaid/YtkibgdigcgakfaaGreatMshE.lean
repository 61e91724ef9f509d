/-
  shallotlaw17.same: letters that are alike.
-/
import Derived.Test.YtkibgdigcgakfaaGreatMshS
namespace Go.Proofs.YtkibgdigcgakfaaGreat
open Go.RowKit
open Go.BigFrame

/-- Letters in a row. -/
def LtRow (w : World) (A : Option Addr) (n : Nat) (ys : List Ltv) : Prop := RdF LtC 4 lv0 w A n ys ∧ ∀ y ∈ ys, RdB w y.va y.vn y.lt.tx ∧ y.vn ≤ 140737488355328
set_option maxRecDepth 100000 in
set_option maxHeartbeats 4000000 in
theorem same17_ok (A B : Option Addr) (n c d : Nat) (ys zs : List Ltv) (w : World) (hy : LtRow w A n ys) (hz : LtRow w B n zs) (hn : n ≤ 1048576) (he : ys.map (·.lt) = zs.map (·.lt)) :
    Calls Tryz.prog 6 #[.slice A n c, .slice B n d] w fun e w' => e = .returned (.bool true) ∧ Later w w' := by
  have hyl := hy.1.1
  have hzl := hz.1.1
  go_enter Tryz.func6, Tryz.ntmps6
  go_wp2_with fail
  go_loopw [13] (fun i wr => ∃ k : Nat, k ≤ n ∧ i = .int .i64 k ∧ Later w wr) (fun i _ => n - (intOf i).toNat)
  case atStart => exact ⟨0, by omega, rfl, Later.refl w⟩
  case round =>
    obtain ⟨k, hk, rfl, L⟩ := hrel
    by_cases hlt : k < n
    · obtain ⟨b, o, rfl, hb, hc⟩ := (hy.1.later L).at_ hlt
      obtain ⟨b2, o2, rfl, hb2, hc2⟩ := (hz.1.later L).at_ hlt
      have my : ys.getD k lv0 ∈ ys := by
        rw [List.getD_eq_getElem?_getD, List.getElem?_eq_getElem (by omega)]
        exact List.getElem_mem _
      have mz : zs.getD k lv0 ∈ zs := by
        rw [List.getD_eq_getElem?_getD, List.getElem?_eq_getElem (by omega)]
        exact List.getElem_mem _
      have hek : (ys.getD k lv0).lt = (zs.getD k lv0).lt := by
        have := congrArg (·[k]?) he
        simp only [List.getElem?_map] at this
        rw [List.getElem?_eq_getElem (by omega), List.getElem?_eq_getElem (by omega)] at this
        rw [List.getD_eq_getElem?_getD, List.getElem?_eq_getElem (by omega), List.getD_eq_getElem?_getD, List.getElem?_eq_getElem (by omega)]
        exact Option.some.inj this
      obtain ⟨ry, ny⟩ := hy.2 _ my
      obtain ⟨rz, nz⟩ := hz.2 _ mz
      clear my mz
      generalize ys.getD k lv0 = y at *
      generalize zs.getD k lv0 = z at *
      obtain ⟨⟨to, id, tk, tx⟩, A1, n1, c1⟩ := y
      obtain ⟨lt, A2, n2, c2⟩ := z
      simp only at hek ry rz ny nz
      subst hek
      have q0 : wr.cell? ⟨b, o + k * 4, none⟩ = some (W64 to) := hc 0 (W64 to) rfl
      have q1 := hc 1 (W64 id) rfl
      have q2 := hc 2 (.int .i64 tk) rfl
      have q3 := hc 3 (.slice A1 n1 c1) rfl
      have p0 : wr.cell? ⟨b2, o2 + k * 4, none⟩ = some (W64 to) := hc2 0 (W64 to) rfl
      have p1 := hc2 1 (W64 id) rfl
      have p2 := hc2 2 (.int .i64 tk) rfl
      have p3 := hc2 3 (.slice A2 n2 c2) rfl
      have hEq := hid (fun (w' : World) (l : Later w w') => equal_any A1 A2 n1 n2 c1 c2 tx tx w' (ry.later l) (rz.later l) ny nz)
      have hto : (to != to) = false := by simp
      have hidd : (id != id) = false := by simp
      have htk : (tk != tk) = false := by simp
      clear hc hc2
      go_wp2_with fail
      refine wp_region_parts [([0, 1, 2, 3, 4, 5, 6, 7, 8, 9, 10, 11, 12, 13, 14, 15, 16, 17, 18, 19, 20, 21, 22, 23, 24, 25, 26, 27, 28, 29, 30, 31, 32, 33, 34, 35, 36, 37, 38, 39, 40, 41, 42, 43, 44, 45, 46, 47], 48)] [49, 50] [] (by as_aux_lemma => kernel_rfl) (by as_aux_lemma => kernel_rfl) (by intro _ _ d _ _ h; cases d <;> exact h) ?_
      simp only [wpParts, pick, List.getElem?_cons_succ, List.getElem?_cons_zero, Option.toList_some, List.cons_append, List.nil_append]
      repeat (go_big_quiet_step (fail))
      refine wpQuiet_nil ?_
      go_wp2_with fail
      refine (hEq.out _ (L.trans (later_drew _))).mono ?_
      rintro e w2 ⟨rfl, l2⟩
      simp only [decide_true]
      go_wp2_with fail
      try refine ⟨by first | assumption | exact later_drew _ | exact later_alloc _ _ | exact Later.refl _, ?_⟩
      try simp only [wpParts, pick, List.getElem?_cons_succ, List.getElem?_cons_zero, Option.toList_some, List.cons_append, List.nil_append]
      repeat (go_big_quiet_step (fail))
      refine wpQuiet_nil ?_
      go_wp2_with fail
      exact ⟨⟨k + 1, by omega, by go_num, (L.trans (later_drew _)).trans l2⟩, by simp [intOf]; omega⟩
    · obtain rfl : k = n := by omega
      go_wp2_with fail
      go_ret
      exact ⟨rfl, L⟩
end Go.Proofs.YtkibgdigcgakfaaGreat
