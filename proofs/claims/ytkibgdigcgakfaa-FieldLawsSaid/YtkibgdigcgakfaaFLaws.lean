/-
  shallotlaw05: is, awake.
  shallotlaw05: FieldReads, FieldSubs.
  shallotlaw05: FieldSubs.
  shallotlaw05: FieldForms.
-/
import Derived.Test.YtkibgdigcgakfaaFMid
namespace Go.Proofs.Ytkibgdigcgakfaa
open Go.RowKit

theorem fermat (a : Nat) (h : a % P25 ≠ 0) : a ^ (P25 - 1) % P25 = 1 := by
  have := prm_p.2 a (by unfold P25 at h; exact h)
  unfold P25
  exact this
theorem mul_pinv (a : Nat) (h : a % P25 ≠ 0) : a * pinv a % P25 = 1 := by
  rw [pinv, Nat.mul_mod_mod, ← Nat.pow_succ', show (P25 - 2).succ = P25 - 1 by unfold P25; rfl]
  exact fermat a h
theorem pinv_lt (a : Nat) : pinv a < P25 := Nat.mod_lt _ P25_pos
theorem pinv_T (a : Nat) : pinv a < T256 := Nat.lt_trans (pinv_lt a) (by decide)
@[go_sem] theorem pinv_T' (a : Nat) : (pinv a < T256) = True := eq_true (pinv_T a)
@[go_sem] theorem one_T : (1 < T256) = True := eq_true (by decide)
@[go_sem] theorem zero_T : (0 < T256) = True := eq_true (by decide)
@[go_sem] theorem T37 : (37 < T256) = True := eq_true (by decide)
theorem size4 : (Try.prog.info? 24).map (·.size) = some 4 := by kernel_rfl
section
variable {ops : Array Oper} {rest : List Oper} {o : Oper} {a : Act} {w : World} {Q : Exit → Act → World → Prop}
theorem load_4 (hgd : Region.wanted o (yielded ops a.tmps) = true) (x : Operand) (ho : o.op = .load 24 x) {g : Nat} {t : TypeId} {n : Nat} (hb : Blk w g t (EL n)) (hx : a.eval x = .pointer (some ⟨g, 0, none⟩))
    (h : wpList Try.prog ops Q rest (a.put o.dst (E n)) w) : wpList Try.prog ops Q (o :: rest) a w :=
  wpList_load_blk hgd _ x ho g t _ hb hx _ Try.underlying24 rfl 4 size4 (EL_length n) h
theorem store_4 (hgd : o.guard = none) (hd : o.dst = none) (x y : Operand) (ho : o.op = .store 24 x y) {g : Nat} {t : TypeId} {l : List Value} {n : Nat} (hg : Blk w g t l) (hx : a.eval x = .pointer (some ⟨g, 0, none⟩)) (hy : a.eval y = E n) (hl : l.length = 4)
    (h : ∀ w', Blk w' g t (EL n) → Only g w w' → wpList Try.prog ops Q rest a w') : wpList Try.prog ops Q (o :: rest) a w :=
  wpList_store_blk hgd hd _ x y ho g t l _ hg hx hy 4 size4 (EL_length n) hl (EL_one n) h
theorem quiet_4 {K : Act → Prop} (x : Operand) (ho : o.op = .load 24 x) {w0 : World} {g : Nat} {t : TypeId} {n : Nat} (hb : Blk w0 g t (EL n)) (hx : a.eval x = .pointer (some ⟨g, 0, none⟩)) (h : K (a.put o.dst (E n))) :
    o.quiet Try.prog a (fun w' => ∃ x, w' = grow w0 x) K :=
  quiet_load_agg _ x ho g 0 (EL n) (fun w' hw j v hv => by obtain ⟨y, rfl⟩ := hw; rw [Nat.zero_add]; exact (hb.later ⟨y, rfl⟩).cellD j hv) hx _ Try.underlying24 rfl (by rw [EL_length]; exact size4) h
theorem load_B (hgd : Region.wanted o (yielded ops a.tmps) = true) (x : Operand) (ho : o.op = .load 48 x) {g : Nat} {t : TypeId} {bs : List UInt8} (hb : Blk w g t (bs.map W8)) (hl : bs.length = 32) (hx : a.eval x = .pointer (some ⟨g, 0, none⟩))
    (h : wpList Try.prog ops Q rest (a.put o.dst (.agg (bs.map W8).toArray)) w) : wpList Try.prog ops Q (o :: rest) a w :=
  wpList_load_blk hgd _ x ho g t _ hb hx _ Try.underlying48 rfl 32 size32b (by rw [List.length_map, hl]) h
theorem store_B (hgd : o.guard = none) (hd : o.dst = none) (x y : Operand) (ho : o.op = .store 48 x y) {g : Nat} {t : TypeId} {l : List Value} {bs : List UInt8} (hg : Blk w g t l) (hx : a.eval x = .pointer (some ⟨g, 0, none⟩)) (hy : a.eval y = .agg (bs.map W8).toArray) (hbl : bs.length = 32) (hl : l.length = 32)
    (h : ∀ w', Blk w' g t (bs.map W8) → Only g w w' → wpList Try.prog ops Q rest a w') : wpList Try.prog ops Q (o :: rest) a w :=
  wpList_store_blk hgd hd _ x y ho g t l _ hg hx hy 32 size32b (by rw [List.length_map, hbl]) hl (w8_one _) h
theorem quiet_B {K : Act → Prop} (x : Operand) (ho : o.op = .load 48 x) {w0 : World} {g : Nat} {t : TypeId} {bs : List UInt8} (hb : Blk w0 g t (bs.map W8)) (hl : bs.length = 32) (hx : a.eval x = .pointer (some ⟨g, 0, none⟩)) (h : K (a.put o.dst (.agg (bs.map W8).toArray))) :
    o.quiet Try.prog a (fun w' => ∃ x, w' = grow w0 x) K :=
  quiet_load_agg _ x ho g 0 (bs.map W8) (fun w' hw j v hv => by obtain ⟨y, rfl⟩ := hw; rw [Nat.zero_add]; exact (hb.later ⟨y, rfl⟩).cellD j hv) hx _ Try.underlying48 rfl (by rw [List.length_map, hl]; exact size32b) h
end
theorem build_want {P : Program} {ops : Array Oper} {rest : List Oper} {o : Oper} {a : Act} {w : World} {Q : Exit → Act → World → Prop} (hw : Region.wanted o (yielded ops a.tmps) = true) (t : TypeId) (parts : Array (Nat × Operand)) (ho : o.op = .build t parts) (vs : List Value) (hb : P.built t (parts.map fun (i, x) => (i, a.eval x)).toList = some vs.toArray)
    (h : wpList P ops Q rest (a.put o.dst (.agg vs.toArray)) w) : wpList P ops Q (o :: rest) a w :=
  BigFrame.wpList_want hw fun K hK => by
    exact wp_build t parts ho (by rw [hb]; rfl) (by rw [hb]; exact hK _ _ h)
theorem build_k (k : Nat) (hk : k < B64) {ops : Array Oper} {rest : List Oper} {o : Oper} {a : Act} {w : World} {Q : Exit → Act → World → Prop} (hw : Region.wanted o (yielded ops a.tmps) = true) (ho : o.op = .build 26 #[(0, .const (n64 k))])
    (h : wpList Try.prog ops Q rest (a.put o.dst (E k)) w) : wpList Try.prog ops Q (o :: rest) a w :=
  build_want hw 26 _ ho (EL k) (by rw [EL_small hk]; kernel_rfl) h
theorem EL_four (n : Nat) : EL n = [n64 (lim n 0), n64 (lim n 1), n64 (lim n 2), n64 (lim n 3)] := by
  apply List.ext_getElem (EL_length n)
  intro i hi1 hi2
  rw [EL_at]
  have : i = 0 ∨ i = 1 ∨ i = 2 ∨ i = 3 := by rw [EL_length] at hi1; omega
  rcases this with rfl | rfl | rfl | rfl <;> rfl
theorem run_build2_aux (a0 a1 a2 a3 b0 b1 b2 b3 : Value) (W : World) :
    (Instr.buildSlice 64 2 #[(0, .agg #[a0, a1, a2, a3]), (1, .agg #[b0, b1, b2, b3])]).run Try.prog W = .ok (.slice (some ⟨W.heap.size, 0, none⟩) 2 2) (W.alloc (.cells #[a0, a1, a2, a3, b0, b1, b2, b3] 26)) := by kernel_rfl
theorem run_build2 (a b : Nat) (W : World) :
    (Instr.buildSlice 64 2 #[(0, E a), (1, E b)]).run Try.prog W = .ok (.slice (some ⟨W.heap.size, 0, none⟩) 2 2) (W.alloc (.cells (EL a ++ EL b).toArray 26)) := by
  rw [E, E, EL_four a, EL_four b]
  exact run_build2_aux ..
theorem run_build1_aux (a0 a1 a2 a3 : Value) (W : World) :
    (Instr.buildSlice 64 1 #[(0, .agg #[a0, a1, a2, a3])]).run Try.prog W = .ok (.slice (some ⟨W.heap.size, 0, none⟩) 1 1) (W.alloc (.cells #[a0, a1, a2, a3] 26)) := by kernel_rfl
theorem run_build1 (a : Nat) (W : World) :
    (Instr.buildSlice 64 1 #[(0, E a)]).run Try.prog W = .ok (.slice (some ⟨W.heap.size, 0, none⟩) 1 1) (W.alloc (.cells (EL a).toArray 26)) := by
  rw [E, EL_four a]
  exact run_build1_aux ..
theorem run_build3_aux (a0 a1 a2 a3 b0 b1 b2 b3 c0 c1 c2 c3 : Value) (W : World) :
    (Instr.buildSlice 64 3 #[(0, .agg #[a0, a1, a2, a3]), (1, .agg #[b0, b1, b2, b3]), (2, .agg #[c0, c1, c2, c3])]).run Try.prog W = .ok (.slice (some ⟨W.heap.size, 0, none⟩) 3 3) (W.alloc (.cells #[a0, a1, a2, a3, b0, b1, b2, b3, c0, c1, c2, c3] 26)) := by kernel_rfl
theorem run_build3 (a b c : Nat) (W : World) :
    (Instr.buildSlice 64 3 #[(0, E a), (1, E b), (2, E c)]).run Try.prog W = .ok (.slice (some ⟨W.heap.size, 0, none⟩) 3 3) (W.alloc (.cells (EL a ++ (EL b ++ EL c)).toArray 26)) := by
  rw [E, E, E, EL_four a, EL_four b, EL_four c]
  exact run_build3_aux ..
section
variable {ops : Array Oper} {rest : List Oper} {o : Oper} {a : Act} {w : World} {Q : Exit → Act → World → Prop}
theorem build_row1 (hw : Region.wanted o (yielded ops a.tmps) = true) (x : Operand) (ho : o.op = .buildSlice 64 1 #[(0, x)]) (n : Nat) (hx : a.eval x = E n)
    (h : wpList Try.prog ops Q rest (a.put o.dst (.slice (some ⟨w.heap.size, 0, none⟩) 1 1)) (w.alloc (.cells (EL n).toArray 26))) : wpList Try.prog ops Q (o :: rest) a w :=
  BigFrame.wpList_want hw fun K hK => by
    have hr := run_build1 n w
    unfold Oper.wp
    simp only [execOp, ho, List.map_toArray, List.map_cons, List.map_nil, hx, Sem.run_bind, hr, Result.andThen_ok, Sem.run_pure]
    exact hK _ _ h
theorem build_row2 (hw : Region.wanted o (yielded ops a.tmps) = true) (x y : Operand) (ho : o.op = .buildSlice 64 2 #[(0, x), (1, y)]) (n m : Nat) (hx : a.eval x = E n) (hy : a.eval y = E m)
    (h : wpList Try.prog ops Q rest (a.put o.dst (.slice (some ⟨w.heap.size, 0, none⟩) 2 2)) (w.alloc (.cells (EL n ++ EL m).toArray 26))) : wpList Try.prog ops Q (o :: rest) a w :=
  BigFrame.wpList_want hw fun K hK => by
    have hr := run_build2 n m w
    unfold Oper.wp
    simp only [execOp, ho, List.map_toArray, List.map_cons, List.map_nil, hx, hy, Sem.run_bind, hr, Result.andThen_ok, Sem.run_pure]
    exact hK _ _ h
theorem build_row3 (hw : Region.wanted o (yielded ops a.tmps) = true) (x y z : Operand) (ho : o.op = .buildSlice 64 3 #[(0, x), (1, y), (2, z)]) (n m l : Nat) (hx : a.eval x = E n) (hy : a.eval y = E m) (hz : a.eval z = E l)
    (h : wpList Try.prog ops Q rest (a.put o.dst (.slice (some ⟨w.heap.size, 0, none⟩) 3 3)) (w.alloc (.cells (EL n ++ (EL m ++ EL l)).toArray 26))) : wpList Try.prog ops Q (o :: rest) a w :=
  BigFrame.wpList_want hw fun K hK => by
    have hr := run_build3 n m l w
    unfold Oper.wp
    simp only [execOp, ho, List.map_toArray, List.map_cons, List.map_nil, hx, hy, hz, Sem.run_bind, hr, Result.andThen_ok, Sem.run_pure]
    exact hK _ _ h
end
/-- A row that was just built. -/
theorem rdE_new {w : World} {g : Nat} {t : TypeId} {l : List Value} (ns : List Nat) (n : Nat) (hb : Blk w g t l) (hl : l = ns.flatMap EL) (hn : ns.length = n) : RdE w (some ⟨g, 0, none⟩) n ns := by
  refine ⟨hn, fun _ => ⟨g, 0, rfl, hb.lt, fun j i v hj hv => ?_⟩⟩
  refine hb.cellD _ ?_
  rw [hl]
  have key : ∀ (ns : List Nat) (j : Nat), j < ns.length → (EL (ns.getD j 0))[i]? = some v → (ns.flatMap EL)[0 + j * 4 + i]? = some v := by
    intro ns
    induction ns with
    | nil => intro j hj; simp at hj
    | cons x ns ih =>
      intro j hj hv
      cases j with
      | zero =>
        rw [List.flatMap_cons, List.getElem?_append_left]
        · simpa using hv
        · have : i < (EL x).length := by
            have := List.getElem?_eq_some_iff.1 hv
            exact this.1
          omega
      | succ j =>
        rw [List.flatMap_cons, List.getElem?_append_right (by rw [EL_length]; omega), EL_length]
        have := ih j (by simpa using hj) (by simpa using hv)
        rw [show 0 + (j + 1) * 4 + i - 4 = 0 + j * 4 + i by omega]
        exact this
  exact key ns j (by omega) hv
theorem of_2 (w : World) : Calls Try.prog 13 #[.int .u64 2] w fun e w' => e = .returned (E 2) ∧ Later w w' := of_any 2 (by decide) w
set_option maxRecDepth 100000 in
set_option maxHeartbeats 2000000 in
theorem awake05 (w : World) : Calls Try.prog 5 #[] w fun e w' => e = .returned (.bool true) ∧ Later w w' := by
  go_enter Try.func5, Try.ntmps5
  go_wp2_with (first
    | (refine wpList_build_is rfl 26 #[(0, .const (.int .u64 18446744073709551615)), (1, .const (.int .u64 18446744073709551615)), (2, .const (.int .u64 18446744073709551615)), (3, .const (.int .u64 18446744073709551615))] rfl (EL (T256 - 1)) ?hb ?_; (case hb => kernel_rfl))
    | (refine build_k 37 (by decide) rfl rfl ?_)
    | (refine build_k 1 (by decide) rfl rfl ?_)
    | (refine store_E (n := T256 - 1) rfl rfl _ _ rfl (Blk.new w _ (List.replicate 4 (.int .u64 0))) rfl rfl rfl ?_; intro w2 hb2 ho2)
    | (refine load_E rfl _ rfl hb2 rfl ?_)
    | (go_at_call 9; (with_reducible refine (norm_any (T256 - 1) (by decide) _).mono ?_); rintro e w3 ⟨rfl, hl3⟩; rw [show (T256 - 1) % P25 = 37 by decide])
    | (go_at_call 13; (with_reducible refine (of_2 w3).mono ?_); rintro e w4 ⟨rfl, hl4⟩)
    | (go_at_call 13; (with_reducible refine (of_2 w4).mono ?_); rintro e w5 ⟨rfl, hl5⟩)
    | (go_at_call 11; (with_reducible refine (inv_any 2 (by decide) w5).mono ?_); rintro e w6 ⟨rfl, hl6⟩)
    | (refine build_row2 rfl _ _ rfl 2 (pinv 2) rfl rfl ?_)
    | (go_at_call 7; (with_reducible refine (product_any (some ⟨w6.heap.size, 0, none⟩) 2 2 [2, pinv 2] _ (rdE_new [2, pinv 2] 2 (Blk.new _ _ _) (by simp) rfl) (by intro x hx; simp at hx; rcases hx with rfl | rfl; decide; exact pinv_T 2) (by omega) (by omega)).mono ?_); rintro e w7 ⟨rfl, hl7⟩; rw [show prodN [2, pinv 2] % P25 = 1 by rw [prodN, prodN, prodN, Nat.mul_one]; exact mul_pinv 2 (by decide)])
    | fail)
  go_ret
  exact ⟨rfl, (((((((later_alloc w (.cells (List.replicate 4 (Value.int .u64 0)).toArray 26)).only ho2 (by omega)).trans hl3).trans hl4).trans hl5).trans hl6).trans (later_alloc _ _)).trans hl7⟩
end Go.Proofs.Ytkibgdigcgakfaa
namespace Go.Proofs.Ytkibgdigcgakfaa
open Go.RowKit

theorem readN_lt (bs : List UInt8) : readN bs < P25 := by
  unfold readN
  split
  · exact Nat.mod_lt _ P25_pos
  · exact P25_pos
theorem readN_nb (x : Nat) (h : x < P25) : readN (nb x) = x := by
  have hT : x < T256 := Nat.lt_trans h (by decide)
  rw [readN, if_pos (nb_length x), num_nb x hT, Nat.mod_eq_of_lt (show x < T255 from Nat.lt_trans h (by decide)), Nat.mod_eq_of_lt h]
end Go.Proofs.Ytkibgdigcgakfaa
namespace Go.Proofs.Ytkibgdigcgakfaa
open Go.RowKit

end Go.Proofs.Ytkibgdigcgakfaa
namespace Go.Proofs.Ytkibgdigcgakfaa
open Go.RowKit
open Go.BigFrame

def ofs32 (l : List Nat) : List UInt32 := l.map UInt32.ofNat
theorem NL_ofs (n : Nat) : NL n = (ofs32 (dig B32 8 n)).map W32 := by rw [NL, ofs32, List.map_map]; rfl
theorem ofs32_inj {l m : List Nat} (hl : ∀ x ∈ l, x < B32) (hm : ∀ x ∈ m, x < B32) (h : ofs32 l = ofs32 m) : l = m := by
  have e : ∀ l : List Nat, (∀ x ∈ l, x < B32) → (ofs32 l).map UInt32.toNat = l := by
    intro l hl
    rw [ofs32, List.map_map]
    conv => rhs; rw [← List.map_id l]
    apply List.map_congr_left
    intro x hx
    exact tn32 (hl x hx)
  rw [← e l hl, ← e m hm, h]
theorem ofs32_beq {x y : Nat} (hx : x < T256) (hy : y < T256) : (ofs32 (dig B32 8 x) == ofs32 (dig B32 8 y)) = (x == y) := by
  rw [Bool.eq_iff_iff, beq_iff_eq, beq_iff_eq]
  refine ⟨fun h => ?_, fun h => by rw [h]⟩
  have := ofs32_inj (dig_lt B32_pos 8 x) (dig_lt B32_pos 8 y) h
  exact dig_inj (k := 8) (B := B32) (by rw [B32_8]; exact hx) (by rw [B32_8]; exact hy) this
theorem size32 : (Try.prog.info? 91).map (·.size) = some 1 := by kernel_rfl
@[go_sem] theorem rem_n32_2 (T : TypeId) (x : Nat) (hx : x < B32) : binOp .rem T (n32 x) (.int .u32 2) = pure (n32 (x % 2)) := by
  rw [n32, rem_w32i _ _ _ (by omega) (by omega) (by decide), n32_w]
  rw [UInt32.toNat_mod, tn32 hx]
  have : x % 2 < B32 := by unfold B32; omega
  rw [Nat.mod_eq_of_lt this]
  rfl
@[go_sem] theorem eql_n32i (T : TypeId) (x : Nat) (k : Int) (hx : x < B32) (h0 : 0 ≤ k) (h1 : k < 4294967296) : binOp .eql T (n32 x) (.int .u32 k) = pure (.bool (x == k.toNat)) := by
  rw [n32_lit k h0 h1, n32, n32, eql_w32]
  congr 2
  rw [Bool.eq_iff_iff]
  simp only [beq_iff_eq, ← UInt32.toNat_inj, tn32 hx]
  rw [tn32 (show k.toNat < B32 by unfold B32; omega)]
theorem quiet_build1 {C : World → Prop} {a : Act} {o : Oper} {K : Act → Prop} (n : Nat) (hn : n < B64) (x : Operand) (ho : o.op = .build 26 #[(0, x)]) (hx : a.eval x = n64 n) (h : K (a.put o.dst (E n))) : o.quiet Try.prog a C K :=
  ⟨E n, fun w hw => by
    have hb : Try.prog.built 26 (((#[(0, x)] : Array (Nat × Operand)).map fun (i, x) => (i, a.eval x)).toList) = some (EL n).toArray := by
      simp only [List.map_toArray, List.map_cons, List.map_nil, hx]
      rw [EL_small hn]
      kernel_rfl
    unfold Oper.quietAt execOp
    simp only [ho, Sem.run_bind, run_build w _ _ _ hb, Result.andThen_ok, Sem.run_pure]
    exact ⟨rfl, rfl⟩, h⟩
end Go.Proofs.Ytkibgdigcgakfaa
