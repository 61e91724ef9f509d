/-
  shallotlaw05: is, awake.
  shallotlaw05: FieldReads, FieldSubs.
  shallotlaw05: FieldSubs.
  shallotlaw05: FieldForms.
-/
import Derived.Test.YtallecbmnpcepaaFMid
namespace Go.Proofs.Ytallecbmnpcepaa
open Go.RowKit

theorem fermat (a : Nat) (h : a % P25 ≠ 0) : a ^ (P25 - 1) % P25 = 1 := by
  have := prm_p.2 a (by unfold P25 at h; exact h)
  unfold P25
  exact this
theorem mul_pinv (a : Nat) (h : a % P25 ≠ 0) : a * pinv a % P25 = 1 := by
  rw [pinv, Nat.mul_mod_mod, ← Nat.pow_succ', show (P25 - 2).succ = P25 - 1 by unfold P25; rfl]
  exact fermat a h
theorem pinv_lt (a : Nat) : pinv a < P25 := Nat.mod_lt _ P25_pos
theorem pinv_T (a : Nat) : pinv a < T256 := Nat.lt_trans (pinv_lt a) (by decide)
@[go_sem] theorem pinv_T' (a : Nat) : (pinv a < T256) = True := eq_true (pinv_T a)
@[go_sem] theorem one_T : (1 < T256) = True := eq_true (by decide)
@[go_sem] theorem zero_T : (0 < T256) = True := eq_true (by decide)
@[go_sem] theorem T37 : (37 < T256) = True := eq_true (by decide)
section
variable {ops : Array Oper} {rest : List Oper} {o : Oper} {a : Act} {w : World} {Q : Exit → Act → World → Prop}
theorem load_B (hgd : Region.wanted o (yielded ops a.tmps) = true) (x : Operand) (ho : o.op = .load 43 x) {g : Nat} {t : TypeId} {bs : List UInt8} (hb : Blk w g t (bs.map W8)) (hl : bs.length = 32) (hx : a.eval x = .pointer (some ⟨g, 0, none⟩))
    (h : wpList Try.prog ops Q rest (a.put o.dst (.agg (bs.map W8).toArray)) w) : wpList Try.prog ops Q (o :: rest) a w :=
  wpList_load_blk hgd _ x ho g t _ hb hx _ Try.underlying43 rfl 32 size32b (by rw [List.length_map, hl]) h
theorem store_B (hgd : o.guard = none) (hd : o.dst = none) (x y : Operand) (ho : o.op = .store 43 x y) {g : Nat} {t : TypeId} {l : List Value} {bs : List UInt8} (hg : Blk w g t l) (hx : a.eval x = .pointer (some ⟨g, 0, none⟩)) (hy : a.eval y = .agg (bs.map W8).toArray) (hbl : bs.length = 32) (hl : l.length = 32)
    (h : ∀ w', Blk w' g t (bs.map W8) → Only g w w' → wpList Try.prog ops Q rest a w') : wpList Try.prog ops Q (o :: rest) a w :=
  wpList_store_blk hgd hd _ x y ho g t l _ hg hx hy 32 size32b (by rw [List.length_map, hbl]) hl (w8_one _) h
theorem quiet_B {K : Act → Prop} (x : Operand) (ho : o.op = .load 43 x) {w0 : World} {g : Nat} {t : TypeId} {bs : List UInt8} (hb : Blk w0 g t (bs.map W8)) (hl : bs.length = 32) (hx : a.eval x = .pointer (some ⟨g, 0, none⟩)) (h : K (a.put o.dst (.agg (bs.map W8).toArray))) :
    o.quiet Try.prog a (fun w' => ∃ x, w' = grow w0 x) K :=
  quiet_load_agg _ x ho g 0 (bs.map W8) (fun w' hw j v hv => by obtain ⟨y, rfl⟩ := hw; rw [Nat.zero_add]; exact (hb.later ⟨y, rfl⟩).cellD j hv) hx _ Try.underlying43 rfl (by rw [List.length_map, hl]; exact size32b) h
end
theorem build_want {P : Program} {ops : Array Oper} {rest : List Oper} {o : Oper} {a : Act} {w : World} {Q : Exit → Act → World → Prop} (hw : Region.wanted o (yielded ops a.tmps) = true) (t : TypeId) (parts : Array (Nat × Operand)) (ho : o.op = .build t parts) (vs : List Value) (hb : P.built t (parts.map fun (i, x) => (i, a.eval x)).toList = some vs.toArray)
    (h : wpList P ops Q rest (a.put o.dst (.agg vs.toArray)) w) : wpList P ops Q (o :: rest) a w :=
  BigFrame.wpList_want hw fun K hK => by
    exact wp_build t parts ho (by rw [hb]; rfl) (by rw [hb]; exact hK _ _ h)
theorem build_k (k : Nat) (hk : k < B64) {ops : Array Oper} {rest : List Oper} {o : Oper} {a : Act} {w : World} {Q : Exit → Act → World → Prop} (hw : Region.wanted o (yielded ops a.tmps) = true) (ho : o.op = .build 91 #[(0, .const (n64 k))])
    (h : wpList Try.prog ops Q rest (a.put o.dst (E k)) w) : wpList Try.prog ops Q (o :: rest) a w :=
  build_want hw 91 _ ho (EL k) (by rw [EL_small hk]; kernel_rfl) h
theorem EL_four (n : Nat) : EL n = [n64 (lim n 0), n64 (lim n 1), n64 (lim n 2), n64 (lim n 3)] := by
  apply List.ext_getElem (EL_length n)
  intro i hi1 hi2
  rw [EL_at]
  have : i = 0 ∨ i = 1 ∨ i = 2 ∨ i = 3 := by rw [EL_length] at hi1; omega
  rcases this with rfl | rfl | rfl | rfl <;> rfl
theorem run_build2_aux (a0 a1 a2 a3 b0 b1 b2 b3 : Value) (W : World) :
    (Instr.buildSlice 152 2 #[(0, .agg #[a0, a1, a2, a3]), (1, .agg #[b0, b1, b2, b3])]).run Try.prog W = .ok (.slice (some ⟨W.heap.size, 0, none⟩) 2 2) (W.alloc (.cells #[a0, a1, a2, a3, b0, b1, b2, b3] 91)) := by kernel_rfl
theorem run_build2 (a b : Nat) (W : World) :
    (Instr.buildSlice 152 2 #[(0, E a), (1, E b)]).run Try.prog W = .ok (.slice (some ⟨W.heap.size, 0, none⟩) 2 2) (W.alloc (.cells (EL a ++ EL b).toArray 91)) := by
  rw [E, E, EL_four a, EL_four b]
  exact run_build2_aux ..
theorem run_build1_aux (a0 a1 a2 a3 : Value) (W : World) :
    (Instr.buildSlice 152 1 #[(0, .agg #[a0, a1, a2, a3])]).run Try.prog W = .ok (.slice (some ⟨W.heap.size, 0, none⟩) 1 1) (W.alloc (.cells #[a0, a1, a2, a3] 91)) := by kernel_rfl
theorem run_build1 (a : Nat) (W : World) :
    (Instr.buildSlice 152 1 #[(0, E a)]).run Try.prog W = .ok (.slice (some ⟨W.heap.size, 0, none⟩) 1 1) (W.alloc (.cells (EL a).toArray 91)) := by
  rw [E, EL_four a]
  exact run_build1_aux ..
theorem run_build3_aux (a0 a1 a2 a3 b0 b1 b2 b3 c0 c1 c2 c3 : Value) (W : World) :
    (Instr.buildSlice 152 3 #[(0, .agg #[a0, a1, a2, a3]), (1, .agg #[b0, b1, b2, b3]), (2, .agg #[c0, c1, c2, c3])]).run Try.prog W = .ok (.slice (some ⟨W.heap.size, 0, none⟩) 3 3) (W.alloc (.cells #[a0, a1, a2, a3, b0, b1, b2, b3, c0, c1, c2, c3] 91)) := by kernel_rfl
theorem run_build3 (a b c : Nat) (W : World) :
    (Instr.buildSlice 152 3 #[(0, E a), (1, E b), (2, E c)]).run Try.prog W = .ok (.slice (some ⟨W.heap.size, 0, none⟩) 3 3) (W.alloc (.cells (EL a ++ (EL b ++ EL c)).toArray 91)) := by
  rw [E, E, E, EL_four a, EL_four b, EL_four c]
  exact run_build3_aux ..
section
variable {ops : Array Oper} {rest : List Oper} {o : Oper} {a : Act} {w : World} {Q : Exit → Act → World → Prop}
theorem build_row1 (hw : Region.wanted o (yielded ops a.tmps) = true) (x : Operand) (ho : o.op = .buildSlice 152 1 #[(0, x)]) (n : Nat) (hx : a.eval x = E n)
    (h : wpList Try.prog ops Q rest (a.put o.dst (.slice (some ⟨w.heap.size, 0, none⟩) 1 1)) (w.alloc (.cells (EL n).toArray 91))) : wpList Try.prog ops Q (o :: rest) a w :=
  BigFrame.wpList_want hw fun K hK => by
    have hr := run_build1 n w
    unfold Oper.wp
    simp only [execOp, ho, List.map_toArray, List.map_cons, List.map_nil, hx, Sem.run_bind, hr, Result.andThen_ok, Sem.run_pure]
    exact hK _ _ h
theorem build_row2 (hw : Region.wanted o (yielded ops a.tmps) = true) (x y : Operand) (ho : o.op = .buildSlice 152 2 #[(0, x), (1, y)]) (n m : Nat) (hx : a.eval x = E n) (hy : a.eval y = E m)
    (h : wpList Try.prog ops Q rest (a.put o.dst (.slice (some ⟨w.heap.size, 0, none⟩) 2 2)) (w.alloc (.cells (EL n ++ EL m).toArray 91))) : wpList Try.prog ops Q (o :: rest) a w :=
  BigFrame.wpList_want hw fun K hK => by
    have hr := run_build2 n m w
    unfold Oper.wp
    simp only [execOp, ho, List.map_toArray, List.map_cons, List.map_nil, hx, hy, Sem.run_bind, hr, Result.andThen_ok, Sem.run_pure]
    exact hK _ _ h
theorem build_row3 (hw : Region.wanted o (yielded ops a.tmps) = true) (x y z : Operand) (ho : o.op = .buildSlice 152 3 #[(0, x), (1, y), (2, z)]) (n m l : Nat) (hx : a.eval x = E n) (hy : a.eval y = E m) (hz : a.eval z = E l)
    (h : wpList Try.prog ops Q rest (a.put o.dst (.slice (some ⟨w.heap.size, 0, none⟩) 3 3)) (w.alloc (.cells (EL n ++ (EL m ++ EL l)).toArray 91))) : wpList Try.prog ops Q (o :: rest) a w :=
  BigFrame.wpList_want hw fun K hK => by
    have hr := run_build3 n m l w
    unfold Oper.wp
    simp only [execOp, ho, List.map_toArray, List.map_cons, List.map_nil, hx, hy, hz, Sem.run_bind, hr, Result.andThen_ok, Sem.run_pure]
    exact hK _ _ h
end
/-- A row that was just built. -/
theorem rdE_new {w : World} {g : Nat} {t : TypeId} {l : List Value} (ns : List Nat) (n : Nat) (hb : Blk w g t l) (hl : l = ns.flatMap EL) (hn : ns.length = n) : RdE w (some ⟨g, 0, none⟩) n ns := by
  refine ⟨hn, fun _ => ⟨g, 0, rfl, hb.lt, fun j i v hj hv => ?_⟩⟩
  refine hb.cellD _ ?_
  rw [hl]
  have key : ∀ (ns : List Nat) (j : Nat), j < ns.length → (EL (ns.getD j 0))[i]? = some v → (ns.flatMap EL)[0 + j * 4 + i]? = some v := by
    intro ns
    induction ns with
    | nil => intro j hj; simp at hj
    | cons x ns ih =>
      intro j hj hv
      cases j with
      | zero =>
        rw [List.flatMap_cons, List.getElem?_append_left]
        · simpa using hv
        · have : i < (EL x).length := by
            have := List.getElem?_eq_some_iff.1 hv
            exact this.1
          omega
      | succ j =>
        rw [List.flatMap_cons, List.getElem?_append_right (by rw [EL_length]; omega), EL_length]
        have := ih j (by simpa using hj) (by simpa using hv)
        rw [show 0 + (j + 1) * 4 + i - 4 = 0 + j * 4 + i by omega]
        exact this
  exact key ns j (by omega) hv
theorem of_2 (w : World) : Calls Try.prog 43 #[.int .u64 2] w fun e w' => e = .returned (E 2) ∧ Later w w' := of_any 2 (by decide) w
end Go.Proofs.Ytallecbmnpcepaa
namespace Go.Proofs.Ytallecbmnpcepaa
open Go.RowKit

theorem readN_lt (bs : List UInt8) : readN bs < P25 := by
  unfold readN
  split
  · exact Nat.mod_lt _ P25_pos
  · exact P25_pos
theorem readN_nb (x : Nat) (h : x < P25) : readN (nb x) = x := by
  have hT : x < T256 := Nat.lt_trans h (by decide)
  rw [readN, if_pos (nb_length x), num_nb x hT, Nat.mod_eq_of_lt (show x < T255 from Nat.lt_trans h (by decide)), Nat.mod_eq_of_lt h]
end Go.Proofs.Ytallecbmnpcepaa
namespace Go.Proofs.Ytallecbmnpcepaa
open Go.RowKit

end Go.Proofs.Ytallecbmnpcepaa
namespace Go.Proofs.Ytallecbmnpcepaa
open Go.RowKit
open Go.BigFrame

def ofs32 (l : List Nat) : List UInt32 := l.map UInt32.ofNat
theorem NL_ofs (n : Nat) : NL n = (ofs32 (dig B32 8 n)).map W32 := by rw [NL, ofs32, List.map_map]; rfl
theorem ofs32_inj {l m : List Nat} (hl : ∀ x ∈ l, x < B32) (hm : ∀ x ∈ m, x < B32) (h : ofs32 l = ofs32 m) : l = m := by
  have e : ∀ l : List Nat, (∀ x ∈ l, x < B32) → (ofs32 l).map UInt32.toNat = l := by
    intro l hl
    rw [ofs32, List.map_map]
    conv => rhs; rw [← List.map_id l]
    apply List.map_congr_left
    intro x hx
    exact tn32 (hl x hx)
  rw [← e l hl, ← e m hm, h]
theorem ofs32_beq {x y : Nat} (hx : x < T256) (hy : y < T256) : (ofs32 (dig B32 8 x) == ofs32 (dig B32 8 y)) = (x == y) := by
  rw [Bool.eq_iff_iff, beq_iff_eq, beq_iff_eq]
  refine ⟨fun h => ?_, fun h => by rw [h]⟩
  have := ofs32_inj (dig_lt B32_pos 8 x) (dig_lt B32_pos 8 y) h
  exact dig_inj (k := 8) (B := B32) (by rw [B32_8]; exact hx) (by rw [B32_8]; exact hy) this
theorem size32 : (Try.prog.info? 95).map (·.size) = some 1 := by kernel_rfl
theorem eqg_N : Try.prog.eqGuardType Try.prog.depth 97 = false := by kernel_rfl
@[go_sem high] theorem eqGuard_N (op : BinOp) (x y : Operand) (xs ys : Array Value) (w : World) : (eqGuard op 97 x y (.agg xs) (.agg ys)).run Try.prog w = .ok () w := run_eqGuard_agg w op _ x y xs ys eqg_N
@[go_sem high] theorem run_eql_N (x y : Nat) (hx : x < T256) (hy : y < T256) (w : World) : (binOp .eql 97 (NN x) (NN y)).run Try.prog w = .ok (.bool (x == y)) w := by
  rw [run_eql_struct, NL_ofs, NL_ofs, run_equalIn_arr w 0 W32 9998 97 95 8 Try.underlying97 size32 Try.underlying95 rfl (heq_w32 _ _ Try.underlying95) _ _ (by rw [ofs32, List.length_map, dig_length]) (by rw [ofs32, List.length_map, dig_length]), ofs32_beq hx hy]
  rfl
@[go_sem] theorem rem_n32_2 (T : TypeId) (x : Nat) (hx : x < B32) : binOp .rem T (n32 x) (.int .u32 2) = pure (n32 (x % 2)) := by
  rw [n32, rem_w32i _ _ _ (by omega) (by omega) (by decide), n32_w]
  rw [UInt32.toNat_mod, tn32 hx]
  have : x % 2 < B32 := by unfold B32; omega
  rw [Nat.mod_eq_of_lt this]
  rfl
@[go_sem] theorem eql_n32i (T : TypeId) (x : Nat) (k : Int) (hx : x < B32) (h0 : 0 ≤ k) (h1 : k < 4294967296) : binOp .eql T (n32 x) (.int .u32 k) = pure (.bool (x == k.toNat)) := by
  rw [n32_lit k h0 h1, n32, n32, eql_w32]
  congr 2
  rw [Bool.eq_iff_iff]
  simp only [beq_iff_eq, ← UInt32.toNat_inj, tn32 hx]
  rw [tn32 (show k.toNat < B32 by unfold B32; omega)]
theorem quiet_build1 {C : World → Prop} {a : Act} {o : Oper} {K : Act → Prop} (n : Nat) (hn : n < B64) (x : Operand) (ho : o.op = .build 91 #[(0, x)]) (hx : a.eval x = n64 n) (h : K (a.put o.dst (E n))) : o.quiet Try.prog a C K :=
  ⟨E n, fun w hw => by
    have hb : Try.prog.built 91 (((#[(0, x)] : Array (Nat × Operand)).map fun (i, x) => (i, a.eval x)).toList) = some (EL n).toArray := by
      simp only [List.map_toArray, List.map_cons, List.map_nil, hx]
      rw [EL_small hn]
      kernel_rfl
    unfold Oper.quietAt execOp
    simp only [ho, Sem.run_bind, run_build w _ _ _ hb, Result.andThen_ok, Sem.run_pure]
    exact ⟨rfl, rfl⟩, h⟩
end Go.Proofs.Ytallecbmnpcepaa
