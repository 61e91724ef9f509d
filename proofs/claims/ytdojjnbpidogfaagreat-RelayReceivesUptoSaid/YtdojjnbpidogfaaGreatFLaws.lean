/-
  shallotlaw05: is, awake.
  shallotlaw05: FieldReads, FieldSubs.
  shallotlaw05: FieldSubs.
  shallotlaw05: FieldForms.
-/
import Derived.Test.YtdojjnbpidogfaaGreatFMid
namespace Go.Proofs.YtdojjnbpidogfaaGreat
open Go.RowKit

theorem fermat (a : Nat) (h : a % P25 ≠ 0) : a ^ (P25 - 1) % P25 = 1 := by
  have := prm_p.2 a (by unfold P25 at h; exact h)
  unfold P25
  exact this
theorem mul_pinv (a : Nat) (h : a % P25 ≠ 0) : a * pinv a % P25 = 1 := by
  rw [pinv, Nat.mul_mod_mod, ← Nat.pow_succ', show (P25 - 2).succ = P25 - 1 by unfold P25; rfl]
  exact fermat a h
theorem pinv_lt (a : Nat) : pinv a < P25 := Nat.mod_lt _ P25_pos
theorem pinv_T (a : Nat) : pinv a < T256 := Nat.lt_trans (pinv_lt a) (by decide)
@[go_sem] theorem pinv_T' (a : Nat) : (pinv a < T256) = True := eq_true (pinv_T a)
@[go_sem] theorem one_T : (1 < T256) = True := eq_true (by decide)
@[go_sem] theorem zero_T : (0 < T256) = True := eq_true (by decide)
@[go_sem] theorem T37 : (37 < T256) = True := eq_true (by decide)
section
variable {ops : Array Oper} {rest : List Oper} {o : Oper} {a : Act} {w : World} {Q : Exit → Act → World → Prop}
theorem load_B (hgd : Region.wanted o (yielded ops a.tmps) = true) (x : Operand) (ho : o.op = .load 31 x) {g : Nat} {t : TypeId} {bs : List UInt8} (hb : Blk w g t (bs.map W8)) (hl : bs.length = 32) (hx : a.eval x = .pointer (some ⟨g, 0, none⟩))
    (h : wpList Tryz.prog ops Q rest (a.put o.dst (.agg (bs.map W8).toArray)) w) : wpList Tryz.prog ops Q (o :: rest) a w :=
  wpList_load_blk hgd _ x ho g t _ hb hx _ Tryz.underlying31 rfl 32 size32b (by rw [List.length_map, hl]) h
theorem store_B (hgd : o.guard = none) (hd : o.dst = none) (x y : Operand) (ho : o.op = .store 31 x y) {g : Nat} {t : TypeId} {l : List Value} {bs : List UInt8} (hg : Blk w g t l) (hx : a.eval x = .pointer (some ⟨g, 0, none⟩)) (hy : a.eval y = .agg (bs.map W8).toArray) (hbl : bs.length = 32) (hl : l.length = 32)
    (h : ∀ w', Blk w' g t (bs.map W8) → Only g w w' → wpList Tryz.prog ops Q rest a w') : wpList Tryz.prog ops Q (o :: rest) a w :=
  wpList_store_blk hgd hd _ x y ho g t l _ hg hx hy 32 size32b (by rw [List.length_map, hbl]) hl (w8_one _) h
end
theorem EL_four (n : Nat) : EL n = [n64 (lim n 0), n64 (lim n 1), n64 (lim n 2), n64 (lim n 3)] := by
  apply List.ext_getElem (EL_length n)
  intro i hi1 hi2
  rw [EL_at]
  have : i = 0 ∨ i = 1 ∨ i = 2 ∨ i = 3 := by rw [EL_length] at hi1; omega
  rcases this with rfl | rfl | rfl | rfl <;> rfl
theorem run_build2_aux (a0 a1 a2 a3 b0 b1 b2 b3 : Value) (W : World) :
    (Instr.buildSlice 233 2 #[(0, .agg #[a0, a1, a2, a3]), (1, .agg #[b0, b1, b2, b3])]).run Tryz.prog W = .ok (.slice (some ⟨W.heap.size, 0, none⟩) 2 2) (W.alloc (.cells #[a0, a1, a2, a3, b0, b1, b2, b3] 172)) := by kernel_rfl
theorem run_build2 (a b : Nat) (W : World) :
    (Instr.buildSlice 233 2 #[(0, E a), (1, E b)]).run Tryz.prog W = .ok (.slice (some ⟨W.heap.size, 0, none⟩) 2 2) (W.alloc (.cells (EL a ++ EL b).toArray 172)) := by
  rw [E, E, EL_four a, EL_four b]
  exact run_build2_aux ..
section
variable {ops : Array Oper} {rest : List Oper} {o : Oper} {a : Act} {w : World} {Q : Exit → Act → World → Prop}
theorem build_row2 (hw : Region.wanted o (yielded ops a.tmps) = true) (x y : Operand) (ho : o.op = .buildSlice 233 2 #[(0, x), (1, y)]) (n m : Nat) (hx : a.eval x = E n) (hy : a.eval y = E m)
    (h : wpList Tryz.prog ops Q rest (a.put o.dst (.slice (some ⟨w.heap.size, 0, none⟩) 2 2)) (w.alloc (.cells (EL n ++ EL m).toArray 172))) : wpList Tryz.prog ops Q (o :: rest) a w :=
  BigFrame.wpList_want hw fun K hK => by
    have hr := run_build2 n m w
    unfold Oper.wp
    simp only [execOp, ho, List.map_toArray, List.map_cons, List.map_nil, hx, hy, Sem.run_bind, hr, Result.andThen_ok, Sem.run_pure]
    exact hK _ _ h
end
/-- A row that was just built. -/
theorem rdE_new {w : World} {g : Nat} {t : TypeId} {l : List Value} (ns : List Nat) (n : Nat) (hb : Blk w g t l) (hl : l = ns.flatMap EL) (hn : ns.length = n) : RdE w (some ⟨g, 0, none⟩) n ns := by
  refine ⟨hn, fun _ => ⟨g, 0, rfl, hb.lt, fun j i v hj hv => ?_⟩⟩
  refine hb.cellD _ ?_
  rw [hl]
  have key : ∀ (ns : List Nat) (j : Nat), j < ns.length → (EL (ns.getD j 0))[i]? = some v → (ns.flatMap EL)[0 + j * 4 + i]? = some v := by
    intro ns
    induction ns with
    | nil => intro j hj; simp at hj
    | cons x ns ih =>
      intro j hj hv
      cases j with
      | zero =>
        rw [List.flatMap_cons, List.getElem?_append_left]
        · simpa using hv
        · have : i < (EL x).length := by
            have := List.getElem?_eq_some_iff.1 hv
            exact this.1
          omega
      | succ j =>
        rw [List.flatMap_cons, List.getElem?_append_right (by rw [EL_length]; omega), EL_length]
        have := ih j (by simpa using hj) (by simpa using hv)
        rw [show 0 + (j + 1) * 4 + i - 4 = 0 + j * 4 + i by omega]
        exact this
  exact key ns j (by omega) hv
end Go.Proofs.YtdojjnbpidogfaaGreat
namespace Go.Proofs.YtdojjnbpidogfaaGreat
open Go.RowKit

theorem readN_nb (x : Nat) (h : x < P25) : readN (nb x) = x := by
  have hT : x < T256 := Nat.lt_trans h (by decide)
  rw [readN, if_pos (nb_length x), num_nb x hT, Nat.mod_eq_of_lt (show x < T255 from Nat.lt_trans h (by decide)), Nat.mod_eq_of_lt h]
end Go.Proofs.YtdojjnbpidogfaaGreat
namespace Go.Proofs.YtdojjnbpidogfaaGreat
open Go.RowKit

end Go.Proofs.YtdojjnbpidogfaaGreat
namespace Go.Proofs.YtdojjnbpidogfaaGreat
open Go.RowKit
open Go.BigFrame

def ofs32 (l : List Nat) : List UInt32 := l.map UInt32.ofNat
theorem NL_ofs (n : Nat) : NL n = (ofs32 (dig B32 8 n)).map W32 := by rw [NL, ofs32, List.map_map]; rfl
theorem ofs32_inj {l m : List Nat} (hl : ∀ x ∈ l, x < B32) (hm : ∀ x ∈ m, x < B32) (h : ofs32 l = ofs32 m) : l = m := by
  have e : ∀ l : List Nat, (∀ x ∈ l, x < B32) → (ofs32 l).map UInt32.toNat = l := by
    intro l hl
    rw [ofs32, List.map_map]
    conv => rhs; rw [← List.map_id l]
    apply List.map_congr_left
    intro x hx
    exact tn32 (hl x hx)
  rw [← e l hl, ← e m hm, h]
theorem ofs32_beq {x y : Nat} (hx : x < T256) (hy : y < T256) : (ofs32 (dig B32 8 x) == ofs32 (dig B32 8 y)) = (x == y) := by
  rw [Bool.eq_iff_iff, beq_iff_eq, beq_iff_eq]
  refine ⟨fun h => ?_, fun h => by rw [h]⟩
  have := ofs32_inj (dig_lt B32_pos 8 x) (dig_lt B32_pos 8 y) h
  exact dig_inj (k := 8) (B := B32) (by rw [B32_8]; exact hx) (by rw [B32_8]; exact hy) this
theorem size32 : (Tryz.prog.info? 24).map (·.size) = some 1 := by kernel_rfl
theorem eqg_N : Tryz.prog.eqGuardType Tryz.prog.depth 131 = false := by kernel_rfl
@[go_sem high] theorem eqGuard_N (op : BinOp) (x y : Operand) (xs ys : Array Value) (w : World) : (eqGuard op 131 x y (.agg xs) (.agg ys)).run Tryz.prog w = .ok () w := run_eqGuard_agg w op _ x y xs ys eqg_N
@[go_sem high] theorem run_eql_N (x y : Nat) (hx : x < T256) (hy : y < T256) (w : World) : (binOp .eql 131 (NN x) (NN y)).run Tryz.prog w = .ok (.bool (x == y)) w := by
  rw [run_eql_struct, NL_ofs, NL_ofs, run_equalIn_arr w 0 W32 9998 131 24 8 Tryz.underlying131 size32 Tryz.underlying24 rfl (heq_w32 _ _ Tryz.underlying24) _ _ (by rw [ofs32, List.length_map, dig_length]) (by rw [ofs32, List.length_map, dig_length]), ofs32_beq hx hy]
  rfl
@[go_sem] theorem rem_n32_2 (T : TypeId) (x : Nat) (hx : x < B32) : binOp .rem T (n32 x) (.int .u32 2) = pure (n32 (x % 2)) := by
  rw [n32, rem_w32i _ _ _ (by omega) (by omega) (by decide), n32_w]
  rw [UInt32.toNat_mod, tn32 hx]
  have : x % 2 < B32 := by unfold B32; omega
  rw [Nat.mod_eq_of_lt this]
  rfl
@[go_sem] theorem eql_n32i (T : TypeId) (x : Nat) (k : Int) (hx : x < B32) (h0 : 0 ≤ k) (h1 : k < 4294967296) : binOp .eql T (n32 x) (.int .u32 k) = pure (.bool (x == k.toNat)) := by
  rw [n32_lit k h0 h1, n32, n32, eql_w32]
  congr 2
  rw [Bool.eq_iff_iff]
  simp only [beq_iff_eq, ← UInt32.toNat_inj, tn32 hx]
  rw [tn32 (show k.toNat < B32 by unfold B32; omega)]
end Go.Proofs.YtdojjnbpidogfaaGreat

