/-
  field.Over; shallotlaw05: FieldRatios.
-/
import Derived.Test.YtmdjhbiiifnfiaaCMult
import Derived.Test.YtmdjhbiiifnfiaaAppend
import Derived.Test.YtmdjhbiiifnfiaaStructs
namespace Go.Proofs.Ytmdjhbiiifnfiaa
open Go.RowKit
open Go.BigFrame

/-- A fraction's cells. -/
def RL (u v : Nat) : List Value := EL u ++ EL v
theorem RL_length (u v : Nat) : (RL u v).length = 8 := by rw [RL, List.length_append, EL_length, EL_length]
theorem RL_one (u v : Nat) : ∀ x ∈ RL u v, x.oneCell' = true := by
  intro x hx
  rcases List.mem_append.1 hx with h | h <;> exact EL_one _ x h
theorem RL_lo {u v j : Nat} {x : Value} (h : (EL u)[j]? = some x) : (RL u v)[0 + j]? = some x := L2_0 u v j x h
theorem RL_hi {u v j : Nat} {x : Value} (h : (EL v)[j]? = some x) : (RL u v)[4 + j]? = some x := L2_1 u v j x h
theorem RL_set0 (u v x : Nat) : spliced (RL u v) 0 (EL x) = RL x v := by
  rw [spliced, RL, RL, List.take_zero, List.nil_append, Nat.zero_add, List.drop_left' (by rw [EL_length, EL_length])]
theorem RL_set1 (u v x : Nat) : spliced (RL u v) 4 (EL x) = RL u x := by
  rw [spliced, RL, RL, List.take_left' (EL_length u), EL_length, List.drop_of_length_le (by rw [List.length_append, EL_length, EL_length]; omega), List.append_nil]
/-- A list of pairs of elements in memory: the first ones us, the second ones vs. -/
def RdR (w : World) (A : Option Addr) (n : Nat) (us vs : List Nat) : Prop :=
  us.length = n ∧ vs.length = n ∧ (0 < n → ∃ b o, A = some ⟨b, o, none⟩ ∧ b < w.heap.size ∧ ∀ j i v, j < n → (RL (us.getD j 0) (vs.getD j 0))[i]? = some v → w.cell? ⟨b, o + j * 8 + i, none⟩ = some v)
theorem RdR.later {w w' : World} {A : Option Addr} {n : Nat} {us vs : List Nat} (h : RdR w A n us vs) (hl : Later w w') : RdR w' A n us vs := by
  refine ⟨h.1, h.2.1, fun hn => ?_⟩
  obtain ⟨b, o, hA, hb, hc⟩ := h.2.2 hn
  exact ⟨b, o, hA, Nat.lt_of_lt_of_le hb hl.size, fun j i v hj hv => (hl.below.cell (p := ⟨b, o + j * 8 + i, none⟩) hb).trans (hc j i v hj hv)⟩
theorem rdR_none (w : World) : RdR w none 0 [] [] := ⟨rfl, rfl, fun h => absurd h (by omega)⟩
/-- The first k of them, flat. -/
def flatR (us vs : List Nat) : Nat → List Value
  | 0 => []
  | k + 1 => flatR us vs k ++ RL (us.getD k 0) (vs.getD k 0)
theorem flatR_length (us vs : List Nat) : ∀ k, (flatR us vs k).length = k * 8
  | 0 => rfl
  | k + 1 => by rw [flatR, List.length_append, flatR_length us vs k, RL_length]; omega
theorem flatR_get {us vs : List Nat} {i : Nat} {v : Value} : ∀ (k j : Nat), j < k → (RL (us.getD j 0) (vs.getD j 0))[i]? = some v → (flatR us vs k)[j * 8 + i]? = some v
  | 0, j, h, _ => absurd h (by omega)
  | k + 1, j, h, hv => by
    have hi : i < 8 := by have := (List.getElem?_eq_some_iff.1 hv).1; rwa [RL_length] at this
    rw [flatR]
    by_cases hj : j < k
    · rw [List.getElem?_append_left (by rw [flatR_length]; omega)]
      exact flatR_get k j hj hv
    · obtain rfl : j = k := by omega
      rw [List.getElem?_append_right (by rw [flatR_length]; omega), flatR_length, show j * 8 + i - j * 8 = i by omega]
      exact hv
theorem own_rdR {w : World} {base : Nat} {e : TypeId} {A : Option Addr} {n c : Nat} {us vs : List Nat} (h : w.ownsRow base e 8 (.slice A n c) n (flatR us vs n)) (hu : us.length = n) (hv : vs.length = n) : RdR w A n us vs := by
  refine ⟨hu, hv, fun h0 => ?_⟩
  rcases h.2 with ⟨_, hz⟩ | ⟨g, cap, cur, hvv, hb, hh, hnc, hm, hs, ht⟩
  · omega
  · cases hvv
    refine ⟨g, 0, rfl, (h.lt g rfl).2, fun j i v hj hv => ?_⟩
    have hg := h.cells (g := g) rfl (j * 8 + i) v (flatR_get n j hj hv)
    rw [add_at] at hg
    rw [Nat.zero_add] at hg ⊢
    exact hg
/-- A block of another type stays when a row grows, and a row when such a block is written. -/
theorem blk_grown_s {w w' : World} {base g sz : Nat} {e t : TypeId} {v : Value} {n : Nat} {vs l : List Value} (hb : Blk w g t l) (h : w.ownsRow base e sz v n vs) (hne : t ≠ e) (hg : w.grownBy w' v.ownBlock) : Blk w' g t l := by
  refine (hg.block g hb.lt ?_).trans hb
  rcases h.2 with ⟨rfl, _⟩ | ⟨g2, c2, cur2, rfl, _, hh2, _⟩
  · simp [Value.ownBlock]
  · intro he
    simp only [Value.ownBlock, Option.some.injEq] at he
    subst he
    exact hb.ne_type (l' := cur2.toList) (t' := e) hh2 hne rfl
theorem own_only_s {w w' : World} {base k sz : Nat} {e t : TypeId} {v : Value} {n : Nat} {vs l : List Value} (h : w.ownsRow base e sz v n vs) (hb : Blk w k t l) (hne : t ≠ e) (ho : Only k w w') : w'.ownsRow base e sz v n vs := by
  refine h.kept ho ?_
  rcases h.2 with ⟨rfl, _⟩ | ⟨g2, c2, cur2, rfl, _, hh2, _⟩
  · exact .inl rfl
  · refine .inr fun he => ?_
    simp only [Value.ownBlock, Option.some.injEq] at he
    subst he
    exact hb.ne_type (l' := cur2.toList) (t' := e) hh2 hne rfl

theorem size8r : (Try.prog.info? 48).map (·.size) = some 8 := by kernel_rfl
theorem size8f : (Try.prog.info? 51).map (·.size) = some 8 := by kernel_rfl
section
variable {ops : Array Oper} {rest : List Oper} {o : Oper} {a : Act} {w : World} {Q : Exit → Act → World → Prop}
theorem load_R0 (hw : Region.wanted o (yielded ops a.tmps) = true) (x : Operand) (ho : o.op = .load 28 x) {g : Nat} {t : TypeId} {u v : Nat} (hb : Blk w g t (RL u v)) (hx : a.eval x = .pointer (some ⟨g, 0, none⟩))
    (h : wpList Try.prog ops Q rest (a.put o.dst (E u)) w) : wpList Try.prog ops Q (o :: rest) a w :=
  wpList_load_at hw _ x ho g 0 (EL u) (fun _ _ hv => hb.cellD _ (RL_lo hv)) hx _ Try.underlying28 rfl (by rw [EL_length]; exact sizeE) h
theorem load_R1 (hw : Region.wanted o (yielded ops a.tmps) = true) (x : Operand) (ho : o.op = .load 28 x) {g : Nat} {t : TypeId} {u v : Nat} (hb : Blk w g t (RL u v)) (hx : a.eval x = .pointer (some ⟨g, 4, none⟩))
    (h : wpList Try.prog ops Q rest (a.put o.dst (E v)) w) : wpList Try.prog ops Q (o :: rest) a w :=
  wpList_load_at hw _ x ho g 4 (EL v) (fun _ _ hv => hb.cellD _ (RL_hi hv)) hx _ Try.underlying28 rfl (by rw [EL_length]; exact sizeE) h
theorem load_F0 (hw : Region.wanted o (yielded ops a.tmps) = true) (x : Operand) (ho : o.op = .load 24 x) {g : Nat} {t : TypeId} {u v : Nat} (hb : Blk w g t (RL u v)) (hx : a.eval x = .pointer (some ⟨g, 0, none⟩))
    (h : wpList Try.prog ops Q rest (a.put o.dst (E u)) w) : wpList Try.prog ops Q (o :: rest) a w :=
  wpList_load_at hw _ x ho g 0 (EL u) (fun _ _ hv => hb.cellD _ (RL_lo hv)) hx _ Try.underlying24 rfl (by rw [EL_length]; exact size4) h
theorem load_F1 (hw : Region.wanted o (yielded ops a.tmps) = true) (x : Operand) (ho : o.op = .load 24 x) {g : Nat} {t : TypeId} {u v : Nat} (hb : Blk w g t (RL u v)) (hx : a.eval x = .pointer (some ⟨g, 4, none⟩))
    (h : wpList Try.prog ops Q rest (a.put o.dst (E v)) w) : wpList Try.prog ops Q (o :: rest) a w :=
  wpList_load_at hw _ x ho g 4 (EL v) (fun _ _ hv => hb.cellD _ (RL_hi hv)) hx _ Try.underlying24 rfl (by rw [EL_length]; exact size4) h
theorem load_R (hw : Region.wanted o (yielded ops a.tmps) = true) (x : Operand) (ho : o.op = .load 48 x) {g : Nat} {t : TypeId} {u v : Nat} (hb : Blk w g t (RL u v)) (hx : a.eval x = .pointer (some ⟨g, 0, none⟩))
    (h : wpList Try.prog ops Q rest (a.put o.dst (.agg (RL u v).toArray)) w) : wpList Try.prog ops Q (o :: rest) a w :=
  wpList_load_blk hw _ x ho g t _ hb hx _ Try.underlying48 rfl 8 size8r (RL_length u v) h
theorem store_R0 (hgd : o.guard = none) (hd : o.dst = none) (x y : Operand) (ho : o.op = .store 28 x y) {g : Nat} {t : TypeId} {u v n : Nat} (hg : Blk w g t (RL u v)) (hx : a.eval x = .pointer (some ⟨g, 0, none⟩)) (hy : a.eval y = E n)
    (h : ∀ w', Blk w' g t (RL n v) → Only g w w' → wpList Try.prog ops Q rest a w') : wpList Try.prog ops Q (o :: rest) a w :=
  wpList_store_agg hgd hd _ x y ho g 0 t _ (EL n) hg hx hy (by rw [EL_length]; exact sizeE) (by rw [EL_length, RL_length]; omega) (EL_one n) (fun w' hb => h w' (by rwa [RL_set0] at hb))
theorem store_R1 (hgd : o.guard = none) (hd : o.dst = none) (x y : Operand) (ho : o.op = .store 28 x y) {g : Nat} {t : TypeId} {u v n : Nat} (hg : Blk w g t (RL u v)) (hx : a.eval x = .pointer (some ⟨g, 4, none⟩)) (hy : a.eval y = E n)
    (h : ∀ w', Blk w' g t (RL u n) → Only g w w' → wpList Try.prog ops Q rest a w') : wpList Try.prog ops Q (o :: rest) a w :=
  wpList_store_agg hgd hd _ x y ho g 4 t _ (EL n) hg hx hy (by rw [EL_length]; exact sizeE) (by rw [EL_length, RL_length]; omega) (EL_one n) (fun w' hb => h w' (by rwa [RL_set1] at hb))
theorem store_R (hgd : o.guard = none) (hd : o.dst = none) (x y : Operand) (ho : o.op = .store 48 x y) {g : Nat} {t : TypeId} {l : List Value} {u v : Nat} (hg : Blk w g t l) (hx : a.eval x = .pointer (some ⟨g, 0, none⟩)) (hy : a.eval y = .agg (RL u v).toArray) (hl : l.length = 8)
    (h : ∀ w', Blk w' g t (RL u v) → Only g w w' → wpList Try.prog ops Q rest a w') : wpList Try.prog ops Q (o :: rest) a w :=
  wpList_store_blk hgd hd _ x y ho g t l _ hg hx hy 8 size8r (RL_length u v) hl (RL_one u v) h
theorem store_F2 (hgd : o.guard = none) (hd : o.dst = none) (x y : Operand) (ho : o.op = .store 51 x y) {g : Nat} {t : TypeId} {l : List Value} {u v : Nat} (hg : Blk w g t l) (hx : a.eval x = .pointer (some ⟨g, 0, none⟩)) (hy : a.eval y = .agg (RL u v).toArray) (hl : l.length = 8)
    (h : ∀ w', Blk w' g t (RL u v) → Only g w w' → wpList Try.prog ops Q rest a w') : wpList Try.prog ops Q (o :: rest) a w :=
  wpList_store_blk hgd hd _ x y ho g t l _ hg hx hy 8 size8f (RL_length u v) hl (RL_one u v) h
end
set_option maxRecDepth 100000 in
set_option maxHeartbeats 4000000 in
theorem over_any (A : Option Addr) (n c : Nat) (us vs : List Nat) (w : World) (hr : RdR w A n us vs) (hus : ∀ x ∈ us, x < T256) (hvs : ∀ x ∈ vs, x < T256) (hn : n ≤ 140737488355328) :
    Calls Try.prog 34 #[.slice A n c] w fun e w' => e = .returned (.agg (RL (prodN us % P25) (prodN vs % P25)).toArray) ∧ Later w w' := by
  have hul := hr.1
  have hvl := hr.2.1
  have hb0 := Blk.new w 48 (List.replicate 8 (Value.int .u64 0))
  have hbr := hid built_ratio
  go_enter Try.func34, Try.ntmps34
  go_wp2_with fail
  (with_reducible refine (of_1 _).mono ?_); rintro e w1 ⟨rfl, j1⟩
  go_wp2_with fail
  (with_reducible refine (of_1 _).mono ?_); rintro e w2 ⟨rfl, j2⟩
  go_wp2_with (first
    | (refine wpList_build_is rfl 48 _ rfl (RL 1 1) ?hb ?_; (case hb => simp only [List.map_toArray, List.map_cons, List.map_nil]; exact hbr.out 1 1))
    | (refine store_R rfl rfl _ _ rfl (Blk.new w2 _ (List.replicate 8 (.int .u64 0))) rfl rfl rfl ?_; intro w3 hb3 ho3)
    | fail)
  have hb03 := ((hb0.later (j1.trans j2)).later (later_alloc w2 (.cells (List.replicate 8 (.int .u64 0)).toArray 48))).only ho3 (by have := (hb0.later (j1.trans j2)).lt; omega)
  have hg : w.heap.size < w2.heap.size := (hb0.later (j1.trans j2)).lt
  have L3 : Later w w3 := (((later_alloc _ _).trans (j1.trans j2)).trans (later_alloc _ _)).only ho3 (by omega)
  generalize w2.heap.size = g at *
  clear hb0 j1 j2 ho3
  go_loopw [11] (fun i wr => ∃ k : Nat, k ≤ n ∧ i = .int .i64 k ∧ Blk wr w.heap.size 48 (List.replicate 8 (.int .u64 0)) ∧ Blk wr g 48 (RL (prodN (us.take k) % P25) (prodN (vs.take k) % P25)) ∧ Later w wr) (fun i _ => n - (intOf i).toNat)
  case atStart => exact ⟨0, by omega, rfl, hb03, hb3, L3⟩
  case round =>
    clear hb03 hb3 L3
    obtain ⟨k, hk, rfl, h1, h2, L⟩ := hrel
    by_cases hlt : k < n
    · obtain ⟨b1, o1, rfl, hb1, hc1⟩ := (hr.later L).2.2 (by omega)
      have HTu := hid (take_prod us k (by omega))
      have HTv := hid (take_prod vs k (by omega))
      have hx : us.getD k 0 < T256 := hus _ (getD_mem (by omega))
      have hy : vs.getD k 0 < T256 := hvs _ (getD_mem (by omega))
      have hc' := fun i v hv => hc1 k i v hlt hv
      generalize us.getD k 0 = x at *
      generalize vs.getD k 0 = y at *
      have HC := hid hc'
      clear hc1 hc'
      obtain ⟨p, hp⟩ : ∃ p, p = prodN (us.take k) % P25 := ⟨_, rfl⟩
      obtain ⟨q, hq⟩ : ∃ q, q = prodN (vs.take k) % P25 := ⟨_, rfl⟩
      rw [← hp, ← hq] at h2
      have hpT : p < T256 := by rw [hp]; exact Nat.lt_trans (Nat.mod_lt _ P25_pos) (by decide)
      have hqT : q < T256 := by rw [hq]; exact Nat.lt_trans (Nat.mod_lt _ P25_pos) (by decide)
      have HP := hid (show p * x % P25 = prodN (us.take (k + 1)) % P25 by rw [HTu.out, hp, Nat.mod_mul_mod])
      have HQ := hid (show q * y % P25 = prodN (vs.take (k + 1)) % P25 by rw [HTv.out, hq, Nat.mod_mul_mod])
      clear hp hq
      have hMp := hid (multiply_any p x hpT hx)
      have hMq := hid (multiply_any q y hqT hy)
      have hP1 := hid (show fmul p x = prodN (us.take (k + 1)) % P25 from HP.out)
      have hQ1 := hid (show fmul q y = prodN (vs.take (k + 1)) % P25 from HQ.out)
      have hgl := h2.lt
      go_wp2_with (first
        | (refine wpList_load_agg rfl 48 _ rfl b1 (o1 + k * 8) (RL x y) ?hc ?hx _ Try.underlying48 rfl ?hi ?_; (case hx => rfl); (case hi => rw [RL_length]; exact size8r); (case hc => intro j v hv; exact HC.out j v hv))
        | (refine store_R (g := wr.heap.size) rfl rfl _ _ rfl (Blk.new _ _ (List.replicate 8 (.int .u64 0))) rfl rfl rfl ?_; intro w4 hb4 ho4
           have L4 : Later wr w4 := (later_alloc _ _).only ho4 (by omega)
           have h24 := h2.later L4)
        | (refine load_R0 rfl _ rfl h24 rfl ?_)
        | (refine load_R0 rfl _ rfl hb4 rfl ?_)
        | fail)
      (with_reducible refine (hMp.out _).mono ?_); rintro e w5 ⟨rfl, j5⟩
      go_wp2_with (first
        | (refine store_R0 rfl rfl _ _ rfl (h24.later j5) rfl rfl ?_; intro w6 hb6 ho6
           have h46 := (hb4.later j5).only ho6 (by omega))
        | (refine load_R1 rfl _ rfl hb6 rfl ?_)
        | (refine load_R1 rfl _ rfl h46 rfl ?_)
        | fail)
      (with_reducible refine (hMq.out _).mono ?_); rintro e w7 ⟨rfl, j7⟩
      go_wp2_with (first
        | (refine store_R1 rfl rfl _ _ rfl (hb6.later j7) rfl rfl ?_; intro w8 hb8 ho8)
        | fail)
      go_roundw
      case rel =>
        refine ⟨k + 1, by omega, by go_num, ((((h1.later L4).later j5).only ho6 (by omega)).later j7).only ho8 (by omega), ?_, ((((L.trans L4).trans j5).only ho6 (by omega)).trans j7).only ho8 (by omega)⟩
        rw [← hP1.out, ← hQ1.out]
        exact hb8
      case measure => simp [intOf]; omega
    · rw [show k = n by omega, List.take_of_length_le (by omega), List.take_of_length_le (by omega)] at h2
      have hkf : decide ((k : Int) < (n : Int)) = false := by simp; omega
      go_wp2_with (first
        | (refine load_R rfl _ rfl h2 rfl ?_)
        | (refine store_R rfl rfl _ _ rfl h1 rfl rfl rfl ?_; intro w9 hb9 ho9)
        | fail)
      exact bodyPost_ret (results_blk rfl _ _ _ _ _ _ hb9 rfl Try.underlying48 rfl (by rw [RL_length]; exact size8r)) rfl ⟨rfl, L.only ho9 (by omega)⟩
theorem size8R_aux (a0 a1 a2 a3 b0 b1 b2 b3 : Value) (W : World) :
    (Instr.buildSlice 50 1 #[(0, .agg #[a0, a1, a2, a3, b0, b1, b2, b3])]).run Try.prog W = .ok (.slice (some ⟨W.heap.size, 0, none⟩) 1 1) (W.alloc (.cells #[a0, a1, a2, a3, b0, b1, b2, b3] 48)) := by kernel_rfl
theorem run_buildR (a b : Nat) (W : World) :
    (Instr.buildSlice 50 1 #[(0, .agg (RL a b).toArray)]).run Try.prog W = .ok (.slice (some ⟨W.heap.size, 0, none⟩) 1 1) (W.alloc (.cells (RL a b).toArray 48)) := by
  rw [RL, EL_four a, EL_four b]
  exact size8R_aux ..
theorem infoR : (Try.prog.info? 48).map (fun i => (i.zero, i.size, i.bytes)) = some (some (.agg #[.int .u64 0, .int .u64 0, .int .u64 0, .int .u64 0, .int .u64 0, .int .u64 0, .int .u64 0, .int .u64 0]), 8, 64) := by kernel_rfl
section
variable {ops : Array Oper} {rest : List Oper} {o : Oper} {a : Act} {w : World} {Q : Exit → Act → World → Prop}
theorem build_rowR (hw : Region.wanted o (yielded ops a.tmps) = true) (x : Operand) (ho : o.op = .buildSlice 50 1 #[(0, x)]) (n m : Nat) (hx : a.eval x = .agg (RL n m).toArray)
    (h : wpList Try.prog ops Q rest (a.put o.dst (.slice (some ⟨w.heap.size, 0, none⟩) 1 1)) (w.alloc (.cells (RL n m).toArray 48))) : wpList Try.prog ops Q (o :: rest) a w :=
  BigFrame.wpList_want hw fun K hK => by
    have hr := run_buildR n m w
    unfold Oper.wp
    simp only [execOp, ho, List.map_toArray, List.map_cons, List.map_nil, hx, Sem.run_bind, hr, Result.andThen_ok, Sem.run_pure]
    exact hK _ _ h
theorem quiet_R {K : Act → Prop} (x : Operand) (ho : o.op = .load 48 x) {w0 : World} {g : Nat} {t : TypeId} {u v : Nat} (hb : Blk w0 g t (RL u v)) (hx : a.eval x = .pointer (some ⟨g, 0, none⟩)) (h : K (a.put o.dst (.agg (RL u v).toArray))) :
    o.quiet Try.prog a (fun w' => ∃ x, w' = grow w0 x) K :=
  quiet_load_agg _ x ho g 0 (RL u v) (fun w' hw j v hv => by obtain ⟨y, rfl⟩ := hw; rw [Nat.zero_add]; exact (hb.later ⟨y, rfl⟩).cellD j hv) hx _ Try.underlying48 rfl (by rw [RL_length]; exact size8r) h
theorem quiet_F0 {K : Act → Prop} (x : Operand) (ho : o.op = .load 24 x) {w0 : World} {g : Nat} {t : TypeId} {u v : Nat} (hb : Blk w0 g t (RL u v)) (hx : a.eval x = .pointer (some ⟨g, 0, none⟩)) (h : K (a.put o.dst (E u))) :
    o.quiet Try.prog a (fun w' => ∃ x, w' = grow w0 x) K :=
  quiet_load_agg _ x ho g 0 (EL u) (fun w' hw j v hv => by obtain ⟨y, rfl⟩ := hw; exact (hb.later ⟨y, rfl⟩).cellD _ (RL_lo hv)) hx _ Try.underlying24 rfl (by rw [EL_length]; exact size4) h
theorem quiet_F1 {K : Act → Prop} (x : Operand) (ho : o.op = .load 24 x) {w0 : World} {g : Nat} {t : TypeId} {u v : Nat} (hb : Blk w0 g t (RL u v)) (hx : a.eval x = .pointer (some ⟨g, 4, none⟩)) (h : K (a.put o.dst (E v))) :
    o.quiet Try.prog a (fun w' => ∃ x, w' = grow w0 x) K :=
  quiet_load_agg _ x ho g 4 (EL v) (fun w' hw j v hv => by obtain ⟨y, rfl⟩ := hw; exact (hb.later ⟨y, rfl⟩).cellD _ (RL_hi hv)) hx _ Try.underlying24 rfl (by rw [EL_length]; exact size4) h
theorem quiet_E0 {K : Act → Prop} (x : Operand) (ho : o.op = .load 28 x) {w0 : World} {g : Nat} {t : TypeId} {u v : Nat} (hb : Blk w0 g t (RL u v)) (hx : a.eval x = .pointer (some ⟨g, 0, none⟩)) (h : K (a.put o.dst (E u))) :
    o.quiet Try.prog a (fun w' => ∃ x, w' = grow w0 x) K :=
  quiet_load_agg _ x ho g 0 (EL u) (fun w' hw j v hv => by obtain ⟨y, rfl⟩ := hw; exact (hb.later ⟨y, rfl⟩).cellD _ (RL_lo hv)) hx _ Try.underlying28 rfl (by rw [EL_length]; exact sizeE) h
end
theorem of_6 (w : World) : Calls Try.prog 20 #[.int .u64 6] w fun e w' => e = .returned (E 6) ∧ Later w w' := of_any 6 (by decide) w
theorem of_3 (w : World) : Calls Try.prog 20 #[.int .u64 3] w fun e w' => e = .returned (E 3) ∧ Later w w' := of_any 3 (by decide) w
theorem valueR (u v : Nat) (hu : u < T256) (hv : v < T256) (w : World) :
    Calls Try.prog 31 #[.agg (RL u v).toArray] w fun e w' => e = .returned (E (fmul u (pinv v))) ∧ Later w w' := value_any u v hu hv w
theorem built_RL (a b : Nat) : Program.built Try.prog 48 [(0, E a), (1, E b)] = some (RL a b).toArray := built_ratio a b
theorem neNR : (35 : TypeId) ≠ 48 := by decide
theorem neFR : (51 : TypeId) ≠ 48 := by decide
theorem neNF : (35 : TypeId) ≠ 51 := by decide
/-- A block stays when one of another type is written. -/
theorem blk_apart_only {w w' : World} {g k : Nat} {t t' : TypeId} {l l' : List Value} (h : Blk w g t l) (hk : Blk w k t' l') (hne : t' ≠ t) (ho : Only k w w') : Blk w' g t l := h.only ho (h.ne_type hk fun e => hne e.symm)
theorem six_aux (q : Nat) (h : 3 * q % P25 = 1) : fmul 6 q = 2 := by
  show 6 * q % P25 = 2
  have e : 6 * q = 2 * (3 * q) := by omega
  rw [e, Nat.mul_mod, h]
  decide
theorem six_thirds : fmul 6 (pinv 3) = 2 := six_aux (pinv 3) (mul_pinv 3 (by decide))
set_option maxRecDepth 100000 in
set_option maxHeartbeats 8000000 in
theorem fieldRatios_walk (A : Option Addr) (n c : Nat) (us vs : List Nat) (w : World) (hr : RdR w A n us vs) (hus : ∀ x ∈ us, x < T256) (hvs : ∀ x ∈ vs, x < T256) (hn : n ≤ 1048576) :
    Calls Try.prog 5 #[.slice A n c] w fun e w' => e = .returned (.bool true) ∧ Later w w' := by
  have hul := hr.1
  have hvl := hr.2.1
  have hbr := hid built_RL
  have hv6 := hid (fun w => valueR 6 3 (by decide) (by decide) w)
  rw [six_thirds] at hv6
  have hz1 : ∀ W, (binOp .neq 28 (E 2) (E 2)).run Try.prog W = .ok (.bool false) W := fun W => run_neq_E 2 2 (by decide) (by decide) W
  go_enter Try.func5, Try.ntmps5
  go_wp2_with fail
  (with_reducible refine (awake05 _).mono ?_); rintro e w1 ⟨rfl, j1⟩
  go_wp2_with fail
  (with_reducible refine (of_6 _).mono ?_); rintro e w2 ⟨rfl, j2⟩
  go_wp2_with fail
  (with_reducible refine (of_3 _).mono ?_); rintro e w3 ⟨rfl, j3⟩
  have L3 := (j1.trans j2).trans j3
  clear j1 j2 j3
  go_wp2_with (first
    | (refine wpList_build_w rfl 48 _ rfl (RL 6 3) ?hb ?_; (case hb => simp only [List.map_toArray, List.map_cons, List.map_nil]; exact hbr.out 6 3))
    | fail)
  (with_reducible refine (hv6.out _).mono ?_); rintro e w4 ⟨rfl, j4⟩
  go_wp2_with fail
  (with_reducible refine (of_2 _).mono ?_); rintro e w5 ⟨rfl, j5⟩
  have L5 := L3.trans (j4.trans j5)
  clear j4 j5 L3 hv6
  go_wp2_with (first
    | (refine store_N (g := w5.heap.size) (n := 1) rfl rfl _ _ rfl ((Blk.new w5 _ (List.replicate 8 (.int .u32 0))).later (later_alloc _ _)) rfl rfl rfl ?_; intro w6 hb6 ho6)
    | (refine store_N (g := w5.heap.size + 1) (n := 1) rfl rfl _ _ rfl ((Blk.new' _ _ (List.replicate 8 (.int .u32 0)) (by simp)).only ho6 (by omega)) rfl rfl rfl ?_; intro w7 hb7 ho7)
    | fail)
  have hS := hb6.only ho7 (by omega)
  have hP := hb7
  have L := (((L5.alloc _).alloc _).only ho6 (by have := L5.size; omega)).only ho7 (by have := L5.size; omega)
  have hgS : w.heap.size ≤ w5.heap.size := L5.size
  generalize w5.heap.size = g at *
  clear hb6 hb7 ho6 ho7 L5
  go_loopw [3, 24] (fun v i wr => ∃ k : Nat, k ≤ n ∧ i = .int .i64 k ∧ wr.ownsRow w.heap.size 48 8 v k (flatR us vs k) ∧ Blk wr g 35 (NL (prodN (us.take k) % P25)) ∧ Blk wr (g + 1) 35 (NL (prodN (vs.take k) % P25)) ∧ Later w wr) (fun _ i _ => n - (intOf i).toNat)
  case atStart => exact ⟨0, by omega, rfl, World.ownsRow_nil w7 _ _ 8, hS, hP, L⟩
  case round =>
    clear hS hP L
    obtain ⟨k, hk, rfl, hown, hS, hP, L⟩ := hrel
    by_cases hlt : k < n
    · obtain ⟨b, o, rfl, hb, hc⟩ := (hr.later L).2.2 (by omega)
      have hc' := fun i v hv => hc k i v hlt hv
      have HTu := hid (take_prod us k (by omega))
      have HTv := hid (take_prod vs k (by omega))
      have hx : us.getD k 0 < T256 := hus _ (getD_mem (by omega))
      have hy : vs.getD k 0 < T256 := hvs _ (getD_mem (by omega))
      have HF := hid (show flatR us vs (k + 1) = flatR us vs k ++ RL (us.getD k 0) (vs.getD k 0) from rfl)
      generalize us.getD k 0 = x at *
      generalize vs.getD k 0 = y at *
      have HC := hid hc'
      clear hc hc'
      obtain ⟨s, hs⟩ : ∃ s, s = prodN (us.take k) % P25 := ⟨_, rfl⟩
      obtain ⟨p, hp⟩ : ∃ p, p = prodN (vs.take k) % P25 := ⟨_, rfl⟩
      rw [← hs] at hS
      rw [← hp] at hP
      have hsT : s < T256 := by rw [hs]; exact Nat.lt_trans (Nat.mod_lt _ P25_pos) (by decide)
      have hpT : p < T256 := by rw [hp]; exact Nat.lt_trans (Nat.mod_lt _ P25_pos) (by decide)
      have HAs := hid (show s * x % P25 = prodN (us.take (k + 1)) % P25 by rw [HTu.out, hs, Nat.mod_mul_mod])
      have HAp := hid (show p * y % P25 = prodN (vs.take (k + 1)) % P25 by rw [HTv.out, hp, Nat.mod_mul_mod])
      clear hs hp
      have cA := hid (mul_ref s x hsT hx)
      have cM := hid (mul_ref p y hpT hy)
      rw [HAs.out] at cA
      rw [HAp.out] at cM
      generalize hs1 : prodN (us.take (k + 1)) % P25 = s' at *
      generalize hp1 : prodN (vs.take (k + 1)) % P25 = p' at *
      have HS1 := hid hs1
      have HP1 := hid hp1
      clear hs1 hp1
      have cV := hid (valueR x y hx hy)
      have cI := hid (inv_ref y hy)
      have cQ := hid (mul_ref x (pinv y) hx (pinv_T y))
      have hqT : fmul x (pinv y) < T256 := Nat.lt_trans (Nat.mod_lt _ P25_pos) (by decide)
      have cIs := hid (lawIs_eq (fmul x (pinv y)) hqT)
      have hfq : x * pinv y % P25 = fmul x (pinv y) := rfl
      rw [hfq] at cQ
      clear hfq
      generalize fmul x (pinv y) = q at *
      generalize pinv y = iy at *
      have cO := hid (odd_any x hx)
      have cN := hid (norm_ref x hx)
      have hl0 : lem (x % P25) 0 % 2 = x % P25 % 2 := by unfold lem B32; omega
      generalize x % P25 = xn at *
      have hix : ∀ W', (Instr.index 35 (NN xn) (.int .i64 0)).run Try.prog W' = .ok (n32 (lem xn 0)) W' := fun W' => run_index_one Try.underlying35 (by kernel_rfl) Try.underlying33 rfl _ .i64 0 _ (by omega) (NL_get xn 0 (by omega)) W'
      have hgl := hP.lt
      go_wp2_with (first
        | (refine wpList_load_agg rfl 51 _ rfl b (o + k * 8) (RL x y) ?hc ?hx _ Try.underlying51 rfl ?hi ?_; (case hx => rfl); (case hi => rw [RL_length]; exact size8f); (case hc => intro j v hv; exact HC.out j v hv))
        | (refine store_F2 (g := wr.heap.size) rfl rfl _ _ rfl (Blk.new _ _ (List.replicate 8 (.int .u64 0))) rfl rfl rfl ?_; intro w3 hb3 ho3
           have L3 : Later wr w3 := (later_alloc _ _).only ho3 (by omega))
        | (refine load_F0 rfl _ rfl hb3 rfl ?_)
        | (refine load_F1 rfl _ rfl hb3 rfl ?_)
        | (refine wpList_build_is rfl 48 _ rfl (RL x y) ?hb ?_; (case hb => simp only [List.map_toArray, List.map_cons, List.map_nil]; exact hbr.out x y))
        | (refine store_R (g := w3.heap.size) rfl rfl _ _ rfl (Blk.new _ _ (List.replicate 8 (.int .u64 0))) rfl rfl rfl ?_; intro w4 hb4 ho4
           have L4 : Later w3 w4 := (later_alloc _ _).only ho4 (by omega))
        | fail)
      have h3 := (hb3.later L4).drew
      have h4 := hb4.drew
      have LL := L3.trans (L4.trans (later_drew _))
      clear hb3 hb4 ho3 ho4
      refine wp_region_parts [([0, 2, 3, 5, 6], 1), ([], 4), ([], 7), ([], 8), ([], 9), ([], 10), ([11, 12, 13, 14, 16, 17], 15), ([], 18), ([], 19)] [20, 21, 22, 23, 24] [] (by as_aux_lemma => kernel_rfl) (by as_aux_lemma => kernel_rfl) (by intro _ _ d _ _ h; cases d <;> exact h) ?_
      simp only [wpParts, pick, List.getElem?_cons_succ, List.getElem?_cons_zero, Option.toList_some, List.cons_append, List.nil_append]
      repeat (first | go_big_quiet_skip | (go_big_quiet_want; (first | refine quiet_R _ rfl h4 rfl ?_ | refine quiet_F0 _ rfl h3 rfl ?_ | refine quiet_F1 _ rfl h3 rfl ?_ | refine quiet_E0 _ rfl h4 rfl ?_); simp only [Act.put, List.setIfInBounds_toArray, List.set_cons_succ, List.set_cons_zero]; go_big_quiet_on) | (go_big_quiet_step (fail)))
      refine wpQuiet_nil ?_
      go_wp2_with fail
      (with_reducible refine (cV.out _).mono ?_); rintro e u1 ⟨rfl, k1⟩
      go_wp2_with fail
      try refine ⟨by first | assumption | exact later_drew _ | exact later_alloc _ _ | exact Later.refl _, ?_⟩
      try simp only [wpParts, pick, List.getElem?_cons_succ, List.getElem?_cons_zero, Option.toList_some, List.cons_append, List.nil_append]
      repeat (go_big_quiet_step (fail))
      refine wpQuiet_nil ?_
      go_wp2_with fail
      (with_reducible refine (from_any x _).mono ?_); rintro e u2 ⟨rfl, k2⟩
      go_wp2_with fail
      try refine ⟨by first | assumption | exact later_drew _ | exact later_alloc _ _ | exact Later.refl _, ?_⟩
      try simp only [wpParts, pick, List.getElem?_cons_succ, List.getElem?_cons_zero, Option.toList_some, List.cons_append, List.nil_append]
      repeat (go_big_quiet_step (fail))
      refine wpQuiet_nil ?_
      go_wp2_with fail
      (with_reducible refine (from_any y _).mono ?_); rintro e u3 ⟨rfl, k3⟩
      go_wp2_with fail
      try refine ⟨by first | assumption | exact later_drew _ | exact later_alloc _ _ | exact Later.refl _, ?_⟩
      try simp only [wpParts, pick, List.getElem?_cons_succ, List.getElem?_cons_zero, Option.toList_some, List.cons_append, List.nil_append]
      repeat (go_big_quiet_step (fail))
      refine wpQuiet_nil ?_
      go_wp2_with fail
      (with_reducible refine (cI.out _).mono ?_); rintro e u4 ⟨rfl, k4⟩
      go_wp2_with fail
      try refine ⟨by first | assumption | exact later_drew _ | exact later_alloc _ _ | exact Later.refl _, ?_⟩
      try simp only [wpParts, pick, List.getElem?_cons_succ, List.getElem?_cons_zero, Option.toList_some, List.cons_append, List.nil_append]
      repeat (go_big_quiet_step (fail))
      refine wpQuiet_nil ?_
      go_wp2_with fail
      (with_reducible refine (cQ.out _).mono ?_); rintro e u5 ⟨rfl, k5⟩
      go_wp2_with fail
      try refine ⟨by first | assumption | exact later_drew _ | exact later_alloc _ _ | exact Later.refl _, ?_⟩
      try simp only [wpParts, pick, List.getElem?_cons_succ, List.getElem?_cons_zero, Option.toList_some, List.cons_append, List.nil_append]
      repeat (go_big_quiet_step (fail))
      refine wpQuiet_nil ?_
      go_wp2_with fail
      (with_reducible refine (cIs.out _).mono ?_); rintro e u6 ⟨rfl, k6⟩
      go_wp2_with fail
      have K6 := k1.trans (k2.trans (k3.trans (k4.trans (k5.trans k6))))
      replace h3 := h3.later K6
      replace h4 := h4.later K6
      replace LL := LL.trans K6
      clear k1 k2 k3 k4 k5 K6
      try refine ⟨by first | assumption | exact later_drew _ | exact later_alloc _ _ | exact Later.refl _, ?_⟩
      try simp only [wpParts, pick, List.getElem?_cons_succ, List.getElem?_cons_zero, Option.toList_some, List.cons_append, List.nil_append]
      repeat (first | go_big_quiet_skip | (go_big_quiet_want; (first | refine quiet_R _ rfl h4 rfl ?_ | refine quiet_F0 _ rfl h3 rfl ?_ | refine quiet_F1 _ rfl h3 rfl ?_ | refine quiet_E0 _ rfl h4 rfl ?_); simp only [Act.put, List.setIfInBounds_toArray, List.set_cons_succ, List.set_cons_zero]; go_big_quiet_on) | (go_big_quiet_step (fail)))
      refine wpQuiet_nil ?_
      go_wp2_with fail
      (with_reducible refine (cO.out _).mono ?_); rintro e u7 ⟨rfl, k7⟩
      go_wp2_with fail
      try refine ⟨by first | assumption | exact later_drew _ | exact later_alloc _ _ | exact Later.refl _, ?_⟩
      try simp only [wpParts, pick, List.getElem?_cons_succ, List.getElem?_cons_zero, Option.toList_some, List.cons_append, List.nil_append]
      repeat (go_big_quiet_step (fail))
      refine wpQuiet_nil ?_
      go_wp2_with fail
      (with_reducible refine (from_any x _).mono ?_); rintro e u8 ⟨rfl, k8⟩
      go_wp2_with fail
      try refine ⟨by first | assumption | exact later_drew _ | exact later_alloc _ _ | exact Later.refl _, ?_⟩
      try simp only [wpParts, pick, List.getElem?_cons_succ, List.getElem?_cons_zero, Option.toList_some, List.cons_append, List.nil_append]
      repeat (go_big_quiet_step (fail))
      refine wpQuiet_nil ?_
      go_wp2_with fail
      (with_reducible refine (cN.out _).mono ?_); rintro e u9 ⟨rfl, k9⟩
      go_wp2_with fail
      have K9 := k7.trans (k8.trans k9)
      replace h3 := h3.later K9
      replace h4 := h4.later K9
      replace LL := LL.trans K9
      clear k7 k8 K9
      have hx2 : (xn % 2 < B32) = True := eq_true (Nat.lt_trans (Nat.mod_lt _ (by omega)) (by decide : 2 < B32))
      try refine ⟨by first | assumption | exact later_drew _ | exact later_alloc _ _ | exact Later.refl _, ?_⟩
      try simp only [wpParts, pick, List.getElem?_cons_succ, List.getElem?_cons_zero, Option.toList_some, List.cons_append, List.nil_append]
      repeat (go_big_quiet_step (fail))
      refine wpQuiet_nil ?_
      replace hS := hS.later LL
      replace hP := hP.later LL
      replace hown := own_later_s hown LL
      replace L := L.trans LL
      clear LL L3 L4
      go_wp2_with (first
        | (refine load_R rfl _ rfl h4 rfl ?_)
        | (refine build_rowR rfl _ rfl x y rfl ?_)
        | (refine wpList_append_s rfl _ _ _ rfl 48 _ 8 64 Try.underlying50 infoR rfl (by omega) w _ k _ (own_later_s hown (later_alloc _ _)) (L.trans (later_alloc _ _)) u9.heap.size 1 1 48 (RL x y) (Blk.new _ _ _) (by rw [RL_length]) (RL_one x y) rfl rfl (by omega) (by omega) ?_; intro v6 w6 hown6 hl6 hg6)
        | fail)
      have hown5 := own_later_s hown (later_alloc u9 (.cells (RL x y).toArray 48))
      have h36 := blk_grown_s (h3.later (later_alloc _ _)) hown5 neFR hg6
      have hS6 := blk_grown_s (hS.later (later_alloc _ _)) hown5 neNR hg6
      have hP6 := blk_grown_s (hP.later (later_alloc _ _)) hown5 neNR hg6
      clear hown5 hg6 hown L hS hP h3 h4
      have h3 := h36.drew
      have hS := hS6.drew
      have hP := hP6.drew
      have hown := own_later_s hown6 (later_drew _)
      have L := hl6.trans (later_drew _)
      clear h36 hS6 hP6 hown6 hl6
      refine wp_region_parts [([0, 1, 2], 3)] [] [4, 5] (by as_aux_lemma => kernel_rfl) (by as_aux_lemma => kernel_rfl) (by intro _ _ d _ _ h; cases d <;> exact h) ?_
      simp only [wpParts, pick, List.getElem?_cons_succ, List.getElem?_cons_zero, Option.toList_some, List.cons_append, List.nil_append]
      repeat (first | go_big_quiet_skip | (go_big_quiet_want; (first | refine quiet_N _ rfl hS rfl ?_ | refine quiet_F0 _ rfl h3 rfl ?_); simp only [Act.put, List.setIfInBounds_toArray, List.set_cons_succ, List.set_cons_zero]; go_big_quiet_on) | (go_big_quiet_step (fail)))
      refine wpQuiet_nil ?_
      go_wp2_with fail
      (with_reducible refine (from_any x _).mono ?_); rintro e y1 ⟨rfl, k1⟩
      go_wp2_with fail
      try refine ⟨by first | assumption | exact later_drew _ | exact later_alloc _ _ | exact Later.refl _, ?_⟩
      try simp only [wpParts, pick, List.getElem?_cons_succ, List.getElem?_cons_zero, Option.toList_some, List.cons_append, List.nil_append]
      repeat (go_big_quiet_step (fail))
      refine wpQuiet_nil ?_
      go_wp2_with fail
      (with_reducible refine (cA.out _).mono ?_); rintro e y2 ⟨rfl, k2⟩
      go_wp2_with (first
        | (refine store_N rfl rfl _ _ rfl ((hS.later k1).later k2) rfl rfl (NL_length _) ?_; intro y3 hb4 ho4)
        | fail)
      have h3' := (blk_apart_only ((h3.later k1).later k2) ((hS.later k1).later k2) neNF ho4).drew
      have hown' := own_later_s (own_only_s (own_later_s (own_later_s hown k1) k2) ((hS.later k1).later k2) neNR ho4) (later_drew _)
      have hS' := hb4.drew
      have hP' := (((hP.later k1).later k2).only ho4 (by omega)).drew
      have L' := (((L.trans k1).trans k2).only ho4 hgS).trans (later_drew _)
      clear h3 hS hP hown L k1 k2 hb4 ho4
      refine wp_region_parts [([0, 1, 2], 3)] [] [4, 5] (by as_aux_lemma => kernel_rfl) (by as_aux_lemma => kernel_rfl) (by intro _ _ d _ _ h; cases d <;> exact h) ?_
      simp only [wpParts, pick, List.getElem?_cons_succ, List.getElem?_cons_zero, Option.toList_some, List.cons_append, List.nil_append]
      repeat (first | go_big_quiet_skip | (go_big_quiet_want; (first | refine quiet_N _ rfl hP' rfl ?_ | refine quiet_F1 _ rfl h3' rfl ?_); simp only [Act.put, List.setIfInBounds_toArray, List.set_cons_succ, List.set_cons_zero]; go_big_quiet_on) | (go_big_quiet_step (fail)))
      refine wpQuiet_nil ?_
      go_wp2_with fail
      (with_reducible refine (from_any y _).mono ?_); rintro e y4 ⟨rfl, k4⟩
      go_wp2_with fail
      try refine ⟨by first | assumption | exact later_drew _ | exact later_alloc _ _ | exact Later.refl _, ?_⟩
      try simp only [wpParts, pick, List.getElem?_cons_succ, List.getElem?_cons_zero, Option.toList_some, List.cons_append, List.nil_append]
      repeat (go_big_quiet_step (fail))
      refine wpQuiet_nil ?_
      go_wp2_with fail
      (with_reducible refine (cM.out _).mono ?_); rintro e y5 ⟨rfl, k5⟩
      go_wp2_with (first
        | (refine store_N rfl rfl _ _ rfl ((hP'.later k4).later k5) rfl rfl (NL_length _) ?_; intro y6 hb7 ho7)
        | fail)
      go_roundw
      case rel => exact ⟨k + 1, by omega, by go_num, by rw [HF.out]; exact own_only_s (own_later_s (own_later_s hown' k4) k5) ((hP'.later k4).later k5) neNR ho7, by rw [HS1.out]; exact ((hS'.later k4).later k5).only ho7 (by omega), by rw [HP1.out]; exact hb7, ((L'.trans k4).trans k5).only ho7 (by omega)⟩
      case measure => simp [intOf]; omega
    · rw [show k = n by omega] at hown hS hP
      rw [List.take_of_length_le (by omega)] at hS hP
      have hkf : decide ((k : Int) < (n : Int)) = false := by simp; omega
      have cI1 := hid (lawIs_eq (prodN us % P25) (Nat.lt_trans (Nat.mod_lt _ P25_pos) (by decide)))
      have cI2 := hid (lawIs_eq (prodN vs % P25) (Nat.lt_trans (Nat.mod_lt _ P25_pos) (by decide)))
      obtain ⟨A', c', rfl, hc'⟩ := own_shape_s hown
      have cO := hid (over_any A' n c' us vs wr (own_rdR hown hul hvl) hus hvs (by omega))
      generalize prodN us % P25 = s at *
      generalize prodN vs % P25 = p at *
      go_wp2_with fail
      (with_reducible refine (cO.out).mono ?_); rintro e u1 ⟨rfl, k1⟩
      replace hS := hS.later k1
      replace hP := hP.later k1
      replace L := L.trans k1
      have hgl := hP.lt
      clear k1 hown
      go_wp2_with (first
        | (refine store_R rfl rfl _ _ rfl (Blk.new u1 _ (List.replicate 8 (.int .u64 0))) rfl rfl rfl ?_; intro u2 hb2 ho2
           have hS2 := (hS.later (later_alloc _ _)).only ho2 (by omega)
           have hP2 := (hP.later (later_alloc _ _)).only ho2 (by omega)
           have L2 := (L.trans (later_alloc _ _)).only ho2 (by have := L.size; omega))
        | (refine load_R0 rfl _ rfl hb2 rfl ?_)
        | (refine load_N rfl _ rfl hS2 rfl ?_)
        | fail)
      (with_reducible refine (cI1.out _).mono ?_); rintro e u3 ⟨rfl, k3⟩
      have hb3 := hb2.later k3
      have hP3 := hP2.later k3
      go_wp2_with (first
        | (refine load_R1 rfl _ rfl hb3 rfl ?_)
        | (refine load_N rfl _ rfl hP3 rfl ?_)
        | fail)
      (with_reducible refine (cI2.out _).mono ?_); rintro e u4 ⟨rfl, k4⟩
      go_wp2_with fail
      go_ret
      exact ⟨rfl, (L2.trans k3).trans k4⟩
end Go.Proofs.Ytmdjhbiiifnfiaa
