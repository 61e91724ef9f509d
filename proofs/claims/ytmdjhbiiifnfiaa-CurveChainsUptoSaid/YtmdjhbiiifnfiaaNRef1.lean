/-
  shallotref05: From, To, prime, minus, Norm.
-/
import Derived.Test.YtmdjhbiiifnfiaaField5
import Derived.Test.YtmdjhbiiifnfiaaMakers
namespace Go.Proofs.Ytmdjhbiiifnfiaa
open Go.RowKit

/-- Digit j. -/
def lem (n j : Nat) : Nat := n / B32 ^ j % B32
@[go_sem] theorem lem_lt (n i : Nat) : (lem n i < B32) = True := eq_true (Nat.mod_lt _ B32_pos)
@[go_sem] theorem lem_lt64 (n i : Nat) : (lem n i < B64) = True := eq_true (Nat.lt_trans (Nat.mod_lt _ B32_pos) (by decide))
def NL (n : Nat) : List Value := (dig B32 8 n).map n32
abbrev NN (n : Nat) : Value := .agg (NL n).toArray
theorem NL_length (n : Nat) : (NL n).length = 8 := by rw [NL, List.length_map, dig_length]
theorem NL_get (n i : Nat) (h : i < 8) : (NL n)[i]? = some (n32 (lem n i)) := by rw [NL, List.getElem?_map, dig_get _ _ _ _ h]; rfl
@[go_sem] theorem NL_at (n i : Nat) (h : i < (NL n).length) : (NL n)[i] = n32 (lem n i) := by
  have := NL_get n i (by rw [NL_length] at h; exact h)
  rw [List.getElem?_eq_getElem h] at this
  exact Option.some.inj this
theorem NL_one (n : Nat) : ∀ v ∈ NL n, v.oneCell' = true := n32_one _
def VL (n : Nat) : List Value := (dig B32 17 n).map n64
abbrev VV (n : Nat) : Value := .agg (VL n).toArray
theorem VL_length (n : Nat) : (VL n).length = 17 := by rw [VL, List.length_map, dig_length]
theorem VL_get (n i : Nat) (h : i < 17) : (VL n)[i]? = some (n64 (lem n i)) := by rw [VL, List.getElem?_map, dig_get _ _ _ _ h]; rfl
@[go_sem] theorem VL_at (n i : Nat) (h : i < (VL n).length) : (VL n)[i] = n64 (lem n i) := by
  have := VL_get n i (by rw [VL_length] at h; exact h)
  rw [List.getElem?_eq_getElem h] at this
  exact Option.some.inj this
theorem VL_one (n : Nat) : ∀ v ∈ VL n, v.oneCell' = true := n64_one _
theorem B32_8 : B32 ^ 8 = T256 := by decide
theorem NL_cong {n m : Nat} (h : n % T256 = m % T256) : NL n = NL m := by
  rw [NL, NL, ← dig_mod, ← dig_mod (n := m), B32_8, h]
theorem NN_cong {n m : Nat} (h : n % T256 = m % T256) : NN n = NN m := by rw [NN, NN, NL_cong h]
theorem sizeN : (Try.prog.info? 35).map (·.size) = some 8 := by kernel_rfl
theorem sizeV : (Try.prog.info? 101).map (·.size) = some 17 := by kernel_rfl
theorem sizeF : (Try.prog.info? 23).map (·.size) = some 4 := by kernel_rfl
section
variable {ops : Array Oper} {rest : List Oper} {o : Oper} {a : Act} {w : World} {Q : Exit → Act → World → Prop}
theorem load_N (hgd : Region.wanted o (yielded ops a.tmps) = true) (x : Operand) (ho : o.op = .load 35 x) {g : Nat} {t : TypeId} {n : Nat} (hb : Blk w g t (NL n)) (hx : a.eval x = .pointer (some ⟨g, 0, none⟩))
    (h : wpList Try.prog ops Q rest (a.put o.dst (NN n)) w) : wpList Try.prog ops Q (o :: rest) a w :=
  wpList_load_blk hgd _ x ho g t _ hb hx _ Try.underlying35 rfl 8 sizeN (NL_length n) h
theorem store_N (hgd : o.guard = none) (hd : o.dst = none) (x y : Operand) (ho : o.op = .store 35 x y) {g : Nat} {t : TypeId} {l : List Value} {n : Nat} (hg : Blk w g t l) (hx : a.eval x = .pointer (some ⟨g, 0, none⟩)) (hy : a.eval y = NN n) (hl : l.length = 8)
    (h : ∀ w', Blk w' g t (NL n) → Only g w w' → wpList Try.prog ops Q rest a w') : wpList Try.prog ops Q (o :: rest) a w :=
  wpList_store_blk hgd hd _ x y ho g t l _ hg hx hy 8 sizeN (NL_length n) hl (NL_one n) h
theorem ret_N {fn : Func} {p : Tmp} (hf : fn.results = #[.cell p 35]) {tmps : Array Value} {g : Nat} {t : TypeId} {n : Nat} (hg : Blk w g t (NL n)) (hp : tmps.getD p undef = .pointer (some ⟨g, 0, none⟩)) :
    (results fn tmps).run Try.prog w = .ok (NN n) w := results_blk hf tmps w g t _ _ hg hp Try.underlying35 rfl (by rw [NL_length]; exact sizeN)
theorem quiet_N {K : Act → Prop} (x : Operand) (ho : o.op = .load 35 x) {w0 : World} {g : Nat} {t : TypeId} {n : Nat} (hb : Blk w0 g t (NL n)) (hx : a.eval x = .pointer (some ⟨g, 0, none⟩)) (h : K (a.put o.dst (NN n))) :
    o.quiet Try.prog a (fun w' => ∃ x, w' = grow w0 x) K :=
  quiet_load_agg _ x ho g 0 (NL n) (fun w' hw j v hv => by obtain ⟨y, rfl⟩ := hw; rw [Nat.zero_add]; exact (hb.later ⟨y, rfl⟩).cellD j hv) hx _ Try.underlying35 rfl (by rw [NL_length]; exact sizeN) h
theorem load_V (hgd : Region.wanted o (yielded ops a.tmps) = true) (x : Operand) (ho : o.op = .load 101 x) {g : Nat} {t : TypeId} {n : Nat} (hb : Blk w g t (VL n)) (hx : a.eval x = .pointer (some ⟨g, 0, none⟩))
    (h : wpList Try.prog ops Q rest (a.put o.dst (VV n)) w) : wpList Try.prog ops Q (o :: rest) a w :=
  wpList_load_blk hgd _ x ho g t _ hb hx _ Try.underlying101 rfl 17 sizeV (VL_length n) h
theorem store_V (hgd : o.guard = none) (hd : o.dst = none) (x y : Operand) (ho : o.op = .store 101 x y) {g : Nat} {t : TypeId} {l : List Value} {n : Nat} (hg : Blk w g t l) (hx : a.eval x = .pointer (some ⟨g, 0, none⟩)) (hy : a.eval y = VV n) (hl : l.length = 17)
    (h : ∀ w', Blk w' g t (VL n) → Only g w w' → wpList Try.prog ops Q rest a w') : wpList Try.prog ops Q (o :: rest) a w :=
  wpList_store_blk hgd hd _ x y ho g t l _ hg hx hy 17 sizeV (VL_length n) hl (VL_one n) h
theorem load_F (hgd : Region.wanted o (yielded ops a.tmps) = true) (x : Operand) (ho : o.op = .load 23 x) {g : Nat} {t : TypeId} {n : Nat} (hb : Blk w g t (EL n)) (hx : a.eval x = .pointer (some ⟨g, 0, none⟩))
    (h : wpList Try.prog ops Q rest (a.put o.dst (E n)) w) : wpList Try.prog ops Q (o :: rest) a w :=
  wpList_load_blk hgd _ x ho g t _ hb hx _ Try.underlying23 rfl 4 sizeF (EL_length n) h
theorem store_F (hgd : o.guard = none) (hd : o.dst = none) (x y : Operand) (ho : o.op = .store 23 x y) {g : Nat} {t : TypeId} {l : List Value} {n : Nat} (hg : Blk w g t l) (hx : a.eval x = .pointer (some ⟨g, 0, none⟩)) (hy : a.eval y = E n) (hl : l.length = 4)
    (h : ∀ w', Blk w' g t (EL n) → Only g w w' → wpList Try.prog ops Q rest a w') : wpList Try.prog ops Q (o :: rest) a w :=
  wpList_store_blk hgd hd _ x y ho g t l _ hg hx hy 4 sizeF (EL_length n) hl (EL_one n) h
theorem ret_F {fn : Func} {p : Tmp} (hf : fn.results = #[.cell p 23]) {tmps : Array Value} {g : Nat} {t : TypeId} {n : Nat} (hg : Blk w g t (EL n)) (hp : tmps.getD p undef = .pointer (some ⟨g, 0, none⟩)) :
    (results fn tmps).run Try.prog w = .ok (E n) w := results_blk hf tmps w g t _ _ hg hp Try.underlying23 rfl (by rw [EL_length]; exact sizeF)
end
@[go_sem] theorem shl_n64 (T : TypeId) (x : Nat) (yk : IntKind) (k : Int) (h0 : 0 ≤ k) : binOp .shl T (n64 x) (.int yk k) = pure (n64 (x * 2 ^ k.toNat)) := by
  rw [n64, shl_w64' _ _ _ _ h0, n64_w]
  rw [shl64]
  show (BitVec.toNat _) = _
  rw [BitVec.toNat_shiftLeft, Nat.shiftLeft_eq]
  show (UInt64.ofNat x).toNat * _ % 2 ^ 64 = _
  rw [UInt64.toNat_ofNat', Nat.mod_mul_mod]
  rfl
theorem pow_32_64 (k : Nat) : B32 ^ (2 * k) = B64 ^ k := by rw [Nat.pow_mul]; congr 1
theorem lem_even (n k : Nat) : lim n k % 4294967296 = lem n (2 * k) := by
  rw [lim, lem, pow_32_64]
  generalize n / B64 ^ k = x
  unfold B64 B32
  omega
theorem lem_odd (n k : Nat) : lim n k / 4294967296 = lem n (2 * k + 1) := by
  rw [lim, lem, Nat.pow_succ, pow_32_64, ← Nat.div_div_eq_div_mul]
  generalize n / B64 ^ k = x
  unfold B64 B32
  omega
theorem lim_two (n k : Nat) : lem n (2 * k) + lem n (2 * k + 1) * 4294967296 = lim n k := by
  rw [← lem_even, ← lem_odd]
  omega
theorem eight_zero : NL 0 = List.replicate 8 (.int .u32 0) := by rfl
set_option maxHeartbeats 1000000 in
theorem from_any (n : Nat) (w : World) :
    Calls Try.prog 24 #[E n] w fun e w' => e = .returned (NN n) ∧ Later w w' := by
  have hlS := NL_length n
  go_enter Try.func24, Try.ntmps24
  go_wp2
  go_loopw [4] (fun i wr => ∃ k : Nat, k ≤ 4 ∧ i = .int .i64 k ∧ Blk wr w.heap.size 23 (EL n) ∧ Blk wr (w.heap.size + 1) 35 (List.replicate 8 (.int .u32 0)) ∧ Blk wr (w.heap.size + 1 + 1) 35 (filled (NL n) (List.replicate 8 (.int .u32 0)) (2 * k)) ∧ Later w wr) (fun i _ => 4 - (intOf i).toNat)
  case atStart => exact ⟨0, by omega, rfl, ((Blk.new _ _ _).later (later_alloc _ _)).later (later_alloc _ _), (Blk.new' _ _ (List.replicate 8 (Value.int .u32 0)) (by simp)).later (later_alloc _ _), by rw [filled_zero]; exact Blk.new' _ _ (List.replicate 8 (Value.int .u32 0)) (by simp), ((later_alloc _ _).trans (later_alloc _ _)).trans (later_alloc _ _)⟩
  case round =>
    obtain ⟨k, hk4, rfl, h1, h2, h3, L⟩ := hrel
    by_cases hlt : k < 4
    · have d0 := h1.cellD k (EL_get n k hlt)
      have E0 := hid (lem_even n k)
      have E1 := hid (lem_odd n k)
      go_wp2_with (first
        | (refine wpList_store_in rfl rfl _ _ _ rfl _ _ _ _ h3 rfl ?hl rfl (by kernel_rfl) ?_; (case hl => rw [filled_length _ _ _ (by rw [hlS]; rfl)]; simp; omega); intro v w5 hv hb5 ho5; simp [go_sem] at hv; subst hv; have d5 := (h1.only ho5 (by omega)).cellD k (EL_get n k hlt))
        | (refine wpList_store_in rfl rfl _ _ _ rfl _ _ _ _ hb5 rfl ?hl rfl (by kernel_rfl) ?_; (case hl => rw [List.length_set, filled_length _ _ _ (by rw [hlS]; rfl)]; simp; omega); intro v w6 hv hb6 ho6; simp [go_sem] at hv; subst hv)
        | fail)
      go_roundw
      case rel =>
        rw [E0.out, filled_step _ _ _ _ (by rw [hlS]; rfl) (by simp; omega) (NL_get n _ (by omega)), E1.out, filled_step _ _ _ _ (by rw [hlS]; rfl) (by simp; omega) (NL_get n _ (by omega))] at hb6
        exact ⟨k + 1, by omega, by go_num, (h1.only ho5 (by omega)).only ho6 (by omega), (h2.only ho5 (by omega)).only ho6 (by omega), hb6, (L.only ho5 (by omega)).only ho6 (by omega)⟩
      case measure => simp [intOf]; omega
    · rw [show k = 4 by omega, filled_all _ _ _ hlS rfl] at h3
      go_wp2_with (first
        | (refine load_N rfl _ rfl h3 rfl ?_)
        | (refine store_N rfl rfl _ _ rfl h2 rfl rfl rfl ?_; intro w4 hb4 ho4)
        | fail)
      exact bodyPost_ret (ret_N rfl hb4 rfl) rfl ⟨rfl, L.only ho4 (by omega)⟩
set_option maxHeartbeats 1000000 in
theorem to_any (n : Nat) (w : World) :
    Calls Try.prog 62 #[NN n] w fun e w' => e = .returned (E n) ∧ Later w w' := by
  have hlS := EL_length n
  go_enter Try.func62, Try.ntmps62
  go_wp2
  go_loopw [4] (fun i wr => ∃ k : Nat, k ≤ 4 ∧ i = .int .i64 k ∧ Blk wr w.heap.size 35 (NL n) ∧ Blk wr (w.heap.size + 1) 23 (List.replicate 4 (.int .u64 0)) ∧ Blk wr (w.heap.size + 1 + 1) 23 (filled (EL n) (List.replicate 4 (.int .u64 0)) k) ∧ Later w wr) (fun i _ => 4 - (intOf i).toNat)
  case atStart => exact ⟨0, by omega, rfl, ((Blk.new _ _ _).later (later_alloc _ _)).later (later_alloc _ _), (Blk.new' _ _ (List.replicate 4 (Value.int .u64 0)) (by simp)).later (later_alloc _ _), by rw [filled_zero]; exact Blk.new' _ _ (List.replicate 4 (Value.int .u64 0)) (by simp), ((later_alloc _ _).trans (later_alloc _ _)).trans (later_alloc _ _)⟩
  case round =>
    obtain ⟨k, hk4, rfl, h1, h2, h3, L⟩ := hrel
    by_cases hlt : k < 4
    · have d0 := h1.cellD (2 * k) (NL_get n _ (by omega))
      have d1 := h1.cellD (2 * k + 1) (NL_get n _ (by omega))
      have E0 := hid (lim_two n k)
      go_wp2_with fail
      refine wp_region_parts [] [0, 1, 2, 3, 4, 5, 6, 7, 8, 9, 10, 11, 12, 13, 14] [15] (by as_aux_lemma => kernel_rfl) (by as_aux_lemma => kernel_rfl) (by intro _ _ d _ _ h; cases d <;> exact h) ?_
      simp only [wpParts, pick, List.getElem?_cons_succ, List.getElem?_cons_zero, Option.toList_some, List.cons_append, List.nil_append]
      repeat (go_big_quiet_step (fail))
      refine wpQuiet_nil ?_
      go_wp2_with (first
        | (refine wpList_store_in rfl rfl _ _ _ rfl _ _ _ _ h3.drew rfl ?hl rfl (by kernel_rfl) ?_; (case hl => rw [filled_length _ _ _ (by rw [hlS]; rfl)]; simp; omega); intro v w6 hv hb6 ho6; simp [go_sem] at hv; subst hv)
        | fail)
      go_roundw
      case rel =>
        rw [filled_step _ _ _ _ (by rw [hlS]; rfl) (by simp; omega) (by rw [E0.out]; exact EL_get n _ (by omega))] at hb6
        exact ⟨k + 1, by omega, by go_num, h1.drew.only ho6 (by omega), h2.drew.only ho6 (by omega), hb6, (L.trans (later_drew _)).only ho6 (by omega)⟩
      case measure => simp [intOf]; omega
    · rw [show k = 4 by omega, filled_all _ _ _ hlS rfl] at h3
      go_wp2_with (first
        | (refine load_F rfl _ rfl h3 rfl ?_)
        | (refine store_F rfl rfl _ _ rfl h2 rfl rfl rfl ?_; intro w4 hb4 ho4)
        | fail)
      exact bodyPost_ret (ret_F rfl hb4 rfl) rfl ⟨rfl, L.only ho4 (by omega)⟩
set_option maxHeartbeats 1000000 in
theorem prime_any (w : World) :
    Calls Try.prog 64 #[] w fun e w' => e = .returned (NN P25) ∧ Later w w' := by
  go_enter Try.func64, Try.ntmps64
  go_wp2_with (first
    | (refine wpList_build_is rfl 35 _ rfl (NL P25) ?hb ?_; (case hb => kernel_rfl))
    | (refine store_N rfl rfl _ _ rfl (Blk.new w _ (List.replicate 8 (.int .u32 0))) rfl rfl rfl ?_; intro w3 hb3 ho3))
  exact bodyPost_ret (ret_N rfl hb3 rfl) rfl ⟨rfl, (later_alloc _ _).only ho3 (by omega)⟩
set_option maxHeartbeats 1000000 in
theorem minus_any (a b : Nat) (hb : b < T256) (w : World) :
    Calls Try.prog 63 #[NN a, NN b] w fun e w' => e = .returned (.tuple #[NN (a + T256 - b), .bool (owed B32 a b 8 == 1)]) ∧ Later w w' := by
  have hlS := NL_length (a + T256 - b)
  have hlA := NL_length a
  go_enter Try.func63, Try.ntmps63
  go_wp2
  go_loopw [7, 8] (fun c i wr => ∃ k : Nat, k ≤ 8 ∧ i = .int .i64 k ∧ c = n64 (owed B32 a b k) ∧ Blk wr w.heap.size 35 (NL a) ∧ Blk wr (w.heap.size + 1) 35 (NL b) ∧ Blk wr (w.heap.size + 1 + 1) 35 (List.replicate 8 (.int .u32 0)) ∧ Blk wr (w.heap.size + 1 + 1 + 1) 35 (filled (NL (a + T256 - b)) (List.replicate 8 (.int .u32 0)) k) ∧ Later w wr) (fun _ i _ => 8 - (intOf i).toNat)
  case atStart => exact ⟨0, by omega, rfl, by rw [owed_zero]; rfl, (((Blk.new _ _ _).later (later_alloc _ _)).later (later_alloc _ _)).later (later_alloc _ _), ((Blk.new' _ _ (NL b) (by simp)).later (later_alloc _ _)).later (later_alloc _ _), (Blk.new' _ _ (List.replicate 8 (Value.int .u32 0)) (by simp)).later (later_alloc _ _), by rw [filled_zero]; exact Blk.new' _ _ (List.replicate 8 (Value.int .u32 0)) (by simp), (((later_alloc _ _).trans (later_alloc _ _)).trans (later_alloc _ _)).trans (later_alloc _ _)⟩
  case round =>
    obtain ⟨k, hk4, rfl, rfl, h1, h2, h3, h4, L⟩ := hrel
    by_cases hlt : k < 8
    · have d0 := h1.cellD k (NL_get a _ (by omega))
      have d1 := h2.cellD k (NL_get b _ (by omega))
      have hc := owed_le B32 a b k
      have S0 := hid (diff_dig B32_pos a b k 8 hlt (by rw [B32_8]; exact hb))
      rw [B32_8] at S0
      have S1 := hid (owed_succ B32_pos a b k)
      have hx : lem a k < B32 := Nat.mod_lt _ B32_pos
      have hy : lem b k < B32 := Nat.mod_lt _ B32_pos
      change Hid (_ = if lem a k < lem b k + owed B32 a b k then 1 else 0) at S1
      change Hid ((lem a k + B32 - lem b k - owed B32 a b k) % B32 = lem (a + T256 - b) k) at S0
      generalize owed B32 a b k = c at *
      have hyc : (lem b k + c < B64) = True := eq_true (by unfold B64; unfold B32 at hy; omega)
      rcases Nat.lt_or_ge (lem a k) (lem b k + c) with hl | hl
      · have hdl : decide (lem a k < lem b k + c) = true := by simpa using hl
        have hs : ∀ w, (binOp .sub 22 (n64 (lem a k + 4294967296)) (n64 (lem b k + c))).run Try.prog w = .ok (n64 (lem a k + 4294967296 - (lem b k + c))) w := fun w => by
          rw [sub_n64 _ _ _ (by unfold B64; unfold B32 at *; omega) (by unfold B32 at *; omega)]
          rfl
        have HD := hid (show n32 (lem a k + 4294967296 - (lem b k + c)) = n32 (lem (a + T256 - b) k) by rw [← S0.out]; apply n32_of; rw [Nat.mod_mod]; congr 1; unfold B32; omega)
        have HC := hid (show owed B32 a b (k + 1) = 1 by rw [S1.out, if_pos hl])
        go_wp2_with (first
          | (refine wpList_store_in rfl rfl _ _ _ rfl _ _ _ _ h4 rfl ?hl rfl (by kernel_rfl) ?_; (case hl => rw [filled_length _ _ _ (by rw [hlS]; rfl)]; simp; omega); intro v w6 hv hb6 ho6; simp [go_sem] at hv; subst hv))
        go_roundw
        case rel =>
          rw [HD.out, filled_step _ _ _ _ (by rw [hlS]; rfl) (by simp; omega) (NL_get _ _ (by omega))] at hb6
          exact ⟨k + 1, by omega, by go_num, by rw [HC.out]; rfl, h1.only ho6 (by omega), h2.only ho6 (by omega), h3.only ho6 (by omega), hb6, L.only ho6 (by omega)⟩
        case measure => simp [intOf]; omega
      · have hdl : decide (lem a k < lem b k + c) = false := by simpa using hl
        have hs : ∀ w, (binOp .sub 22 (n64 (lem a k)) (n64 (lem b k + c))).run Try.prog w = .ok (n64 (lem a k - (lem b k + c))) w := fun w => by
          rw [sub_n64 _ _ _ (by unfold B64; unfold B32 at *; omega) hl]
          rfl
        have HD := hid (show n32 (lem a k - (lem b k + c)) = n32 (lem (a + T256 - b) k) by rw [← S0.out]; apply n32_of; rw [Nat.mod_mod]; unfold B32; omega)
        have HC := hid (show owed B32 a b (k + 1) = 0 by rw [S1.out, if_neg (by omega)])
        go_wp2_with (first
          | (refine wpList_store_in rfl rfl _ _ _ rfl _ _ _ _ h4 rfl ?hl rfl (by kernel_rfl) ?_; (case hl => rw [filled_length _ _ _ (by rw [hlS]; rfl)]; simp; omega); intro v w6 hv hb6 ho6; simp [go_sem] at hv; subst hv))
        go_roundw
        case rel =>
          rw [HD.out, filled_step _ _ _ _ (by rw [hlS]; rfl) (by simp; omega) (NL_get _ _ (by omega))] at hb6
          exact ⟨k + 1, by omega, by go_num, by rw [HC.out]; rfl, h1.only ho6 (by omega), h2.only ho6 (by omega), h3.only ho6 (by omega), hb6, L.only ho6 (by omega)⟩
        case measure => simp [intOf]; omega
    · rw [show k = 8 by omega, filled_all _ _ _ hlS rfl] at h4
      have hko : owed B32 a b k = owed B32 a b 8 := by rw [show k = 8 by omega]
      have hol := owed_le B32 a b k
      have hoB : (owed B32 a b k < B64) = True := eq_true (Nat.lt_of_le_of_lt hol (by decide))
      have HK := hid hko
      clear hko
      go_wp2_with (first
        | (refine load_N rfl _ rfl h4 rfl ?_)
        | (refine store_N rfl rfl _ _ rfl h3 rfl rfl rfl ?_; intro w4 hb4 ho4)
        | fail)
      exact bodyPost_ret (results_blk_tmp rfl _ _ _ _ _ _ hb4 rfl Try.underlying35 rfl (by rw [NL_length]; exact sizeN)) rfl ⟨by rw [← HK.out]; rfl, L.only ho4 (by omega)⟩
end Go.Proofs.Ytmdjhbiiifnfiaa
