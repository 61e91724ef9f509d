/-
  shallotref05: From, To, prime, minus, Norm.
  shallotref05: Norm, high, folded.
  shallotref05: high, folded.
  shallotref05: Add, Mul, Sub.
  shallotref05: Sub.
-/
import Derived.Test.YtallecbmnpcepaaFNum
import Derived.Test.YtallecbmnpcepaaMakers
namespace Go.Proofs.Ytallecbmnpcepaa
open Go.RowKit

/-- Digit j. -/
def lem (n j : Nat) : Nat := n / B32 ^ j % B32
@[go_sem] theorem lem_lt (n i : Nat) : (lem n i < B32) = True := eq_true (Nat.mod_lt _ B32_pos)
@[go_sem] theorem lem_lt64 (n i : Nat) : (lem n i < B64) = True := eq_true (Nat.lt_trans (Nat.mod_lt _ B32_pos) (by decide))
def NL (n : Nat) : List Value := (dig B32 8 n).map n32
abbrev NN (n : Nat) : Value := .agg (NL n).toArray
theorem NL_length (n : Nat) : (NL n).length = 8 := by rw [NL, List.length_map, dig_length]
theorem NL_get (n i : Nat) (h : i < 8) : (NL n)[i]? = some (n32 (lem n i)) := by rw [NL, List.getElem?_map, dig_get _ _ _ _ h]; rfl
@[go_sem] theorem NL_at (n i : Nat) (h : i < (NL n).length) : (NL n)[i] = n32 (lem n i) := by
  have := NL_get n i (by rw [NL_length] at h; exact h)
  rw [List.getElem?_eq_getElem h] at this
  exact Option.some.inj this
theorem NL_one (n : Nat) : ∀ v ∈ NL n, v.oneCell' = true := n32_one _
def VL (n : Nat) : List Value := (dig B32 17 n).map n64
abbrev VV (n : Nat) : Value := .agg (VL n).toArray
theorem VL_length (n : Nat) : (VL n).length = 17 := by rw [VL, List.length_map, dig_length]
theorem VL_get (n i : Nat) (h : i < 17) : (VL n)[i]? = some (n64 (lem n i)) := by rw [VL, List.getElem?_map, dig_get _ _ _ _ h]; rfl
@[go_sem] theorem VL_at (n i : Nat) (h : i < (VL n).length) : (VL n)[i] = n64 (lem n i) := by
  have := VL_get n i (by rw [VL_length] at h; exact h)
  rw [List.getElem?_eq_getElem h] at this
  exact Option.some.inj this
theorem VL_one (n : Nat) : ∀ v ∈ VL n, v.oneCell' = true := n64_one _
theorem B32_8 : B32 ^ 8 = T256 := by decide
theorem NL_cong {n m : Nat} (h : n % T256 = m % T256) : NL n = NL m := by
  rw [NL, NL, ← dig_mod, ← dig_mod (n := m), B32_8, h]
theorem NN_cong {n m : Nat} (h : n % T256 = m % T256) : NN n = NN m := by rw [NN, NN, NL_cong h]
theorem sizeN : (Try.prog.info? 97).map (·.size) = some 8 := by kernel_rfl
theorem sizeV : (Try.prog.info? 139).map (·.size) = some 17 := by kernel_rfl
theorem sizeF : (Try.prog.info? 90).map (·.size) = some 4 := by kernel_rfl
section
variable {ops : Array Oper} {rest : List Oper} {o : Oper} {a : Act} {w : World} {Q : Exit → Act → World → Prop}
theorem load_N (hgd : Region.wanted o (yielded ops a.tmps) = true) (x : Operand) (ho : o.op = .load 97 x) {g : Nat} {t : TypeId} {n : Nat} (hb : Blk w g t (NL n)) (hx : a.eval x = .pointer (some ⟨g, 0, none⟩))
    (h : wpList Try.prog ops Q rest (a.put o.dst (NN n)) w) : wpList Try.prog ops Q (o :: rest) a w :=
  wpList_load_blk hgd _ x ho g t _ hb hx _ Try.underlying97 rfl 8 sizeN (NL_length n) h
theorem store_N (hgd : o.guard = none) (hd : o.dst = none) (x y : Operand) (ho : o.op = .store 97 x y) {g : Nat} {t : TypeId} {l : List Value} {n : Nat} (hg : Blk w g t l) (hx : a.eval x = .pointer (some ⟨g, 0, none⟩)) (hy : a.eval y = NN n) (hl : l.length = 8)
    (h : ∀ w', Blk w' g t (NL n) → Only g w w' → wpList Try.prog ops Q rest a w') : wpList Try.prog ops Q (o :: rest) a w :=
  wpList_store_blk hgd hd _ x y ho g t l _ hg hx hy 8 sizeN (NL_length n) hl (NL_one n) h
theorem ret_N {fn : Func} {p : Tmp} (hf : fn.results = #[.cell p 97]) {tmps : Array Value} {g : Nat} {t : TypeId} {n : Nat} (hg : Blk w g t (NL n)) (hp : tmps.getD p undef = .pointer (some ⟨g, 0, none⟩)) :
    (results fn tmps).run Try.prog w = .ok (NN n) w := results_blk hf tmps w g t _ _ hg hp Try.underlying97 rfl (by rw [NL_length]; exact sizeN)
theorem quiet_N {K : Act → Prop} (x : Operand) (ho : o.op = .load 97 x) {w0 : World} {g : Nat} {t : TypeId} {n : Nat} (hb : Blk w0 g t (NL n)) (hx : a.eval x = .pointer (some ⟨g, 0, none⟩)) (h : K (a.put o.dst (NN n))) :
    o.quiet Try.prog a (fun w' => ∃ x, w' = grow w0 x) K :=
  quiet_load_agg _ x ho g 0 (NL n) (fun w' hw j v hv => by obtain ⟨y, rfl⟩ := hw; rw [Nat.zero_add]; exact (hb.later ⟨y, rfl⟩).cellD j hv) hx _ Try.underlying97 rfl (by rw [NL_length]; exact sizeN) h
theorem load_V (hgd : Region.wanted o (yielded ops a.tmps) = true) (x : Operand) (ho : o.op = .load 139 x) {g : Nat} {t : TypeId} {n : Nat} (hb : Blk w g t (VL n)) (hx : a.eval x = .pointer (some ⟨g, 0, none⟩))
    (h : wpList Try.prog ops Q rest (a.put o.dst (VV n)) w) : wpList Try.prog ops Q (o :: rest) a w :=
  wpList_load_blk hgd _ x ho g t _ hb hx _ Try.underlying139 rfl 17 sizeV (VL_length n) h
theorem store_V (hgd : o.guard = none) (hd : o.dst = none) (x y : Operand) (ho : o.op = .store 139 x y) {g : Nat} {t : TypeId} {l : List Value} {n : Nat} (hg : Blk w g t l) (hx : a.eval x = .pointer (some ⟨g, 0, none⟩)) (hy : a.eval y = VV n) (hl : l.length = 17)
    (h : ∀ w', Blk w' g t (VL n) → Only g w w' → wpList Try.prog ops Q rest a w') : wpList Try.prog ops Q (o :: rest) a w :=
  wpList_store_blk hgd hd _ x y ho g t l _ hg hx hy 17 sizeV (VL_length n) hl (VL_one n) h
theorem load_F (hgd : Region.wanted o (yielded ops a.tmps) = true) (x : Operand) (ho : o.op = .load 90 x) {g : Nat} {t : TypeId} {n : Nat} (hb : Blk w g t (EL n)) (hx : a.eval x = .pointer (some ⟨g, 0, none⟩))
    (h : wpList Try.prog ops Q rest (a.put o.dst (E n)) w) : wpList Try.prog ops Q (o :: rest) a w :=
  wpList_load_blk hgd _ x ho g t _ hb hx _ Try.underlying90 rfl 4 sizeF (EL_length n) h
theorem store_F (hgd : o.guard = none) (hd : o.dst = none) (x y : Operand) (ho : o.op = .store 90 x y) {g : Nat} {t : TypeId} {l : List Value} {n : Nat} (hg : Blk w g t l) (hx : a.eval x = .pointer (some ⟨g, 0, none⟩)) (hy : a.eval y = E n) (hl : l.length = 4)
    (h : ∀ w', Blk w' g t (EL n) → Only g w w' → wpList Try.prog ops Q rest a w') : wpList Try.prog ops Q (o :: rest) a w :=
  wpList_store_blk hgd hd _ x y ho g t l _ hg hx hy 4 sizeF (EL_length n) hl (EL_one n) h
theorem ret_F {fn : Func} {p : Tmp} (hf : fn.results = #[.cell p 90]) {tmps : Array Value} {g : Nat} {t : TypeId} {n : Nat} (hg : Blk w g t (EL n)) (hp : tmps.getD p undef = .pointer (some ⟨g, 0, none⟩)) :
    (results fn tmps).run Try.prog w = .ok (E n) w := results_blk hf tmps w g t _ _ hg hp Try.underlying90 rfl (by rw [EL_length]; exact sizeF)
end
@[go_sem] theorem shl_n64 (T : TypeId) (x : Nat) (yk : IntKind) (k : Int) (h0 : 0 ≤ k) : binOp .shl T (n64 x) (.int yk k) = pure (n64 (x * 2 ^ k.toNat)) := by
  rw [n64, shl_w64' _ _ _ _ h0, n64_w]
  rw [shl64]
  show (BitVec.toNat _) = _
  rw [BitVec.toNat_shiftLeft, Nat.shiftLeft_eq]
  show (UInt64.ofNat x).toNat * _ % 2 ^ 64 = _
  rw [UInt64.toNat_ofNat', Nat.mod_mul_mod]
  rfl
theorem pow_32_64 (k : Nat) : B32 ^ (2 * k) = B64 ^ k := by rw [Nat.pow_mul]; congr 1
theorem lem_even (n k : Nat) : lim n k % 4294967296 = lem n (2 * k) := by
  rw [lim, lem, pow_32_64]
  generalize n / B64 ^ k = x
  unfold B64 B32
  omega
theorem lem_odd (n k : Nat) : lim n k / 4294967296 = lem n (2 * k + 1) := by
  rw [lim, lem, Nat.pow_succ, pow_32_64, ← Nat.div_div_eq_div_mul]
  generalize n / B64 ^ k = x
  unfold B64 B32
  omega
theorem lim_two (n k : Nat) : lem n (2 * k) + lem n (2 * k + 1) * 4294967296 = lim n k := by
  rw [← lem_even, ← lem_odd]
  omega
theorem eight_zero : NL 0 = List.replicate 8 (.int .u32 0) := by rfl
set_option maxHeartbeats 1000000 in
theorem prime_any (w : World) :
    Calls Try.prog 79 #[] w fun e w' => e = .returned (NN P25) ∧ Later w w' := by
  go_enter Try.func79, Try.ntmps79
  go_wp2_with (first
    | (refine wpList_build_is rfl 97 _ rfl (NL P25) ?hb ?_; (case hb => kernel_rfl))
    | (refine store_N rfl rfl _ _ rfl (Blk.new w _ (List.replicate 8 (.int .u32 0))) rfl rfl rfl ?_; intro w3 hb3 ho3))
  exact bodyPost_ret (ret_N rfl hb3 rfl) rfl ⟨rfl, (later_alloc _ _).only ho3 (by omega)⟩
set_option maxHeartbeats 1000000 in
theorem minus_any (a b : Nat) (hb : b < T256) (w : World) :
    Calls Try.prog 78 #[NN a, NN b] w fun e w' => e = .returned (.tuple #[NN (a + T256 - b), .bool (owed B32 a b 8 == 1)]) ∧ Later w w' := by
  have hlS := NL_length (a + T256 - b)
  have hlA := NL_length a
  go_enter Try.func78, Try.ntmps78
  go_wp2
  go_loopw [7, 8] (fun c i wr => ∃ k : Nat, k ≤ 8 ∧ i = .int .i64 k ∧ c = n64 (owed B32 a b k) ∧ Blk wr w.heap.size 97 (NL a) ∧ Blk wr (w.heap.size + 1) 97 (NL b) ∧ Blk wr (w.heap.size + 1 + 1) 97 (List.replicate 8 (.int .u32 0)) ∧ Blk wr (w.heap.size + 1 + 1 + 1) 97 (filled (NL (a + T256 - b)) (List.replicate 8 (.int .u32 0)) k) ∧ Later w wr) (fun _ i _ => 8 - (intOf i).toNat)
  case atStart => exact ⟨0, by omega, rfl, by rw [owed_zero]; rfl, (((Blk.new _ _ _).later (later_alloc _ _)).later (later_alloc _ _)).later (later_alloc _ _), ((Blk.new' _ _ (NL b) (by simp)).later (later_alloc _ _)).later (later_alloc _ _), (Blk.new' _ _ (List.replicate 8 (Value.int .u32 0)) (by simp)).later (later_alloc _ _), by rw [filled_zero]; exact Blk.new' _ _ (List.replicate 8 (Value.int .u32 0)) (by simp), (((later_alloc _ _).trans (later_alloc _ _)).trans (later_alloc _ _)).trans (later_alloc _ _)⟩
  case round =>
    obtain ⟨k, hk4, rfl, rfl, h1, h2, h3, h4, L⟩ := hrel
    by_cases hlt : k < 8
    · have d0 := h1.cellD k (NL_get a _ (by omega))
      have d1 := h2.cellD k (NL_get b _ (by omega))
      have hc := owed_le B32 a b k
      have S0 := hid (diff_dig B32_pos a b k 8 hlt (by rw [B32_8]; exact hb))
      rw [B32_8] at S0
      have S1 := hid (owed_succ B32_pos a b k)
      have hx : lem a k < B32 := Nat.mod_lt _ B32_pos
      have hy : lem b k < B32 := Nat.mod_lt _ B32_pos
      change Hid (_ = if lem a k < lem b k + owed B32 a b k then 1 else 0) at S1
      change Hid ((lem a k + B32 - lem b k - owed B32 a b k) % B32 = lem (a + T256 - b) k) at S0
      generalize owed B32 a b k = c at *
      have hyc : (lem b k + c < B64) = True := eq_true (by unfold B64; unfold B32 at hy; omega)
      rcases Nat.lt_or_ge (lem a k) (lem b k + c) with hl | hl
      · have hdl : decide (lem a k < lem b k + c) = true := by simpa using hl
        have hs : ∀ w, (binOp .sub 42 (n64 (lem a k + 4294967296)) (n64 (lem b k + c))).run Try.prog w = .ok (n64 (lem a k + 4294967296 - (lem b k + c))) w := fun w => by
          rw [sub_n64 _ _ _ (by unfold B64; unfold B32 at *; omega) (by unfold B32 at *; omega)]
          rfl
        have HD := hid (show n32 (lem a k + 4294967296 - (lem b k + c)) = n32 (lem (a + T256 - b) k) by rw [← S0.out]; apply n32_of; rw [Nat.mod_mod]; congr 1; unfold B32; omega)
        have HC := hid (show owed B32 a b (k + 1) = 1 by rw [S1.out, if_pos hl])
        go_wp2_with (first
          | (refine wpList_store_in rfl rfl _ _ _ rfl _ _ _ _ h4 rfl ?hl rfl (by kernel_rfl) ?_; (case hl => rw [filled_length _ _ _ (by rw [hlS]; rfl)]; simp; omega); intro v w6 hv hb6 ho6; simp [go_sem] at hv; subst hv))
        go_roundw
        case rel =>
          rw [HD.out, filled_step _ _ _ _ (by rw [hlS]; rfl) (by simp; omega) (NL_get _ _ (by omega))] at hb6
          exact ⟨k + 1, by omega, by go_num, by rw [HC.out]; rfl, h1.only ho6 (by omega), h2.only ho6 (by omega), h3.only ho6 (by omega), hb6, L.only ho6 (by omega)⟩
        case measure => simp [intOf]; omega
      · have hdl : decide (lem a k < lem b k + c) = false := by simpa using hl
        have hs : ∀ w, (binOp .sub 42 (n64 (lem a k)) (n64 (lem b k + c))).run Try.prog w = .ok (n64 (lem a k - (lem b k + c))) w := fun w => by
          rw [sub_n64 _ _ _ (by unfold B64; unfold B32 at *; omega) hl]
          rfl
        have HD := hid (show n32 (lem a k - (lem b k + c)) = n32 (lem (a + T256 - b) k) by rw [← S0.out]; apply n32_of; rw [Nat.mod_mod]; unfold B32; omega)
        have HC := hid (show owed B32 a b (k + 1) = 0 by rw [S1.out, if_neg (by omega)])
        go_wp2_with (first
          | (refine wpList_store_in rfl rfl _ _ _ rfl _ _ _ _ h4 rfl ?hl rfl (by kernel_rfl) ?_; (case hl => rw [filled_length _ _ _ (by rw [hlS]; rfl)]; simp; omega); intro v w6 hv hb6 ho6; simp [go_sem] at hv; subst hv))
        go_roundw
        case rel =>
          rw [HD.out, filled_step _ _ _ _ (by rw [hlS]; rfl) (by simp; omega) (NL_get _ _ (by omega))] at hb6
          exact ⟨k + 1, by omega, by go_num, by rw [HC.out]; rfl, h1.only ho6 (by omega), h2.only ho6 (by omega), h3.only ho6 (by omega), hb6, L.only ho6 (by omega)⟩
        case measure => simp [intOf]; omega
    · rw [show k = 8 by omega, filled_all _ _ _ hlS rfl] at h4
      have hko : owed B32 a b k = owed B32 a b 8 := by rw [show k = 8 by omega]
      have hol := owed_le B32 a b k
      have hoB : (owed B32 a b k < B64) = True := eq_true (Nat.lt_of_le_of_lt hol (by decide))
      have HK := hid hko
      clear hko
      go_wp2_with (first
        | (refine load_N rfl _ rfl h4 rfl ?_)
        | (refine store_N rfl rfl _ _ rfl h3 rfl rfl rfl ?_; intro w4 hb4 ho4)
        | fail)
      exact bodyPost_ret (results_blk_tmp rfl _ _ _ _ _ _ hb4 rfl Try.underlying97 rfl (by rw [NL_length]; exact sizeN)) rfl ⟨by rw [← HK.out]; rfl, L.only ho4 (by omega)⟩
end Go.Proofs.Ytallecbmnpcepaa
namespace Go.Proofs.Ytallecbmnpcepaa
open Go.RowKit

/-- The number that lies in a block. -/
def decV : Option Value → Nat
  | some (.int _ x) => x.toNat
  | _ => 0
def lies (B k : Nat) (g : Nat) (w : World) : Nat := val B ((List.range k).map fun i => decV (w.cell? ⟨g, i, none⟩))
theorem range_dig (B n : Nat) : ∀ k, (List.range k).map (fun i => n / B ^ i % B) = dig B k n
  | 0 => rfl
  | k + 1 => by rw [List.range_succ, List.map_append, range_dig B n k, dig_snoc]; rfl
theorem lies_N {w : World} {g : Nat} {t : TypeId} {n : Nat} (h : Blk w g t (NL n)) (hn : n < T256) : lies B32 8 g w = n := by
  have e : (List.range 8).map (fun i => decV (w.cell? ⟨g, i, none⟩)) = dig B32 8 n := by
    rw [← range_dig]
    apply List.map_congr_left
    intro i hi
    rw [h.cellD i (NL_get n i (List.mem_range.1 hi)), n32_eq (n := lem n i) (Nat.mod_lt _ B32_pos)]
    show Int.toNat ((lem n i : Nat) : Int) = _
    rw [Int.toNat_natCast]
    rfl
  rw [lies, e, val_dig, B32_8, Nat.mod_eq_of_lt hn]
theorem lies_V {w : World} {g : Nat} {t : TypeId} {n : Nat} (h : Blk w g t (VL n)) (hn : n < B32 ^ 17) : lies B32 17 g w = n := by
  have e : (List.range 17).map (fun i => decV (w.cell? ⟨g, i, none⟩)) = dig B32 17 n := by
    rw [← range_dig]
    apply List.map_congr_left
    intro i hi
    rw [h.cellD i (VL_get n i (List.mem_range.1 hi)), n64_eq (n := lem n i) (Nat.lt_trans (Nat.mod_lt _ B32_pos) (by decide))]
    show Int.toNat ((lem n i : Nat) : Int) = _
    rw [Int.toNat_natCast]
    rfl
  rw [lies, e, val_dig, Nat.mod_eq_of_lt hn]
set_option maxRecDepth 100000 in
set_option maxHeartbeats 2000000 in
theorem norm_ref (n : Nat) (hn : n < T256) (w : World) :
    Calls Try.prog 58 #[NN n] w fun e w' => e = .returned (NN (n % P25)) ∧ Later w w' := by
  go_enter Try.func58, Try.ntmps58
  go_wp2
  go_loopw [] (fun wr => ∃ m : Nat, m < T256 ∧ Hid (m % P25 = n % P25) ∧ Blk wr w.heap.size 97 (NL m) ∧ Blk wr (w.heap.size + 1) 97 (List.replicate 8 (.int .u32 0)) ∧ Later w wr) (fun wr => lies B32 8 w.heap.size wr)
  case atStart => exact ⟨n, hn, hid rfl, (Blk.new _ _ _).later (later_alloc _ _), Blk.new' _ _ (List.replicate 8 (Value.int .u32 0)) (by simp), (later_alloc _ _).trans (later_alloc _ _)⟩
  case round =>
    obtain ⟨m, hm, HM, h1, h2, L⟩ := hrel
    have hmin := fun w => minus_any m P25 (by decide) w
    rw [owed_end m P25 8 (by rw [B32_8]; exact hm) (by decide)] at hmin
    have HMIN := hid hmin
    clear hmin
    go_wp2_with fail
    refine wp_region_makers [0] [([], 1, 1), ([], 1, 2), ([3, 4, 5], 2, 6)] [] [7, 8] [6] (fun _ => (fun g => .pointer (some ⟨g, 0, none⟩), .cells (List.replicate 8 (Value.int .u32 0)).toArray 97)) (by as_aux_lemma => kernel_rfl) (by as_aux_lemma => kernel_rfl) (by intro _ _ d _ _ h; cases d <;> exact h) (by intro _ _ d _ _ h; cases d <;> exact h) ?_
    simp only [pick, List.getElem?_cons_zero, Option.toList_some, List.cons_append, List.nil_append]
    repeat (first | go_big_quiet_skip | (go_big_quiet_want; refine quiet_N _ rfl h1.drew rfl ?_; simp only [Act.put, List.setIfInBounds_toArray, List.set_cons_succ, List.set_cons_zero]; go_big_quiet_on) | (go_big_quiet_step (fail)))
    refine wpQuiet_nil ?_
    refine ⟨?mk, ?_⟩
    case mk =>
      refine ⟨fun o ho => ?_, trivial⟩
      simp only [List.getElem?_cons_succ, List.getElem?_cons_zero, Option.some.injEq] at ho
      subst ho
      refine ⟨rfl, fun W => ?_⟩
      unfold execOp
      simp [go_sem]
    simp only [wpPartsM, pick, List.getElem?_cons_succ, List.getElem?_cons_zero, Option.toList_some, List.cons_append, List.nil_append]
    refine wpQuiet_nil ?_
    intro w2 hl2
    go_wp2_with fail
    (with_reducible refine (prime_any _).mono ?_); rintro e w3 ⟨rfl, hl3⟩
    go_wp2_with fail
    try refine ⟨by first | assumption | exact later_drew _ | exact later_alloc _ _ | exact Later.refl _, ?_⟩
    try simp only [wpParts, pick, List.getElem?_cons_succ, List.getElem?_cons_zero, Option.toList_some, List.cons_append, List.nil_append]
    repeat (go_big_quiet_step (fail))
    refine wpQuiet_nil ?_
    intro w3' hl3'
    go_wp2_with fail
    (with_reducible refine (HMIN.out _).mono ?_); rintro e w4 ⟨rfl, hl4⟩
    obtain ⟨X, hX⟩ : ∃ X : Bool, X = ((if m < P25 then 1 else 0) == 1) := ⟨_, rfl⟩
    rw [← hX]
    have HX := hid hX
    clear hX
    go_wp2_with fail
    try refine ⟨by first | assumption | exact later_drew _ | exact later_alloc _ _ | exact Later.refl _, ?_⟩
    try simp only [wpParts, pick, List.getElem?_cons_succ, List.getElem?_cons_zero, Option.toList_some, List.cons_append, List.nil_append]
    repeat (go_big_quiet_step (fail))
    refine wpQuiet_nil ?_
    intro w6 g6 hl6 hg6 _ hb6
    refine wpQuiet_nil ?_
    intro w7 hl7
    have Lr : Later wr w7 := (((((later_drew _).trans hl2).trans hl3).trans hl3').trans hl4).trans (hl6.trans hl7)
    have hB : Blk w7 g6 97 (List.replicate 8 (Value.int .u32 0)) := Blk.later hb6 hl7
    have hA := h1.later Lr
    have hR := h2.later Lr
    have L7 := L.trans Lr
    have hlt1 := h1.lt
    have hlt2 := h2.lt
    have hgg := h1.lt
    clear h2 hl2 hl3 hl3' hl4 hl6 hl7 hb6 Lr
    rcases Nat.lt_or_ge m P25 with hmp | hmp
    · obtain rfl : X = true := by rw [HX.out, if_pos hmp]; rfl
      have hmn := HM.out
      rw [Nat.mod_eq_of_lt hmp] at hmn
      have HN := hid hmn
      clear hmn
      go_wp2_with (first
        | (refine store_N rfl rfl _ _ rfl hB rfl rfl rfl ?_; intro w8 hb8 ho8
           have hA8 := hA.only ho8 (by omega)
           have hR8 := hR.only ho8 (by omega)
           have L8 := L7.only ho8 (by omega))
        | (refine load_N rfl _ rfl hA8 rfl ?_)
        | (refine store_N rfl rfl _ _ rfl hR8 rfl rfl rfl ?_; intro w9 hb9 ho9)
        | fail)
      exact bodyPost_ret (ret_N rfl hb9 rfl) rfl ⟨by rw [← HN.out], L8.only ho9 (by omega)⟩
    · obtain rfl : X = false := by rw [HX.out, if_neg (by omega)]; rfl
      have hs1 : NL (m + T256 - P25) = NL (m - P25) := NL_cong (by unfold T256 P25 at *; omega)
      have HS := hid hs1
      clear hs1
      go_wp2_with (first
        | (refine store_N rfl rfl _ _ rfl hB rfl rfl rfl ?_; intro w8 hb8 ho8
           have hA8 := hA.only ho8 (by omega)
           have hR8 := hR.only ho8 (by omega)
           have L8 := L7.only ho8 (by omega))
        | (refine load_N rfl _ rfl hb8 rfl ?_)
        | (refine store_N rfl rfl _ _ rfl hA8 rfl rfl (NL_length _) ?_; intro w9 hb9 ho9)
        | fail)
      go_roundw
      case rel =>
        rw [HS.out] at hb9
        exact ⟨_, _, _, _, _, _, _, _, _, _, _, ⟨m - P25, by omega, hid (by rw [← HM.out]; exact (Nat.mod_eq_sub_mod hmp).symm), hb9, hR8.only ho9 (by omega), L8.only ho9 (by omega)⟩, rfl⟩
      case measure =>
        rw [HS.out] at hb9
        have e1 := lies_N hb9 (by omega)
        have e2 := lies_N h1 hm
        have := P25_pos
        omega
end Go.Proofs.Ytallecbmnpcepaa
namespace Go.Proofs.Ytallecbmnpcepaa
open Go.RowKit

theorem digits_zero {B : Nat} (x : Nat) : ∀ k, (∀ j, j < k → x / B ^ j % B = 0) → x % B ^ k = 0
  | 0, _ => by simp [Nat.mod_one]
  | k + 1, h => by rw [mod_pow_succ, digits_zero x k (fun j hj => h j (by omega)), h k (by omega), Nat.mul_zero]
theorem lem_hi (n j : Nat) : lem n (8 + j) = lem (n / T256) j := by rw [lem, lem, ← B32_8, Nat.div_div_eq_div_mul, ← Nat.pow_add]
theorem lem_lo (n j : Nat) (h : j < 8) : lem n j = lem (n % T256) j := by
  rw [lem, lem, ← dig_getD B32 8 n j h, ← dig_getD B32 8 _ j h, ← B32_8, dig_mod]
theorem high_no (n : Nat) (hn : n < B32 ^ 17) (h : ∀ j, 8 ≤ j → j < 17 → lem n j = 0) : n < T256 := by
  have h9 : n / T256 < B32 ^ 9 := Nat.div_lt_of_lt_mul (by rw [← B32_8, ← Nat.pow_add]; exact hn)
  have := digits_zero (B := B32) (n / T256) 9 (fun j hj => by have := h (8 + j) (by omega) (by omega); rw [lem_hi] at this; exact this)
  rw [Nat.mod_eq_of_lt h9] at this
  have hd := Nat.div_add_mod n T256
  rw [this, Nat.mul_zero, Nat.zero_add] at hd
  rw [← hd]
  exact Nat.mod_lt _ (by decide)
theorem high_yes (n j : Nat) (h8 : 8 ≤ j) (h : lem n j ≠ 0) : ¬ n < T256 := by
  intro hn
  refine h ?_
  rw [lem, Nat.div_eq_of_lt, Nat.zero_mod]
  exact Nat.lt_of_lt_of_le hn (by rw [← B32_8]; exact Nat.pow_le_pow_right (by decide) h8)
theorem ret_bool {b c : Bool} (h : b = c) : Ending.returned (.bool b) = .returned (.bool c) := by rw [h]
set_option maxHeartbeats 1000000 in
theorem high_any (n : Nat) (hn : n < B32 ^ 17) (w : World) :
    Calls Try.prog 97 #[VV n] w fun e w' => e = .returned (.bool (!decide (n < T256))) ∧ Later w w' := by
  have HNo := hid (high_no n hn)
  have HYes := hid (high_yes n)
  clear hn
  go_enter Try.func97, Try.ntmps97
  go_wp2
  go_loopw [3] (fun i wr => ∃ k : Nat, 8 ≤ k ∧ k ≤ 17 ∧ i = .int .i64 k ∧ Hid (∀ j, 8 ≤ j → j < k → lem n j = 0) ∧ Blk wr w.heap.size 139 (VL n) ∧ Later w wr) (fun i _ => 17 - (intOf i).toNat)
  case atStart => exact ⟨8, by omega, by omega, rfl, hid (fun j h1 h2 => by omega), Blk.new _ _ _, later_alloc _ _⟩
  case round =>
    obtain ⟨k, hk8, hk, rfl, HZ, h1, L⟩ := hrel
    by_cases hlt : k < 17
    · have d0 := h1.cellD k (VL_get n k hlt)
      by_cases hz : lem n k = 0
      · have hd : decide (0 < lem n k) = false := by simp [hz]
        have HZ' := hid hz
        clear hz
        go_wp2
        go_roundw
        case rel =>
          refine ⟨k + 1, by omega, by omega, by go_num, hid (fun j h1 h2 => ?_), h1, L⟩
          by_cases hj : j = k
          · rw [hj]; exact HZ'.out
          · exact HZ.out j h1 (by omega)
        case measure => simp [intOf]; omega
      · have hd : decide (0 < lem n k) = true := by simp; omega
        have HR := hid (HYes.out k hk8 hz)
        clear hz
        go_wp2
        go_ret
        exact ⟨ret_bool (by simp only [HR.out, decide_false, Bool.not_false]), L⟩
    · have HR := hid (HNo.out (fun j h8 hj => HZ.out j h8 (by omega)))
      go_wp2
      go_ret
      exact ⟨ret_bool (by simp only [HR.out, decide_true, Bool.not_true]), L⟩
theorem VL_filled (S : Nat) (hS : S < B32 ^ 10) : filled (VL S) (List.replicate 17 (.int .u64 0)) 10 = VL S := by
  have hl := VL_length S
  apply List.ext_getElem (by rw [filled_length _ _ _ (by rw [hl]; rfl), hl]; rfl)
  intro i h1 h2
  rw [hl] at h2
  by_cases hi : i < 10
  · have e : (filled (VL S) (List.replicate 17 (.int .u64 0)) 10)[i]? = (VL S)[i]? := by
      rw [filled, List.getElem?_append_left (by rw [List.length_take, hl]; omega), List.getElem?_take, if_pos hi]
    rw [List.getElem?_eq_getElem h1, List.getElem?_eq_getElem (by rw [hl]; exact h2)] at e
    exact Option.some.inj e
  · have e := filled_old (VL S) (List.replicate 17 (.int .u64 0)) 10 i (by rw [hl]; rfl) (by omega) (by simpa using h2)
    rw [List.getElem?_eq_getElem h1, List.getElem?_replicate, if_pos h2] at e
    rw [Option.some.inj e, VL_at, lem, Nat.div_eq_of_lt, Nat.zero_mod]
    · rfl
    · exact Nat.lt_of_lt_of_le hS (Nat.pow_le_pow_right (by decide) (by omega))
theorem fold_math (m : Nat) (h : T256 ≤ m) : 38 * (m / T256) + m % T256 < m ∧ (38 * (m / T256) + m % T256) % P25 = m % P25 := by
  unfold T256 P25 at *
  omega
set_option maxRecDepth 100000 in
set_option maxHeartbeats 2000000 in
theorem folded_any (n : Nat) (hn : n < B32 ^ 17) (w : World) :
    Calls Try.prog 81 #[VV n] w fun e w' => e = .returned (NN (n % P25)) ∧ Later w w' := by
  go_enter Try.func81, Try.ntmps81
  go_wp2
  go_loopw [] (fun wr => ∃ m : Nat, m < B32 ^ 17 ∧ Hid (m % P25 = n % P25) ∧ Blk wr w.heap.size 139 (VL m) ∧ Blk wr (w.heap.size + 1) 97 (List.replicate 8 (.int .u32 0)) ∧ Later w wr) (fun wr => lies B32 17 w.heap.size wr)
  case atStart => exact ⟨n, hn, hid rfl, (Blk.new _ _ _).later (later_alloc _ _), Blk.new' _ _ (List.replicate 8 (Value.int .u32 0)) (by simp), (later_alloc _ _).trans (later_alloc _ _)⟩
  case round =>
    obtain ⟨m, hm, HM, h1, h2, L⟩ := hrel
    have hhi := hid (high_any m hm)
    rcases Nat.lt_or_ge m T256 with hlt | hge
    · have hb : (!decide (m < T256)) = false := by simpa using hlt
      rw [hb] at hhi
      clear hb
      go_wp2_with (first
        | (refine load_V rfl _ rfl h1 rfl ?_)
        | (go_at_call 97; (with_reducible refine (hhi.out _).mono ?_); rintro e w2 ⟨rfl, hl2⟩
           have h12 := h1.later hl2
           have h22 := h2.later hl2
           have L2 := L.trans hl2
           clear hhi)
        | fail)
      have hlS := NL_length m
      have hlz := h12.lt
      have hlz2 := h22.lt
      go_loopw [7] (fun i wx => ∃ k : Nat, k ≤ 8 ∧ i = .int .i64 k ∧ Blk wx w.heap.size 139 (VL m) ∧ Blk wx (w.heap.size + 1) 97 (List.replicate 8 (.int .u32 0)) ∧ Blk wx w2.heap.size 97 (filled (NL m) (List.replicate 8 (.int .u32 0)) k) ∧ Later w wx) (fun i _ => 8 - (intOf i).toNat)
      case atStart => exact ⟨0, by omega, rfl, h12.later (later_alloc _ _), h22.later (later_alloc _ _), by rw [filled_zero]; exact Blk.new _ _ (List.replicate 8 (Value.int .u32 0)), L2.trans (later_alloc _ _)⟩
      case round =>
        clear h12 h22 L2
        obtain ⟨k, hk, rfl, h3, h4, h5, L3⟩ := hrel
        by_cases hk8 : k < 8
        · have d0 := h3.cellD k (VL_get m k (by omega))
          go_wp2_with (first
            | (refine wpList_store_in rfl rfl _ _ _ rfl _ _ _ _ h5 rfl ?hl rfl (by kernel_rfl) ?_; (case hl => rw [filled_length _ _ _ (by rw [hlS]; rfl)]; simp; omega); intro v w6 hv hb6 ho6; simp [go_sem] at hv; subst hv))
          go_roundw
          case rel =>
            rw [filled_step _ _ _ _ (by rw [hlS]; rfl) (by simp; omega) (NL_get _ _ (by omega))] at hb6
            exact ⟨k + 1, by omega, by go_num, h3.only ho6 (by omega), h4.only ho6 (by omega), hb6, L3.only ho6 (by have := L.size; omega)⟩
          case measure => simp [intOf]; omega
        · rw [show k = 8 by omega, filled_all _ _ _ hlS rfl] at h5
          have hkf : decide ((k : Int) < 8) = false := by simp; omega
          go_wp2_with (first
            | (refine load_N rfl _ rfl h5 rfl ?_)
            | (go_at_call 58; (with_reducible refine (norm_ref m hlt _).mono ?_); rintro e w7 ⟨rfl, hl7⟩)
            | (refine store_N rfl rfl _ _ rfl (h4.later hl7) rfl rfl rfl ?_; intro w9 hb9 ho9)
            | fail)
          exact bodyPost_ret (ret_N rfl hb9 rfl) rfl ⟨by rw [HM.out], (L3.trans hl7).only ho9 (by omega)⟩
    · have hb : (!decide (m < T256)) = true := by simpa using hge
      rw [hb] at hhi
      clear hb
      obtain ⟨hf1, hf2⟩ := fold_math m hge
      have hh9 : m / T256 < B32 ^ 9 := Nat.div_lt_of_lt_mul (by rw [← B32_8, ← Nat.pow_add]; exact hm)
      have hhl := fun j => lem_hi m j
      have hll := fun j h => lem_lo m j h
      have hlm := Nat.mod_lt m (show 0 < T256 by decide)
      have hS10 : 38 * (m / T256) + m % T256 < B32 ^ 10 := by
        have e1 : B32 ^ 10 = 4294967296 * (4294967296 * T256) := by decide
        have e2 : B32 ^ 9 = 4294967296 * T256 := by decide
        rw [e2] at hh9
        rw [e1]
        omega
      have hd10 : (38 * (m / T256) + m % T256) / B32 ^ 9 < B32 := Nat.div_lt_of_lt_mul (by rw [← Nat.pow_succ]; exact hS10)
      have hdd : lem (38 * (m / T256) + m % T256) 9 = (38 * (m / T256) + m % T256) / B32 ^ 9 := Nat.mod_eq_of_lt hd10
      have hmE : mcar B32 38 (m / T256) (m % T256) 9 = (38 * (m / T256) + m % T256) / B32 ^ 9 := by
        rw [mcar, Nat.mod_eq_of_lt hh9, Nat.mod_eq_of_lt (Nat.lt_trans hlm (by decide))]
      rw [← hmE] at hdd
      have HDD := hid hdd
      have HF2 := hid (hf2.trans HM.out)
      have HF1 := hid hf1
      have HVF := hid (VL_filled _ hS10)
      have HHL := hid hhl
      have HLL := hid hll
      have HS17 := hid (Nat.lt_of_lt_of_le hS10 (show B32 ^ 10 ≤ B32 ^ 17 from Nat.pow_le_pow_right (by decide) (by omega)))
      have hz8 : lem (m % T256) 8 = 0 := by rw [lem, Nat.div_eq_of_lt (by rw [B32_8]; exact hlm), Nat.zero_mod]
      have HZ8 := hid hz8
      clear hdd hmE hd10 hf1 hf2 hhl hll hS10 hz8 hh9 hlm
      generalize m / T256 = H at *
      generalize m % T256 = Lo at *
      have hlS := VL_length (38 * H + Lo)
      go_wp2_with (first
        | (refine load_V rfl _ rfl h1 rfl ?_)
        | (go_at_call 97; (with_reducible refine (hhi.out _).mono ?_); rintro e w2 ⟨rfl, hl2⟩
           have h12 := (h1.later hl2).later (later_alloc _ (.cells (List.replicate 17 (.int .u64 0)).toArray 139))
           have h22 := (h2.later hl2).later (later_alloc _ (.cells (List.replicate 17 (.int .u64 0)).toArray 139))
           have L2 := (L.trans hl2).trans (later_alloc _ (.cells (List.replicate 17 (.int .u64 0)).toArray 139))
           have hz1 := (h1.later hl2).lt
           have hz2 := (h2.later hl2).lt
           clear hhi)
        | fail)
      go_loopw [4, 5] (fun c i wx => ∃ k : Nat, k ≤ 9 ∧ i = .int .i64 k ∧ c = n64 (mcar B32 38 H Lo k) ∧ Blk wx w.heap.size 139 (VL m) ∧ Blk wx (w.heap.size + 1) 97 (List.replicate 8 (.int .u32 0)) ∧ Blk wx w2.heap.size 139 (filled (VL (38 * H + Lo)) (List.replicate 17 (.int .u64 0)) k) ∧ Later w wx) (fun _ i _ => 9 - (intOf i).toNat)
      case atStart => exact ⟨0, by omega, rfl, by rw [mcar_zero]; rfl, h12, h22, by rw [filled_zero]; exact Blk.new _ _ (List.replicate 17 (Value.int .u64 0)), L2⟩
      case round =>
        clear h12 h22 L2
        obtain ⟨k, hk, rfl, rfl, h3, h4, h5, L3⟩ := hrel
        by_cases hk9 : k < 9
        · have hc := mcar_lt (show 38 < B32 by decide) H Lo k
          have S0 := hid (mdig B32_pos 38 H Lo k)
          have S1 := hid (mcar_succ B32_pos 38 H Lo k)
          have d1 := h3.cellD (k + 8) (VL_get m (k + 8) (by omega))
          rw [Nat.add_comm k 8, HHL.out k, Nat.add_comm 8 k] at d1
          have hlH : lem H k < B32 := Nat.mod_lt _ B32_pos
          have hlL : lem Lo k < B32 := Nat.mod_lt _ B32_pos
          change Hid ((38 * lem H k + lem Lo k + mcar B32 38 H Lo k) % B32 = lem (38 * H + Lo) k) at S0
          change Hid ((38 * lem H k + lem Lo k + mcar B32 38 H Lo k) / B32 = _) at S1
          by_cases hk8 : k < 8
          · have d0 := h3.cellD k (VL_get m k (by omega))
            rw [HLL.out k hk8] at d0
            generalize mcar B32 38 H Lo k = c at *
            have hsm : (c + lem Lo k + 38 * lem H k < B64) = True := eq_true (by unfold B64; unfold B32 at *; omega)
            have E0 := hid (show (c + lem Lo k + 38 * lem H k) % 4294967296 = lem (38 * H + Lo) k by rw [← S0.out]; unfold B32; congr 1; omega)
            have E1 := hid (show (c + lem Lo k + 38 * lem H k) / 4294967296 = mcar B32 38 H Lo (k + 1) by rw [← S1.out]; unfold B32; congr 1; omega)
            go_wp2_with (first
              | (refine wpList_store_in rfl rfl _ _ _ rfl _ _ _ _ h5 rfl ?hl rfl (by kernel_rfl) ?_; (case hl => rw [filled_length _ _ _ (by rw [hlS]; rfl)]; simp; omega); intro v w6 hv hb6 ho6; simp [go_sem] at hv; subst hv))
            go_roundw
            case rel =>
              rw [E0.out, filled_step _ _ _ _ (by rw [hlS]; rfl) (by simp; omega) (VL_get _ _ (by omega))] at hb6
              exact ⟨k + 1, by omega, by go_num, by rw [E1.out], h3.only ho6 (by omega), h4.only ho6 (by omega), hb6, L3.only ho6 (by have := L.size; omega)⟩
            case measure => simp [intOf]; omega
          · have hk8e : lem Lo k = 0 := by rw [show k = 8 by omega]; exact HZ8.out
            have HKE := hid hk8e
            clear hk8e
            generalize mcar B32 38 H Lo k = c at *
            have hsm : (c + 38 * lem H k < B64) = True := eq_true (by unfold B64; unfold B32 at *; omega)
            have E0 := hid (show (c + 38 * lem H k) % 4294967296 = lem (38 * H + Lo) k by rw [← S0.out, HKE.out]; unfold B32; congr 1; omega)
            have E1 := hid (show (c + 38 * lem H k) / 4294967296 = mcar B32 38 H Lo (k + 1) by rw [← S1.out, HKE.out]; unfold B32; congr 1; omega)
            go_wp2_with (first
              | (refine wpList_store_in rfl rfl _ _ _ rfl _ _ _ _ h5 rfl ?hl rfl (by kernel_rfl) ?_; (case hl => rw [filled_length _ _ _ (by rw [hlS]; rfl)]; simp; omega); intro v w6 hv hb6 ho6; simp [go_sem] at hv; subst hv))
            go_roundw
            case rel =>
              rw [E0.out, filled_step _ _ _ _ (by rw [hlS]; rfl) (by simp; omega) (VL_get _ _ (by omega))] at hb6
              exact ⟨k + 1, by omega, by go_num, by rw [E1.out], h3.only ho6 (by omega), h4.only ho6 (by omega), hb6, L3.only ho6 (by have := L.size; omega)⟩
            case measure => simp [intOf]; omega
        · rw [show k = 9 by omega] at h5
          have hkf : decide ((k : Int) < 9) = false := by simp; omega
          have HC9 := hid (show n64 (mcar B32 38 H Lo k) = n64 (lem (38 * H + Lo) 9) by rw [show k = 9 by omega, HDD.out])
          go_wp2_with (first
            | (refine wpList_store_in rfl rfl _ _ _ rfl _ _ _ _ h5 rfl ?hl rfl (by kernel_rfl) ?_; (case hl => rw [filled_length _ _ _ (by rw [hlS]; rfl)]; simp); intro v w6 hv hb6 ho6; simp [go_sem] at hv; subst hv
               rw [HC9.out, filled_step _ _ _ _ (by rw [hlS]; rfl) (by simp) (VL_get _ 9 (by omega)), HVF.out] at hb6
               have h36 := h3.only ho6 (by omega))
            | (refine load_V rfl _ rfl hb6 rfl ?_)
            | (refine store_V rfl rfl _ _ rfl h36 rfl rfl (VL_length _) ?_; intro w7 hb7 ho7)
            | fail)
          go_roundw
          case rel =>
            repeat apply Exists.intro
            exact ⟨⟨38 * H + Lo, HS17.out, hid HF2.out, hb7, (h4.only ho6 (by omega)).only ho7 (by omega), (L3.only ho6 (by have := L.size; omega)).only ho7 (by omega)⟩, rfl⟩
          case measure =>
            have e1 := lies_V hb7 HS17.out
            have e2 := lies_V h1 hm
            have := HF1.out
            omega
end Go.Proofs.Ytallecbmnpcepaa
namespace Go.Proofs.Ytallecbmnpcepaa
open Go.RowKit

theorem VL_filled' (S k : Nat) (hk : k ≤ 17) (hS : S < B32 ^ k) : filled (VL S) (List.replicate 17 (.int .u64 0)) k = VL S := by
  have hl := VL_length S
  apply List.ext_getElem (by rw [filled_length _ _ _ (by rw [hl]; rfl), hl]; rfl)
  intro i h1 h2
  rw [hl] at h2
  by_cases hi : i < k
  · have e : (filled (VL S) (List.replicate 17 (.int .u64 0)) k)[i]? = (VL S)[i]? := by
      rw [filled, List.getElem?_append_left (by rw [List.length_take, hl]; omega), List.getElem?_take, if_pos hi]
    rw [List.getElem?_eq_getElem h1, List.getElem?_eq_getElem (by rw [hl]; exact h2)] at e
    exact Option.some.inj e
  · have e := filled_old (VL S) (List.replicate 17 (.int .u64 0)) k i (by rw [hl]; rfl) (by omega) (by simpa using h2)
    rw [List.getElem?_eq_getElem h1, List.getElem?_replicate, if_pos h2] at e
    rw [Option.some.inj e, VL_at, lem, Nat.div_eq_of_lt, Nat.zero_mod]
    · rfl
    · exact Nat.lt_of_lt_of_le hS (Nat.pow_le_pow_right (by decide) (by omega))
set_option maxRecDepth 100000 in
set_option maxHeartbeats 2000000 in
theorem add_ref (a b : Nat) (ha : a < T256) (hb : b < T256) (w : World) :
    Calls Try.prog 61 #[NN a, NN b] w fun e w' => e = .returned (NN ((a + b) % P25)) ∧ Later w w' := by
  have hS9 : a + b < B32 ^ 9 := by
    have : B32 ^ 9 = 4294967296 * T256 := by decide
    rw [this]
    omega
  have HVF := hid (VL_filled' (a + b) 9 (by omega) hS9)
  have hlS := VL_length (a + b)
  have h8 : carr B32 a b 0 8 = lem (a + b) 8 := by
    rw [carr_end _ _ _ _ (by rw [B32_8]; exact ha) (by rw [B32_8]; exact hb), lem, Nat.mod_eq_of_lt, Nat.add_zero]
    exact Nat.div_lt_of_lt_mul (by rw [← Nat.pow_succ]; exact hS9)
  have HC8 := hid h8
  have HF := hid (folded_any (a + b) (Nat.lt_of_lt_of_le hS9 (Nat.pow_le_pow_right (by decide) (by omega))))
  clear h8 hS9
  go_enter Try.func61, Try.ntmps61
  go_wp2
  go_loopw [6, 7] (fun c i wr => ∃ k : Nat, k ≤ 8 ∧ i = .int .i64 k ∧ c = n64 (carr B32 a b 0 k) ∧ Blk wr w.heap.size 97 (NL a) ∧ Blk wr (w.heap.size + 1) 97 (NL b) ∧ Blk wr (w.heap.size + 1 + 1) 97 (List.replicate 8 (.int .u32 0)) ∧ Blk wr (w.heap.size + 1 + 1 + 1) 139 (filled (VL (a + b)) (List.replicate 17 (.int .u64 0)) k) ∧ Later w wr) (fun _ i _ => 8 - (intOf i).toNat)
  case atStart => exact ⟨0, by omega, rfl, by rw [carr_zero]; rfl, (((Blk.new _ _ _).later (later_alloc _ _)).later (later_alloc _ _)).later (later_alloc _ _), ((Blk.new' _ _ (NL b) (by simp)).later (later_alloc _ _)).later (later_alloc _ _), (Blk.new' _ _ (List.replicate 8 (Value.int .u32 0)) (by simp)).later (later_alloc _ _), by rw [filled_zero]; exact Blk.new' _ _ (List.replicate 17 (Value.int .u64 0)) (by simp), (((later_alloc _ _).trans (later_alloc _ _)).trans (later_alloc _ _)).trans (later_alloc _ _)⟩
  case round =>
    obtain ⟨k, hk4, rfl, rfl, h1, h2, h3, h4, L⟩ := hrel
    by_cases hlt : k < 8
    · have d0 := h1.cellD k (NL_get a _ (by omega))
      have d1 := h2.cellD k (NL_get b _ (by omega))
      have hc := carr_le B32_pos a b 0 k (by omega)
      have S0 := hid (sum_dig B32_pos a b 0 k)
      have S1 := hid (carr_succ B32_pos a b 0 k)
      have hx : lem a k < B32 := Nat.mod_lt _ B32_pos
      have hy : lem b k < B32 := Nat.mod_lt _ B32_pos
      change Hid ((lem a k + lem b k + carr B32 a b 0 k) % B32 = lem (a + b) k) at S0
      change Hid ((lem a k + lem b k + carr B32 a b 0 k) / B32 = carr B32 a b 0 (k + 1)) at S1
      generalize carr B32 a b 0 k = c at *
      have hsm : (c + lem a k + lem b k < B64) = True := eq_true (by unfold B64; unfold B32 at *; omega)
      have E0 := hid (show (c + lem a k + lem b k) % 4294967296 = lem (a + b) k by rw [← S0.out]; unfold B32; congr 1; omega)
      have E1 := hid (show (c + lem a k + lem b k) / 4294967296 = carr B32 a b 0 (k + 1) by rw [← S1.out]; unfold B32; congr 1; omega)
      go_wp2_with fail
      refine wp_region_parts [] [0, 1, 2, 3, 4, 5, 6, 7, 8, 9, 10, 11] [] (by as_aux_lemma => kernel_rfl) (by as_aux_lemma => kernel_rfl) (by intro _ _ d _ _ h; cases d <;> exact h) ?_
      simp only [wpParts, pick, List.getElem?_cons_succ, List.getElem?_cons_zero, Option.toList_some, List.cons_append, List.nil_append]
      repeat (go_big_quiet_step (fail))
      refine wpQuiet_nil ?_
      go_wp2_with (first
        | (refine wpList_store_in rfl rfl _ _ _ rfl _ _ _ _ h4.drew rfl ?hl rfl (by kernel_rfl) ?_; (case hl => rw [filled_length _ _ _ (by rw [hlS]; rfl)]; simp; omega); intro v w6 hv hb6 ho6; simp [go_sem] at hv; subst hv)
        | fail)
      go_roundw
      case rel =>
        rw [E0.out, filled_step _ _ _ _ (by rw [hlS]; rfl) (by simp; omega) (VL_get _ _ (by omega))] at hb6
        exact ⟨k + 1, by omega, by go_num, by rw [E1.out], h1.drew.only ho6 (by omega), h2.drew.only ho6 (by omega), h3.drew.only ho6 (by omega), hb6, (L.trans (later_drew _)).only ho6 (by omega)⟩
      case measure => simp [intOf]; omega
    · rw [show k = 8 by omega] at h4
      have hkf : decide ((k : Int) < 8) = false := by simp; omega
      have HC9 := hid (show n64 (carr B32 a b 0 k) = n64 (lem (a + b) 8) by rw [show k = 8 by omega, HC8.out])
      go_wp2_with (first
        | (refine wpList_store_in rfl rfl _ _ _ rfl _ _ _ _ h4 rfl ?hl rfl (by kernel_rfl) ?_; (case hl => rw [filled_length _ _ _ (by rw [hlS]; rfl)]; simp); intro v w6 hv hb6 ho6; simp [go_sem] at hv; subst hv
           rw [HC9.out, filled_step _ _ _ _ (by rw [hlS]; rfl) (by simp) (VL_get _ 8 (by omega)), HVF.out] at hb6
           have h36 := h3.only ho6 (by omega)
           have L6 := L.only ho6 (by omega))
        | (refine load_V rfl _ rfl hb6 rfl ?_)
        | (go_at_call 81; (with_reducible refine (HF.out _).mono ?_); rintro e w7 ⟨rfl, hl7⟩)
        | (refine store_N rfl rfl _ _ rfl (h36.later hl7) rfl rfl rfl ?_; intro w9 hb9 ho9)
        | fail)
      exact bodyPost_ret (ret_N rfl hb9 rfl) rfl ⟨rfl, (L6.trans hl7).only ho9 (by omega)⟩
theorem prod_dig {B : Nat} (hB : 0 < B) (a b k n : Nat) (ha : a < B ^ k) (hb : b < B ^ k) (hn : k + k ≤ n) : prodAt B (dig B k a) (dig B k b) n k = dig B n (a * b) := by
  have hl := prodAt_length B (dig B k a) (dig B k b) n k
  have hlt := prodAt_lt hB (dig B k a) (dig B k b) n (dig_lt hB k a) (dig_lt hB k b) k
  have hv := prodAt_val (B := B) (dig B k a) (dig B k b) n k (by rw [dig_length]; omega) (by rw [dig_length]; omega)
  rw [List.take_of_length_le (by rw [dig_length]; omega), val_dig, val_dig, Nat.mod_eq_of_lt ha, Nat.mod_eq_of_lt hb] at hv
  have := dig_val _ hlt
  rw [hl, hv] at this
  exact this.symm
set_option maxRecDepth 100000 in
set_option maxHeartbeats 4000000 in
theorem mul_ref (a b : Nat) (ha : a < T256) (hb : b < T256) (w : World) :
    Calls Try.prog 63 #[NN a, NN b] w fun e w' => e = .returned (NN (a * b % P25)) ∧ Later w w' := by
  have hab : a * b < B32 ^ 17 := by
    have h1 : a * b ≤ (T256 - 1) * (T256 - 1) := Nat.mul_le_mul (by omega) (by omega)
    exact Nat.lt_of_le_of_lt h1 (by decide)
  have HF := hid (folded_any (a * b) hab)
  have HP := hid (show (prodAt B32 (dig B32 8 a) (dig B32 8 b) 17 8).map n64 = VL (a * b) by rw [prod_dig B32_pos a b 8 17 (by rw [B32_8]; exact ha) (by rw [B32_8]; exact hb) (by omega)]; rfl)
  clear hab
  have hla := fun i (h : i < 8) => dig_getD B32 8 a i h
  have hlb := fun i (h : i < 8) => dig_getD B32 8 b i h
  have hal := dig_lt B32_pos 8 a
  have hbl := dig_lt B32_pos 8 b
  have hBl := dig_length B32 8 b
  generalize hdA : dig B32 8 a = dA at *
  generalize hdB : dig B32 8 b = dB at *
  have HLA := hid hla
  have HLB := hid hlb
  have HBl := hid hBl
  clear hdA hdB hla hlb hBl
  go_enter Try.func63, Try.ntmps63
  go_wp2
  go_loopw [6] (fun i wr => ∃ k : Nat, k ≤ 8 ∧ i = .int .i64 k ∧ Blk wr w.heap.size 97 (NL a) ∧ Blk wr (w.heap.size + 1) 97 (NL b) ∧ Blk wr (w.heap.size + 1 + 1) 97 (List.replicate 8 (.int .u32 0)) ∧ Blk wr (w.heap.size + 1 + 1 + 1) 139 ((prodAt B32 dA dB 17 k).map n64) ∧ Later w wr) (fun i _ => 8 - (intOf i).toNat)
  case atStart => exact ⟨0, by omega, rfl, (((Blk.new _ _ _).later (later_alloc _ _)).later (later_alloc _ _)).later (later_alloc _ _), ((Blk.new' _ _ (NL b) (by simp)).later (later_alloc _ _)).later (later_alloc _ _), (Blk.new' _ _ (List.replicate 8 (Value.int .u32 0)) (by simp)).later (later_alloc _ _), Blk.new' _ _ (List.replicate 17 (Value.int .u64 0)) (by simp), (((later_alloc _ _).trans (later_alloc _ _)).trans (later_alloc _ _)).trans (later_alloc _ _)⟩
  case round =>
    obtain ⟨k, hk4, rfl, h1, h2, h3, h4, L⟩ := hrel
    by_cases hlt : k < 8
    · have hpl := prodAt_length B32 dA dB 17 k
      have hpt := prodAt_lt B32_pos dA dB 17 hal hbl k
      have HS := hid (prodAt_next B32 dA dB 17 k (lem a k) 8 (HLA.out k hlt) HBl.out)
      generalize prodAt B32 dA dB 17 k = ws at *
      have HPL := hid hpl
      clear hpl
      have hkb : decide ((k : Int) < 8) = true := by simp; omega
      go_wp2
      go_loopw [7, 8] (fun c i wr => ∃ j : Nat, j ≤ 8 ∧ i = .int .i64 j ∧ c = n64 (rowAt B32 (lem a k) dB ws k j).2 ∧ Blk wr w.heap.size 97 (NL a) ∧ Blk wr (w.heap.size + 1) 97 (NL b) ∧ Blk wr (w.heap.size + 1 + 1) 97 (List.replicate 8 (.int .u32 0)) ∧ Blk wr (w.heap.size + 1 + 1 + 1) 139 ((rowAt B32 (lem a k) dB ws k j).1.map n64) ∧ Later w wr) (fun _ i _ => 8 - (intOf i).toNat)
      case atStart => exact ⟨0, by omega, rfl, rfl, h1, h2, h3, h4, L⟩
      case round =>
        clear h1 h2 h3 h4 L
        obtain ⟨j, hj4, rfl, rfl, h1, h2, h3, h4, L⟩ := hrel
        have hrl := rowAt_length B32 (lem a k) dB ws k j
        obtain ⟨hrt, hct⟩ := rowAt_lt (B := B32) (lem a k) dB ws k (Nat.mod_lt _ B32_pos) hbl hpt j
        by_cases hlj : j < 8
        · have da := h1.cellD k (NL_get a k hlt)
          have db := h2.cellD j (NL_get b j hlj)
          have dw := h4.cellD (k + j) (get_n64 _ _ (by rw [hrl, HPL.out]; omega))
          have hwl := getD_lt B32_pos hrt (k + j)
          have HR := hid (rowAt_next B32 (lem a k) dB ws k j (lem b j) (HLB.out j hlj))
          generalize (rowAt B32 (lem a k) dB ws k j).2 = c at *
          generalize (rowAt B32 (lem a k) dB ws k j).1.getD (k + j) 0 = v at *
          generalize (rowAt B32 (lem a k) dB ws k j).1 = vs at *
          have HRL := hid hrl
          clear hrl
          have hkj : IntKind.i64.wrap ((k : Int) + (j : Int)) = ((k + j : Nat) : Int) := by rw [IntKind.wrap_i64]; omega
          have hmul : lem a k * lem b j ≤ 4294967295 * 4294967295 := Nat.mul_le_mul (Nat.le_of_lt_succ (Nat.mod_lt _ B32_pos)) (Nat.le_of_lt_succ (Nat.mod_lt _ B32_pos))
          have hsm : (c + v + lem a k * lem b j < B64) = True := eq_true (by unfold B64; unfold B32 at *; omega)
          have HE : (c + v + lem a k * lem b j) = lem a k * lem b j + v + c := by omega
          have E0 := hid (show (c + v + lem a k * lem b j) % 4294967296 = (lem a k * lem b j + v + c) % B32 by rw [HE]; rfl)
          have E1 := hid (show (c + v + lem a k * lem b j) / 4294967296 = (lem a k * lem b j + v + c) / B32 by rw [HE]; rfl)
          clear HE hmul
          go_wp2_with fail
          refine wp_region_parts [] [0, 1, 2, 3, 4, 5, 6, 7, 8, 9, 10, 11, 12, 13, 14, 15, 16, 17] [] (by as_aux_lemma => kernel_rfl) (by as_aux_lemma => kernel_rfl) (by intro _ _ d _ _ h; cases d <;> exact h) ?_
          simp only [wpParts, pick, List.getElem?_cons_succ, List.getElem?_cons_zero, Option.toList_some, List.cons_append, List.nil_append]
          repeat (go_big_quiet_step (fail))
          refine wpQuiet_nil ?_
          go_wp2_with (first
            | (refine wpList_store_in rfl rfl _ _ _ rfl _ _ _ _ h4.drew rfl ?hl rfl (by kernel_rfl) ?_; (case hl => rw [List.length_map, HRL.out, HPL.out]; omega); intro v w2 hv hb2 ho2; simp [go_sem] at hv; subst hv)
            | fail)
          go_roundw
          case rel =>
            rw [set_n64, E0.out] at hb2
            exact ⟨j + 1, by omega, by go_num, by rw [HR.out, E1.out], h1.drew.only ho2 (by omega), h2.drew.only ho2 (by omega), h3.drew.only ho2 (by omega), by rw [HR.out]; exact hb2, (L.trans (later_drew _)).only ho2 (by omega)⟩
          case measure => simp [intOf]; omega
        · obtain rfl : j = 8 := by omega
          generalize hc4 : (rowAt B32 (lem a k) dB ws k 8).2 = c at *
          generalize hv4 : (rowAt B32 (lem a k) dB ws k 8).1 = vs at *
          have HRL := hid hrl
          have HC4 := hid hc4
          have HV4 := hid hv4
          clear hrl hc4 hv4
          have hk8 : IntKind.i64.wrap ((k : Int) + 8) = ((k + 8 : Nat) : Int) := by rw [IntKind.wrap_i64]; omega
          go_wp2_with (first
            | (refine wpList_store_in rfl rfl _ _ _ rfl _ _ _ _ h4 rfl ?hl rfl (by kernel_rfl) ?_; (case hl => rw [List.length_map, HRL.out, HPL.out]; omega); intro v w2 hv hb2 ho2; simp [go_sem] at hv; subst hv)
            | fail)
          go_roundw
          case rel =>
            rw [set_n64] at hb2
            exact ⟨k + 1, by omega, by go_num, h1.only ho2 (by omega), h2.only ho2 (by omega), h3.only ho2 (by omega), by rw [HS.out]; exact hb2, L.only ho2 (by omega)⟩
          case measure => simp [intOf]; omega
    · rw [show k = 8 by omega, HP.out] at h4
      have hkf : decide ((k : Int) < 8) = false := by simp; omega
      go_wp2_with (first
        | (refine load_V rfl _ rfl h4 rfl ?_)
        | (go_at_call 81; (with_reducible refine (HF.out _).mono ?_); rintro e w7 ⟨rfl, hl7⟩)
        | (refine store_N rfl rfl _ _ rfl (h3.later hl7) rfl rfl rfl ?_; intro w9 hb9 ho9)
        | fail)
      exact bodyPost_ret (ret_N rfl hb9 rfl) rfl ⟨rfl, (L.trans hl7).only ho9 (by omega)⟩
end Go.Proofs.Ytallecbmnpcepaa
namespace Go.Proofs.Ytallecbmnpcepaa
open Go.RowKit

theorem minus_38 (a : Nat) (w : World) :
    Calls Try.prog 78 #[NN a, NN 38] w fun e w' => e = .returned (.tuple #[NN (a + T256 - 38), .bool (owed B32 a 38 8 == 1)]) ∧ Later w w' := minus_any a 38 (by decide) w
set_option maxRecDepth 100000 in
set_option maxHeartbeats 2000000 in
theorem sub_ref (a b : Nat) (ha : a < T256) (hb : b < T256) (w : World) :
    Calls Try.prog 62 #[NN a, NN b] w fun e w' => e = .returned (NN ((a + (P25 - b % P25)) % P25)) ∧ Later w w' := by
  have h1 : Blk (((w.alloc (.cells (NL a).toArray 97)).alloc (.cells (NL b).toArray 97)).alloc (.cells (List.replicate 8 (.int .u32 0)).toArray 97)) w.heap.size 97 (NL a) := ((Blk.new _ _ _).later (later_alloc _ _)).later (later_alloc _ _)
  have h2 : Blk (((w.alloc (.cells (NL a).toArray 97)).alloc (.cells (NL b).toArray 97)).alloc (.cells (List.replicate 8 (.int .u32 0)).toArray 97)) (w.heap.size + 1) 97 (NL b) := (Blk.new' _ _ (NL b) (by simp)).later (later_alloc _ _)
  have h3 : Blk (((w.alloc (.cells (NL a).toArray 97)).alloc (.cells (NL b).toArray 97)).alloc (.cells (List.replicate 8 (.int .u32 0)).toArray 97)) (w.heap.size + 1 + 1) 97 (List.replicate 8 (.int .u32 0)) := Blk.new' _ _ (List.replicate 8 (Value.int .u32 0)) (by simp)
  have L : Later w (((w.alloc (.cells (NL a).toArray 97)).alloc (.cells (NL b).toArray 97)).alloc (.cells (List.replicate 8 (.int .u32 0)).toArray 97)) := ((later_alloc _ _).trans (later_alloc _ _)).trans (later_alloc _ _)
  have hmin := fun w => minus_any (a % P25) (b % P25) (Nat.lt_trans (Nat.mod_lt _ P25_pos) (by decide)) w
  rw [owed_end _ _ 8 (by rw [B32_8]; exact Nat.lt_trans (Nat.mod_lt _ P25_pos) (by decide)) (by rw [B32_8]; exact Nat.lt_trans (Nat.mod_lt _ P25_pos) (by decide))] at hmin
  have HMIN := hid hmin
  clear hmin
  go_enter Try.func62, Try.ntmps62
  go_wp2_with fail
  refine wp_region_makers [0, 2] [([], 1, 1), ([], 1, 3), ([], 1, 4), ([5, 6, 7], 2, 8)] [] [9, 10] [8] (fun _ => (fun g => .pointer (some ⟨g, 0, none⟩), .cells (List.replicate 8 (Value.int .u32 0)).toArray 97)) (by as_aux_lemma => kernel_rfl) (by as_aux_lemma => kernel_rfl) (by intro _ _ d _ _ h; cases d <;> exact h) (by intro _ _ d _ _ h; cases d <;> exact h) ?_
  simp only [pick, List.getElem?_cons_succ, List.getElem?_cons_zero, Option.toList_some, List.cons_append, List.nil_append]
  repeat (first | go_big_quiet_skip | (go_big_quiet_want; (first | refine quiet_N _ rfl h1.drew rfl ?_ | refine quiet_N _ rfl h2.drew rfl ?_); simp only [Act.put, List.setIfInBounds_toArray, List.set_cons_succ, List.set_cons_zero]; go_big_quiet_on) | (go_big_quiet_step (fail)))
  refine wpQuiet_nil ?_
  refine ⟨?mk, ?_⟩
  case mk =>
    refine ⟨fun o ho => ?_, trivial⟩
    simp only [List.getElem?_cons_succ, List.getElem?_cons_zero, Option.some.injEq] at ho
    subst ho
    refine ⟨rfl, fun W => ?_⟩
    unfold execOp
    simp [go_sem]
  simp only [wpPartsM, pick, List.getElem?_cons_succ, List.getElem?_cons_zero, Option.toList_some, List.cons_append, List.nil_append]
  refine wpQuiet_nil ?_
  intro v1 j1
  go_wp2_with fail
  (with_reducible refine (norm_ref a ha _).mono ?_); rintro e v2 ⟨rfl, j2⟩
  go_wp2_with fail
  try refine ⟨by first | assumption | exact later_drew _ | exact later_alloc _ _ | exact Later.refl _, ?_⟩
  try simp only [wpParts, pick, List.getElem?_cons_succ, List.getElem?_cons_zero, Option.toList_some, List.cons_append, List.nil_append]
  repeat (go_big_quiet_step (fail))
  refine wpQuiet_nil ?_
  intro v3 j3
  go_wp2_with fail
  (with_reducible refine (norm_ref b hb _).mono ?_); rintro e v4 ⟨rfl, j4⟩
  go_wp2_with fail
  try refine ⟨by first | assumption | exact later_drew _ | exact later_alloc _ _ | exact Later.refl _, ?_⟩
  try simp only [wpParts, pick, List.getElem?_cons_succ, List.getElem?_cons_zero, Option.toList_some, List.cons_append, List.nil_append]
  repeat (go_big_quiet_step (fail))
  refine wpQuiet_nil ?_
  intro v5 j5
  go_wp2_with fail
  (with_reducible refine (HMIN.out _).mono ?_); rintro e v6 ⟨rfl, j6⟩
  obtain ⟨X, hX⟩ : ∃ X : Bool, X = ((if a % P25 < b % P25 then 1 else 0) == 1) := ⟨_, rfl⟩
  rw [← hX]
  have HX := hid hX
  clear hX
  go_wp2_with fail
  try refine ⟨by first | assumption | exact later_drew _ | exact later_alloc _ _ | exact Later.refl _, ?_⟩
  try simp only [wpParts, pick, List.getElem?_cons_succ, List.getElem?_cons_zero, Option.toList_some, List.cons_append, List.nil_append]
  repeat (go_big_quiet_step (fail))
  refine wpQuiet_nil ?_
  intro v7 g7 j7 hg7 _ hb7
  refine wpQuiet_nil ?_
  intro v8 j8
  have Lr := (((((((later_drew _).trans j1).trans j2).trans j3).trans j4).trans j5).trans j6).trans (j7.trans j8)
  have hB : Blk v8 g7 97 (List.replicate 8 (Value.int .u32 0)) := Blk.later hb7 j8
  have hR := h3.later Lr
  have hlt3 : w.heap.size + 1 + 1 < g7 := Nat.lt_of_lt_of_le h3.lt hg7
  have L8 := L.trans Lr
  clear h1 h2 h3 j1 j2 j3 j4 j5 j6 j7 j8 hb7 Lr L
  have hap : a % P25 < P25 := Nat.mod_lt _ P25_pos
  have hbp : b % P25 < P25 := Nat.mod_lt _ P25_pos
  have hres : (a + (P25 - b % P25)) % P25 = (a % P25 + (P25 - b % P25)) % P25 := by rw [Nat.mod_add_mod]
  have HRES := hid hres
  clear hres
  rcases Nat.lt_or_ge (a % P25) (b % P25) with hmp | hmp
  · obtain rfl : X = true := by rw [HX.out, if_pos hmp]; rfl
    have hfin : (a % P25 + T256 - b % P25 - 38) % P25 = (a % P25 + (P25 - b % P25)) % P25 := by unfold T256 P25 at *; omega
    have hc1 : NL (a % P25 + T256 - b % P25 + T256 - 38) = NL (a % P25 + T256 - b % P25 - 38) := NL_cong (by unfold T256 P25 at *; omega)
    have hbd : a % P25 + T256 - b % P25 - 38 < T256 := by omega
    have HC := hid hc1
    have HFN := hid hfin
    clear hc1 hfin hap hbp
    generalize a % P25 + T256 - b % P25 = y at *
    go_wp2_with (first
      | (refine store_N rfl rfl _ _ rfl hB rfl rfl rfl ?_; intro w1 hb1 ho1
         have hR1 := hR.only ho1 (by omega)
         have L1 := L8.only ho1 (by have := L8.size; omega))
      | (refine load_N rfl _ rfl hb1 rfl ?_)
      | (refine wpList_build_is rfl 97 _ rfl (NL 38) ?hb ?_; (case hb => kernel_rfl))
      | (go_at_call 78; (with_reducible refine (minus_38 y _).mono ?_); rintro e w2 ⟨rfl, hl2⟩)
      | (refine store_N rfl rfl _ _ rfl (hb1.later hl2) rfl rfl (NL_length _) ?_; intro w3 hb3 ho3
         rw [HC.out] at hb3
         have hR3 := (hR1.later hl2).only ho3 (by omega)
         have L3 := (L1.trans hl2).only ho3 (by have := L8.size; omega))
      | (refine load_N rfl _ rfl hb3 rfl ?_)
      | (go_at_call 58; (with_reducible refine (norm_ref _ hbd _).mono ?_); rintro e w4 ⟨rfl, hl4⟩)
      | (refine store_N rfl rfl _ _ rfl (hR3.later hl4) rfl rfl rfl ?_; intro w5 hb5 ho5)
      | fail)
    exact bodyPost_ret (ret_N rfl hb5 rfl) rfl ⟨by rw [HRES.out, ← HFN.out], (L3.trans hl4).only ho5 (by omega)⟩
  · obtain rfl : X = false := by rw [HX.out, if_neg (by omega)]; rfl
    have hfin : (a % P25 - b % P25) % P25 = (a % P25 + (P25 - b % P25)) % P25 := by unfold T256 P25 at *; omega
    have hc1 : NL (a % P25 + T256 - b % P25) = NL (a % P25 - b % P25) := NL_cong (by unfold T256 P25 at *; omega)
    have hbd : a % P25 - b % P25 < T256 := by unfold T256 P25 at *; omega
    have HC := hid hc1
    have HFN := hid hfin
    clear hc1 hfin hap hbp
    generalize a % P25 + T256 - b % P25 = y at *
    generalize a % P25 - b % P25 = z at *
    go_wp2_with (first
      | (refine store_N rfl rfl _ _ rfl hB rfl rfl rfl ?_; intro w1 hb1 ho1
         rw [HC.out] at hb1
         have hR1 := hR.only ho1 (by omega)
         have L1 := L8.only ho1 (by have := L8.size; omega))
      | (refine load_N rfl _ rfl hb1 rfl ?_)
      | (go_at_call 58; (with_reducible refine (norm_ref _ hbd _).mono ?_); rintro e w4 ⟨rfl, hl4⟩)
      | (refine store_N rfl rfl _ _ rfl (hR1.later hl4) rfl rfl rfl ?_; intro w5 hb5 ho5)
      | fail)
    exact bodyPost_ret (ret_N rfl hb5 rfl) rfl ⟨by rw [HRES.out, ← HFN.out], (L1.trans hl4).only ho5 (by omega)⟩
end Go.Proofs.Ytallecbmnpcepaa
