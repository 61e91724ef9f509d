/-
  field's inner functions: sums and products by limbs.
-/
import Derived.Test.YtmdjhbiiifnfiaaNum
namespace Go.Proofs.Ytmdjhbiiifnfiaa
open Go.RowKit

def EL (n : Nat) : List Value := (dig B64 4 n).map n64
abbrev E (n : Nat) : Value := .agg (EL n).toArray
theorem EL_length (n : Nat) : (EL n).length = 4 := by rw [EL, List.length_map, dig_length]
/-- Limb i. -/
def lim (n i : Nat) : Nat := n / B64 ^ i % B64
@[go_sem] theorem lim_lt (n i : Nat) : (lim n i < B64) = True := eq_true (Nat.mod_lt _ B64_pos)
theorem EL_get (n i : Nat) (h : i < 4) : (EL n)[i]? = some (n64 (lim n i)) := by rw [EL, List.getElem?_map, dig_get _ _ _ _ h]; rfl
@[go_sem] theorem EL_at (n i : Nat) (h : i < (EL n).length) : (EL n)[i] = n64 (lim n i) := by
  have := EL_get n i (by rw [EL_length] at h; exact h)
  rw [List.getElem?_eq_getElem h] at this
  exact Option.some.inj this

theorem run_add64n (x y c : Nat) (hx : x < B64) (hy : y < B64) (hc : c ≤ 1) (w : World) :
    (callFunc 73 #[n64 x, n64 y, n64 c]).run Try.prog w = .ok (.value (.tuple #[n64 ((x + y + c) % B64), n64 ((x + y + c) / B64)])) w := by
  rw [n64_eq hx, n64_eq hy, n64_eq (show c < B64 by unfold B64; omega), run_callFunc_extern Try.func73 (by kernel_rfl) (by kernel_rfl) (by kernel_rfl) (e := add64Entry) (by kernel_rfl), run_add64 _ _ _ (by omega) (by omega) (by omega) (by omega)]
  simp only [Result.andThen]
  rw [n64_eq (Nat.mod_lt _ B64_pos), n64_eq (show (x + y + c) / B64 < B64 by unfold B64 at *; omega)]
  congr 5 <;> (unfold B64; omega)

@[go_sem high] theorem run_add64 (x y c : Nat) (hx : x < B64) (hy : y < B64) (hc : c ≤ 1) (w : World) :
    (callFunc 73 #[n64 x, n64 y, n64 c]).run Try.prog w = .ok (.value (.tuple #[n64 ((x + y + c) % B64), n64 ((x + y + c) / B64)])) w := run_add64n x y c hx hy hc w
@[go_sem high] theorem run_add64_c (x y : Nat) (hx : x < B64) (hy : y < B64) (w : World) :
    (callFunc 73 #[n64 x, n64 y, .int .u64 0]).run Try.prog w = .ok (.value (.tuple #[n64 ((x + y) % B64), n64 ((x + y) / B64)])) w := run_add64n x y 0 hx hy (by omega) w
@[go_sem high] theorem run_add64_y (x c : Nat) (hx : x < B64) (hc : c ≤ 1) (w : World) :
    (callFunc 73 #[n64 x, .int .u64 0, n64 c]).run Try.prog w = .ok (.value (.tuple #[n64 ((x + c) % B64), n64 ((x + c) / B64)])) w := run_add64n x 0 c hx B64_pos hc w
theorem EL_one (n : Nat) : ∀ v ∈ EL n, v.oneCell' = true := n64_one _
theorem dig_small {B n : Nat} (h : n < B) (k : Nat) (hk : 0 < k) : n / B ^ k % B = 0 := by
  rw [Nat.div_eq_of_lt (Nat.lt_of_lt_of_le h (Nat.le_pow (by omega))), Nat.zero_mod]

set_option maxHeartbeats 1000000 in
theorem plus_any (a n : Nat) (hn : n < B64) (w : World) :
    Calls Try.prog 65 #[E a, n64 n] w fun e w' => e = .returned (.tuple #[E (a + n), n64 ((a % B64 ^ 4 + n) / B64 ^ 4)]) ∧ Later w w' := by
  have hlS := EL_length (a + n)
  have hlA := EL_length a
  have hb : Blk ((w.alloc (.cells (EL a).toArray 28)).alloc (.cells (List.replicate 4 (.int .u64 0)).toArray 28)) w.heap.size 28 (EL a) := (Blk.new _ _ _).later (later_alloc _ _)
  have hr : Blk ((w.alloc (.cells (EL a).toArray 28)).alloc (.cells (List.replicate 4 (.int .u64 0)).toArray 28)) (w.heap.size + 1) 28 (List.replicate 4 (.int .u64 0)) := Blk.new' _ _ _ (by simp)
  go_enter Try.func65, Try.ntmps65
  go_wp2_with (first
    | (refine wpList_store_in rfl rfl _ _ _ rfl _ _ _ _ hb rfl ?hl rfl (by kernel_rfl) ?_; (case hl => omega); intro v w1 hv hb1 ho1; simp [go_sem] at hv; subst hv))
  have e0 : (lim a 0 + n) % B64 = lim (a + n) 0 := by
    simp [lim]
  have e1 : (lim a 0 + n) / B64 = carr B64 a n 0 1 := by
    simp [carr, lim, Nat.mod_eq_of_lt hn]
  rw [e0, ← filled_zero (EL (a + n)) (EL a), filled_step _ _ _ _ (by omega) (by omega) (EL_get (a + n) 0 (by omega))] at hb1
  have HE := hid e1
  clear e0 e1
  have L1 : Later w w1 := ((later_alloc _ _).trans (later_alloc _ _)).only ho1 (Nat.le_refl _)
  have hr1 := hr.only ho1 (by omega)
  go_loopw [6, 7] (fun c i wr => ∃ k : Nat, 1 ≤ k ∧ k ≤ 4 ∧ i = .int .i64 k ∧ c = n64 (carr B64 a n 0 k) ∧ Blk wr w.heap.size 28 (filled (EL (a + n)) (EL a) k) ∧ Blk wr (w.heap.size + 1) 28 (List.replicate 4 (.int .u64 0)) ∧ Later w wr) (fun _ i _ => 4 - (intOf i).toNat)
  case atStart => exact ⟨1, by omega, by omega, rfl, by rw [HE.out], hb1, hr1, L1⟩
  case round =>
    clear hb hr hb1 hr1 L1 ho1 HE
    obtain ⟨k, hk1, hk4, rfl, rfl, hb, hr, L⟩ := hrel
    by_cases hlt : k < 4
    · have hc := carr_le B64_pos a n 0 k (by omega)
      have S0 := hid (sum_dig B64_pos a n 0 k)
      have S1 := hid (carr_succ B64_pos a n 0 k)
      have d0 := hb.cellD k (u := n64 (lim a k)) (by rw [filled_old _ _ _ _ (by omega) (Nat.le_refl _) (by omega)]; exact EL_get a k hlt)
      generalize carr B64 a n 0 k = c at *
      go_wp2_with (first
        | (refine wpList_store_in rfl rfl _ _ _ rfl _ _ _ _ hb rfl ?hl rfl (by kernel_rfl) ?_; (case hl => rw [filled_length _ _ _ (by omega)]; omega); intro v w2 hv hb2 ho2; simp [go_sem] at hv; subst hv))
      go_roundw
      case rel =>
        have z : n / B64 ^ k % B64 = 0 := dig_small hn k hk1
        have e0 := S0.out
        have e1 := S1.out
        rw [z] at e0 e1
        rw [filled_step _ _ _ _ (by omega) (by omega) (by rw [EL_get (a + n) k hlt, lim, lim, ← Nat.add_zero (a + n), ← e0, Nat.add_zero])] at hb2
        exact ⟨k + 1, by omega, by omega, by go_num, by rw [← e1]; rfl, hb2, hr.only ho2 (by omega), L.only ho2 (Nat.le_refl _)⟩
      case measure => simp [intOf]; omega
    · obtain rfl : k = 4 := by omega
      have hcE : carr B64 a n 0 4 = (a % B64 ^ 4 + n) / B64 ^ 4 := by
        rw [carr, Nat.mod_eq_of_lt (show n < B64 ^ 4 from Nat.lt_of_lt_of_le hn (Nat.le_pow (by omega)))]
        rfl
      rw [filled_all _ _ _ hlS hlA] at hb
      have HC := hid hcE
      clear hcE
      go_wp2_with (first
        | (refine wpList_load_agg rfl 28 _ rfl w.heap.size 0 (EL (a + n)) ?hc ?hx _ Try.underlying28 rfl ?hi ?_; (case hx => rfl); (case hi => rw [hlS]; kernel_rfl); (case hc => intro j v hv; rw [Nat.zero_add]; exact hb.cellD j hv))
        | (refine wpList_store_agg rfl rfl 28 _ _ rfl (w.heap.size + 1) 0 28 _ (EL (a + n)) hr ?hx ?hy ?hi ?hf ?h1 ?_; (case hx => rfl); (case hy => rfl); (case hi => rw [hlS]; kernel_rfl); (case hf => simp [hlS]); (case h1 => exact EL_one _); intro w9 hb9 ho9))
      rw [spliced_all _ _ (by simp [hlS])] at hb9
      exact bodyPost_ret (results_blk_tmp rfl _ _ _ _ (EL (a + n)) _ hb9 rfl Try.underlying28 rfl (by rw [hlS]; kernel_rfl)) rfl ⟨by rw [← HC.out]; rfl, L.only ho9 (by omega)⟩

/-! ### The prime -/
def P25 : Nat := 57896044618658097711785492504343953926634992332820282019728792003956564819949
def T255 : Nat := 57896044618658097711785492504343953926634992332820282019728792003956564819968
def T256 : Nat := 115792089237316195423570985008687907853269984665640564039457584007913129639936
theorem T256_eq : B64 ^ 4 = T256 := by decide
theorem P25_pos : 0 < P25 := by decide
/-- What Norm computes. -/
theorem norm_math (n : Nat) (hn : n < T256) : ∃ u, u = n % T255 + 19 * (n / T255) ∧ (u + 19 < T255 → u = n % P25) ∧ (T255 ≤ u + 19 → u + 19 < T256 ∧ u + 19 - T255 = n % P25) := by
  refine ⟨_, rfl, ?_, ?_⟩ <;> unfold T255 P25 at * <;> unfold T256 at * <;> omega
theorem lim3 (n : Nat) (hn : n < T256) : lim n 3 / 9223372036854775808 = n / T255 := by
  unfold lim B64 T255
  unfold T256 at hn
  omega
theorem EL_low (n : Nat) : (EL n).set 3 (n64 (lim n 3 % 9223372036854775808)) = EL (n % T255) := by
  have h0 : lim n 0 = lim (n % T255) 0 := by unfold lim T255 B64; omega
  have h1 : lim n 1 = lim (n % T255) 1 := by unfold lim T255 B64; omega
  have h2 : lim n 2 = lim (n % T255) 2 := by unfold lim T255 B64; omega
  have h3 : lim n 3 % 9223372036854775808 = lim (n % T255) 3 := by unfold lim T255 B64; omega
  have e : ∀ m, EL m = [n64 (lim m 0), n64 (lim m 1), n64 (lim m 2), n64 (lim m 3)] := by
    intro m
    apply List.ext_getElem (EL_length m)
    intro i hi1 hi2
    rw [EL_at]
    have : i = 0 ∨ i = 1 ∨ i = 2 ∨ i = 3 := by rw [EL_length] at hi1; omega
    rcases this with rfl | rfl | rfl | rfl <;> rfl
  rw [e, e, h0, h1, h2, h3]
  rfl

/-! ### Elements that are loaded and stored whole -/
section
variable {P : Program} {ops : Array Oper} {rest : List Oper} {o : Oper} {a : Act} {w : World} {Q : Exit → Act → World → Prop}
theorem wpList_load_blk (hw : Region.wanted o (yielded ops a.tmps) = true) (ty : TypeId) (x : Operand) (ho : o.op = .load ty x) (g : Nat) (t : TypeId) (l : List Value) (hb : Blk w g t l) (hx : a.eval x = .pointer (some ⟨g, 0, none⟩)) (d : TypeDesc) (hu : P.underlying ty = some d) (hd : aggDesc d = true) (k : Nat) (hi : (P.info? ty).map (·.size) = some k) (hl : l.length = k)
    (h : wpList P ops Q rest (a.put o.dst (.agg l.toArray)) w) : wpList P ops Q (o :: rest) a w :=
  BigFrame.wpList_want hw fun K hK => by
    unfold Oper.wp
    simp only [execOp, ho, hx, Instr.loadAt, Instr.sureAddr, Sem.run_bind, Sem.run_pure, Result.andThen_ok, run_loadVar_agg w g 0 ty l d (fun j v hv => by rw [Nat.zero_add]; exact hb.cellD j hv) hu hd (by rw [hl]; exact hi)]
    exact hK _ _ h
theorem wpList_store_blk (hgd : o.guard = none) (hd : o.dst = none) (ty : TypeId) (x y : Operand) (ho : o.op = .store ty x y) (g : Nat) (t : TypeId) (l vs : List Value) (hg : Blk w g t l)
    (hx : a.eval x = .pointer (some ⟨g, 0, none⟩)) (hy : a.eval y = .agg vs.toArray) (k : Nat) (hi : (P.info? ty).map (·.size) = some k) (hvl : vs.length = k) (hl : l.length = k) (h1 : ∀ v ∈ vs, v.oneCell' = true)
    (h : ∀ w', Blk w' g t vs → Only g w w' → wpList P ops Q rest a w') : wpList P ops Q (o :: rest) a w :=
  wpList_store_agg hgd hd ty x y ho g 0 t l vs hg hx hy (by rw [hvl]; exact hi) (by omega) h1 fun w' hb ho => h w' (by rwa [spliced_all _ _ (by omega)] at hb) ho
end
theorem sizeE : (Try.prog.info? 28).map (·.size) = some 4 := by kernel_rfl
section
variable {ops : Array Oper} {rest : List Oper} {o : Oper} {a : Act} {w : World} {Q : Exit → Act → World → Prop}
theorem load_E (hgd : Region.wanted o (yielded ops a.tmps) = true) (x : Operand) (ho : o.op = .load 28 x) {g : Nat} {t : TypeId} {n : Nat} (hb : Blk w g t (EL n)) (hx : a.eval x = .pointer (some ⟨g, 0, none⟩))
    (h : wpList Try.prog ops Q rest (a.put o.dst (E n)) w) : wpList Try.prog ops Q (o :: rest) a w :=
  wpList_load_blk hgd _ x ho g t _ hb hx _ Try.underlying28 rfl 4 sizeE (EL_length n) h
theorem store_E (hgd : o.guard = none) (hd : o.dst = none) (x y : Operand) (ho : o.op = .store 28 x y) {g : Nat} {t : TypeId} {l : List Value} {n : Nat} (hg : Blk w g t l) (hx : a.eval x = .pointer (some ⟨g, 0, none⟩)) (hy : a.eval y = E n) (hl : l.length = 4)
    (h : ∀ w', Blk w' g t (EL n) → Only g w w' → wpList Try.prog ops Q rest a w') : wpList Try.prog ops Q (o :: rest) a w :=
  wpList_store_blk hgd hd _ x y ho g t l _ hg hx hy 4 sizeE (EL_length n) hl (EL_one n) h
theorem ret_E {fn : Func} {p : Tmp} (hf : fn.results = #[.cell p 28]) {tmps : Array Value} {g : Nat} {t : TypeId} {n : Nat} (hg : Blk w g t (EL n)) (hp : tmps.getD p undef = .pointer (some ⟨g, 0, none⟩)) :
    (results fn tmps).run Try.prog w = .ok (E n) w := results_blk hf tmps w g t _ _ hg hp Try.underlying28 rfl (by rw [EL_length]; exact sizeE)
theorem quiet_E {K : Act → Prop} (x : Operand) (ho : o.op = .load 28 x) {w0 : World} {g : Nat} {t : TypeId} {n : Nat} (hb : Blk w0 g t (EL n)) (hx : a.eval x = .pointer (some ⟨g, 0, none⟩)) (h : K (a.put o.dst (E n))) :
    o.quiet Try.prog a (fun w' => ∃ x, w' = grow w0 x) K :=
  quiet_load_agg _ x ho g 0 (EL n) (fun w' hw j v hv => by obtain ⟨y, rfl⟩ := hw; rw [Nat.zero_add]; exact (hb.later ⟨y, rfl⟩).cellD j hv) hx _ Try.underlying28 rfl (by rw [EL_length]; exact sizeE) h
end
end Go.Proofs.Ytmdjhbiiifnfiaa
