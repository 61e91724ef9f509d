/-
  shallotref02: above: which of y^k and p * 2^(32 k) is greater, by digits from the top.
-/
import Derived.Test.YtmdbekdphkkmkaaTab3
import Derived.Test.YtmdbekdphkkmkaaTab5
namespace Go.Proofs.Ytmdbekdphkkmkaa
open Go.RowKit
open Go.BigFrame

theorem val_step (B : Nat) (l : List Nat) : val B l = l.getD 0 0 + B * val B l.tail := by
  cases l <;> simp [val]
theorem getD_tail (l : List Nat) (j : Nat) : l.tail.getD j 0 = l.getD (j + 1) 0 := by
  cases l <;> simp
theorem tail_lt {B : Nat} {l : List Nat} (h : ∀ x ∈ l, x < B) : ∀ x ∈ l.tail, x < B := fun x hx => h x (List.mem_of_mem_tail hx)
theorem val_ext (B : Nat) : ∀ (n : Nat) (xs ys : List Nat), xs.length ≤ n → ys.length ≤ n → (∀ j, xs.getD j 0 = ys.getD j 0) → val B xs = val B ys
  | 0, xs, ys, hx, hy, _ => by
    rw [List.length_eq_zero_iff.1 (Nat.le_zero.1 hx), List.length_eq_zero_iff.1 (Nat.le_zero.1 hy)]
  | n + 1, xs, ys, hx, hy, h => by
    rw [val_step B xs, val_step B ys, h 0, val_ext B n xs.tail ys.tail (by rw [List.length_tail]; omega) (by rw [List.length_tail]; omega) (fun j => by rw [getD_tail, getD_tail, h])]
theorem cmp_lt (B : Nat) (hB : 0 < B) : ∀ (t : Nat) (xs ys : List Nat), (∀ x ∈ xs, x < B) → (∀ y ∈ ys, y < B) → (∀ j, t < j → xs.getD j 0 = ys.getD j 0) → ys.getD t 0 < xs.getD t 0 → val B ys < val B xs
  | 0, xs, ys, _, _, h, hlt => by
    have e := val_ext B (xs.length + ys.length) xs.tail ys.tail (by rw [List.length_tail]; omega) (by rw [List.length_tail]; omega) (fun j => by rw [getD_tail, getD_tail, h _ (by omega)])
    rw [val_step B xs, val_step B ys, e]
    omega
  | t + 1, xs, ys, hx, hy, h, hlt => by
    have ih := cmp_lt B hB t xs.tail ys.tail (tail_lt hx) (tail_lt hy) (fun j hj => by rw [getD_tail, getD_tail, h _ (by omega)]) (by rw [getD_tail, getD_tail]; exact hlt)
    have h1 := getD_lt hB hy 0
    rw [val_step B xs, val_step B ys]
    have : B * (val B ys.tail + 1) ≤ B * val B xs.tail := Nat.mul_le_mul_left _ ih
    rw [Nat.mul_add] at this
    omega
theorem cmp_iff (B : Nat) (hB : 0 < B) (t : Nat) (xs ys : List Nat) (hx : ∀ x ∈ xs, x < B) (hy : ∀ y ∈ ys, y < B) (h : ∀ j, t < j → xs.getD j 0 = ys.getD j 0) (hne : xs.getD t 0 ≠ ys.getD t 0) : decide (ys.getD t 0 < xs.getD t 0) = decide (val B ys < val B xs) := by
  rcases Nat.lt_or_ge (ys.getD t 0) (xs.getD t 0) with h1 | h1
  · rw [decide_eq_true h1, decide_eq_true (cmp_lt B hB t xs ys hx hy h h1)]
  · have h2 : xs.getD t 0 < ys.getD t 0 := by omega
    have h3 := cmp_lt B hB t ys xs hy hx (fun j hj => (h j hj).symm) h2
    rw [decide_eq_false (by omega), decide_eq_false (by omega)]
theorem val_top (k p : Nat) : val 65536 (List.replicate (2 * k) 0 ++ [p]) = p * 4294967296 ^ k := by
  rw [val_append, val_zeros, List.length_replicate, Nat.pow_mul, val, val, Nat.mul_zero, Nat.add_zero, Nat.zero_add, Nat.mul_comm]
theorem ofNat_inj16 {a b : Nat} (ha : a < 65536) (hb : b < 65536) (h : UInt64.ofNat a = UInt64.ofNat b) : a = b := by
  have := congrArg UInt64.toNat h
  rwa [UInt64.toNat_ofNat', UInt64.toNat_ofNat', Nat.mod_eq_of_lt (by omega), Nat.mod_eq_of_lt (by omega)] at this
theorem ofNat_getD (ys : List Nat) (j : Nat) : (ys.map UInt64.ofNat).getD j 0 = UInt64.ofNat (ys.getD j 0) := by
  rw [List.getD_eq_getElem?_getD, List.getElem?_map, List.getD_eq_getElem?_getD]
  cases ys[j]? <;> rfl
theorem ofNat_lt16 {a b : Nat} (ha : a < 65536) (hb : b < 65536) : decide (UInt64.ofNat a < UInt64.ofNat b) = decide (a < b) := by
  rw [decide_eq_decide, UInt64.lt_iff_toNat_lt, UInt64.toNat_ofNat', UInt64.toNat_ofNat', Nat.mod_eq_of_lt (by omega), Nat.mod_eq_of_lt (by omega)]
set_option maxRecDepth 100000 in
theorem above_02 (y : UInt64) (p k : Nat) (w : World) (_hy : y.toNat < 2 ^ 37) (hp : p < 312) (hk : k ≤ 3) :
    Calls Try.prog 61 #[W64 y, .int .i64 p, .int .i64 k] w fun e w' => e = .returned (.bool (decide (p * 4294967296 ^ k < y.toNat ^ k))) ∧ Later w w' := by
  have hD := hid (digits_02 y)
  have hD1 := hid (digits_02 1)
  go_enter Try.func61, Try.ntmps61
  go_wp2_with fail
  refine (hD.out _).mono ?_
  rintro e w1 ⟨kd, D, cd, rfl, hkd, hyd, hownd, L⟩
  have hd : Rd w1 D kd (DL (dig 65536 kd y.toNat)) := own_rd hownd
  clear hownd
  go_wp2_with fail
  refine (hD1.out _).mono ?_
  rintro e w2 ⟨k1, V, cv, rfl, hk1, hy1, hown1, L1⟩
  have hv1 : Rd w2 V k1 (DL (dig 65536 k1 1)) := own_rd hown1
  clear hown1
  replace hd := hd.later L1
  replace L := L.trans L1
  clear L1
  go_wp2
  go_loopw [8, 9] (fun v i wr => ∃ (m n c : Nat) (A : Option Addr) (vs : List Nat), m ≤ k ∧ i = .int .i64 m ∧ v = .slice A n c ∧ Rd wr A n (DL vs) ∧ (∀ x ∈ vs, x < 65536) ∧ val 65536 vs = y.toNat ^ m ∧ n ≤ 4 + 5 * m ∧ Later w2 wr) (fun _ i _ => k - (intOf i).toNat)
  case atStart => exact ⟨0, k1, _, _, _, by omega, rfl, rfl, hv1, dig_lt (by decide) _ _, (val_dig 65536 k1 1).trans (Nat.mod_eq_of_lt hy1), by omega, Later.refl _⟩
  case round =>
    obtain ⟨m, n, c, A, vs, hm, rfl, rfl, hv, hvl, hvv, hn, hl⟩ := hrel
    by_cases hlt : m < k
    · have hT := hid (times_02 A D n kd c cd vs (dig 65536 kd y.toNat) wr hv (hd.later hl) hvl (dig_lt (by decide) _ _) (by omega) (by omega))
      go_wp2_with fail
      refine (hT.out).mono ?_
      rintro e w3 ⟨g, rfl, hg, hb, hl3⟩
      have hvs : vs.length = n := by have := hv.1; rwa [DL_length] at this
      go_wp2
      refine ⟨⟨m + 1, n + kd + 1, n + kd + 1, _, _, by omega, by go_num, rfl, hb.rd (by rw [DL_length, prodAt_length]), prodAt_lt (by decide) _ _ _ hvl (dig_lt (by decide) _ _) n, ?_, by omega, hl.trans hl3⟩, by simp [intOf]; omega⟩
      rw [← hvs, prodAt_val vs _ _ _ (Nat.le_refl _) (by rw [dig_length]; omega), List.take_length, val_dig, Nat.mod_eq_of_lt hyd, hvv, Nat.pow_succ]
    · obtain rfl : m = k := by omega
      clear hd hD hD1 hv1 hlt hm
      go_wp2_with (first
        | (refine wpList_make_n rfl _ _ 105 rfl 92 (.int .u64 0) 8 Try.underlying105 info64t rfl _ _ _ _ (2 * m) rfl rfl ?hL ?hC (by omega) (by omega) ?_; (case hL => omega); (case hC => omega); intro w3 hb3 hl3; have hown3 := own_of_blk hb3 (Nat.le_refl wr.heap.size) (by rw [List.length_replicate]; omega); rw [List.length_replicate] at hown3)
        | (refine wpList_append_rd rfl _ _ _ rfl 92 _ 8 Try.underlying105 info64t rfl wr _ (2 * m) _ (own_later hown3 (later_alloc _ _)) (hl3.alloc _) _ 1 1 _ (own_rd (own_new w3 _ [_] (by simp))) (w64_one [_]) rfl rfl (by omega) (by omega) ?_; intro A4 c4 w4 hown4 hl4 hg4 _)
        | fail)
      all_goals
        have hw : Rd w4 A4 (2 * m + 1) (DL (List.replicate (2 * m) 0 ++ [p])) := by
          have := own_rd hown4
          rw [ofIntNat_w64] at this
          rw [DL, List.map_append, List.map_append, List.map_replicate, List.map_replicate]
          exact this
        have hwl : ∀ x ∈ List.replicate (2 * m) 0 ++ [p], x < 65536 := by
          intro x hx
          rcases List.mem_append.1 hx with h | h
          · rw [(List.mem_replicate.1 h).2]; decide
          · rw [List.mem_singleton.1 h]; omega
        have hval := val_top m p
        have hwn : (List.replicate (2 * m) 0 ++ [p]).length = 2 * m + 1 := by simp
        have hvn : vs.length = n := by have := hv.1; rwa [DL_length] at this
        generalize List.replicate (2 * m) 0 ++ [p] = us at *
        replace hv := hv.later hl4
        replace L := (L.trans hl).trans hl4
        clear hown4 hown3 hb3 hl3 hg4 hl hl4
        have hres := hid (show decide (p * 4294967296 ^ m < y.toNat ^ m) = decide (val 65536 us < val 65536 vs) by rw [hval, hvv])
        clear hvv hval
        replace hvl := hid hvl
        replace hwl := hid hwl
        replace hvn := hid hvn
        replace hwn := hid hwn
        go_loopw [11, 12, 13] (fun i _ _ wr => ∃ t : Nat, i = .int .i64 ((t : Int) - 1) ∧ t ≤ 64 ∧ Hid (∀ j, t ≤ j → vs.getD j 0 = us.getD j 0) ∧ Later w4 wr) (fun i _ _ _ => (intOf i + 1).toNat)
        case atStart =>
          have hf : ∀ t, n ≤ t → 2 * m + 1 ≤ t → Hid (∀ j, t ≤ j → vs.getD j 0 = us.getD j 0) := fun t h1 h2 => hid fun j hj => by
            have e1 := hvn.out
            have e2 := hwn.out
            rw [List.getD_eq_getElem?_getD, List.getD_eq_getElem?_getD, List.getElem?_eq_none (by omega), List.getElem?_eq_none (by omega)]
          first
            | exact ⟨n, rfl, by omega, hf _ (by omega) (by omega), Later.refl _⟩
            | exact ⟨2 * m + 1, by go_num, by omega, hf _ (by omega) (by omega), Later.refl _⟩
        case round =>
          obtain ⟨t, rfl, ht, heq, hl⟩ := hrel
          match t, ht, heq with
          | 0, ht, heq =>
            have he : decide (val 65536 us < val 65536 vs) = false := by
              rw [val_ext 65536 (us.length + vs.length) us vs (by omega) (by omega) (fun j => (heq.out j (by omega)).symm)]
              simp
            go_wp2
            go_ret
            refine ⟨?_, L.trans hl⟩
            rw [hres.out, he]
            rfl
          | t + 1, ht, heq =>
            have hA1 := hid (at_02 A n c t (vs.map UInt64.ofNat) _ (hv.later hl) (by omega) (by omega))
            have hA2 := hid (fun w' (h : Rd w' A4 (2 * m + 1) (DL us)) => at_02 A4 (2 * m + 1) c4 t (us.map UInt64.ofNat) w' h (by omega) (by omega))
            have hct : IntKind.i64.wrap ((((t + 1 : Nat) : Int)) - 1) = (t : Int) := by rw [IntKind.wrap_i64]; omega
            rw [ofNat_getD] at hA1 hA2
            have ha := getD_lt (by decide : 0 < 65536) hvl.out t
            have hb := getD_lt (by decide : 0 < 65536) hwl.out t
            have hcm := hid (cmp_iff 65536 (by decide) t vs us hvl.out hwl.out (fun j hj => heq.out j hj))
            have hnext : Hid (vs.getD t 0 = us.getD t 0 → ∀ j, t ≤ j → vs.getD j 0 = us.getD j 0) := hid fun hne j hj => by
              rcases Nat.eq_or_lt_of_le hj with e | e
              · rw [← e]; exact hne
              · exact heq.out j e
            generalize vs.getD t 0 = a at *
            generalize us.getD t 0 = b at *
            go_wp2_with fail
            refine (hA1.out).mono ?_
            rintro e w5 ⟨rfl, hl5⟩
            go_wp2_with fail
            refine (hA2.out _ (hw.later (hl.trans hl5))).mono ?_
            rintro e w6 ⟨rfl, hl6⟩
            by_cases hne : a = b
            · subst hne
              generalize UInt64.ofNat a = b at *
              go_wp2
              exact ⟨⟨t, rfl, by omega, hid (hnext.out (by trivial)), (hl.trans hl5).trans hl6⟩, by simp [intOf]⟩
            · have hz : (UInt64.ofNat a != UInt64.ofNat b) = true := bne_iff_ne.2 fun e => hne (ofNat_inj16 ha hb e)
              have hgt := hid ((ofNat_lt16 hb ha).trans ((hcm.out hne).trans hres.out.symm))
              clear hcm hne
              generalize UInt64.ofNat a = a' at *
              generalize UInt64.ofNat b = b' at *
              go_wp2
              go_ret
              refine ⟨?_, ((L.trans hl).trans hl5).trans hl6⟩
              rw [← hgt.out]
              rfl
end Go.Proofs.Ytmdbekdphkkmkaa
