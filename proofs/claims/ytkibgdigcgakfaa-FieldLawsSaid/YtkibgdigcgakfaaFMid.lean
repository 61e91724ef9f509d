/-
  field.Power.
  field: Inv, Sum, Product.
  Numbers as bytes: plain laws.
  field: Bytes, Read.
  shallotref05: Power, Inv, Bytes.
  shallotref01.Get, shallotref05.Read.
-/
import Derived.Test.YtkibgdigcgakfaaFNumP
import Derived.Test.YtkibgdigcgakfaaPrime
namespace Go.Proofs.Ytkibgdigcgakfaa
open Go.RowKit

/-- The number that bytes are, the least first. -/
def num (bs : List UInt8) : Nat := val 256 (bs.map UInt8.toNat)
theorem num_cons (bs : List UInt8) (j : Nat) (h : j < bs.length) : num (bs.drop j) = (bs.getD j 0).toNat + 256 * num (bs.drop (j + 1)) := by
  rw [List.drop_eq_getElem_cons h, num, List.map_cons, val, num, List.getD_eq_getElem?_getD, List.getElem?_eq_getElem h]
  rfl
/-- A counter that comes down to -1. -/
def dn : Nat → Int
  | 0 => -1
  | j + 1 => j
theorem dn_zero : dn 0 = -1 := rfl
theorem dn_succ (j : Nat) : dn (j + 1) = j := rfl
theorem dn_pred (j : Nat) : (j : Int) - 1 = dn j := by
  cases j with
  | zero => rfl
  | succ j => simp only [dn]; omega
theorem bit_toNat (x : UInt8) (m : Nat) : (shr8 x m &&& 1).toNat = x.toNat / 2 ^ m % 2 := by
  rw [UInt8.toNat_and]
  have e : (shr8 x m).toNat = x.toNat / 2 ^ m := by
    rw [shr8]
    show (BitVec.toNat _) = _
    rw [BitVec.toNat_ushiftRight, Nat.shiftRight_eq_div_pow]
    rfl
  rw [e]
  exact Nat.and_two_pow_sub_one_eq_mod _ 1
theorem bit_eq (x : UInt8) (m : Nat) : (shr8 x m &&& 1 == 1) = decide (x.toNat / 2 ^ m % 2 = 1) := by
  rw [← bit_toNat, Bool.eq_iff_iff, beq_iff_eq, decide_eq_true_eq, ← UInt8.toNat_inj]
  rfl
theorem pow_two (a e P : Nat) : (a ^ e % P) * (a ^ e % P) % P = a ^ (2 * e) % P := by rw [← Nat.mul_mod, ← Nat.pow_add, Nat.two_mul]
theorem pow_two_one (a e P : Nat) : (a ^ e % P) * (a ^ e % P) * a % P = a ^ (2 * e + 1) % P := by
  rw [Nat.pow_succ, Nat.mul_mod, pow_two, ← Nat.mul_mod]
theorem exp_step (N x m : Nat) (hm : m < 8) : N * 2 ^ (8 - m) + x / 2 ^ m = 2 * (N * 2 ^ (8 - (m + 1)) + x / 2 ^ (m + 1)) + x / 2 ^ m % 2 := by
  rw [show 8 - m = (8 - (m + 1)) + 1 by omega, Nat.pow_succ, Nat.pow_succ, ← Nat.div_div_eq_div_mul, ← Nat.mul_assoc]
  omega
theorem of_1 (w : World) : Calls Try.prog 13 #[.int .u64 1] w fun e w' => e = .returned (E 1) ∧ Later w w' := of_any 1 (by decide) w
set_option maxRecDepth 100000 in
set_option maxHeartbeats 2000000 in
theorem power_any (a : Nat) (ha : a < T256) (A : Option Addr) (n c : Nat) (bs : List UInt8) (w : World) (hr : RdB w A n bs) (hn : n ≤ 140737488355328) :
    Calls Try.prog 14 #[E a, .slice A n c] w fun e w' => e = .returned (E (a ^ num bs % P25)) ∧ Later w w' := by
  have hbl := hr.len
  have h1 : Blk ((w.alloc (.cells (EL a).toArray 26)).alloc (.cells (List.replicate 4 (.int .u64 0)).toArray 26)) w.heap.size 26 (EL a) := (Blk.new _ _ _).later (later_alloc _ _)
  have h2 : Blk ((w.alloc (.cells (EL a).toArray 26)).alloc (.cells (List.replicate 4 (.int .u64 0)).toArray 26)) (w.heap.size + 1) 26 (List.replicate 4 (.int .u64 0)) := Blk.new' _ _ _ (by simp)
  have L0 : Later w ((w.alloc (.cells (EL a).toArray 26)).alloc (.cells (List.replicate 4 (.int .u64 0)).toArray 26)) := (later_alloc _ _).trans (later_alloc _ _)
  go_enter Try.func14, Try.ntmps14
  go_wp2_with (first
    | (go_at_call 13; (with_reducible refine (of_1 _).mono ?_); rintro e w2 ⟨rfl, hl2⟩)
    | (refine store_E rfl rfl _ _ rfl (Blk.new w2 _ (List.replicate 4 (.int .u64 0))) rfl rfl rfl ?_; intro w3 hb3 ho3)
    | fail)
  have h13 := ((h1.later hl2).later (later_alloc _ (.cells (List.replicate 4 (.int .u64 0)).toArray 26))).only ho3 (by have := (h1.later hl2).lt; omega)
  have h23 := ((h2.later hl2).later (later_alloc _ (.cells (List.replicate 4 (.int .u64 0)).toArray 26))).only ho3 (by have := (h2.later hl2).lt; omega)
  have L3 := ((L0.trans hl2).alloc (.cells (List.replicate 4 (.int .u64 0)).toArray 26)).only ho3 (by have := (L0.trans hl2).size; omega)
  have hg : w.heap.size + 1 < w2.heap.size := (h2.later hl2).lt
  generalize w2.heap.size = g at *
  clear h1 h2 L0 hl2 ho3
  go_loopw [6] (fun i wr => ∃ k : Nat, k ≤ n ∧ i = .int .i64 (dn k) ∧ Blk wr w.heap.size 26 (EL a) ∧ Blk wr (w.heap.size + 1) 26 (List.replicate 4 (.int .u64 0)) ∧ Blk wr g 26 (EL (a ^ num (bs.drop k) % P25)) ∧ Later w wr) (fun i _ => (intOf i + 1).toNat)
  case atStart =>
    refine ⟨n, by omega, by rw [← dn_pred], h13, h23, ?_, L3⟩
    rw [List.drop_of_length_le (by omega)]
    exact hb3
  case round =>
    clear h13 h23 hb3 L3
    obtain ⟨k, hk, rfl, h1, h2, h3, L⟩ := hrel
    cases k with
    | zero =>
      rw [List.drop_zero] at h3
      obtain ⟨y, hy⟩ : ∃ y, y = a ^ num bs % P25 := ⟨_, rfl⟩
      rw [← hy] at h3
      have HY := hid hy
      clear hy
      simp only [dn_zero]
      go_wp2_with (first
        | (refine load_E rfl _ rfl h3 rfl ?_)
        | (refine store_E rfl rfl _ _ rfl h2 rfl rfl rfl ?_; intro w9 hb9 ho9)
        | fail)
      exact bodyPost_ret (ret_E rfl hb9 rfl) rfl ⟨by rw [HY.out], L.only ho9 (by omega)⟩
    | succ j =>
      obtain ⟨b, o, rfl, hb, hc⟩ := hr.at_ (by omega)
      have HC := hid (hc j (by omega))
      have HN := hid (num_cons bs j (by omega))
      clear hc hr
      simp only [dn_succ]
      generalize bs.getD j 0 = x at *
      generalize num (bs.drop (j + 1)) = N at *
      generalize hNN : num (bs.drop j) = N' at *
      have HNN := hid hNN
      clear hNN
      go_wp2_with fail
      go_loopw [7] (fun i wr => ∃ m : Nat, m ≤ 8 ∧ i = .int .i64 (dn m) ∧ Blk wr w.heap.size 26 (EL a) ∧ Blk wr (w.heap.size + 1) 26 (List.replicate 4 (.int .u64 0)) ∧ Blk wr g 26 (EL (a ^ (N * 2 ^ (8 - m) + x.toNat / 2 ^ m) % P25)) ∧ Later w wr) (fun i _ => (intOf i + 1).toNat)
      case atStart =>
        refine ⟨8, by omega, rfl, h1, h2, ?_, L⟩
        have : x.toNat / 2 ^ 8 = 0 := Nat.div_eq_of_lt x.toNat_lt
        rw [this, Nat.sub_self, Nat.pow_zero, Nat.mul_one, Nat.add_zero]
        exact h3
      case round =>
        clear h1 h2 h3 L
        obtain ⟨m, hm, rfl, h1, h2, h3, L⟩ := hrel
        cases m with
        | zero =>
          simp only [dn_zero]
          go_wp2_with fail
          go_roundw
          case rel =>
            refine ⟨j, by omega, by rw [dn_pred], h1, h2, ?_, L⟩
            have e : N * 2 ^ (8 - 0) + x.toNat / 2 ^ 0 = N' := by
              rw [HN.out, Nat.pow_zero, Nat.div_one]
              show N * 256 + _ = _
              omega
            rw [e] at h3
            have hn' : num (bs.drop j) = N' := HNN.out
            rw [hn']
            exact h3
          case measure => simp [intOf]
        | succ m =>
          have d0 : wr.cell? ⟨b, o + j, none⟩ = some (W8 x) := (L.below.cell (p := ⟨b, o + j, none⟩) hb).trans HC.out
          have HE := hid (exp_step N x.toNat m (by omega))
          obtain ⟨y, hy⟩ : ∃ y, y = a ^ (N * 2 ^ (8 - (m + 1)) + x.toNat / 2 ^ (m + 1)) % P25 := ⟨_, rfl⟩
          rw [← hy] at h3
          have hyT : y < T256 := by rw [hy]; exact Nat.lt_trans (Nat.mod_lt _ P25_pos) (by decide)
          have HY := hid hy
          clear hy
          have hyy : y * y % P25 < T256 := Nat.lt_trans (Nat.mod_lt _ P25_pos) (by decide)
          have hbe := bit_eq x m
          have hcnt : cnt (UInt64.ofInt (m : Int)) = m := by rw [ofIntNat_w64, cnt, tn64 (by unfold B64; omega)]
          simp only [dn_succ]
          rcases Nat.mod_two_eq_zero_or_one (x.toNat / 2 ^ m) with hz | hz
          · have hd : (shr8 x m &&& 1 == 1) = false := by rw [hbe, hz]; rfl
            have HZ := hid hz
            clear hbe hz
            go_wp2_with (first
              | (refine load_E rfl _ rfl h3 rfl ?_)
              | (go_at_call 10; (with_reducible refine (square_any y hyT _).mono ?_); rintro e w4 ⟨rfl, hl4⟩)
              | (refine store_E rfl rfl _ _ rfl (h3.later hl4) rfl rfl (EL_length _) ?_; intro w5 hb5 ho5
                 have d5 : w5.cell? ⟨b, o + j, none⟩ = some (W8 x) := (((L.trans hl4).only ho5 (by omega)).below.cell (p := ⟨b, o + j, none⟩) hb).trans HC.out)
              | fail)
            go_roundw
            case rel =>
              refine ⟨m, by omega, by rw [dn_pred], (h1.later hl4).only ho5 (by omega), (h2.later hl4).only ho5 (by omega), ?_, (L.trans hl4).only ho5 (by omega)⟩
              rw [HE.out, HZ.out, Nat.add_zero, ← pow_two, ← HY.out]
              exact hb5
            case measure => simp [intOf]
          · have hd : (shr8 x m &&& 1 == 1) = true := by rw [hbe, hz]; rfl
            have HZ := hid hz
            clear hbe hz
            go_wp2_with (first
              | (refine load_E rfl _ rfl h3 rfl ?_)
              | (go_at_call 10; (with_reducible refine (square_any y hyT _).mono ?_); rintro e w4 ⟨rfl, hl4⟩)
              | (refine store_E rfl rfl _ _ rfl (h3.later hl4) rfl rfl (EL_length _) ?_; intro w5 hb5 ho5
                 have d5 : w5.cell? ⟨b, o + j, none⟩ = some (W8 x) := (((L.trans hl4).only ho5 (by omega)).below.cell (p := ⟨b, o + j, none⟩) hb).trans HC.out
                 have h15 := (h1.later hl4).only ho5 (by omega))
              | (refine load_E rfl _ rfl hb5 rfl ?_)
              | (refine load_E rfl _ rfl h15 rfl ?_)
              | (go_at_call 29; (with_reducible refine (multiply_any (y * y % P25) a hyy ha _).mono ?_); rintro e w6 ⟨rfl, hl6⟩)
              | (refine store_E rfl rfl _ _ rfl (hb5.later hl6) rfl rfl (EL_length _) ?_; intro w7 hb7 ho7)
              | fail)
            go_roundw
            case rel =>
              refine ⟨m, by omega, by rw [dn_pred], (h15.later hl6).only ho7 (by omega), (((h2.later hl4).only ho5 (by omega)).later hl6).only ho7 (by omega), ?_, (((L.trans hl4).only ho5 (by omega)).trans hl6).only ho7 (by omega)⟩
              rw [HE.out, HZ.out, ← pow_two_one, ← HY.out]
              first | exact hb7 | (rw [Nat.mod_mul_mod] at hb7; exact hb7)
            case measure => simp [intOf]
end Go.Proofs.Ytkibgdigcgakfaa
namespace Go.Proofs.Ytkibgdigcgakfaa
open Go.RowKit

theorem blk_rd {w : World} {g : Nat} {t : TypeId} {l : List Value} {n : Nat} (h : Blk w g t l) (hn : l.length = n) : Rd w (some ⟨g, 0, none⟩) n l :=
  ⟨hn, fun _ => ⟨g, 0, rfl, h.lt, fun j u hu => by rw [Nat.zero_add]; exact h.cellD j hu⟩⟩
theorem blk_rdB {w : World} {g : Nat} {t : TypeId} {bs : List UInt8} {n : Nat} (h : Blk w g t (bs.map W8)) (hn : bs.length = n) : RdB w (some ⟨g, 0, none⟩) n bs := blk_rd h (by simpa using hn)
/-- The bytes of p - 2. -/
def invBytes : List UInt8 := 235 :: (List.replicate 30 255 ++ [127])
theorem num_inv : num invBytes = P25 - 2 := by decide
def pinv (a : Nat) : Nat := a ^ (P25 - 2) % P25
theorem fill_255 (l : List Value) (hl : l = List.replicate 32 (Value.int .u8 255)) : (l.set 0 (.int .u8 235)).set 31 (.int .u8 127) = invBytes.map W8 := by
  subst hl
  rfl
set_option maxRecDepth 100000 in
set_option maxHeartbeats 2000000 in
theorem inv_any (a : Nat) (ha : a < T256) (w : World) :
    Calls Try.prog 11 #[E a] w fun e w' => e = .returned (E (pinv a)) ∧ Later w w' := by
  have h1 : Blk ((w.alloc (.cells (EL a).toArray 26)).alloc (.cells (List.replicate 4 (.int .u64 0)).toArray 26)) w.heap.size 26 (EL a) := (Blk.new _ _ _).later (later_alloc _ _)
  have h2 : Blk ((w.alloc (.cells (EL a).toArray 26)).alloc (.cells (List.replicate 4 (.int .u64 0)).toArray 26)) (w.heap.size + 1) 26 (List.replicate 4 (.int .u64 0)) := Blk.new' _ _ _ (by simp)
  have L0 : Later w ((w.alloc (.cells (EL a).toArray 26)).alloc (.cells (List.replicate 4 (.int .u64 0)).toArray 26)) := (later_alloc _ _).trans (later_alloc _ _)
  have HP := hid (power_any a ha)
  have HN := hid num_inv
  go_enter Try.func11, Try.ntmps11
  go_wp2_with (first
    | (refine wpList_make_n rfl _ _ 31 rfl 5 (.int .u8 0) 1 Try.underlying31 info8 rfl _ _ _ _ 32 rfl rfl rfl rfl (by omega) (by omega) ?_; intro w2 hb2 hl2)
    | fail)
  have h12 := h1.later hl2
  have h22 := h2.later hl2
  have L2 := L0.trans hl2
  replace hb2 : Blk w2 (w.heap.size + 1 + 1) 5 (List.replicate 32 (.int .u8 0)) := Eq.mp (congrArg (fun g => Blk w2 g 5 (List.replicate 32 (.int .u8 0))) (by simp)) hb2
  clear h1 h2 L0 hl2
  go_loopw [8] (fun i wr => ∃ k : Nat, k ≤ 32 ∧ i = .int .i64 k ∧ Blk wr w.heap.size 26 (EL a) ∧ Blk wr (w.heap.size + 1) 26 (List.replicate 4 (.int .u64 0)) ∧ Blk wr (w.heap.size + 1 + 1) 5 (filled (List.replicate 32 (.int .u8 255)) (List.replicate 32 (.int .u8 0)) k) ∧ Later w wr) (fun i _ => 32 - (intOf i).toNat)
  case atStart => exact ⟨0, by omega, rfl, h12, h22, by rw [filled_zero]; exact hb2, L2⟩
  case round =>
    clear h12 h22 hb2 L2
    obtain ⟨k, hk, rfl, h1, h2, h3, L⟩ := hrel
    by_cases hlt : k < 32
    · go_wp2_with (first
        | (refine wpList_store_in rfl rfl _ _ _ rfl _ _ _ _ h3 rfl ?hl rfl (by kernel_rfl) ?_; (case hl => rw [filled_length _ _ _ (by rfl)]; exact hlt); intro v w6 hv hb6 ho6; simp [go_sem] at hv; subst hv)
        | fail)
      go_roundw
      case rel =>
        rw [filled_step _ _ _ _ (by rfl) hlt (by rw [List.getElem?_replicate, if_pos hlt])] at hb6
        exact ⟨k + 1, by omega, by go_num, h1.only ho6 (by omega), h2.only ho6 (by omega), hb6, L.only ho6 (by omega)⟩
      case measure => simp [intOf]; omega
    · have HF := hid (fill_255 _ (filled_all (List.replicate 32 (Value.int .u8 255)) (List.replicate 32 (.int .u8 0)) 32 rfl rfl))
      rw [show k = 32 by omega] at h3
      have hkf : decide ((k : Int) < 32) = false := by simp; omega
      go_wp2_with (first
        | (refine wpList_store_in rfl rfl _ _ _ rfl _ _ _ _ h3 rfl ?hl rfl (by kernel_rfl) ?_; (case hl => rw [filled_length _ _ _ (by rfl)]; decide); intro v w6 hv hb6 ho6; simp [go_sem] at hv; subst hv)
        | (refine wpList_store_in rfl rfl _ _ _ rfl _ _ _ _ hb6 rfl ?hl rfl (by kernel_rfl) ?_; (case hl => rw [List.length_set, filled_length _ _ _ (by rfl)]; decide); intro v w7 hv hb7 ho7; simp [go_sem] at hv; subst hv
           rw [HF.out] at hb7
           have h17 := (h1.only ho6 (by omega)).only ho7 (by omega)
           have h27 := (h2.only ho6 (by omega)).only ho7 (by omega)
           have L7 := (L.only ho6 (by omega)).only ho7 (by omega))
        | (refine load_E rfl _ rfl h17 rfl ?_)
        | (go_at_call 14; (with_reducible refine (HP.out _ 32 _ invBytes _ (blk_rdB hb7 rfl) (by omega)).mono ?_); rintro e w8 ⟨rfl, hl8⟩
           rw [HN.out])
        | (refine store_E rfl rfl _ _ rfl (h27.later hl8) rfl rfl rfl ?_; intro w9 hb9 ho9)
        | fail)
      exact bodyPost_ret (ret_E rfl hb9 rfl) rfl ⟨rfl, (L7.trans hl8).only ho9 (by omega)⟩

/-! ### Lists of elements -/
def RdE (w : World) (A : Option Addr) (n : Nat) (ns : List Nat) : Prop :=
  ns.length = n ∧ (0 < n → ∃ b o, A = some ⟨b, o, none⟩ ∧ b < w.heap.size ∧ ∀ j i v, j < n → (EL (ns.getD j 0))[i]? = some v → w.cell? ⟨b, o + j * 4 + i, none⟩ = some v)
theorem RdE.later {w w' : World} {A : Option Addr} {n : Nat} {ns : List Nat} (h : RdE w A n ns) (hl : Later w w') : RdE w' A n ns := by
  refine ⟨h.1, fun hn => ?_⟩
  obtain ⟨b, o, hA, hb, hc⟩ := h.2 hn
  exact ⟨b, o, hA, Nat.lt_of_lt_of_le hb hl.size, fun j i v hj hv => (hl.below.cell (p := ⟨b, o + j * 4 + i, none⟩) hb).trans (hc j i v hj hv)⟩
theorem rdE_none (w : World) : RdE w none 0 [] := ⟨rfl, fun h => absurd h (by omega)⟩
theorem take_sum (l : List Nat) (k : Nat) (h : k < l.length) : (l.take (k + 1)).sum = (l.take k).sum + l.getD k 0 := by
  rw [List.take_succ_eq_append_getElem h, List.sum_append, List.getD_eq_getElem?_getD, List.getElem?_eq_getElem h]
  simp
def prodN : List Nat → Nat
  | [] => 1
  | x :: l => x * prodN l
theorem prodN_append : ∀ l m : List Nat, prodN (l ++ m) = prodN l * prodN m
  | [], m => by simp [prodN]
  | x :: l, m => by rw [List.cons_append, prodN, prodN_append l m, prodN, Nat.mul_assoc]
theorem take_prod (l : List Nat) (k : Nat) (h : k < l.length) : prodN (l.take (k + 1)) = prodN (l.take k) * l.getD k 0 := by
  rw [List.take_succ_eq_append_getElem h, prodN_append, List.getD_eq_getElem?_getD, List.getElem?_eq_getElem h]
  simp [prodN]
theorem getD_mem {l : List Nat} {j : Nat} (h : j < l.length) : l.getD j 0 ∈ l := by
  rw [List.getD_eq_getElem?_getD, List.getElem?_eq_getElem h]
  exact List.getElem_mem h
set_option maxRecDepth 100000 in
set_option maxHeartbeats 2000000 in
theorem sum_any (A : Option Addr) (n c : Nat) (ns : List Nat) (w : World) (hr : RdE w A n ns) (hns : ∀ x ∈ ns, x < T256) (hn : n ≤ 140737488355328) :
    Calls Try.prog 6 #[.slice A n c] w fun e w' => e = .returned (E (ns.sum % P25)) ∧ Later w w' := by
  have hnl := hr.1
  go_enter Try.func6, Try.ntmps6
  go_wp2
  go_loopw [8] (fun i wr => ∃ k : Nat, k ≤ n ∧ i = .int .i64 k ∧ Blk wr w.heap.size 26 (List.replicate 4 (.int .u64 0)) ∧ Blk wr (w.heap.size + 1) 26 (EL ((ns.take k).sum % P25)) ∧ Later w wr) (fun i _ => n - (intOf i).toNat)
  case atStart => exact ⟨0, by omega, rfl, (Blk.new w _ (List.replicate 4 (Value.int .u64 0))).later (later_alloc _ _), by rw [List.take_zero]; exact Blk.new' _ _ (List.replicate 4 (Value.int .u64 0)) (by simp), (later_alloc _ _).trans (later_alloc _ _)⟩
  case round =>
    obtain ⟨k, hk, rfl, h1, h2, L⟩ := hrel
    by_cases hlt : k < n
    · obtain ⟨b, o, rfl, hb, hc⟩ := (hr.later L).2 (by omega)
      have HT := hid (take_sum ns k (by omega))
      have hx : ns.getD k 0 < T256 := hns _ (getD_mem (by omega))
      have hc' := fun i v hv => hc k i v hlt hv
      generalize ns.getD k 0 = x at *
      have HC := hid hc'
      clear hc hc' hr
      generalize hs : (ns.take k).sum = s at *
      have HSS := hid hs
      clear hs
      go_wp2_with (first
        | (refine wpList_load_agg rfl 26 _ rfl b (o + k * 4) (EL x) ?hc ?hx _ Try.underlying26 rfl ?hi ?_; (case hx => rfl); (case hi => rw [EL_length]; exact sizeE); (case hc => intro j v hv; exact HC.out j v hv))
        | (refine store_E (g := wr.heap.size) rfl rfl _ _ rfl (Blk.new _ _ (List.replicate 4 (.int .u64 0))) rfl rfl rfl ?_; intro w3 hb3 ho3)
        | fail)
      have L3 : Later wr w3 := (later_alloc _ _).only ho3 (by omega)
      have h23 := h2.later L3
      go_wp2_with fail
      refine wp_region_parts [([0, 1], 2)] [] [3, 4] (by as_aux_lemma => kernel_rfl) (by as_aux_lemma => kernel_rfl) (by intro _ _ d _ _ h; cases d <;> exact h) ?_
      simp only [wpParts, pick, List.getElem?_cons_succ, List.getElem?_cons_zero, Option.toList_some, List.cons_append, List.nil_append]
      repeat (first | go_big_quiet_skip | (go_big_quiet_want; (first | refine quiet_E _ rfl h23.drew rfl ?_ | refine quiet_E _ rfl hb3.drew rfl ?_); simp only [Act.put, List.setIfInBounds_toArray, List.set_cons_succ, List.set_cons_zero]; go_big_quiet_on) | (go_big_quiet_step (fail)))
      refine wpQuiet_nil ?_
      go_wp2_with fail
      (with_reducible refine (norm_any x hx _).mono ?_); rintro e w4 ⟨rfl, hl4⟩
      go_wp2_with fail
      try refine ⟨by first | assumption | exact later_drew _ | exact later_alloc _ _ | exact Later.refl _, ?_⟩
      try simp only [wpParts, pick, List.getElem?_cons_succ, List.getElem?_cons_zero, Option.toList_some, List.cons_append, List.nil_append]
      repeat (go_big_quiet_step (fail))
      refine wpQuiet_nil ?_
      go_wp2_with fail
      (with_reducible refine (add_any' (s % P25) (x % P25) (by have := Nat.mod_lt s P25_pos; have := Nat.mod_lt x P25_pos; unfold P25 at *; unfold T256; omega) _).mono ?_); rintro e w5 ⟨rfl, hl5⟩
      have h25 := ((h23.drew).later hl4).later hl5
      go_wp2_with (first
        | (refine store_E rfl rfl _ _ rfl h25 rfl rfl (EL_length _) ?_; intro w6 hb6 ho6)
        | fail)
      have L5 : Later wr w5 := (((L3.trans (later_drew _)).trans hl4).trans hl5)
      go_roundw
      case rel =>
        refine ⟨k + 1, by omega, by go_num, (h1.later L5).only ho6 (by omega), ?_, (L.trans L5).only ho6 (by omega)⟩
        rw [HT.out]
        first | exact hb6 | (rw [← Nat.add_mod]; exact hb6) | (rw [Nat.add_mod]; exact hb6)
      case measure => simp [intOf]; omega
    · rw [show k = n by omega, List.take_of_length_le (by omega)] at h2
      have hkf : decide ((k : Int) < (n : Int)) = false := by simp; omega
      go_wp2_with (first
        | (refine load_E rfl _ rfl h2 rfl ?_)
        | (refine store_E rfl rfl _ _ rfl h1 rfl rfl rfl ?_; intro w9 hb9 ho9)
        | fail)
      exact bodyPost_ret (ret_E rfl hb9 rfl) rfl ⟨rfl, L.only ho9 (by omega)⟩

theorem run_slice_fromS {P : Program} {t e : TypeId} (s : Nat) (ht : P.underlying t = some (.slice e)) (hs : (P.info? e).map (·.size) = some s) (A : Option Addr) (n c : Nat) (kl : IntKind) (l : Nat) (h1 : l ≤ n) (W : World) :
    (Instr.sliceAt t (.slice A n c) (some (.int kl l)) none none).run P W = .ok (.slice (if c = l then A else A.map (·.add (l * s))) (n - l) (c - l)) W := by
  have he : P.elem t = e := by unfold Program.elem; rw [ht]
  have ht' : P.underlying t = some (.slice (P.elem t)) := by rw [he]; exact ht
  rw [run_sliceAt_slice _ _ _ _ _ _ ht', run_slice_l (ht := ht') (h0 := by omega) (h1 := by omega), he]
  cases hq : P.info? e with
  | none => simp [hq] at hs
  | some i =>
    have hsz : i.size = s := by simpa [hq] using hs
    simp [sizeOf, typeInfo, hq, hsz, sliced]
theorem RdE.cut1 {w : World} {A : Option Addr} {n : Nat} {ns : List Nat} (h : RdE w A n ns) (h1 : 1 < n) : RdE w (A.map (·.add 4)) (n - 1) ns.tail := by
  refine ⟨by rw [List.length_tail, h.1], fun hn => ?_⟩
  obtain ⟨b, o, rfl, hb, hc⟩ := h.2 (by omega)
  refine ⟨b, o + 4, by rw [Option.map_some, add_at], hb, fun j i v hj hv => ?_⟩
  have e : ns.tail.getD j 0 = ns.getD (j + 1) 0 := by rw [List.getD_eq_getElem?_getD, List.getD_eq_getElem?_getD, List.getElem?_tail]
  rw [e] at hv
  have := hc (j + 1) i v (by omega) hv
  rw [show o + 4 + j * 4 + i = o + (j + 1) * 4 + i by omega]
  exact this
set_option maxRecDepth 100000 in
set_option maxHeartbeats 2000000 in
theorem product_any (A : Option Addr) (n c : Nat) (ns : List Nat) (w : World) (hr : RdE w A n ns) (hns : ∀ x ∈ ns, x < T256) (hn : n ≤ c) (hc0 : n ≤ 140737488355328) :
    Calls Try.prog 7 #[.slice A n c] w fun e w' => e = .returned (E (prodN ns % P25)) ∧ Later w w' := by
  have hnl := hr.1
  have hb0 := Blk.new w 26 (List.replicate 4 (Value.int .u64 0))
  rcases Nat.eq_zero_or_pos n with hz | hz
  · subst hz
    obtain rfl : ns = [] := List.eq_nil_of_length_eq_zero hnl
    go_enter Try.func7, Try.ntmps7
    go_wp2_with (first
      | (go_at_call 13; (with_reducible refine (of_1 _).mono ?_); rintro e w2 ⟨rfl, hl2⟩)
      | (refine store_E rfl rfl _ _ rfl (hb0.later hl2) rfl rfl rfl ?_; intro w3 hb3 ho3)
      | fail)
    exact bodyPost_ret (ret_E rfl hb3 rfl) rfl ⟨rfl, ((later_alloc _ _).trans hl2).only ho3 (by omega)⟩
  · have hne : ((n : Int) == 0) = false := by simp; omega
    have hlt0 : decide ((0 : Int) < (n : Int)) = true := by simp; omega
    obtain ⟨T, d, hcutT, hT⟩ : ∃ (T : Option Addr) (d : Nat), (∀ W, (Instr.sliceAt 64 (.slice A n c) (some (.int .i64 1)) none none).run Try.prog W = .ok (.slice T (n - 1) d) W) ∧ RdE w T (n - 1) ns.tail := by
      refine ⟨_, _, run_slice_fromS 4 Try.underlying64 sizeE A n c .i64 1 hz, ?_⟩
      by_cases h1 : 1 < n
      · rw [if_neg (by omega)]
        exact hr.cut1 h1
      · refine ⟨by rw [List.length_tail, hnl], fun h => by omega⟩
    obtain ⟨b, o, rfl, hb, hc⟩ := hr.2 hz
    have hx0 : ns.getD 0 0 < T256 := hns _ (getD_mem (by omega))
    have hc0' : ∀ i v, (EL (ns.getD 0 0))[i]? = some v → w.cell? ⟨b, o + i, none⟩ = some v := fun i v hv => by have := hc 0 i v hz hv; rwa [Nat.zero_mul, Nat.add_zero] at this
    have HX := hid (show ns.take 1 = [ns.getD 0 0] by cases ns with | nil => simp at hnl; omega | cons y l => rfl)
    have hnt : ∀ x ∈ ns.tail, x < T256 := fun x hx => hns x (List.mem_of_mem_tail hx)
    have HTL := hid (show ∀ k, k < n - 1 → prodN (ns.take (k + 1 + 1)) = prodN (ns.take (k + 1)) * ns.tail.getD k 0 by
      intro k hk
      rw [take_prod ns (k + 1) (by omega)]
      congr 1
      rw [List.getD_eq_getElem?_getD, List.getD_eq_getElem?_getD, List.getElem?_tail])
    have HC0 := hid hc0'
    clear hc hc0' hr
    generalize hX0 : ns.getD 0 0 = x0 at *
    go_enter Try.func7, Try.ntmps7
    clear hX0
    go_wp2_with (first
      | (refine wpList_load_agg rfl 26 _ rfl b o (EL x0) ?hc ?hx _ Try.underlying26 rfl ?hi ?_; (case hx => rfl); (case hi => rw [EL_length]; exact sizeE); (case hc => intro j v hv; exact ((later_alloc w _).below.cell (p := ⟨b, o + j, none⟩) hb).trans (HC0.out j v hv)))
      | (go_at_call 9; (with_reducible refine (norm_any x0 hx0 _).mono ?_); rintro e w2 ⟨rfl, hl2⟩)
      | (refine store_E rfl rfl _ _ rfl (Blk.new w2 _ (List.replicate 4 (.int .u64 0))) rfl rfl rfl ?_; intro w3 hb3 ho3)
      | fail)
    have hb03 := ((hb0.later hl2).later (later_alloc _ (.cells (List.replicate 4 (.int .u64 0)).toArray 26))).only ho3 (Nat.ne_of_lt (hb0.later hl2).lt)
    have L3 : Later w w3 := (((later_alloc _ _).trans hl2).trans (later_alloc _ _)).only ho3 (by have := ((later_alloc w _).trans hl2).size; omega)
    have hg : w.heap.size < w2.heap.size := (hb0.later hl2).lt
    generalize w2.heap.size = g at *
    clear hb0 hl2 ho3 HC0
    go_loopw [17] (fun i wr => ∃ k : Nat, k ≤ n - 1 ∧ i = .int .i64 k ∧ Blk wr w.heap.size 26 (List.replicate 4 (.int .u64 0)) ∧ Blk wr g 26 (EL (prodN (ns.take (k + 1)) % P25)) ∧ Later w wr) (fun i _ => n - 1 - (intOf i).toNat)
    case atStart => exact ⟨0, by omega, rfl, hb03, by rw [Nat.zero_add, HX.out]; simpa [prodN] using hb3, L3⟩
    case round =>
      clear hb03 hb3 L3
      obtain ⟨k, hk, rfl, h1, h2, L⟩ := hrel
      by_cases hlt : k < n - 1
      · obtain ⟨b1, o1, rfl, hb1, hc1⟩ := (hT.later L).2 (by omega)
        have HT := hid (HTL.out k hlt)
        have hx : ns.tail.getD k 0 < T256 := hnt _ (getD_mem (by rw [List.length_tail]; omega))
        have hc' := fun i v hv => hc1 k i v hlt hv
        generalize ns.tail.getD k 0 = x at *
        have HC := hid hc'
        clear hc1 hc'
        obtain ⟨y, hy⟩ : ∃ y, y = prodN (ns.take (k + 1)) % P25 := ⟨_, rfl⟩
        rw [← hy] at h2
        have hyT : y < T256 := by rw [hy]; exact Nat.lt_trans (Nat.mod_lt _ P25_pos) (by decide)
        have HY := hid hy
        clear hy
        have hkb : decide ((k : Int) < ((n - 1 : Nat) : Int)) = true := by simp; omega
        have hkx : (k < n - 1) = True := eq_true hlt
        go_wp2_with (first
          | (refine wpList_load_agg rfl 26 _ rfl b1 (o1 + k * 4) (EL x) ?hc ?hx _ Try.underlying26 rfl ?hi ?_; (case hx => rfl); (case hi => rw [EL_length]; exact sizeE); (case hc => intro j v hv; exact HC.out j v hv))
          | (refine store_E (g := wr.heap.size) rfl rfl _ _ rfl (Blk.new _ _ (List.replicate 4 (.int .u64 0))) rfl rfl rfl ?_; intro w4 hb4 ho4
             have L4 : Later wr w4 := (later_alloc _ _).only ho4 (by omega)
             have h24 := h2.later L4)
          | (refine load_E rfl _ rfl h24 rfl ?_)
          | (refine load_E rfl _ rfl hb4 rfl ?_)
          | (go_at_call 29; (with_reducible refine (multiply_any y x hyT hx _).mono ?_); rintro e w5 ⟨rfl, hl5⟩)
          | (refine store_E rfl rfl _ _ rfl (h24.later hl5) rfl rfl (EL_length _) ?_; intro w6 hb6 ho6)
          | fail)
        go_roundw
        case rel =>
          refine ⟨k + 1, by omega, by go_num, ((h1.later L4).later hl5).only ho6 (by omega), ?_, ((L.trans L4).trans hl5).only ho6 (by omega)⟩
          rw [HT.out, Nat.mul_mod, ← HY.out]
          first | exact hb6 | (rw [Nat.mul_mod, HY.out, Nat.mod_mod, ← HY.out] at hb6; exact hb6)
        case measure => simp [intOf]; omega
      · rw [show k + 1 = n by omega, List.take_of_length_le (by omega)] at h2
        have hkf : decide ((k : Int) < ((n - 1 : Nat) : Int)) = false := by simp; omega
        have hkx : (k < n - 1) = False := eq_false hlt
        go_wp2_with (first
          | (refine load_E rfl _ rfl h2 rfl ?_)
          | (refine store_E rfl rfl _ _ rfl h1 rfl rfl rfl ?_; intro w9 hb9 ho9)
          | fail)
        exact bodyPost_ret (ret_E rfl hb9 rfl) rfl ⟨rfl, L.only ho9 (by omega)⟩
end Go.Proofs.Ytkibgdigcgakfaa
namespace Go.Proofs.Ytkibgdigcgakfaa
open Go.RowKit

/-- The bytes of a number. -/
def nb (n : Nat) : List UInt8 := (dig 256 32 n).map UInt8.ofNat
abbrev BB (n : Nat) : Value := .agg ((nb n).map W8).toArray
theorem nb_length (n : Nat) : (nb n).length = 32 := by rw [nb, List.length_map, dig_length]
theorem nb_get (n i : Nat) (h : i < 32) : (nb n)[i]? = some (UInt8.ofNat (n / 256 ^ i % 256)) := by rw [nb, List.getElem?_map, dig_get _ _ _ _ h]; rfl
theorem map_toNat_ofNat : ∀ l : List Nat, (∀ x ∈ l, x < 256) → (l.map UInt8.ofNat).map UInt8.toNat = l
  | [], _ => rfl
  | x :: l, h => by
    rw [List.map_cons, List.map_cons, map_toNat_ofNat l (fun y hy => h y (by simp [hy])), UInt8.toNat_ofNat', Nat.mod_eq_of_lt (h x (by simp))]
theorem num_nb (n : Nat) (h : n < T256) : num (nb n) = n := by
  rw [num, nb, map_toNat_ofNat _ (dig_lt (by decide) 32 n), val_dig, Nat.mod_eq_of_lt (show n < 256 ^ 32 from h)]
theorem nb_num (bs : List UInt8) (h : bs.length = 32) : nb (num bs) = bs := by
  have e := dig_val (B := 256) (bs.map UInt8.toNat) (by intro x hx; obtain ⟨y, _, rfl⟩ := List.mem_map.1 hx; exact y.toNat_lt)
  rw [List.length_map, h] at e
  rw [nb, num, e, List.map_map]
  conv => rhs; rw [← List.map_id bs]
  apply List.map_congr_left
  intro x _
  exact UInt8.ofNat_toNat
theorem num_lt (bs : List UInt8) : num bs < 256 ^ bs.length := by
  have := val_lt (B := 256) (bs.map UInt8.toNat) (by intro x hx; obtain ⟨y, _, rfl⟩ := List.mem_map.1 hx; exact y.toNat_lt)
  rwa [List.length_map] at this
theorem num_take (bs : List UInt8) (k : Nat) (h : k < bs.length) : num (bs.take (k + 1)) = num (bs.take k) + 256 ^ k * (bs.getD k 0).toNat := by
  have := val_take_succ 256 (bs.map UInt8.toNat) k (by simpa using h)
  rw [← List.map_take, ← List.map_take] at this
  have e : (bs.map UInt8.toNat).getD k 0 = (bs.getD k 0).toNat := by
    rw [List.getD_eq_getElem?_getD, List.getD_eq_getElem?_getD, List.getElem?_map, List.getElem?_eq_getElem h]
    rfl
  rw [e] at this
  exact this
theorem pow_split (k : Nat) : 256 ^ k = B64 ^ (k / 8) * 256 ^ (k % 8) := by
  have e : B64 = 256 ^ 8 := by decide
  rw [e, ← Nat.pow_mul, ← Nat.pow_add, Nat.div_add_mod]
theorem pow_split4 (k : Nat) : 256 ^ k = B32 ^ (k / 4) * 256 ^ (k % 4) := by
  have e : B32 = 256 ^ 4 := by decide
  rw [e, ← Nat.pow_mul, ← Nat.pow_add, Nat.div_add_mod]
theorem mod_div_mod (x a b c : Nat) (ha : 0 < a) (h : b * c ∣ a) (_hb : 0 < b) : x % a / b % c = x / b % c := by
  obtain ⟨d, rfl⟩ := h
  rw [Nat.mul_assoc, Nat.mod_mul_right_div_self, Nat.mod_mul_right_mod]
/-- Byte k of a number by its limbs. -/
theorem byte_lim (n k : Nat) (_hk : k < 32) : lim n (k / 8) / 2 ^ (8 * (k % 8)) % 256 = n / 256 ^ k % 256 := by
  rw [pow_split k, ← Nat.div_div_eq_div_mul, lim, Nat.pow_mul]
  generalize n / B64 ^ (k / 8) = x
  refine mod_div_mod x B64 (256 ^ (k % 8)) 256 B64_pos ?_ (Nat.pow_pos (by decide))
  have : B64 = 256 ^ 8 := by decide
  rw [this, ← Nat.pow_succ]
  exact Nat.pow_dvd_pow 256 (by omega)
theorem byte_lem (n k : Nat) (_hk : k < 32) : lem n (k / 4) / 2 ^ (8 * (k % 4)) % 256 = n / 256 ^ k % 256 := by
  rw [pow_split4 k, ← Nat.div_div_eq_div_mul, lem, Nat.pow_mul]
  generalize n / B32 ^ (k / 4) = x
  refine mod_div_mod x B32 (256 ^ (k % 4)) 256 B32_pos ?_ (Nat.pow_pos (by decide))
  have : B32 = 256 ^ 4 := by decide
  rw [this, ← Nat.pow_succ]
  exact Nat.pow_dvd_pow 256 (by omega)
/-- One byte more into the limbs. -/
theorem EL_more (V x k : Nat) (_hk : k < 32) (hV : V < 256 ^ k) (hx : x < 256) : (EL V).set (k / 8) (n64 (lim V (k / 8) + x * 2 ^ (8 * (k % 8)))) = EL (V + 256 ^ k * x) := by
  have hp := pow_split k
  have hB : B64 = 256 ^ 8 := by decide
  have hlt : V + 256 ^ k * x < 256 ^ (k + 1) := by
    rw [Nat.pow_succ]
    have : 256 ^ k * x ≤ 256 ^ k * 255 := Nat.mul_le_mul_left _ (by omega)
    omega
  have hbound : 256 ^ (k + 1) ≤ B64 ^ (k / 8 + 1) := by
    rw [hB, ← Nat.pow_mul]
    exact Nat.pow_le_pow_right (by decide) (by omega)
  apply List.ext_getElem (by rw [List.length_set, EL_length, EL_length])
  intro j h1 h2
  rw [EL_length] at h2
  rw [List.getElem_set]
  split
  · rename_i hj
    subst hj
    rw [EL_at]
    congr 1
    rw [lim, lim, hp, Nat.mul_assoc, Nat.add_mul_div_left _ _ (Nat.pow_pos B64_pos), Nat.pow_mul]
    have hV1 : V / B64 ^ (k / 8) < 256 ^ (k % 8) := Nat.div_lt_of_lt_mul (by rw [← hp]; exact hV)
    have hle : 256 ^ (k % 8) * 256 ≤ B64 := by
      rw [hB, ← Nat.pow_succ]
      exact Nat.pow_le_pow_right (by decide) (by omega)
    have hxx : 256 ^ (k % 8) * x ≤ 256 ^ (k % 8) * 255 := Nat.mul_le_mul_left _ (by omega)
    have e : (2 : Nat) ^ 8 = 256 := by decide
    rw [e, Nat.mul_comm x]
    rw [Nat.mod_eq_of_lt (show V / B64 ^ (k / 8) < B64 by omega), Nat.mod_eq_of_lt (show V / B64 ^ (k / 8) + 256 ^ (k % 8) * x < B64 by omega)]
  · rename_i hj
    rw [EL_at, EL_at]
    congr 1
    rcases Nat.lt_or_ge j (k / 8) with hl | hl
    · rw [lim, lim, hp]
      obtain ⟨d, hd⟩ : ∃ d, k / 8 = j + 1 + d := ⟨k / 8 - j - 1, by omega⟩
      rw [hd, Nat.pow_add, Nat.pow_succ, Nat.mul_assoc, Nat.mul_assoc, Nat.mul_assoc, Nat.add_mul_div_left _ _ (Nat.pow_pos B64_pos), Nat.add_mul_mod_self_left]
    · have hjj : k / 8 + 1 ≤ j := by omega
      have hpp : B64 ^ (k / 8 + 1) ≤ B64 ^ j := Nat.pow_le_pow_right (by decide) hjj
      have hVk : V < B64 ^ j := Nat.lt_of_lt_of_le hV (Nat.le_trans (Nat.pow_le_pow_right (by decide) (by omega)) (Nat.le_trans hbound hpp))
      rw [lim, lim, Nat.div_eq_of_lt hVk, Nat.div_eq_of_lt (Nat.lt_of_lt_of_le hlt (Nat.le_trans hbound hpp))]
theorem or_add (a s y : Nat) (h : a < 2 ^ s) : a ||| (y * 2 ^ s) = a + y * 2 ^ s := by
  have := Nat.two_pow_add_eq_or_of_lt h y
  rw [Nat.or_comm, Nat.mul_comm y, ← this, Nat.add_comm]
theorem lim_low (V k : Nat) (hV : V < 256 ^ k) : lim V (k / 8) < 2 ^ (8 * (k % 8)) := by
  have hV1 : V / B64 ^ (k / 8) < 256 ^ (k % 8) := Nat.div_lt_of_lt_mul (by rw [← pow_split]; exact hV)
  rw [lim, Nat.pow_mul]
  exact Nat.lt_of_le_of_lt (Nat.mod_le _ _) hV1
end Go.Proofs.Ytkibgdigcgakfaa
namespace Go.Proofs.Ytkibgdigcgakfaa
open Go.RowKit

@[go_sem] theorem shr_n64W (T : TypeId) (x : Nat) (hx : x < B64) (k : UInt64) : binOp .shr T (n64 x) (W64 k) = pure (n64 (x / 2 ^ (cnt k))) := by
  have := shr_n64 T x hx .u64 (k.toNat : Int) (by omega)
  rw [Int.toNat_natCast] at this
  exact this
@[go_sem] theorem or_n64W (T : TypeId) (x : Nat) (hx : x < B64) (y : UInt64) : binOp .or T (n64 x) (W64 y) = pure (n64 (x ||| y.toNat)) := by
  rw [n64, or_w64, n64_w]
  rw [UInt64.toNat_or, tn64 hx, Nat.mod_eq_of_lt (show (x ||| y.toNat) < B64 from Nat.or_lt_two_pow (n := 64) hx y.toNat_lt)]
theorem cnt_mul8 (i : Nat) (h : i < 32) : cnt (8 * UInt64.ofInt ((i : Int) % 8)) = 8 * (i % 8) := by
  have : ∀ k : Fin 32, cnt (8 * UInt64.ofInt ((k.val : Int) % 8)) = 8 * (k.val % 8) := by decide
  exact this ⟨i, h⟩
theorem size32b : (Try.prog.info? 48).map (·.size) = some 32 := by kernel_rfl
theorem n8_of {n m : Nat} (h : n % 256 = m % 256) : n8 n = n8 m := by
  rw [n8]
  apply n8_w
  rw [UInt8.toNat_ofNat', ← h]
set_option maxRecDepth 100000 in
set_option maxHeartbeats 2000000 in
theorem bytes_any (n : Nat) (hn : n < T256) (w : World) :
    Calls Try.prog 43 #[E n] w fun e w' => e = .returned (BB (n % P25)) ∧ Later w w' := by
  have h1 : Blk ((w.alloc (.cells (EL n).toArray 26)).alloc (.cells (List.replicate 32 (Value.int .u8 0)).toArray 48)) w.heap.size 26 (EL n) := (Blk.new _ _ _).later (later_alloc _ _)
  have h2 : Blk ((w.alloc (.cells (EL n).toArray 26)).alloc (.cells (List.replicate 32 (Value.int .u8 0)).toArray 48)) (w.heap.size + 1) 48 (List.replicate 32 (.int .u8 0)) := Blk.new' _ _ _ (by simp)
  have L0 : Later w ((w.alloc (.cells (EL n).toArray 26)).alloc (.cells (List.replicate 32 (Value.int .u8 0)).toArray 48)) := (later_alloc _ _).trans (later_alloc _ _)
  have hlS : ((nb (n % P25)).map W8).length = 32 := by rw [List.length_map, nb_length]
  have HGet := hid (fun k (h : k < 32) => show ((nb (n % P25)).map W8)[k]? = some (n8 (n % P25 / 256 ^ k % 256)) by rw [List.getElem?_map, nb_get _ _ h]; rfl)
  go_enter Try.func43, Try.ntmps43
  go_wp2_with (first
    | (refine load_E rfl _ rfl h1 rfl ?_)
    | (go_at_call 9; (with_reducible refine (norm_any n hn _).mono ?_); rintro e w2 ⟨rfl, hl2⟩)
    | (refine store_E rfl rfl _ _ rfl (h1.later hl2) rfl rfl (EL_length _) ?_; intro w3 hb3 ho3
       have h23 := (h2.later hl2).only ho3 (by omega)
       have L3 := (L0.trans hl2).only ho3 (by omega))
    | fail)
  have hg : w.heap.size + 1 < w3.heap.size := h23.lt
  clear h1 h2 L0 hl2 ho3
  generalize hM : n % P25 = M at *
  have HM := hid hM
  clear hM
  go_loopw [7] (fun i wr => ∃ k : Nat, k ≤ 32 ∧ i = .int .i64 k ∧ Blk wr w.heap.size 26 (EL M) ∧ Blk wr (w.heap.size + 1) 48 (List.replicate 32 (.int .u8 0)) ∧ Blk wr w3.heap.size 48 (filled ((nb M).map W8) (List.replicate 32 (.int .u8 0)) k) ∧ Later w wr) (fun i _ => 32 - (intOf i).toNat)
  case atStart => exact ⟨0, by omega, rfl, hb3.later (later_alloc _ _), h23.later (later_alloc _ _), by rw [filled_zero]; exact Blk.new _ _ (List.replicate 32 (Value.int .u8 0)), L3.trans (later_alloc _ _)⟩
  case round =>
    clear hb3 h23
    have hL3 := L3.size
    clear L3
    obtain ⟨k, hk, rfl, h1, h2, h3, L⟩ := hrel
    by_cases hlt : k < 32
    · have d0 := h1.cellD (k / 8) (EL_get M (k / 8) (by omega))
      have hct := cnt_mul8 k hlt
      have hbl := hid (byte_lim M k hlt)
      go_wp2_with (first
        | (refine wpList_store_in rfl rfl _ _ _ rfl _ _ _ _ h3 rfl ?hl rfl (by kernel_rfl) ?_; (case hl => rw [filled_length _ _ _ (by rw [hlS]; rfl)]; exact hlt); intro v w6 hv hb6 ho6; simp [go_sem] at hv; subst hv)
        | fail)
      go_roundw
      case rel =>
        rw [n8_of (show lim M (k / 8) / 2 ^ (8 * (k % 8)) % 256 = M / 256 ^ k % 256 % 256 by rw [hbl.out, Nat.mod_mod]), filled_step _ _ _ _ (by rw [hlS]; rfl) hlt (HGet.out k hlt)] at hb6
        exact ⟨k + 1, by omega, by go_num, h1.only ho6 (by omega), h2.only ho6 (by omega), hb6, L.only ho6 (by omega)⟩
      case measure => simp [intOf]; omega
    · rw [show k = 32 by omega, filled_all _ _ _ hlS rfl] at h3
      have hkf : decide ((k : Int) < 32) = false := by simp; omega
      go_wp2_with (first
        | (refine wpList_load_blk rfl 48 _ rfl _ _ _ h3 rfl _ Try.underlying48 rfl 32 size32b hlS ?_)
        | (refine wpList_store_blk rfl rfl 48 _ _ rfl _ _ _ _ h2 rfl rfl 32 size32b hlS rfl (w8_one _) ?_; intro w9 hb9 ho9)
        | fail)
      exact bodyPost_ret (results_blk rfl _ _ _ _ ((nb M).map W8) _ hb9 rfl Try.underlying48 rfl (by rw [hlS]; exact size32b)) rfl ⟨by rw [HM.out], L.only ho9 (by omega)⟩

theorem shl_byte (x : UInt8) (r : Nat) (hr : r < 8) : (shl64 x.toUInt64 (8 * r)).toNat = x.toNat * 2 ^ (8 * r) := by
  rw [shl64]
  show (BitVec.toNat _) = _
  rw [BitVec.toNat_shiftLeft, Nat.shiftLeft_eq]
  show x.toUInt64.toNat * _ % _ = _
  rw [UInt8.toNat_toUInt64, Nat.mod_eq_of_lt]
  have hx := x.toNat_lt
  have h1 : 2 ^ (8 * r) ≤ 2 ^ 56 := Nat.pow_le_pow_right (by decide) (by omega)
  have h2 : x.toNat * 2 ^ (8 * r) ≤ 255 * 2 ^ 56 := Nat.mul_le_mul (by omega) h1
  omega
/-- What Read answers. -/
def readN (bs : List UInt8) : Nat := if bs.length = 32 then num bs % T255 % P25 else 0
def readE (bs : List UInt8) : Nat := if bs.length = 32 then 0 else 2
set_option maxRecDepth 100000 in
set_option maxHeartbeats 2000000 in
theorem read_any (A : Option Addr) (n c : Nat) (bs : List UInt8) (w : World) (hr : RdB w A n bs) (hn : n ≤ 140737488355328) :
    Calls Try.prog 50 #[.slice A n c] w fun e w' => e = .returned (.tuple #[E (readN bs), .int .i64 (readE bs : Nat)]) ∧ Later w w' := by
  have hbl := hr.len
  have hb0 := Blk.new w 26 (List.replicate 4 (Value.int .u64 0))
  by_cases h32 : n = 32
  · subst h32
    have hRN := hid (show readN bs = num bs % T255 % P25 by rw [readN, if_pos hbl])
    have hRE := hid (show readE bs = 0 by rw [readE, if_pos hbl])
    obtain ⟨b, o, rfl, hb, hc⟩ := hr.at_ (by omega)
    have HC := hid hc
    have HT := hid (fun k (h : k < 32) => num_take bs k (by omega))
    have HL := hid (fun k (h : k ≤ 32) => show num (bs.take k) < 256 ^ k by have := num_lt (bs.take k); rwa [List.length_take, Nat.min_eq_left (by omega)] at this)
    have HF := hid (show bs.take 32 = bs from List.take_of_length_le (by omega))
    clear hc hr
    go_enter Try.func50, Try.ntmps50
    go_wp2
    go_loopw [13] (fun i wr => ∃ k : Nat, k ≤ 32 ∧ i = .int .i64 k ∧ Blk wr w.heap.size 26 (List.replicate 4 (.int .u64 0)) ∧ Blk wr (w.heap.size + 1) 26 (EL (num (bs.take k))) ∧ Later w wr) (fun i _ => 32 - (intOf i).toNat)
    case atStart => exact ⟨0, by omega, rfl, hb0.later (later_alloc _ _), by rw [List.take_zero]; exact Blk.new' _ _ (List.replicate 4 (Value.int .u64 0)) (by simp), (later_alloc _ _).trans (later_alloc _ _)⟩
    case round =>
      clear hb0
      obtain ⟨k, hk, rfl, h1, h2, L⟩ := hrel
      by_cases hlt : k < 32
      · have d0 := h2.cellD (k / 8) (EL_get _ (k / 8) (by omega))
        have c0 : wr.cell? ⟨b, o + k, none⟩ = some (W8 (bs.getD k 0)) := (L.below.cell (p := ⟨b, o + k, none⟩) hb).trans (HC.out k hlt)
        have hct := cnt_mul8 k hlt
        have hsb := shl_byte (bs.getD k 0) (k % 8) (by omega)
        have HM := hid (EL_more (num (bs.take k)) (bs.getD k 0).toNat k hlt (HL.out k (by omega)) (UInt8.toNat_lt _))
        have HO := hid (or_add (lim (num (bs.take k)) (k / 8)) (8 * (k % 8)) (bs.getD k 0).toNat (lim_low _ k (HL.out k (by omega))))
        have HTk := hid (HT.out k hlt)
        generalize bs.getD k 0 = x at *
        generalize num (bs.take k) = V at *
        go_wp2_with (first
          | (refine wpList_store_in rfl rfl _ _ _ rfl _ _ _ _ h2 rfl ?hl rfl (by kernel_rfl) ?_; (case hl => rw [EL_length]; omega); intro v w6 hv hb6 ho6; simp [go_sem] at hv; subst hv)
          | fail)
        go_roundw
        case rel =>
          refine ⟨k + 1, by omega, by go_num, h1.only ho6 (by omega), ?_, L.only ho6 (by omega)⟩
          rw [HTk.out, ← HM.out, ← HO.out]
          first | exact hb6 | (rw [hsb] at hb6; exact hb6)
        case measure => simp [intOf]; omega
      · rw [show k = 32 by omega, HF.out] at h2
        have hkf : decide ((k : Int) < 32) = false := by simp; omega
        have d3 := h2.cellD 3 (EL_get _ 3 (by omega))
        have hlT : num bs % T255 < T256 := Nat.lt_trans (Nat.mod_lt _ (by decide)) (by decide)
        go_wp2_with (first
          | (refine wpList_store_in rfl rfl _ _ _ rfl _ _ _ _ h2 rfl ?hl rfl (by kernel_rfl) ?_; (case hl => rw [EL_length]; omega); intro v w6 hv hb6 ho6; simp [go_sem] at hv; subst hv
             rw [EL_low] at hb6
             have h16 := h1.only ho6 (by omega)
             have L6 := L.only ho6 (by omega))
          | (refine load_E rfl _ rfl hb6 rfl ?_)
          | (go_at_call 9; (with_reducible refine (norm_any (num bs % T255) hlT _).mono ?_); rintro e w7 ⟨rfl, hl7⟩)
          | (refine store_E rfl rfl _ _ rfl (h16.later hl7) rfl rfl rfl ?_; intro w9 hb9 ho9)
          | fail)
        exact bodyPost_ret (results_blk_tmp rfl _ _ _ _ _ _ hb9 rfl Try.underlying26 rfl (by rw [EL_length]; exact sizeE)) rfl ⟨by rw [hRN.out, hRE.out]; rfl, (L6.trans hl7).only ho9 (by omega)⟩
  · have hRN := hid (show readN bs = 0 by rw [readN, if_neg (by omega)])
    have hRE := hid (show readE bs = 2 by rw [readE, if_neg (by omega)])
    have hne : ((n : Int) != 32) = true := by simp; omega
    go_enter Try.func50, Try.ntmps50
    go_wp2_with (first
      | (refine wpList_build_is rfl 26 _ rfl (EL 0) ?hb ?_; (case hb => kernel_rfl))
      | (refine store_E (n := 0) rfl rfl _ _ rfl hb0 rfl rfl rfl ?_; intro w9 hb9 ho9)
      | fail)
    exact bodyPost_ret (results_blk_tmp rfl _ _ _ _ _ _ hb9 rfl Try.underlying26 rfl (by rw [EL_length]; exact sizeE)) rfl ⟨by rw [hRN.out, hRE.out]; rfl, (later_alloc _ _).only ho9 (by omega)⟩
end Go.Proofs.Ytkibgdigcgakfaa
namespace Go.Proofs.Ytkibgdigcgakfaa
open Go.RowKit

theorem NL_small {n : Nat} (h : n < B32) : NL n = [n32 n, .int .u32 0, .int .u32 0, .int .u32 0, .int .u32 0, .int .u32 0, .int .u32 0, .int .u32 0] := by
  have e : ∀ k, 0 < k → n / B32 ^ k % B32 = 0 := fun k hk => dig_small h k hk
  have e1 : dig B32 8 n = [n / B32 ^ 0 % B32, n / B32 ^ 1 % B32, n / B32 ^ 2 % B32, n / B32 ^ 3 % B32, n / B32 ^ 4 % B32, n / B32 ^ 5 % B32, n / B32 ^ 6 % B32, n / B32 ^ 7 % B32] := by
    rw [dig_snoc, dig_snoc, dig_snoc, dig_snoc, dig_snoc, dig_snoc, dig_snoc, dig_snoc]
    rfl
  rw [NL, e1, e 1 (by omega), e 2 (by omega), e 3 (by omega), e 4 (by omega), e 5 (by omega), e 6 (by omega), e 7 (by omega), Nat.pow_zero, Nat.div_one, Nat.mod_eq_of_lt h]
  rfl
/-- Bit i of a number by its bytes. -/
theorem num_byte (bs : List UInt8) (j : Nat) (h : j < bs.length) : num bs / 256 ^ j % 256 = (bs.getD j 0).toNat := by
  have e := dig_val (B := 256) (bs.map UInt8.toNat) (by intro x hx; obtain ⟨y, _, rfl⟩ := List.mem_map.1 hx; exact y.toNat_lt)
  rw [List.length_map] at e
  have g := dig_getD 256 bs.length (num bs) j h
  rw [num, e] at g
  rw [num, ← g, List.getD_eq_getElem?_getD, List.getD_eq_getElem?_getD, List.getElem?_map, List.getElem?_eq_getElem h]
  rfl
theorem num_bit (bs : List UInt8) (i : Nat) (h : i / 8 < bs.length) : num bs / 2 ^ i % 2 = (bs.getD (i / 8) 0).toNat / 2 ^ (i % 8) % 2 := by
  rw [← num_byte bs _ h]
  have e : (2 : Nat) ^ i = 256 ^ (i / 8) * 2 ^ (i % 8) := by
    have : (256 : Nat) = 2 ^ 8 := by decide
    rw [this, ← Nat.pow_mul, ← Nat.pow_add, Nat.div_add_mod]
  rw [e, ← Nat.div_div_eq_div_mul]
  generalize num bs / 256 ^ (i / 8) = x
  refine (mod_div_mod x 256 (2 ^ (i % 8)) 2 (by decide) ?_ (Nat.pow_pos (by decide))).symm
  have : (256 : Nat) = 2 ^ 8 := by decide
  rw [this, ← Nat.pow_succ]
  exact Nat.pow_dvd_pow 2 (by omega)
theorem bit_rem (x : UInt8) (m : Nat) : (shr8 x m % 2 == 1) = decide (x.toNat / 2 ^ m % 2 = 1) := by
  have e : (shr8 x m).toNat = x.toNat / 2 ^ m := by
    rw [shr8]
    show (BitVec.toNat _) = _
    rw [BitVec.toNat_ushiftRight, Nat.shiftRight_eq_div_pow]
    rfl
  rw [Bool.eq_iff_iff, beq_iff_eq, decide_eq_true_eq, ← UInt8.toNat_inj, UInt8.toNat_mod, e]
  rfl
theorem pow_low (a V i P : Nat) : a ^ (V % 2 ^ (i + 1)) % P = (a ^ (V % 2 ^ i) % P) * ((a ^ 2 ^ i % P) ^ (V / 2 ^ i % 2)) % P := by
  rw [mod_pow_succ, Nat.pow_add, Nat.mul_mod, Nat.pow_mul, ← pow_mod_base (a ^ 2 ^ i), Nat.mul_mod (a ^ (V % 2 ^ i) % P), Nat.mod_mod, Nat.mod_mod, Nat.mul_mod_mod]
@[go_sem] theorem shr_n32 (T : TypeId) (x : Nat) (hx : x < B32) (yk : IntKind) (k : Int) (h0 : 0 ≤ k) : binOp .shr T (n32 x) (.int yk k) = pure (n32 (x / 2 ^ k.toNat)) := by
  rw [n32, shr_w32' _ _ _ _ h0, n32_w]
  rw [shr32]
  show (BitVec.toNat _) = _
  rw [BitVec.toNat_ushiftRight]
  show (UInt32.ofNat x).toNat >>> _ = _
  rw [tn32 hx, Nat.shiftRight_eq_div_pow]
  have : x / 2 ^ k.toNat < B32 := Nat.lt_of_le_of_lt (Nat.div_le_self _ _) hx
  rw [Nat.mod_eq_of_lt this]
@[go_sem] theorem run_convert_n32_n8 {P : Program} (w : World) (S D : TypeId) (x : Nat) (hs : (P.underlying S).isSome = true) (hd : P.underlying D = some (.int .u8)) : (convert S D (n32 x)).run P w = .ok (n8 x) w := by
  rw [n32, run_convert_w32_w8 _ _ _ _ hs hd, n8_w]
  rw [UInt32.toNat_toUInt8, UInt32.toNat_ofNat']
  omega
theorem toNat_8 (k : Nat) : (8 * ((k : Int) % 4)).toNat = 8 * (k % 4) := by omega
end Go.Proofs.Ytkibgdigcgakfaa
namespace Go.Proofs.Ytkibgdigcgakfaa
open Go.RowKit

@[go_sem] theorem mul_n64W (T : TypeId) (x : Nat) (y : UInt64) : binOp .mul T (n64 x) (W64 y) = pure (n64 (x * y.toNat)) := by
  rw [w64_n y, mul_n64]
theorem byte64 (x : UInt8) : x.toUInt64.toNat = x.toNat := UInt8.toNat_toUInt64 x
/-- Four bytes from 4k on. -/
def quad (bs : List UInt8) (k j : Nat) : Nat := num ((bs.drop (4 * k)).take j)
theorem quad_succ (bs : List UInt8) (k j : Nat) (h : 4 * k + j < bs.length) : quad bs k (j + 1) = quad bs k j + 256 ^ j * (bs.getD (4 * k + j) 0).toNat := by
  rw [quad, num_take _ _ (by rw [List.length_drop]; omega)]
  congr 3
  rw [List.getD_eq_getElem?_getD, List.getD_eq_getElem?_getD, List.getElem?_drop]
theorem quad_lem (bs : List UInt8) (k : Nat) (h : 4 * k + 4 ≤ bs.length) : quad bs k 4 = lem (num bs) k := by
  have e1 : num ((bs.drop (4 * k)).take 4) < 256 ^ 4 := by
    have := num_lt ((bs.drop (4 * k)).take 4)
    rwa [List.length_take, List.length_drop, Nat.min_eq_left (by omega)] at this
  have e2 : num bs = num (bs.take (4 * k)) + 256 ^ (4 * k) * (num ((bs.drop (4 * k)).take 4) + 256 ^ 4 * num ((bs.drop (4 * k)).drop 4)) := by
    have a1 : ∀ l m : List UInt8, num (l ++ m) = num l + 256 ^ l.length * num m := by
      intro l m
      rw [num, List.map_append, val_append, List.length_map]
      rfl
    conv => lhs; rw [← List.take_append_drop (4 * k) bs, a1, ← List.take_append_drop 4 (bs.drop (4 * k)), a1]
    rw [List.length_take, List.length_take, List.length_drop, Nat.min_eq_left (by omega), Nat.min_eq_left (by omega)]
  have e3 : num (bs.take (4 * k)) < 256 ^ (4 * k) := by
    have := num_lt (bs.take (4 * k))
    rwa [List.length_take, Nat.min_eq_left (by omega)] at this
  have e4 : B32 ^ k = 256 ^ (4 * k) := by rw [Nat.pow_mul]; rfl
  have e5 : B32 = 256 ^ 4 := by decide
  rw [quad, lem, e4, e5, e2, Nat.add_mul_div_left _ _ (Nat.pow_pos (by decide)), Nat.div_eq_of_lt e3, Nat.zero_add, Nat.add_mul_mod_self_left, Nat.mod_eq_of_lt e1]
@[go_sem] theorem rem_n32 (T : TypeId) (x : Nat) (hx : x < B32) : binOp .rem T (n32 x) (.int .u32 2147483648) = pure (n32 (x % 2147483648)) := by
  rw [n32, rem_w32i _ _ _ (by omega) (by omega) (by decide), n32_w]
  rw [UInt32.toNat_mod, tn32 hx]
  have : x % 2147483648 < B32 := by unfold B32; omega
  rw [Nat.mod_eq_of_lt this]
  rfl
theorem NL_low (n : Nat) : (NL n).set 7 (n32 (lem n 7 % 2147483648)) = NL (n % T255) := by
  have e : ∀ m, NL m = [n32 (lem m 0), n32 (lem m 1), n32 (lem m 2), n32 (lem m 3), n32 (lem m 4), n32 (lem m 5), n32 (lem m 6), n32 (lem m 7)] := by
    intro m
    apply List.ext_getElem (NL_length m)
    intro i hi1 hi2
    rw [NL_at]
    have : i = 0 ∨ i = 1 ∨ i = 2 ∨ i = 3 ∨ i = 4 ∨ i = 5 ∨ i = 6 ∨ i = 7 := by rw [NL_length] at hi1; omega
    rcases this with rfl | rfl | rfl | rfl | rfl | rfl | rfl | rfl <;> rfl
  have h0 : lem n 0 = lem (n % T255) 0 := by unfold lem T255 B32; omega
  have h1 : lem n 1 = lem (n % T255) 1 := by unfold lem T255 B32; omega
  have h2 : lem n 2 = lem (n % T255) 2 := by unfold lem T255 B32; omega
  have h3 : lem n 3 = lem (n % T255) 3 := by unfold lem T255 B32; omega
  have h4 : lem n 4 = lem (n % T255) 4 := by unfold lem T255 B32; omega
  have h5 : lem n 5 = lem (n % T255) 5 := by unfold lem T255 B32; omega
  have h6 : lem n 6 = lem (n % T255) 6 := by unfold lem T255 B32; omega
  have h7 : lem n 7 % 2147483648 = lem (n % T255) 7 := by unfold lem T255 B32; omega
  rw [e, e, h0, h1, h2, h3, h4, h5, h6, h7]
  rfl
end Go.Proofs.Ytkibgdigcgakfaa
