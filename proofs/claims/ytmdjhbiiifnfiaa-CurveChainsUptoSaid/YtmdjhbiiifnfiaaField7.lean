/-
  field: Inv, Sum, Product.
-/
import Derived.Test.YtmdjhbiiifnfiaaField6
namespace Go.Proofs.Ytmdjhbiiifnfiaa
open Go.RowKit

theorem blk_rd {w : World} {g : Nat} {t : TypeId} {l : List Value} {n : Nat} (h : Blk w g t l) (hn : l.length = n) : Rd w (some ⟨g, 0, none⟩) n l :=
  ⟨hn, fun _ => ⟨g, 0, rfl, h.lt, fun j u hu => by rw [Nat.zero_add]; exact h.cellD j hu⟩⟩
theorem blk_rdB {w : World} {g : Nat} {t : TypeId} {bs : List UInt8} {n : Nat} (h : Blk w g t (bs.map W8)) (hn : bs.length = n) : RdB w (some ⟨g, 0, none⟩) n bs := blk_rd h (by simpa using hn)
/-- The bytes of p - 2. -/
def invBytes : List UInt8 := 235 :: (List.replicate 30 255 ++ [127])
theorem num_inv : num invBytes = P25 - 2 := by decide
def pinv (a : Nat) : Nat := a ^ (P25 - 2) % P25
theorem fill_255 (l : List Value) (hl : l = List.replicate 32 (Value.int .u8 255)) : (l.set 0 (.int .u8 235)).set 31 (.int .u8 127) = invBytes.map W8 := by
  subst hl
  rfl
set_option maxRecDepth 100000 in
set_option maxHeartbeats 2000000 in
theorem inv_any (a : Nat) (ha : a < T256) (w : World) :
    Calls Try.prog 43 #[E a] w fun e w' => e = .returned (E (pinv a)) ∧ Later w w' := by
  have h1 : Blk ((w.alloc (.cells (EL a).toArray 28)).alloc (.cells (List.replicate 4 (.int .u64 0)).toArray 28)) w.heap.size 28 (EL a) := (Blk.new _ _ _).later (later_alloc _ _)
  have h2 : Blk ((w.alloc (.cells (EL a).toArray 28)).alloc (.cells (List.replicate 4 (.int .u64 0)).toArray 28)) (w.heap.size + 1) 28 (List.replicate 4 (.int .u64 0)) := Blk.new' _ _ _ (by simp)
  have L0 : Later w ((w.alloc (.cells (EL a).toArray 28)).alloc (.cells (List.replicate 4 (.int .u64 0)).toArray 28)) := (later_alloc _ _).trans (later_alloc _ _)
  have HP := hid (power_any a ha)
  have HN := hid num_inv
  go_enter Try.func43, Try.ntmps43
  go_wp2_with (first
    | (refine wpList_make_n rfl _ _ 25 rfl 5 (.int .u8 0) 1 Try.underlying25 info8 rfl _ _ _ _ 32 rfl rfl rfl rfl (by omega) (by omega) ?_; intro w2 hb2 hl2)
    | fail)
  have h12 := h1.later hl2
  have h22 := h2.later hl2
  have L2 := L0.trans hl2
  replace hb2 : Blk w2 (w.heap.size + 1 + 1) 5 (List.replicate 32 (.int .u8 0)) := Eq.mp (congrArg (fun g => Blk w2 g 5 (List.replicate 32 (.int .u8 0))) (by simp)) hb2
  clear h1 h2 L0 hl2
  go_loopw [8] (fun i wr => ∃ k : Nat, k ≤ 32 ∧ i = .int .i64 k ∧ Blk wr w.heap.size 28 (EL a) ∧ Blk wr (w.heap.size + 1) 28 (List.replicate 4 (.int .u64 0)) ∧ Blk wr (w.heap.size + 1 + 1) 5 (filled (List.replicate 32 (.int .u8 255)) (List.replicate 32 (.int .u8 0)) k) ∧ Later w wr) (fun i _ => 32 - (intOf i).toNat)
  case atStart => exact ⟨0, by omega, rfl, h12, h22, by rw [filled_zero]; exact hb2, L2⟩
  case round =>
    clear h12 h22 hb2 L2
    obtain ⟨k, hk, rfl, h1, h2, h3, L⟩ := hrel
    by_cases hlt : k < 32
    · go_wp2_with (first
        | (refine wpList_store_in rfl rfl _ _ _ rfl _ _ _ _ h3 rfl ?hl rfl (by kernel_rfl) ?_; (case hl => rw [filled_length _ _ _ (by rfl)]; exact hlt); intro v w6 hv hb6 ho6; simp [go_sem] at hv; subst hv)
        | fail)
      go_roundw
      case rel =>
        rw [filled_step _ _ _ _ (by rfl) hlt (by rw [List.getElem?_replicate, if_pos hlt])] at hb6
        exact ⟨k + 1, by omega, by go_num, h1.only ho6 (by omega), h2.only ho6 (by omega), hb6, L.only ho6 (by omega)⟩
      case measure => simp [intOf]; omega
    · have HF := hid (fill_255 _ (filled_all (List.replicate 32 (Value.int .u8 255)) (List.replicate 32 (.int .u8 0)) 32 rfl rfl))
      rw [show k = 32 by omega] at h3
      have hkf : decide ((k : Int) < 32) = false := by simp; omega
      go_wp2_with (first
        | (refine wpList_store_in rfl rfl _ _ _ rfl _ _ _ _ h3 rfl ?hl rfl (by kernel_rfl) ?_; (case hl => rw [filled_length _ _ _ (by rfl)]; decide); intro v w6 hv hb6 ho6; simp [go_sem] at hv; subst hv)
        | (refine wpList_store_in rfl rfl _ _ _ rfl _ _ _ _ hb6 rfl ?hl rfl (by kernel_rfl) ?_; (case hl => rw [List.length_set, filled_length _ _ _ (by rfl)]; decide); intro v w7 hv hb7 ho7; simp [go_sem] at hv; subst hv
           rw [HF.out] at hb7
           have h17 := (h1.only ho6 (by omega)).only ho7 (by omega)
           have h27 := (h2.only ho6 (by omega)).only ho7 (by omega)
           have L7 := (L.only ho6 (by omega)).only ho7 (by omega))
        | (refine load_E rfl _ rfl h17 rfl ?_)
        | (go_at_call 19; (with_reducible refine (HP.out _ 32 _ invBytes _ (blk_rdB hb7 rfl) (by omega)).mono ?_); rintro e w8 ⟨rfl, hl8⟩
           rw [HN.out])
        | (refine store_E rfl rfl _ _ rfl (h27.later hl8) rfl rfl rfl ?_; intro w9 hb9 ho9)
        | fail)
      exact bodyPost_ret (ret_E rfl hb9 rfl) rfl ⟨rfl, (L7.trans hl8).only ho9 (by omega)⟩

/-! ### Lists of elements -/
def RdE (w : World) (A : Option Addr) (n : Nat) (ns : List Nat) : Prop :=
  ns.length = n ∧ (0 < n → ∃ b o, A = some ⟨b, o, none⟩ ∧ b < w.heap.size ∧ ∀ j i v, j < n → (EL (ns.getD j 0))[i]? = some v → w.cell? ⟨b, o + j * 4 + i, none⟩ = some v)
theorem RdE.later {w w' : World} {A : Option Addr} {n : Nat} {ns : List Nat} (h : RdE w A n ns) (hl : Later w w') : RdE w' A n ns := by
  refine ⟨h.1, fun hn => ?_⟩
  obtain ⟨b, o, hA, hb, hc⟩ := h.2 hn
  exact ⟨b, o, hA, Nat.lt_of_lt_of_le hb hl.size, fun j i v hj hv => (hl.below.cell (p := ⟨b, o + j * 4 + i, none⟩) hb).trans (hc j i v hj hv)⟩
theorem rdE_none (w : World) : RdE w none 0 [] := ⟨rfl, fun h => absurd h (by omega)⟩
theorem take_sum (l : List Nat) (k : Nat) (h : k < l.length) : (l.take (k + 1)).sum = (l.take k).sum + l.getD k 0 := by
  rw [List.take_succ_eq_append_getElem h, List.sum_append, List.getD_eq_getElem?_getD, List.getElem?_eq_getElem h]
  simp
def prodN : List Nat → Nat
  | [] => 1
  | x :: l => x * prodN l
theorem prodN_append : ∀ l m : List Nat, prodN (l ++ m) = prodN l * prodN m
  | [], m => by simp [prodN]
  | x :: l, m => by rw [List.cons_append, prodN, prodN_append l m, prodN, Nat.mul_assoc]
theorem take_prod (l : List Nat) (k : Nat) (h : k < l.length) : prodN (l.take (k + 1)) = prodN (l.take k) * l.getD k 0 := by
  rw [List.take_succ_eq_append_getElem h, prodN_append, List.getD_eq_getElem?_getD, List.getElem?_eq_getElem h]
  simp [prodN]
theorem getD_mem {l : List Nat} {j : Nat} (h : j < l.length) : l.getD j 0 ∈ l := by
  rw [List.getD_eq_getElem?_getD, List.getElem?_eq_getElem h]
  exact List.getElem_mem h
set_option maxRecDepth 100000 in
set_option maxHeartbeats 2000000 in
theorem sum_any (A : Option Addr) (n c : Nat) (ns : List Nat) (w : World) (hr : RdE w A n ns) (hns : ∀ x ∈ ns, x < T256) (hn : n ≤ 140737488355328) :
    Calls Try.prog 35 #[.slice A n c] w fun e w' => e = .returned (E (ns.sum % P25)) ∧ Later w w' := by
  have hnl := hr.1
  go_enter Try.func35, Try.ntmps35
  go_wp2
  go_loopw [8] (fun i wr => ∃ k : Nat, k ≤ n ∧ i = .int .i64 k ∧ Blk wr w.heap.size 28 (List.replicate 4 (.int .u64 0)) ∧ Blk wr (w.heap.size + 1) 28 (EL ((ns.take k).sum % P25)) ∧ Later w wr) (fun i _ => n - (intOf i).toNat)
  case atStart => exact ⟨0, by omega, rfl, (Blk.new w _ (List.replicate 4 (Value.int .u64 0))).later (later_alloc _ _), by rw [List.take_zero]; exact Blk.new' _ _ (List.replicate 4 (Value.int .u64 0)) (by simp), (later_alloc _ _).trans (later_alloc _ _)⟩
  case round =>
    obtain ⟨k, hk, rfl, h1, h2, L⟩ := hrel
    by_cases hlt : k < n
    · obtain ⟨b, o, rfl, hb, hc⟩ := (hr.later L).2 (by omega)
      have HT := hid (take_sum ns k (by omega))
      have hx : ns.getD k 0 < T256 := hns _ (getD_mem (by omega))
      have hc' := fun i v hv => hc k i v hlt hv
      generalize ns.getD k 0 = x at *
      have HC := hid hc'
      clear hc hc' hr
      generalize hs : (ns.take k).sum = s at *
      have HSS := hid hs
      clear hs
      go_wp2_with (first
        | (refine wpList_load_agg rfl 28 _ rfl b (o + k * 4) (EL x) ?hc ?hx _ Try.underlying28 rfl ?hi ?_; (case hx => rfl); (case hi => rw [EL_length]; exact sizeE); (case hc => intro j v hv; exact HC.out j v hv))
        | (refine store_E (g := wr.heap.size) rfl rfl _ _ rfl (Blk.new _ _ (List.replicate 4 (.int .u64 0))) rfl rfl rfl ?_; intro w3 hb3 ho3)
        | fail)
      have L3 : Later wr w3 := (later_alloc _ _).only ho3 (by omega)
      have h23 := h2.later L3
      go_wp2_with fail
      refine wp_region_parts [([0, 1], 2)] [] [3, 4] (by as_aux_lemma => kernel_rfl) (by as_aux_lemma => kernel_rfl) (by intro _ _ d _ _ h; cases d <;> exact h) ?_
      simp only [wpParts, pick, List.getElem?_cons_succ, List.getElem?_cons_zero, Option.toList_some, List.cons_append, List.nil_append]
      repeat (first | go_big_quiet_skip | (go_big_quiet_want; (first | refine quiet_E _ rfl h23.drew rfl ?_ | refine quiet_E _ rfl hb3.drew rfl ?_); simp only [Act.put, List.setIfInBounds_toArray, List.set_cons_succ, List.set_cons_zero]; go_big_quiet_on) | (go_big_quiet_step (fail)))
      refine wpQuiet_nil ?_
      go_wp2_with fail
      (with_reducible refine (norm_any x hx _).mono ?_); rintro e w4 ⟨rfl, hl4⟩
      go_wp2_with fail
      try refine ⟨by first | assumption | exact later_drew _ | exact later_alloc _ _ | exact Later.refl _, ?_⟩
      try simp only [wpParts, pick, List.getElem?_cons_succ, List.getElem?_cons_zero, Option.toList_some, List.cons_append, List.nil_append]
      repeat (go_big_quiet_step (fail))
      refine wpQuiet_nil ?_
      go_wp2_with fail
      (with_reducible refine (add_any' (s % P25) (x % P25) (by have := Nat.mod_lt s P25_pos; have := Nat.mod_lt x P25_pos; unfold P25 at *; unfold T256; omega) _).mono ?_); rintro e w5 ⟨rfl, hl5⟩
      have h25 := ((h23.drew).later hl4).later hl5
      go_wp2_with (first
        | (refine store_E rfl rfl _ _ rfl h25 rfl rfl (EL_length _) ?_; intro w6 hb6 ho6)
        | fail)
      have L5 : Later wr w5 := (((L3.trans (later_drew _)).trans hl4).trans hl5)
      go_roundw
      case rel =>
        refine ⟨k + 1, by omega, by go_num, (h1.later L5).only ho6 (by omega), ?_, (L.trans L5).only ho6 (by omega)⟩
        rw [HT.out]
        first | exact hb6 | (rw [← Nat.add_mod]; exact hb6) | (rw [Nat.add_mod]; exact hb6)
      case measure => simp [intOf]; omega
    · rw [show k = n by omega, List.take_of_length_le (by omega)] at h2
      have hkf : decide ((k : Int) < (n : Int)) = false := by simp; omega
      go_wp2_with (first
        | (refine load_E rfl _ rfl h2 rfl ?_)
        | (refine store_E rfl rfl _ _ rfl h1 rfl rfl rfl ?_; intro w9 hb9 ho9)
        | fail)
      exact bodyPost_ret (ret_E rfl hb9 rfl) rfl ⟨rfl, L.only ho9 (by omega)⟩

theorem run_slice_fromS {P : Program} {t e : TypeId} (s : Nat) (ht : P.underlying t = some (.slice e)) (hs : (P.info? e).map (·.size) = some s) (A : Option Addr) (n c : Nat) (kl : IntKind) (l : Nat) (h1 : l ≤ n) (W : World) :
    (Instr.sliceAt t (.slice A n c) (some (.int kl l)) none none).run P W = .ok (.slice (if c = l then A else A.map (·.add (l * s))) (n - l) (c - l)) W := by
  have he : P.elem t = e := by unfold Program.elem; rw [ht]
  have ht' : P.underlying t = some (.slice (P.elem t)) := by rw [he]; exact ht
  rw [run_sliceAt_slice _ _ _ _ _ _ ht', run_slice_l (ht := ht') (h0 := by omega) (h1 := by omega), he]
  cases hq : P.info? e with
  | none => simp [hq] at hs
  | some i =>
    have hsz : i.size = s := by simpa [hq] using hs
    simp [sizeOf, typeInfo, hq, hsz, sliced]
theorem RdE.cut1 {w : World} {A : Option Addr} {n : Nat} {ns : List Nat} (h : RdE w A n ns) (h1 : 1 < n) : RdE w (A.map (·.add 4)) (n - 1) ns.tail := by
  refine ⟨by rw [List.length_tail, h.1], fun hn => ?_⟩
  obtain ⟨b, o, rfl, hb, hc⟩ := h.2 (by omega)
  refine ⟨b, o + 4, by rw [Option.map_some, add_at], hb, fun j i v hj hv => ?_⟩
  have e : ns.tail.getD j 0 = ns.getD (j + 1) 0 := by rw [List.getD_eq_getElem?_getD, List.getD_eq_getElem?_getD, List.getElem?_tail]
  rw [e] at hv
  have := hc (j + 1) i v (by omega) hv
  rw [show o + 4 + j * 4 + i = o + (j + 1) * 4 + i by omega]
  exact this
set_option maxRecDepth 100000 in
set_option maxHeartbeats 2000000 in
theorem product_any (A : Option Addr) (n c : Nat) (ns : List Nat) (w : World) (hr : RdE w A n ns) (hns : ∀ x ∈ ns, x < T256) (hn : n ≤ c) (hc0 : n ≤ 140737488355328) :
    Calls Try.prog 25 #[.slice A n c] w fun e w' => e = .returned (E (prodN ns % P25)) ∧ Later w w' := by
  have hnl := hr.1
  have hb0 := Blk.new w 28 (List.replicate 4 (Value.int .u64 0))
  rcases Nat.eq_zero_or_pos n with hz | hz
  · subst hz
    obtain rfl : ns = [] := List.eq_nil_of_length_eq_zero hnl
    go_enter Try.func25, Try.ntmps25
    go_wp2_with (first
      | (go_at_call 20; (with_reducible refine (of_1 _).mono ?_); rintro e w2 ⟨rfl, hl2⟩)
      | (refine store_E rfl rfl _ _ rfl (hb0.later hl2) rfl rfl rfl ?_; intro w3 hb3 ho3)
      | fail)
    exact bodyPost_ret (ret_E rfl hb3 rfl) rfl ⟨rfl, ((later_alloc _ _).trans hl2).only ho3 (by omega)⟩
  · have hne : ((n : Int) == 0) = false := by simp; omega
    have hlt0 : decide ((0 : Int) < (n : Int)) = true := by simp; omega
    obtain ⟨T, d, hcutT, hT⟩ : ∃ (T : Option Addr) (d : Nat), (∀ W, (Instr.sliceAt 56 (.slice A n c) (some (.int .i64 1)) none none).run Try.prog W = .ok (.slice T (n - 1) d) W) ∧ RdE w T (n - 1) ns.tail := by
      refine ⟨_, _, run_slice_fromS 4 Try.underlying56 sizeE A n c .i64 1 hz, ?_⟩
      by_cases h1 : 1 < n
      · rw [if_neg (by omega)]
        exact hr.cut1 h1
      · refine ⟨by rw [List.length_tail, hnl], fun h => by omega⟩
    obtain ⟨b, o, rfl, hb, hc⟩ := hr.2 hz
    have hx0 : ns.getD 0 0 < T256 := hns _ (getD_mem (by omega))
    have hc0' : ∀ i v, (EL (ns.getD 0 0))[i]? = some v → w.cell? ⟨b, o + i, none⟩ = some v := fun i v hv => by have := hc 0 i v hz hv; rwa [Nat.zero_mul, Nat.add_zero] at this
    have HX := hid (show ns.take 1 = [ns.getD 0 0] by cases ns with | nil => simp at hnl; omega | cons y l => rfl)
    have hnt : ∀ x ∈ ns.tail, x < T256 := fun x hx => hns x (List.mem_of_mem_tail hx)
    have HTL := hid (show ∀ k, k < n - 1 → prodN (ns.take (k + 1 + 1)) = prodN (ns.take (k + 1)) * ns.tail.getD k 0 by
      intro k hk
      rw [take_prod ns (k + 1) (by omega)]
      congr 1
      rw [List.getD_eq_getElem?_getD, List.getD_eq_getElem?_getD, List.getElem?_tail])
    have HC0 := hid hc0'
    clear hc hc0' hr
    generalize hX0 : ns.getD 0 0 = x0 at *
    go_enter Try.func25, Try.ntmps25
    clear hX0
    go_wp2_with (first
      | (refine wpList_load_agg rfl 28 _ rfl b o (EL x0) ?hc ?hx _ Try.underlying28 rfl ?hi ?_; (case hx => rfl); (case hi => rw [EL_length]; exact sizeE); (case hc => intro j v hv; exact ((later_alloc w _).below.cell (p := ⟨b, o + j, none⟩) hb).trans (HC0.out j v hv)))
      | (go_at_call 27; (with_reducible refine (norm_any x0 hx0 _).mono ?_); rintro e w2 ⟨rfl, hl2⟩)
      | (refine store_E rfl rfl _ _ rfl (Blk.new w2 _ (List.replicate 4 (.int .u64 0))) rfl rfl rfl ?_; intro w3 hb3 ho3)
      | fail)
    have hb03 := ((hb0.later hl2).later (later_alloc _ (.cells (List.replicate 4 (.int .u64 0)).toArray 28))).only ho3 (Nat.ne_of_lt (hb0.later hl2).lt)
    have L3 : Later w w3 := (((later_alloc _ _).trans hl2).trans (later_alloc _ _)).only ho3 (by have := ((later_alloc w _).trans hl2).size; omega)
    have hg : w.heap.size < w2.heap.size := (hb0.later hl2).lt
    generalize w2.heap.size = g at *
    clear hb0 hl2 ho3 HC0
    go_loopw [17] (fun i wr => ∃ k : Nat, k ≤ n - 1 ∧ i = .int .i64 k ∧ Blk wr w.heap.size 28 (List.replicate 4 (.int .u64 0)) ∧ Blk wr g 28 (EL (prodN (ns.take (k + 1)) % P25)) ∧ Later w wr) (fun i _ => n - 1 - (intOf i).toNat)
    case atStart => exact ⟨0, by omega, rfl, hb03, by rw [Nat.zero_add, HX.out]; simpa [prodN] using hb3, L3⟩
    case round =>
      clear hb03 hb3 L3
      obtain ⟨k, hk, rfl, h1, h2, L⟩ := hrel
      by_cases hlt : k < n - 1
      · obtain ⟨b1, o1, rfl, hb1, hc1⟩ := (hT.later L).2 (by omega)
        have HT := hid (HTL.out k hlt)
        have hx : ns.tail.getD k 0 < T256 := hnt _ (getD_mem (by rw [List.length_tail]; omega))
        have hc' := fun i v hv => hc1 k i v hlt hv
        generalize ns.tail.getD k 0 = x at *
        have HC := hid hc'
        clear hc1 hc'
        obtain ⟨y, hy⟩ : ∃ y, y = prodN (ns.take (k + 1)) % P25 := ⟨_, rfl⟩
        rw [← hy] at h2
        have hyT : y < T256 := by rw [hy]; exact Nat.lt_trans (Nat.mod_lt _ P25_pos) (by decide)
        have HY := hid hy
        clear hy
        have hkb : decide ((k : Int) < ((n - 1 : Nat) : Int)) = true := by simp; omega
        have hkx : (k < n - 1) = True := eq_true hlt
        go_wp2_with (first
          | (refine wpList_load_agg rfl 28 _ rfl b1 (o1 + k * 4) (EL x) ?hc ?hx _ Try.underlying28 rfl ?hi ?_; (case hx => rfl); (case hi => rw [EL_length]; exact sizeE); (case hc => intro j v hv; exact HC.out j v hv))
          | (refine store_E (g := wr.heap.size) rfl rfl _ _ rfl (Blk.new _ _ (List.replicate 4 (.int .u64 0))) rfl rfl rfl ?_; intro w4 hb4 ho4
             have L4 : Later wr w4 := (later_alloc _ _).only ho4 (by omega)
             have h24 := h2.later L4)
          | (refine load_E rfl _ rfl h24 rfl ?_)
          | (refine load_E rfl _ rfl hb4 rfl ?_)
          | (go_at_call 61; (with_reducible refine (multiply_any y x hyT hx _).mono ?_); rintro e w5 ⟨rfl, hl5⟩)
          | (refine store_E rfl rfl _ _ rfl (h24.later hl5) rfl rfl (EL_length _) ?_; intro w6 hb6 ho6)
          | fail)
        go_roundw
        case rel =>
          refine ⟨k + 1, by omega, by go_num, ((h1.later L4).later hl5).only ho6 (by omega), ?_, ((L.trans L4).trans hl5).only ho6 (by omega)⟩
          rw [HT.out, Nat.mul_mod, ← HY.out]
          first | exact hb6 | (rw [Nat.mul_mod, HY.out, Nat.mod_mod, ← HY.out] at hb6; exact hb6)
        case measure => simp [intOf]; omega
      · rw [show k + 1 = n by omega, List.take_of_length_le (by omega)] at h2
        have hkf : decide ((k : Int) < ((n - 1 : Nat) : Int)) = false := by simp; omega
        have hkx : (k < n - 1) = False := eq_false hlt
        go_wp2_with (first
          | (refine load_E rfl _ rfl h2 rfl ?_)
          | (refine store_E rfl rfl _ _ rfl h1 rfl rfl rfl ?_; intro w9 hb9 ho9)
          | fail)
        exact bodyPost_ret (ret_E rfl hb9 rfl) rfl ⟨rfl, L.only ho9 (by omega)⟩
end Go.Proofs.Ytmdjhbiiifnfiaa
