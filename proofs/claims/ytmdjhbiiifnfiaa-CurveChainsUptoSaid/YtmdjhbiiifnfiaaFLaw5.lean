/-
  shallotlaw05: FieldPowers.
-/
import Derived.Test.YtmdjhbiiifnfiaaFLaw4
namespace Go.Proofs.Ytmdjhbiiifnfiaa
open Go.RowKit

theorem num_append (l m : List UInt8) : num (l ++ m) = num l + 256 ^ l.length * num m := by
  rw [num, List.map_append, val_append, List.length_map]
  rfl
theorem blk_grown' {w w' : World} {base g : Nat} {e t : TypeId} {v : Value} {n : Nat} {vs l : List Value} (hb : Blk w g t l) (h : w.ownsRow base e 1 v n vs) (hne : t ≠ e) (hg : w.grownBy w' v.ownBlock) : Blk w' g t l := by
  refine (hg.block g hb.lt ?_).trans hb
  rcases h.2 with ⟨rfl, _⟩ | ⟨g2, c2, cur2, rfl, _, hh2, _⟩
  · simp [Value.ownBlock]
  · intro he
    simp only [Value.ownBlock, Option.some.injEq] at he
    subst he
    exact hb.ne_type (l' := cur2.toList) (t' := e) hh2 hne rfl
theorem product_two (x y : Nat) (hx : x < T256) (hy : y < T256) (W : World) :
    Calls Try.prog 25 #[.slice (some ⟨W.heap.size, 0, none⟩) 2 2] (W.alloc (.cells (EL x ++ EL y).toArray 28)) fun e w' => e = .returned (E (x * y % P25)) ∧ Later (W.alloc (.cells (EL x ++ EL y).toArray 28)) w' := by
  have := product_any (some ⟨W.heap.size, 0, none⟩) 2 2 [x, y] _ (rdE_new [x, y] 2 (Blk.new W 28 (EL x ++ EL y)) (by simp) rfl) (by intro z hz; simp at hz; rcases hz with rfl | rfl; exact hx; exact hy) (by omega) (by omega)
  rwa [show prodN [x, y] = x * y by simp [prodN]] at this
theorem sum_two (x y : Nat) (hx : x < T256) (hy : y < T256) (W : World) :
    Calls Try.prog 35 #[.slice (some ⟨W.heap.size, 0, none⟩) 2 2] (W.alloc (.cells (EL x ++ EL y).toArray 28)) fun e w' => e = .returned (E ((x + y) % P25)) ∧ Later (W.alloc (.cells (EL x ++ EL y).toArray 28)) w' := by
  have := sum_any (some ⟨W.heap.size, 0, none⟩) 2 2 [x, y] _ (rdE_new [x, y] 2 (Blk.new W 28 (EL x ++ EL y)) (by simp) rfl) (by intro z hz; simp at hz; rcases hz with rfl | rfl; exact hx; exact hy) (by omega)
  rwa [show [x, y].sum = x + y by simp] at this
theorem of_19 (w : World) : Calls Try.prog 20 #[.int .u64 19] w fun e w' => e = .returned (E 19) ∧ Later w w' := of_any 19 (by decide) w
theorem is_19 (w : World) : Calls Try.prog 18 #[E 19, E 19] w fun e w' => e = .returned (.bool true) ∧ Later w w' :=
  (is_any 19 19 (by decide) (by decide) w).mono fun e w' ⟨he, hl⟩ => ⟨by rw [he, beq_self_eq_true], hl⟩
/-- One byte of a sum. -/
theorem sum_byte (S E F : List UInt8) (k C : Nat) (x y : Nat) (hS : S.length = k) (h : num S + 256 ^ k * C = num (E.take k) + num (F.take k)) (hx : num (E.take (k + 1)) = num (E.take k) + 256 ^ k * x) (hy : num (F.take (k + 1)) = num (F.take k) + 256 ^ k * y) :
    num (S ++ [UInt8.ofNat ((C + x + y) % 256)]) + 256 ^ (k + 1) * ((C + x + y) / 256) = num (E.take (k + 1)) + num (F.take (k + 1)) := by
  have e1 : num [UInt8.ofNat ((C + x + y) % 256)] = (C + x + y) % 256 := by
    show (UInt8.ofNat _).toNat + 256 * 0 = _
    rw [UInt8.toNat_ofNat']
    omega
  rw [num_append, hS, e1, hx, hy, Nat.pow_succ, Nat.mul_assoc]
  have e2 : 256 ^ k * ((C + x + y) % 256) + 256 ^ k * (256 * ((C + x + y) / 256)) = 256 ^ k * C + 256 ^ k * x + 256 ^ k * y := by
    rw [← Nat.mul_add, ← Nat.mul_add, ← Nat.mul_add, Nat.mod_add_div]
  omega
theorem num_take_out (l : List UInt8) (k : Nat) (h : l.length ≤ k) : num (l.take (k + 1)) = num (l.take k) + 256 ^ k * 0 := by
  rw [List.take_of_length_le (by omega), List.take_of_length_le h, Nat.mul_zero, Nat.add_zero]
theorem pow_sum (a s e f : Nat) (h : s = e + f) : a ^ s % P25 = (a ^ e % P25) * (a ^ f % P25) % P25 := by
  rw [h, Nat.pow_add, Nat.mul_mod]
set_option maxRecDepth 100000 in
set_option maxHeartbeats 8000000 in
theorem fieldPowers_walk (a : Nat) (ha : a < T256) (A B : Option Addr) (n m c d N M : Nat) (es fs ES FS : List UInt8) (w : World) (hre : RdB w A n es) (hrf : RdB w B m fs) (hnc : n ≤ c) (hmd : m ≤ d)
    (hN : (n ≤ 40 ∧ N = n ∧ ES = es) ∨ (40 < n ∧ N = 40 ∧ ES = es.take 40)) (hM : (m ≤ 40 ∧ M = m ∧ FS = fs) ∨ (40 < m ∧ M = 40 ∧ FS = fs.take 40)) :
    Calls Try.prog 3 #[E a, .slice A n c, .slice B m d] w fun e w' => e = .returned (.bool true) ∧ Later w w' := by
  have hrE : RdB w A N ES := by
    rcases hN with ⟨_, rfl, rfl⟩ | ⟨h, rfl, rfl⟩
    · exact hre
    · exact hre.take (by omega)
  have hrF : RdB w B M FS := by
    rcases hM with ⟨_, rfl, rfl⟩ | ⟨h, rfl, rfl⟩
    · exact hrf
    · exact hrf.take (by omega)
  have hN4 : N ≤ 40 := by omega
  have hM4 : M ≤ 40 := by omega
  have hEl := hrE.len
  have hFl := hrF.len
  have h1 : Blk (w.alloc (.cells (EL a).toArray 24)) w.heap.size 24 (EL a) := Blk.new _ _ _
  have L0 : Later w (w.alloc (.cells (EL a).toArray 24)) := later_alloc _ _
  have hp255 := hid (fun w A c h => by have := power_any 2 (by decide) A 1 c [255] w h (by omega); rw [show num [255] = 255 from rfl, show 2 ^ 255 % P25 = 19 by decide] at this; exact this)
  have hpE := hid (fun A c w h => power_any a ha A N c ES w h (by omega))
  have hpF := hid (fun A c w h => power_any a ha A M c FS w h (by omega))
  have hpR := hid (fun A c w h => power_ref a ha A N c ES w h (by omega))
  have hIs := hid (lawIs_eq (a ^ num ES % P25) (Nat.lt_trans (Nat.mod_lt _ P25_pos) (by decide)))
  have hlE : a ^ num ES % P25 < T256 := Nat.lt_trans (Nat.mod_lt _ P25_pos) (by decide)
  have hlF : a ^ num FS % P25 < T256 := Nat.lt_trans (Nat.mod_lt _ P25_pos) (by decide)
  have hpw := hid (pow_sum a)
  generalize hpe : a ^ num ES % P25 = pE at *
  generalize hpf : a ^ num FS % P25 = pF at *
  have HPE := hid hpe
  have HPF := hid hpf
  clear hpe hpf hre hrf
  go_enter Try.func3, Try.ntmps3
  go_wp2_with fail
  (with_reducible refine (awake05 _).mono ?_); rintro e w2 ⟨rfl, hl2⟩
  replace h1 := h1.later hl2
  replace L0 := L0.trans hl2
  go_wp2_with fail
  (with_reducible refine (of_2 _).mono ?_); rintro e w3 ⟨rfl, hl3⟩
  replace h1 := h1.later hl3
  replace L0 := L0.trans hl3
  clear hl2 hl3
  go_wp2_with fail
  have hb255 : Blk (w3.alloc (.cells #[.int .u8 255] 5)) w3.heap.size 5 (([255] : List UInt8).map W8) := Blk.new w3 _ [W8 255]
  (with_reducible refine (hp255.out _ _ _ (blk_rdB hb255 rfl)).mono ?_); rintro e w4 ⟨rfl, hl4⟩
  replace hl4 := (later_alloc w3 (.cells #[.int .u8 255] 5)).trans hl4
  go_wp2_with fail
  (with_reducible refine (of_19 _).mono ?_); rintro e w5 ⟨rfl, hl5⟩
  go_wp2_with fail
  (with_reducible refine (is_19 _).mono ?_); rintro e w6 ⟨rfl, hl6⟩
  replace h1 := ((h1.later hl4).later hl5).later hl6
  replace L0 := ((L0.trans hl4).trans hl5).trans hl6
  clear hl4 hl5 hl6 hb255 hp255
  have hz := h1.lt
  have hN' : (N = n ∧ Hid (Value.slice A N c = Value.slice A N c)) ∨ (40 < n ∧ Hid (Value.slice A 40 c = Value.slice A N c)) := by
    rcases hN with ⟨_, h, _⟩ | ⟨h, h', _⟩
    · exact .inl ⟨h, hid rfl⟩
    · exact .inr ⟨h, hid (by rw [h'])⟩
  have hM' : (M = m ∧ Hid (Value.slice B M d = Value.slice B M d)) ∨ (40 < m ∧ Hid (Value.slice B 40 d = Value.slice B M d)) := by
    rcases hM with ⟨_, h, _⟩ | ⟨h, h', _⟩
    · exact .inl ⟨h, hid rfl⟩
    · exact .inr ⟨h, hid (by rw [h'])⟩
  clear hN hM
  rcases hN' with ⟨rfl, hNs⟩ | ⟨hn, hNs⟩ <;> rcases hM' with ⟨rfl, hMs⟩ | ⟨hm, hMs⟩
  all_goals
    go_wp2_with (first
      | (refine load_4 rfl _ rfl h1 rfl ?_)
      | (refine store_E rfl rfl _ _ rfl (Blk.new w6 _ (List.replicate 4 (.int .u64 0))) rfl rfl rfl ?_; intro w7 hb7 ho7)
      | fail)
    have h7 := (h1.later (later_alloc w6 (.cells (List.replicate 4 (.int .u64 0)).toArray 28))).only ho7 (by omega)
    have L7 := (L0.trans (later_alloc w6 (.cells (List.replicate 4 (.int .u64 0)).toArray 28))).only ho7 (by have := L0.size; omega)
    clear h1 L0 ho7
    have h7d := h7.drew
    have hb7d := hb7.drew
    replace h7 := h7.drew
    replace hb7 := hb7.drew
    replace L7 := L7.trans (later_drew _)
    clear h7d hb7d
    try rw [hNs.out]
    try rw [hMs.out]
    refine wp_region_parts [([0, 1, 4, 6], 2), ([], 3), ([], 5), ([], 7), ([], 8)] [9] [] (by as_aux_lemma => kernel_rfl) (by as_aux_lemma => kernel_rfl) (by intro _ _ d _ _ h; cases d <;> exact h) ?_
    simp only [wpParts, pick, List.getElem?_cons_succ, List.getElem?_cons_zero, Option.toList_some, List.cons_append, List.nil_append]
    repeat (first | go_big_quiet_skip | (go_big_quiet_want; (first | refine quiet_E _ rfl hb7 rfl ?_ | refine quiet_4 _ rfl h7 rfl ?_); simp only [Act.put, List.setIfInBounds_toArray, List.set_cons_succ, List.set_cons_zero]; go_big_quiet_on) | (go_big_quiet_step (fail)))
    refine wpQuiet_nil ?_
    go_wp2_with fail
    (with_reducible refine (copy_any A N c ES _ (hrE.later L7) (by omega)).mono ?_); rintro e u1 ⟨A1, c1, rfl, hown1, k1⟩
    replace h7 := h7.later k1
    replace hb7 := hb7.later k1
    replace L7 := L7.trans k1
    go_wp2_with fail
    try refine ⟨by first | assumption | exact later_drew _ | exact later_alloc _ _ | exact Later.refl _, ?_⟩
    try simp only [wpParts, pick, List.getElem?_cons_succ, List.getElem?_cons_zero, Option.toList_some, List.cons_append, List.nil_append]
    repeat (first | go_big_quiet_skip | (go_big_quiet_want; (first | refine quiet_E _ rfl hb7 rfl ?_ | refine quiet_4 _ rfl h7 rfl ?_); simp only [Act.put, List.setIfInBounds_toArray, List.set_cons_succ, List.set_cons_zero]; go_big_quiet_on) | (go_big_quiet_step (fail)))
    refine wpQuiet_nil ?_
    go_wp2_with fail
    (with_reducible refine (hpE.out A1 c1 _ hown1.rd).mono ?_); rintro e u2 ⟨rfl, k2⟩
    replace h7 := h7.later k2
    replace hb7 := hb7.later k2
    replace L7 := L7.trans k2
    go_wp2_with fail
    try refine ⟨by first | assumption | exact later_drew _ | exact later_alloc _ _ | exact Later.refl _, ?_⟩
    try simp only [wpParts, pick, List.getElem?_cons_succ, List.getElem?_cons_zero, Option.toList_some, List.cons_append, List.nil_append]
    repeat (first | go_big_quiet_skip | (go_big_quiet_want; (first | refine quiet_E _ rfl hb7 rfl ?_ | refine quiet_4 _ rfl h7 rfl ?_); simp only [Act.put, List.setIfInBounds_toArray, List.set_cons_succ, List.set_cons_zero]; go_big_quiet_on) | (go_big_quiet_step (fail)))
    refine wpQuiet_nil ?_
    go_wp2_with fail
    (with_reducible refine (from_any a _).mono ?_); rintro e u3 ⟨rfl, k3⟩
    replace h7 := h7.later k3
    replace hb7 := hb7.later k3
    replace L7 := L7.trans k3
    go_wp2_with fail
    try refine ⟨by first | assumption | exact later_drew _ | exact later_alloc _ _ | exact Later.refl _, ?_⟩
    try simp only [wpParts, pick, List.getElem?_cons_succ, List.getElem?_cons_zero, Option.toList_some, List.cons_append, List.nil_append]
    repeat (first | go_big_quiet_skip | (go_big_quiet_want; (first | refine quiet_E _ rfl hb7 rfl ?_ | refine quiet_4 _ rfl h7 rfl ?_); simp only [Act.put, List.setIfInBounds_toArray, List.set_cons_succ, List.set_cons_zero]; go_big_quiet_on) | (go_big_quiet_step (fail)))
    refine wpQuiet_nil ?_
    go_wp2_with fail
    (with_reducible refine (hpR.out A c _ (hrE.later L7)).mono ?_); rintro e u4 ⟨rfl, k4⟩
    replace h7 := h7.later k4
    replace hb7 := hb7.later k4
    replace L7 := L7.trans k4
    go_wp2_with fail
    try refine ⟨by first | assumption | exact later_drew _ | exact later_alloc _ _ | exact Later.refl _, ?_⟩
    try simp only [wpParts, pick, List.getElem?_cons_succ, List.getElem?_cons_zero, Option.toList_some, List.cons_append, List.nil_append]
    repeat (first | go_big_quiet_skip | (go_big_quiet_want; (first | refine quiet_E _ rfl hb7 rfl ?_ | refine quiet_4 _ rfl h7 rfl ?_); simp only [Act.put, List.setIfInBounds_toArray, List.set_cons_succ, List.set_cons_zero]; go_big_quiet_on) | (go_big_quiet_step (fail)))
    refine wpQuiet_nil ?_
    go_wp2_with fail
    (with_reducible refine (hIs.out _).mono ?_); rintro e u5 ⟨rfl, k5⟩
    replace h7 := h7.later k5
    replace hb7 := hb7.later k5
    replace L7 := L7.trans k5
    go_wp2_with fail
    try refine ⟨by first | assumption | exact later_drew _ | exact later_alloc _ _ | exact Later.refl _, ?_⟩
    try simp only [wpParts, pick, List.getElem?_cons_succ, List.getElem?_cons_zero, Option.toList_some, List.cons_append, List.nil_append]
    repeat (first | go_big_quiet_skip | (go_big_quiet_want; (first | refine quiet_E _ rfl hb7 rfl ?_ | refine quiet_4 _ rfl h7 rfl ?_); simp only [Act.put, List.setIfInBounds_toArray, List.set_cons_succ, List.set_cons_zero]; go_big_quiet_on) | (go_big_quiet_step (fail)))
    refine wpQuiet_nil ?_
    clear hown1 k1 k2 k3 k4 k5
    go_wp2_with fail
    go_loopw [8, 9, 10] (fun v cc i wr => ∃ (k C : Nat) (SS : List UInt8) (A8 : Option Addr) (c8 : Nat), k ≤ 41 ∧ i = .int .i64 k ∧ cc = .int .i64 C ∧ C ≤ 1 ∧ (N < k → M < k → C = 0) ∧ v = .slice A8 k c8 ∧ SS.length = k ∧ OwnB wr w.heap.size A8 k c8 SS ∧ Hid (num SS + 256 ^ k * C = num (ES.take k) + num (FS.take k)) ∧ Blk wr w.heap.size 24 (EL a) ∧ Blk wr w6.heap.size 28 (EL a) ∧ Later w wr) (fun _ _ i _ => 42 - (intOf i).toNat)
    case atStart => exact ⟨0, 0, [], none, 0, by omega, rfl, rfl, by omega, by omega, rfl, rfl, own_nil _ _ _, hid (by simp [num, val]), h7, hb7, L7⟩
    case round =>
      clear h7 hb7 L7
      obtain ⟨k, C, SS, A8, c8, hk, rfl, rfl, hC, hCz, rfl, hSl, hown, HS, h7, hb7, L⟩ := hrel
      by_cases hk1 : k < N
      · have d1 : decide ((k : Int) < (N : Int)) = true := by simp; omega
        by_cases hk2 : k < M
        · have d2 : decide ((k : Int) < (M : Int)) = true := by simp; omega
          obtain ⟨b1, o1, rfl, hb1, hc1⟩ := (hrE.later L).at_ (by omega)
          have c1 : wr.cell? ⟨b1, o1 + k, none⟩ = some (W8 (ES.getD k 0)) := hc1 k hk1
          have hx8 := (ES.getD k 0).toNat_lt
          clear hc1
          obtain ⟨b2, o2, rfl, hb2, hc2⟩ := (hrF.later L).at_ (by omega)
          have c2 : wr.cell? ⟨b2, o2 + k, none⟩ = some (W8 (FS.getD k 0)) := hc2 k hk2
          have hy8 := (FS.getD k 0).toNat_lt
          clear hc2
          have HT := hid (sum_byte SS ES FS k C (ES.getD k 0).toNat (FS.getD k 0).toNat hSl HS.out (by rw [num_take ES k (by omega)]) (by rw [num_take FS k (by omega)]))
          generalize ES.getD k 0 = x at *
          generalize FS.getD k 0 = y at *
          have E8 := hid (show UInt8.ofInt (((C : Int) + (x.toNat : Int) + (y.toNat : Int)) % 256) = UInt8.ofNat ((C + x.toNat + y.toNat) % 256) by rw [← ofIntNat_w8]; congr 1)
          have EC := hid (show Value.int .i64 (((C : Int) + (x.toNat : Int) + (y.toNat : Int)) / 256) = .int .i64 (((C + x.toNat + y.toNat) / 256 : Nat) : Int) by congr 1)
          go_wp2_with (first
            | (refine wpList_append_rd rfl _ _ _ rfl 5 _ 1 Try.underlying25 info8 rfl w _ k _ (OwnB.later hown (later_alloc _ _)) (L.alloc _) _ 1 1 _ (own_rd (own_new wr _ _ (by simp))) (w8_one [_]) rfl rfl (by omega) (by omega) ?_; intro A' c' w' hown' hl' hgr' _)
            | fail)
          have h7' := blk_grown' (h7.later (later_alloc _ _)) (OwnB.later hown (later_alloc _ _)) (by decide) hgr'
          have hb7' := blk_grown' (hb7.later (later_alloc _ _)) (OwnB.later hown (later_alloc _ _)) (by decide) hgr'
          go_roundw
          case rel =>
            rw [E8.out] at hown'
            exact ⟨k + 1, (C + x.toNat + y.toNat) / 256, SS ++ [UInt8.ofNat ((C + x.toNat + y.toNat) % 256)], A', c', by omega, by go_num, EC.out, by omega, by omega, rfl, by simp [hSl], own_eq hown' rfl (by simp), hid HT.out, h7', hb7', hl'⟩
          case measure => simp [intOf]; omega
        · have d2 : decide ((k : Int) < (M : Int)) = false := by simp; omega
          obtain ⟨b1, o1, rfl, hb1, hc1⟩ := (hrE.later L).at_ (by omega)
          have c1 : wr.cell? ⟨b1, o1 + k, none⟩ = some (W8 (ES.getD k 0)) := hc1 k hk1
          have hx8 := (ES.getD k 0).toNat_lt
          clear hc1
          have HT := hid (sum_byte SS ES FS k C (ES.getD k 0).toNat 0 hSl HS.out (by rw [num_take ES k (by omega)]) (num_take_out FS k (by omega)))
          generalize ES.getD k 0 = x at *
          have E8 := hid (show UInt8.ofInt (((C : Int) + (x.toNat : Int)) % 256) = UInt8.ofNat ((C + x.toNat + 0) % 256) by rw [← ofIntNat_w8]; congr 1)
          have EC := hid (show Value.int .i64 (((C : Int) + (x.toNat : Int)) / 256) = .int .i64 (((C + x.toNat + 0) / 256 : Nat) : Int) by congr 1)
          go_wp2_with (first
            | (refine wpList_append_rd rfl _ _ _ rfl 5 _ 1 Try.underlying25 info8 rfl w _ k _ (OwnB.later hown (later_alloc _ _)) (L.alloc _) _ 1 1 _ (own_rd (own_new wr _ _ (by simp))) (w8_one [_]) rfl rfl (by omega) (by omega) ?_; intro A' c' w' hown' hl' hgr' _)
            | fail)
          have h7' := blk_grown' (h7.later (later_alloc _ _)) (OwnB.later hown (later_alloc _ _)) (by decide) hgr'
          have hb7' := blk_grown' (hb7.later (later_alloc _ _)) (OwnB.later hown (later_alloc _ _)) (by decide) hgr'
          go_roundw
          case rel =>
            rw [E8.out] at hown'
            exact ⟨k + 1, (C + x.toNat + 0) / 256, SS ++ [UInt8.ofNat ((C + x.toNat + 0) % 256)], A', c', by omega, by go_num, EC.out, by omega, by omega, rfl, by simp [hSl], own_eq hown' rfl (by simp), hid HT.out, h7', hb7', hl'⟩
          case measure => simp [intOf]; omega
      · have d1 : decide ((k : Int) < (N : Int)) = false := by simp; omega
        by_cases hk2 : k < M
        · have d2 : decide ((k : Int) < (M : Int)) = true := by simp; omega
          obtain ⟨b2, o2, rfl, hb2, hc2⟩ := (hrF.later L).at_ (by omega)
          have c2 : wr.cell? ⟨b2, o2 + k, none⟩ = some (W8 (FS.getD k 0)) := hc2 k hk2
          have hy8 := (FS.getD k 0).toNat_lt
          clear hc2
          have HT := hid (sum_byte SS ES FS k C 0 (FS.getD k 0).toNat hSl HS.out (num_take_out ES k (by omega)) (by rw [num_take FS k (by omega)]))
          generalize FS.getD k 0 = y at *
          have E8 := hid (show UInt8.ofInt (((C : Int) + (y.toNat : Int)) % 256) = UInt8.ofNat ((C + 0 + y.toNat) % 256) by rw [← ofIntNat_w8]; congr 1)
          have EC := hid (show Value.int .i64 (((C : Int) + (y.toNat : Int)) / 256) = .int .i64 (((C + 0 + y.toNat) / 256 : Nat) : Int) by congr 1)
          go_wp2_with (first
            | (refine wpList_append_rd rfl _ _ _ rfl 5 _ 1 Try.underlying25 info8 rfl w _ k _ (OwnB.later hown (later_alloc _ _)) (L.alloc _) _ 1 1 _ (own_rd (own_new wr _ _ (by simp))) (w8_one [_]) rfl rfl (by omega) (by omega) ?_; intro A' c' w' hown' hl' hgr' _)
            | fail)
          have h7' := blk_grown' (h7.later (later_alloc _ _)) (OwnB.later hown (later_alloc _ _)) (by decide) hgr'
          have hb7' := blk_grown' (hb7.later (later_alloc _ _)) (OwnB.later hown (later_alloc _ _)) (by decide) hgr'
          go_roundw
          case rel =>
            rw [E8.out] at hown'
            exact ⟨k + 1, (C + 0 + y.toNat) / 256, SS ++ [UInt8.ofNat ((C + 0 + y.toNat) % 256)], A', c', by omega, by go_num, EC.out, by omega, by omega, rfl, by simp [hSl], own_eq hown' rfl (by simp), hid HT.out, h7', hb7', hl'⟩
          case measure => simp [intOf]; omega
        · have d2 : decide ((k : Int) < (M : Int)) = false := by simp; omega
          by_cases hC0 : C = 0
          · subst hC0
            have hnum : num SS = num ES + num FS := by
              have := HS.out
              rw [Nat.mul_zero, Nat.add_zero, List.take_of_length_le (by omega), List.take_of_length_le (by omega)] at this
              exact this
            have hpS := hid (fun A c w h => power_any a ha A k c SS w h (by omega))
            rw [hpw.out _ _ _ hnum, HPE.out, HPF.out] at hpS
            replace hb7 := hb7.drew
            replace L := L.trans (later_drew _)
            go_wp2_with fail
            refine wp_region_parts [([0, 1, 3, 4, 7, 8], 2), ([], 5), ([], 6), ([], 9), ([], 10), ([], 11), ([], 12)] [13, 14] [] (by as_aux_lemma => kernel_rfl) (by as_aux_lemma => kernel_rfl) (by intro _ _ d _ _ h; cases d <;> exact h) ?_
            simp only [wpParts, pick, List.getElem?_cons_succ, List.getElem?_cons_zero, Option.toList_some, List.cons_append, List.nil_append]
            repeat (first | go_big_quiet_skip | (go_big_quiet_want; refine quiet_E _ rfl hb7 rfl ?_; simp only [Act.put, List.setIfInBounds_toArray, List.set_cons_succ, List.set_cons_zero]; go_big_quiet_on) | (go_big_quiet_step (fail)))
            refine wpQuiet_nil ?_
            go_wp2_with fail
            (with_reducible refine (hpS.out A8 c8 _ (OwnB.later hown (later_drew _)).rd).mono ?_); rintro e u1 ⟨rfl, k1⟩
            replace L := L.trans k1
            go_wp2_with fail
            try refine ⟨by first | assumption | exact later_drew _ | exact later_alloc _ _ | exact Later.refl _, ?_⟩
            try simp only [wpParts, pick, List.getElem?_cons_succ, List.getElem?_cons_zero, Option.toList_some, List.cons_append, List.nil_append]
            repeat (go_big_quiet_step (fail))
            refine wpQuiet_nil ?_
            go_wp2_with fail
            (with_reducible refine (copy_any A N c ES _ (hrE.later L) (by omega)).mono ?_); rintro e u2 ⟨A2, c2, rfl, hown2, k2⟩
            replace L := L.trans k2
            go_wp2_with fail
            try refine ⟨by first | assumption | exact later_drew _ | exact later_alloc _ _ | exact Later.refl _, ?_⟩
            try simp only [wpParts, pick, List.getElem?_cons_succ, List.getElem?_cons_zero, Option.toList_some, List.cons_append, List.nil_append]
            repeat (go_big_quiet_step (fail))
            refine wpQuiet_nil ?_
            go_wp2_with fail
            (with_reducible refine (hpE.out A2 c2 _ hown2.rd).mono ?_); rintro e u3 ⟨rfl, k3⟩
            replace L := L.trans k3
            go_wp2_with fail
            try refine ⟨by first | assumption | exact later_drew _ | exact later_alloc _ _ | exact Later.refl _, ?_⟩
            try simp only [wpParts, pick, List.getElem?_cons_succ, List.getElem?_cons_zero, Option.toList_some, List.cons_append, List.nil_append]
            repeat (go_big_quiet_step (fail))
            refine wpQuiet_nil ?_
            go_wp2_with fail
            (with_reducible refine (copy_any B M d FS _ (hrF.later L) (by omega)).mono ?_); rintro e u4 ⟨A4, c4, rfl, hown4, k4⟩
            replace L := L.trans k4
            go_wp2_with fail
            try refine ⟨by first | assumption | exact later_drew _ | exact later_alloc _ _ | exact Later.refl _, ?_⟩
            try simp only [wpParts, pick, List.getElem?_cons_succ, List.getElem?_cons_zero, Option.toList_some, List.cons_append, List.nil_append]
            repeat (go_big_quiet_step (fail))
            refine wpQuiet_nil ?_
            go_wp2_with fail
            (with_reducible refine (hpF.out A4 c4 _ hown4.rd).mono ?_); rintro e u5 ⟨rfl, k5⟩
            replace L := L.trans k5
            go_wp2_with fail
            try refine ⟨by first | assumption | exact later_drew _ | exact later_alloc _ _ | exact Later.refl _, ?_⟩
            try simp only [wpParts, pick, List.getElem?_cons_succ, List.getElem?_cons_zero, Option.toList_some, List.cons_append, List.nil_append]
            repeat (go_big_quiet_step (fail))
            refine wpQuiet_nil ?_
            go_wp2_with (first
              | (refine build_row2 rfl _ _ rfl pE pF rfl rfl ?_)
              | fail)
            refine ⟨later_alloc _ _, ?_⟩
            simp only [Act.put, List.setIfInBounds_toArray, List.set_cons_succ, List.set_cons_zero]
            refine wpQuiet_nil ?_
            go_wp2_with fail
            (with_reducible refine (product_two pE pF hlE hlF u5).mono ?_); rintro e u6 ⟨rfl, k6⟩
            replace L := L.trans ((later_alloc _ _).trans k6)
            go_wp2_with fail
            try refine ⟨by first | assumption | exact later_drew _ | exact later_alloc _ _ | exact Later.refl _, ?_⟩
            try simp only [wpParts, pick, List.getElem?_cons_succ, List.getElem?_cons_zero, Option.toList_some, List.cons_append, List.nil_append]
            repeat (go_big_quiet_step (fail))
            refine wpQuiet_nil ?_
            go_wp2
            go_ret
            exact ⟨by simp, L⟩
          · have d3 : decide ((0 : Int) < (C : Int)) = true := by simp; omega
            have HT := hid (sum_byte SS ES FS k C 0 0 hSl HS.out (num_take_out ES k (by omega)) (num_take_out FS k (by omega)))
            have E8 := hid (show UInt8.ofInt (((C : Int)) % 256) = UInt8.ofNat ((C + 0 + 0) % 256) by rw [← ofIntNat_w8]; congr 1)
            have EC := hid (show Value.int .i64 (((C : Int)) / 256) = .int .i64 (((C + 0 + 0) / 256 : Nat) : Int) by congr 1)
            go_wp2_with (first
              | (refine wpList_append_rd rfl _ _ _ rfl 5 _ 1 Try.underlying25 info8 rfl w _ k _ (OwnB.later hown (later_alloc _ _)) (L.alloc _) _ 1 1 _ (own_rd (own_new wr _ _ (by simp))) (w8_one [_]) rfl rfl (by omega) (by omega) ?_; intro A' c' w' hown' hl' hgr' _)
              | fail)
            have h7' := blk_grown' (h7.later (later_alloc _ _)) (OwnB.later hown (later_alloc _ _)) (by decide) hgr'
            have hb7' := blk_grown' (hb7.later (later_alloc _ _)) (OwnB.later hown (later_alloc _ _)) (by decide) hgr'
            go_roundw
            case rel =>
              rw [E8.out] at hown'
              exact ⟨k + 1, (C + 0 + 0) / 256, SS ++ [UInt8.ofNat ((C + 0 + 0) % 256)], A', c', by omega, by go_num, EC.out, by omega, by omega, rfl, by simp [hSl], own_eq hown' rfl (by simp), hid HT.out, h7', hb7', hl'⟩
            case measure => simp [intOf]; omega
theorem cut40 (n : Nat) (bs : List UInt8) (h : bs.length = n) : (n ≤ 40 ∧ min n 40 = n ∧ bs.take 40 = bs) ∨ (40 < n ∧ min n 40 = 40 ∧ bs.take 40 = bs.take 40) := by
  rcases Nat.lt_or_ge 40 n with h1 | h1
  · exact .inr ⟨h1, by omega, rfl⟩
  · exact .inl ⟨h1, by omega, List.take_of_length_le (by omega)⟩
theorem fieldPowers_all (a : Nat) (ha : a < T256) (A B : Option Addr) (n m c d : Nat) (es fs : List UInt8) (w : World) (hre : RdB w A n es) (hrf : RdB w B m fs) (hnc : n ≤ c) (hmd : m ≤ d) :
    Calls Try.prog 3 #[E a, .slice A n c, .slice B m d] w fun e w' => e = .returned (.bool true) ∧ Later w w' :=
  fieldPowers_walk a ha A B n m c d (min n 40) (min m 40) es fs (es.take 40) (fs.take 40) w hre hrf hnc hmd (cut40 n es hre.len) (cut40 m fs hrf.len)
end Go.Proofs.Ytmdjhbiiifnfiaa
