/-
  wide: mix, turn.
-/
import Derived.Test.YtjohieongjnemaaCha9
import Derived.Test.YtjohieongjnemaaMacB
namespace Go.Proofs.Ytjohieongjnemaa
open Go.RowKit
open Go.BigFrame

theorem mid_get {pre post : List Value} {xs : List UInt8} {off k : Nat} (hp : pre.length = off) (h : k < xs.length) (x : UInt8) (hx : xs[k]? = some x) : (pre ++ xs.map W8 ++ post)[off + k]? = some (W8 x) := by
  rw [List.append_assoc, List.getElem?_append_right (by omega), show off + k - pre.length = k by omega, List.getElem?_append_left (by rw [List.length_map]; exact h), List.getElem?_map, hx]
  rfl
theorem mid_set {pre post : List Value} {xs : List UInt8} {off k : Nat} (hp : pre.length = off) (h : k < xs.length) (x : UInt8) : (pre ++ xs.map W8 ++ post).set (off + k) (W8 x) = pre ++ (xs.set k x).map W8 ++ post := by
  rw [List.append_assoc, List.set_append_right _ _ (by omega), show off + k - pre.length = k by omega, List.set_append_left _ _ (by rw [List.length_map]; exact h), map_set8, List.append_assoc]
set_option maxRecDepth 100000 in
set_option maxHeartbeats 2000000 in
/-- mix: other onto b, which lies within a block. -/
theorem mix_any (g off n c c2 : Nat) (t : TypeId) (A : Option Addr) (pre post : List Value) (xs ys : List UInt8) (w : World) (hb : Blk w g t (pre ++ xs.map W8 ++ post)) (hp : pre.length = off) (hxl : xs.length = n) (hy : RdB w A n ys) (hoff : 0 < n → Off A g) (hn : n ≤ 1048576) :
    Calls Try.prog 67 #[.slice (some ⟨g, off, none⟩) n c, .slice A n c2] w fun e w' => e = .returned (.tuple #[]) ∧ Blk w' g t (pre ++ (xorB xs ys).map W8 ++ post) ∧ Only g w w' := by
  have hyl := hy.len
  have hlen : xs.length = ys.length := by omega
  have hX := hid (fun k => xorAt_length hlen k)
  have hG := hid (fun k (h : k < xs.length) => xorAt_get hlen h)
  have hS := hid (fun k (h : k < xs.length) => xorAt_step hlen h)
  have hA := hid (xorAt_all hlen)
  have hN := hid (xorAt_none xs ys)
  go_enter Try.func67, Try.ntmps67
  go_wp2_with fail
  go_loopw [8] (fun i wr => ∃ k : Nat, k ≤ n ∧ i = .int .i64 k ∧ Blk wr g t (pre ++ (xorAt xs ys k).map W8 ++ post) ∧ Only g w wr) (fun i _ => n - (intOf i).toNat)
  case atStart => exact ⟨0, by omega, rfl, by rw [hN.out]; exact hb, World.grownBy.refl w _⟩
  case round =>
    clear hb
    obtain ⟨k, hk, rfl, hb, ho'⟩ := hrel
    by_cases hlt : k < n
    · have hy' : RdB wr A n ys := Rd.only hy ho' (fun b o e h => hoff (by omega) _ e h)
      obtain ⟨b2, o2, rfl, hb2, hc2⟩ := RdB.at_ hy' (by omega)
      have c1 := hc2 k hlt
      have hxk := hX.out k (by omega)
      have d1 := hb.cellD (off + k) (mid_get hp (by omega) _ (hG.out k (by omega)))
      have HS := hid (hS.out k (by omega))
      clear hc2
      generalize xs.getD k 0 = x at *
      generalize ys.getD k 0 = y at *
      go_wp2_with (first
        | (refine wpList_store_in rfl rfl _ _ _ rfl g (off + k) _ _ hb rfl (by simp only [List.length_append, List.length_map]; omega) rfl size8 ?_; intro v' w5 hv' hb5 ho5; simp [go_sem] at hv'; subst hv')
        | fail)
      rw [mid_set hp (by omega), HS.out] at hb5
      go_roundw
      case rel => exact ⟨k + 1, by omega, by go_num, hb5, ho'.trans ho5⟩
      case measure => simp [intOf]; omega
    · obtain rfl : n = k := by omega
      rw [← hxl, hA.out] at hb
      go_wp2_with fail
      exact bodyPost_end (results_none rfl _ _ _) rfl ⟨rfl, hb, ho'⟩
/-- mix, onto what stands behind the first 32 bytes. -/
theorem mixR_any (g off n c c2 : Nat) (t : TypeId) (A : Option Addr) (bs ys : List UInt8) (rest : List Value) (w : World) (hb : Blk w g t (bs.map W8 ++ rest)) (hbl : bs.length = n) (h32 : 32 ≤ n) (hoff : off = 32 ∨ (off = 0 ∧ n = 32)) (hy : RdB w A (n - 32) ys) (hA : 0 < n - 32 → Off A g) (hn : n ≤ 1048576) :
    Calls Try.prog 67 #[.slice (some ⟨g, off, none⟩) (n - 32) c, .slice A (n - 32) c2] w fun e w' => e = .returned (.tuple #[]) ∧ Blk w' g t ((bs.take 32 ++ xorB (bs.drop 32) ys).map W8 ++ rest) ∧ Only g w w' := by
  have e0 : bs.map W8 ++ rest = (bs.take 32).map W8 ++ (bs.drop 32).map W8 ++ rest := by rw [← List.map_append, List.take_append_drop]
  rcases hoff with rfl | ⟨rfl, rfl⟩
  · rw [e0] at hb
    refine (mix_any g 32 (n - 32) c c2 t A _ rest (bs.drop 32) ys w hb (by rw [List.length_map, List.length_take]; omega) (by rw [List.length_drop]; omega) hy hA (by omega)).mono ?_
    rintro e w' ⟨he, hb', ho⟩
    exact ⟨he, by rw [List.map_append]; exact hb', ho⟩
  · have hd : bs.drop 32 = [] := List.eq_nil_of_length_eq_zero (by rw [List.length_drop]; omega)
    have hyn : ys = [] := List.eq_nil_of_length_eq_zero hy.len
    refine (mix_any g 0 0 c c2 t A [] (bs.map W8 ++ rest) [] ys w hb rfl rfl hy hA (by omega)).mono ?_
    rintro e w' ⟨he, hb', ho⟩
    refine ⟨he, ?_, ho⟩
    subst hyn
    rw [hd, show xorB [] [] = [] from rfl, List.append_nil, List.take_of_length_le (by omega)]
    exact hb'
/-- One round of the wide cipher. -/
def turnB (K : List UInt8) (r : Nat) (bs : List UInt8) : List UInt8 :=
  if r = 2 ∨ r = 4 then xorB (bs.take 32) (macTag K (bs.drop 32)) ++ bs.drop 32 else bs.take 32 ++ xorB (bs.drop 32) (chaS (xorB K (bs.take 32)) (bs.length - 32))
theorem turnB_length (K : List UInt8) (r : Nat) (bs : List UInt8) (h : 32 ≤ bs.length) : (turnB K r bs).length = bs.length := by
  unfold turnB
  split
  · rw [List.length_append, xorB_length (by rw [macTag_length, List.length_take]; omega), macTag_length, List.length_drop]
    omega
  · rw [List.length_append, xorB_length (by rw [chaS_length, List.length_drop]), chaS_length, List.length_take]
    omega
theorem turnB_twice (K : List UInt8) (r : Nat) (bs : List UInt8) (h : 32 ≤ bs.length) : turnB K r (turnB K r bs) = bs := by
  by_cases hr : r = 2 ∨ r = 4
  · have l1 : (bs.take 32).length = (macTag K (bs.drop 32)).length := by rw [macTag_length, List.length_take]; omega
    have l2 : (xorB (bs.take 32) (macTag K (bs.drop 32))).length = 32 := by rw [xorB_length l1, macTag_length]
    rw [turnB, if_pos hr, turnB, if_pos hr, List.take_left' l2, List.drop_left' l2, xorB_twice l1, List.take_append_drop]
  · have l0 : (bs.take 32).length = 32 := by rw [List.length_take]; omega
    have l1 : (bs.drop 32).length = (chaS (xorB K (bs.take 32)) (bs.length - 32)).length := by rw [chaS_length, List.length_drop]
    have l2 : (bs.take 32 ++ xorB (bs.drop 32) (chaS (xorB K (bs.take 32)) (bs.length - 32))).length = bs.length := by
      have := turnB_length K r bs h
      rwa [turnB, if_neg hr] at this
    rw [turnB, if_neg hr, turnB, if_neg hr, l2, List.take_left' l0, List.drop_left' l0, xorB_twice l1, List.take_append_drop]
theorem size32w : (Try.prog.info? 47).map (·.size) = some 32 := by kernel_rfl
theorem blk_rdBW {w : World} {g : Nat} {t : TypeId} {bs : List UInt8} {n : Nat} (h : Blk w g t (bs.map W8)) (hn : bs.length = n) : RdB w (some ⟨g, 0, none⟩) n bs := h.rd (by rw [List.length_map, hn])
set_option maxRecDepth 100000 in
set_option maxHeartbeats 4000000 in
theorem turn_any (g n c : Nat) (K bs : List UInt8) (r : Nat) (rest : List Value) (w : World) (hb : Blk w g 5 (bs.map W8 ++ rest)) (hbl : bs.length = n) (h32 : 32 ≤ n) (hn : n ≤ 4096) (hc : n ≤ c) (hK : K.length = 32) (h1 : 1 ≤ r) (h4 : r ≤ 4) :
    Calls Try.prog 48 #[.slice (some ⟨g, 0, none⟩) n c, .agg (K.map W8).toArray, .int .i64 r] w fun e w' => e = .returned (.tuple #[]) ∧ Blk w' g 5 ((turnB K r bs).map W8 ++ rest) ∧ Only g w w' := by
  have hcl : ∀ W, (Instr.sliceAt 22 (.slice (some ⟨g, 0, none⟩) n c) none (some (.int .i64 32)) none).run Try.prog W = .ok (.slice (some ⟨g, 0, none⟩) 32 c) W := fun W => cut8_to (some ⟨g, 0, none⟩) n c .i64 32 (by omega) W
  obtain ⟨off, hoff, hcr⟩ : ∃ off, (off = 32 ∨ (off = 0 ∧ n = 32)) ∧ ∀ W, (Instr.sliceAt 22 (.slice (some ⟨g, 0, none⟩) n c) (some (.int .i64 32)) none none).run Try.prog W = .ok (.slice (some ⟨g, off, none⟩) (n - 32) (c - 32)) W := by
    have h := fun W => cut8_from (some ⟨g, 0, none⟩) n c .i64 32 h32 W
    unfold cutA at h
    by_cases hc32 : c = 32
    · rw [if_pos hc32] at h
      exact ⟨0, .inr ⟨rfl, by omega⟩, h⟩
    · rw [if_neg hc32] at h
      exact ⟨32, .inl rfl, h⟩
  have hrdR : ∀ w', Blk w' g 5 (bs.map W8 ++ rest) → RdB w' (some ⟨g, off, none⟩) (n - 32) (bs.drop 32) := fun w' hb' => by
    rcases hoff with rfl | ⟨rfl, rfl⟩
    · have := (blk_head hb' hbl).cut (k := 32) (c := n + 33) h32 (by omega)
      rw [cutA, if_neg (by omega)] at this
      exact this
    · rw [List.eq_nil_of_length_eq_zero (show (bs.drop 32).length = 0 by rw [List.length_drop]; omega)]
      exact ⟨rfl, fun h => absurd h (by omega)⟩
  have hrdR := hid hrdR
  have hm1 := hid (fun g off n c c2 t A pre post xs ys w hb hp hxl hy ho hn => mix_any g off n c c2 t A pre post xs ys w hb hp hxl hy ho hn)
  have hm2 := hid (fun c c2 A ys w hb hy hA => mixR_any g off n c c2 5 A bs ys rest w hb hbl h32 hoff hy hA (by omega))
  replace hoff := hid hoff
  have htl : (bs.take 32).length = 32 := by rw [List.length_take]; omega
  have hdl : (bs.drop 32).length = n - 32 := by rw [List.length_drop]; omega
  by_cases hr : r = 2 ∨ r = 4
  · have hT := hid (show turnB K r bs = xorB (bs.take 32) (macTag K (bs.drop 32)) ++ bs.drop 32 by rw [turnB, if_pos hr])
    have hG := macTag_length K (bs.drop 32)
    have hTag := hid (fun A B c d w h1 hc h2 => tag_any A B 32 c 1 d K [bs.drop 32] w h1 hc (by omega) h2 (by omega) (by rw [flatten_one, hdl]; omega))
    rw [flatten_one] at hTag
    generalize turnB K r bs = TB at *
    generalize macTag K (bs.drop 32) = G at *
    rcases hr with rfl | rfl
    all_goals
      go_enter Try.func48, Try.ntmps48
      go_wp2_with fail
      have B1 := bag_new w 47 (K.map W8)
      generalize w.alloc (.cells (K.map W8).toArray 47) = w1 at *
      refine wp_region_parts [] [0, 1, 2, 3, 4, 5] [] (by as_aux_lemma => kernel_rfl) (by as_aux_lemma => kernel_rfl) (by intro _ _ d _ _ h; cases d <;> exact h) ?_
      simp only [wpParts, pick, List.getElem?_cons_succ, List.getElem?_cons_zero, Option.toList_some, List.cons_append, List.nil_append]
      repeat (go_big_quiet_step (fail))
      refine wpQuiet_nil ?_
      go_wp2_with fail
      have B2 := B1.later ((later_alloc w1 (.cells #[.slice (some ⟨g, off, none⟩) (n - 32) (c - 32)] 22)).trans (later_drew _))
      have hb2 := hb.later B2.lat
      have hpp := parts_blk1 (Blk.new w1 22 [.slice (some ⟨g, off, none⟩) (n - 32) (c - 32)]).drew (part_of (c := c - 32) (hrdR.out _ hb2) (by omega))
      (with_reducible refine (hTag.out _ _ _ _ _ (blk_rdBW (B2.nth 0 rfl) hK) (Nat.le_refl _) hpp).mono ?_); rintro e w3 ⟨rfl, j3⟩
      go_wp2_with (first
        | (refine store_Z 32 rfl rfl _ _ rfl (Blk.new w3 _ (List.replicate 32 (.int .u8 0))) rfl rfl size32w hG rfl ?_; intro w4 hb4 ho4)
        | fail)
      have L4 := B2.lat.trans ((j3.trans (later_alloc w3 _)).only ho4 j3.size)
      have hb5 := hb.later L4
      rw [show bs.map W8 ++ rest = [] ++ (bs.take 32).map W8 ++ ((bs.drop 32).map W8 ++ rest) by rw [List.nil_append, ← List.append_assoc, ← List.map_append, List.take_append_drop]] at hb5
      have hgl := hb.lt
      have hgs := (B2.lat.trans j3).size
      (refine (hm1.out g 0 32 _ _ _ _ _ _ _ _ _ hb5 rfl htl (blk_rdBW hb4 hG) (fun _ ad e => by cases e; show w3.heap.size ≠ g; omega) (by omega)).mono ?_); rintro e w5 ⟨rfl, hb6, ho6⟩
      rw [List.nil_append, ← List.append_assoc, ← List.map_append, ← hT.out] at hb6
      go_wp2_with fail
      (try simp only [Exit.inBlock, Exit.then])
      exact bodyPost_ret (results_none rfl _ _ _) rfl ⟨rfl, hb6, L4.thenOnly ho6⟩
  · have hT := hid (show turnB K r bs = bs.take 32 ++ xorB (bs.drop 32) (chaS (xorB K (bs.take 32)) (n - 32)) by rw [turnB, if_neg hr, hbl])
    have hr' : r = 1 ∨ r = 3 := by omega
    clear hr
    have hxl : (xorB K (bs.take 32)).length = 32 := by rw [xorB_length (by omega), htl]
    have hSt := hid (fun A c w h => stream_any A c (n - 32) (xorB K (bs.take 32)) w h (by omega))
    generalize turnB K r bs = TB at *
    generalize hXe : xorB K (bs.take 32) = X at *
    replace hXe := hid hXe
    generalize chaS X (n - 32) = ST at *
    rcases hr' with rfl | rfl
    all_goals
      go_enter Try.func48, Try.ntmps48
      go_wp2_with fail
      have B1 := (bag_new w 47 (K.map W8)).drew
      generalize w.alloc (.cells (K.map W8).toArray 47) = w1 at *
      refine wp_region_parts [] [0, 1, 2, 3, 4, 5] [] (by as_aux_lemma => kernel_rfl) (by as_aux_lemma => kernel_rfl) (by intro _ _ d _ _ h; cases d <;> exact h) ?_
      simp only [wpParts, pick, List.getElem?_cons_succ, List.getElem?_cons_zero, Option.toList_some, List.cons_append, List.nil_append]
      repeat (go_big_quiet_step (fail))
      refine wpQuiet_nil ?_
      go_wp2_with fail
      have hb1 := hb.later B1.lat
      have hgl := hb.lt
      have hk1 := B1.nth 0 rfl
      (refine (hm1.out w.heap.size 0 32 _ _ _ _ [] [] K (bs.take 32) _ (by rw [List.nil_append, List.append_nil]; exact hk1) rfl hK ((blk_head hb1 hbl).take h32) (fun _ ad e => by cases e; show g ≠ w.heap.size; omega) (by omega)).mono ?_); rintro e w5 ⟨rfl, hk2, ho2⟩
      rw [List.nil_append, List.append_nil, hXe.out] at hk2
      have B2 := B1.write 0 rfl ho2 hk2
      have hb2 := hb.later B2.lat
      go_wp2_with fail
      (refine (hSt.out _ _ _ (blk_rdBW hk2 hxl)).mono ?_); rintro e w6 ⟨A6, c6, rfl, hown6, j6⟩
      go_wp2_with fail
      have hgs := B2.lat.size
      (refine (hm2.out _ _ _ ST _ (hb2.later j6) hown6.rd (fun _ ad e => by subst e; have := (hown6.lt ad.block rfl).1; omega)).mono ?_); rintro e w7 ⟨rfl, hb7, ho7⟩
      rw [← hT.out] at hb7
      go_wp2_with fail
      exact bodyPost_end (results_none rfl _ _ _) rfl ⟨rfl, hb7, (B2.lat.trans j6).thenOnly ho7⟩
end Go.Proofs.Ytjohieongjnemaa
