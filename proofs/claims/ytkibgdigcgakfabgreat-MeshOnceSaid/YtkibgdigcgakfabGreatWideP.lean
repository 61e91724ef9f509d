/-
  wide: mix, turn.
  wide: fits, Rounds.
  wide.Rounds.
-/
import Derived.Test.YtkibgdigcgakfabGreatChaR
import Derived.Test.YtkibgdigcgakfabGreatMacP
import Derived.Test.YtkibgdigcgakfabGreatBagMore
namespace Go.Proofs.YtkibgdigcgakfabGreat
open Go.RowKit
open Go.BigFrame

theorem mid_get {pre post : List Value} {xs : List UInt8} {off k : Nat} (hp : pre.length = off) (h : k < xs.length) (x : UInt8) (hx : xs[k]? = some x) : (pre ++ xs.map W8 ++ post)[off + k]? = some (W8 x) := by
  rw [List.append_assoc, List.getElem?_append_right (by omega), show off + k - pre.length = k by omega, List.getElem?_append_left (by rw [List.length_map]; exact h), List.getElem?_map, hx]
  rfl
theorem mid_set {pre post : List Value} {xs : List UInt8} {off k : Nat} (hp : pre.length = off) (h : k < xs.length) (x : UInt8) : (pre ++ xs.map W8 ++ post).set (off + k) (W8 x) = pre ++ (xs.set k x).map W8 ++ post := by
  rw [List.append_assoc, List.set_append_right _ _ (by omega), show off + k - pre.length = k by omega, List.set_append_left _ _ (by rw [List.length_map]; exact h), map_set8, List.append_assoc]
set_option maxRecDepth 100000 in
set_option maxHeartbeats 2000000 in
/-- mix: other onto b, which lies within a block. -/
theorem mix_any (g off n c c2 : Nat) (t : TypeId) (A : Option Addr) (pre post : List Value) (xs ys : List UInt8) (w : World) (hb : Blk w g t (pre ++ xs.map W8 ++ post)) (hp : pre.length = off) (hxl : xs.length = n) (hy : RdB w A n ys) (hoff : 0 < n → Off A g) (hn : n ≤ 1048576) :
    Calls Tryz.prog 89 #[.slice (some ⟨g, off, none⟩) n c, .slice A n c2] w fun e w' => e = .returned (.tuple #[]) ∧ Blk w' g t (pre ++ (xorB xs ys).map W8 ++ post) ∧ Only g w w' := by
  have hyl := hy.len
  have hlen : xs.length = ys.length := by omega
  have hX := hid (fun k => xorAt_length hlen k)
  have hG := hid (fun k (h : k < xs.length) => xorAt_get hlen h)
  have hS := hid (fun k (h : k < xs.length) => xorAt_step hlen h)
  have hA := hid (xorAt_all hlen)
  have hN := hid (xorAt_none xs ys)
  go_enter Tryz.func89, Tryz.ntmps89
  go_wp2_with fail
  go_loopw [8] (fun i wr => ∃ k : Nat, k ≤ n ∧ i = .int .i64 k ∧ Blk wr g t (pre ++ (xorAt xs ys k).map W8 ++ post) ∧ Only g w wr) (fun i _ => n - (intOf i).toNat)
  case atStart => exact ⟨0, by omega, rfl, by rw [hN.out]; exact hb, World.grownBy.refl w _⟩
  case round =>
    clear hb
    obtain ⟨k, hk, rfl, hb, ho'⟩ := hrel
    by_cases hlt : k < n
    · have hy' : RdB wr A n ys := Rd.only hy ho' (fun b o e h => hoff (by omega) _ e h)
      obtain ⟨b2, o2, rfl, hb2, hc2⟩ := RdB.at_ hy' (by omega)
      have c1 := hc2 k hlt
      have hxk := hX.out k (by omega)
      have d1 := hb.cellD (off + k) (mid_get hp (by omega) _ (hG.out k (by omega)))
      have HS := hid (hS.out k (by omega))
      clear hc2
      generalize xs.getD k 0 = x at *
      generalize ys.getD k 0 = y at *
      go_wp2_with (first
        | (refine wpList_store_in rfl rfl _ _ _ rfl g (off + k) _ _ hb rfl (by simp only [List.length_append, List.length_map]; omega) rfl size8 ?_; intro v' w5 hv' hb5 ho5; simp [go_sem] at hv'; subst hv')
        | fail)
      rw [mid_set hp (by omega), HS.out] at hb5
      go_roundw
      case rel => exact ⟨k + 1, by omega, by go_num, hb5, ho'.trans ho5⟩
      case measure => simp [intOf]; omega
    · obtain rfl : n = k := by omega
      rw [← hxl, hA.out] at hb
      go_wp2_with fail
      exact bodyPost_end (results_none rfl _ _ _) rfl ⟨rfl, hb, ho'⟩
/-- mix, onto what stands behind the first 32 bytes. -/
theorem mixR_any (g off n c c2 : Nat) (t : TypeId) (A : Option Addr) (bs ys : List UInt8) (rest : List Value) (w : World) (hb : Blk w g t (bs.map W8 ++ rest)) (hbl : bs.length = n) (h32 : 32 ≤ n) (hoff : off = 32 ∨ (off = 0 ∧ n = 32)) (hy : RdB w A (n - 32) ys) (hA : 0 < n - 32 → Off A g) (hn : n ≤ 1048576) :
    Calls Tryz.prog 89 #[.slice (some ⟨g, off, none⟩) (n - 32) c, .slice A (n - 32) c2] w fun e w' => e = .returned (.tuple #[]) ∧ Blk w' g t ((bs.take 32 ++ xorB (bs.drop 32) ys).map W8 ++ rest) ∧ Only g w w' := by
  have e0 : bs.map W8 ++ rest = (bs.take 32).map W8 ++ (bs.drop 32).map W8 ++ rest := by rw [← List.map_append, List.take_append_drop]
  rcases hoff with rfl | ⟨rfl, rfl⟩
  · rw [e0] at hb
    refine (mix_any g 32 (n - 32) c c2 t A _ rest (bs.drop 32) ys w hb (by rw [List.length_map, List.length_take]; omega) (by rw [List.length_drop]; omega) hy hA (by omega)).mono ?_
    rintro e w' ⟨he, hb', ho⟩
    exact ⟨he, by rw [List.map_append]; exact hb', ho⟩
  · have hd : bs.drop 32 = [] := List.eq_nil_of_length_eq_zero (by rw [List.length_drop]; omega)
    have hyn : ys = [] := List.eq_nil_of_length_eq_zero hy.len
    refine (mix_any g 0 0 c c2 t A [] (bs.map W8 ++ rest) [] ys w hb rfl rfl hy hA (by omega)).mono ?_
    rintro e w' ⟨he, hb', ho⟩
    refine ⟨he, ?_, ho⟩
    subst hyn
    rw [hd, show xorB [] [] = [] from rfl, List.append_nil, List.take_of_length_le (by omega)]
    exact hb'
/-- One round of the wide cipher. -/
def turnB (K : List UInt8) (r : Nat) (bs : List UInt8) : List UInt8 :=
  if r = 2 ∨ r = 4 then xorB (bs.take 32) (macTag K (bs.drop 32)) ++ bs.drop 32 else bs.take 32 ++ xorB (bs.drop 32) (chaS (xorB K (bs.take 32)) (bs.length - 32))
theorem turnB_length (K : List UInt8) (r : Nat) (bs : List UInt8) (h : 32 ≤ bs.length) : (turnB K r bs).length = bs.length := by
  unfold turnB
  split
  · rw [List.length_append, xorB_length (by rw [macTag_length, List.length_take]; omega), macTag_length, List.length_drop]
    omega
  · rw [List.length_append, xorB_length (by rw [chaS_length, List.length_drop]), chaS_length, List.length_take]
    omega
theorem turnB_twice (K : List UInt8) (r : Nat) (bs : List UInt8) (h : 32 ≤ bs.length) : turnB K r (turnB K r bs) = bs := by
  by_cases hr : r = 2 ∨ r = 4
  · have l1 : (bs.take 32).length = (macTag K (bs.drop 32)).length := by rw [macTag_length, List.length_take]; omega
    have l2 : (xorB (bs.take 32) (macTag K (bs.drop 32))).length = 32 := by rw [xorB_length l1, macTag_length]
    rw [turnB, if_pos hr, turnB, if_pos hr, List.take_left' l2, List.drop_left' l2, xorB_twice l1, List.take_append_drop]
  · have l0 : (bs.take 32).length = 32 := by rw [List.length_take]; omega
    have l1 : (bs.drop 32).length = (chaS (xorB K (bs.take 32)) (bs.length - 32)).length := by rw [chaS_length, List.length_drop]
    have l2 : (bs.take 32 ++ xorB (bs.drop 32) (chaS (xorB K (bs.take 32)) (bs.length - 32))).length = bs.length := by
      have := turnB_length K r bs h
      rwa [turnB, if_neg hr] at this
    rw [turnB, if_neg hr, turnB, if_neg hr, l2, List.take_left' l0, List.drop_left' l0, xorB_twice l1, List.take_append_drop]
theorem size32w : (Tryz.prog.info? 91).map (·.size) = some 32 := by kernel_rfl
theorem blk_rdBW {w : World} {g : Nat} {t : TypeId} {bs : List UInt8} {n : Nat} (h : Blk w g t (bs.map W8)) (hn : bs.length = n) : RdB w (some ⟨g, 0, none⟩) n bs := h.rd (by rw [List.length_map, hn])
set_option maxRecDepth 100000 in
set_option maxHeartbeats 4000000 in
theorem turn_any (g n c : Nat) (K bs : List UInt8) (r : Nat) (rest : List Value) (w : World) (hb : Blk w g 5 (bs.map W8 ++ rest)) (hbl : bs.length = n) (h32 : 32 ≤ n) (hn : n ≤ 4096) (hc : n ≤ c) (hK : K.length = 32) (h1 : 1 ≤ r) (h4 : r ≤ 4) :
    Calls Tryz.prog 74 #[.slice (some ⟨g, 0, none⟩) n c, .agg (K.map W8).toArray, .int .i64 r] w fun e w' => e = .returned (.tuple #[]) ∧ Blk w' g 5 ((turnB K r bs).map W8 ++ rest) ∧ Only g w w' := by
  have hcl : ∀ W, (Instr.sliceAt 23 (.slice (some ⟨g, 0, none⟩) n c) none (some (.int .i64 32)) none).run Tryz.prog W = .ok (.slice (some ⟨g, 0, none⟩) 32 c) W := fun W => cut8_to (some ⟨g, 0, none⟩) n c .i64 32 (by omega) W
  obtain ⟨off, hoff, hcr⟩ : ∃ off, (off = 32 ∨ (off = 0 ∧ n = 32)) ∧ ∀ W, (Instr.sliceAt 23 (.slice (some ⟨g, 0, none⟩) n c) (some (.int .i64 32)) none none).run Tryz.prog W = .ok (.slice (some ⟨g, off, none⟩) (n - 32) (c - 32)) W := by
    have h := fun W => cut8_from (some ⟨g, 0, none⟩) n c .i64 32 h32 W
    unfold cutA at h
    by_cases hc32 : c = 32
    · rw [if_pos hc32] at h
      exact ⟨0, .inr ⟨rfl, by omega⟩, h⟩
    · rw [if_neg hc32] at h
      exact ⟨32, .inl rfl, h⟩
  have hrdR : ∀ w', Blk w' g 5 (bs.map W8 ++ rest) → RdB w' (some ⟨g, off, none⟩) (n - 32) (bs.drop 32) := fun w' hb' => by
    rcases hoff with rfl | ⟨rfl, rfl⟩
    · have := (blk_head hb' hbl).cut (k := 32) (c := n + 33) h32 (by omega)
      rw [cutA, if_neg (by omega)] at this
      exact this
    · rw [List.eq_nil_of_length_eq_zero (show (bs.drop 32).length = 0 by rw [List.length_drop]; omega)]
      exact ⟨rfl, fun h => absurd h (by omega)⟩
  have hrdR := hid hrdR
  have hm1 := hid (fun g off n c c2 t A pre post xs ys w hb hp hxl hy ho hn => mix_any g off n c c2 t A pre post xs ys w hb hp hxl hy ho hn)
  have hm2 := hid (fun c c2 A ys w hb hy hA => mixR_any g off n c c2 5 A bs ys rest w hb hbl h32 hoff hy hA (by omega))
  replace hoff := hid hoff
  have htl : (bs.take 32).length = 32 := by rw [List.length_take]; omega
  have hdl : (bs.drop 32).length = n - 32 := by rw [List.length_drop]; omega
  by_cases hr : r = 2 ∨ r = 4
  · have hT := hid (show turnB K r bs = xorB (bs.take 32) (macTag K (bs.drop 32)) ++ bs.drop 32 by rw [turnB, if_pos hr])
    have hG := macTag_length K (bs.drop 32)
    have hTag := hid (fun A B c d w h1 hc h2 => tag_any A B 32 c 1 d K [bs.drop 32] w h1 hc (by omega) h2 (by omega) (by rw [flatten_one, hdl]; omega))
    rw [flatten_one] at hTag
    generalize turnB K r bs = TB at *
    generalize macTag K (bs.drop 32) = G at *
    rcases hr with rfl | rfl
    all_goals
      go_enter Tryz.func74, Tryz.ntmps74
      go_wp2_with fail
      have B1 := bag_new w 91 (K.map W8)
      generalize w.alloc (.cells (K.map W8).toArray 91) = w1 at *
      refine wp_region_parts [] [0, 1, 2, 3, 4, 5] [] (by as_aux_lemma => kernel_rfl) (by as_aux_lemma => kernel_rfl) (by intro _ _ d _ _ h; cases d <;> exact h) ?_
      simp only [wpParts, pick, List.getElem?_cons_succ, List.getElem?_cons_zero, Option.toList_some, List.cons_append, List.nil_append]
      repeat (go_big_quiet_step (fail))
      refine wpQuiet_nil ?_
      go_wp2_with fail
      have B2 := B1.later ((later_alloc w1 (.cells #[.slice (some ⟨g, off, none⟩) (n - 32) (c - 32)] 23)).trans (later_drew _))
      have hb2 := hb.later B2.lat
      have hpp := parts_blk1 (Blk.new w1 23 [.slice (some ⟨g, off, none⟩) (n - 32) (c - 32)]).drew (part_of (c := c - 32) (hrdR.out _ hb2) (by omega))
      (with_reducible refine (hTag.out _ _ _ _ _ (blk_rdBW (B2.nth 0 rfl) hK) (Nat.le_refl _) hpp).mono ?_); rintro e w3 ⟨rfl, j3⟩
      go_wp2_with (first
        | (refine store_Z 32 rfl rfl _ _ rfl (Blk.new w3 _ (List.replicate 32 (.int .u8 0))) rfl rfl size32w hG rfl ?_; intro w4 hb4 ho4)
        | fail)
      have L4 := B2.lat.trans ((j3.trans (later_alloc w3 _)).only ho4 j3.size)
      have hb5 := hb.later L4
      rw [show bs.map W8 ++ rest = [] ++ (bs.take 32).map W8 ++ ((bs.drop 32).map W8 ++ rest) by rw [List.nil_append, ← List.append_assoc, ← List.map_append, List.take_append_drop]] at hb5
      have hgl := hb.lt
      have hgs := (B2.lat.trans j3).size
      (refine (hm1.out g 0 32 _ _ _ _ _ _ _ _ _ hb5 rfl htl (blk_rdBW hb4 hG) (fun _ ad e => by cases e; show w3.heap.size ≠ g; omega) (by omega)).mono ?_); rintro e w5 ⟨rfl, hb6, ho6⟩
      rw [List.nil_append, ← List.append_assoc, ← List.map_append, ← hT.out] at hb6
      go_wp2_with fail
      (try simp only [Exit.inBlock, Exit.then])
      exact bodyPost_ret (results_none rfl _ _ _) rfl ⟨rfl, hb6, L4.thenOnly ho6⟩
  · have hT := hid (show turnB K r bs = bs.take 32 ++ xorB (bs.drop 32) (chaS (xorB K (bs.take 32)) (n - 32)) by rw [turnB, if_neg hr, hbl])
    have hr' : r = 1 ∨ r = 3 := by omega
    clear hr
    have hxl : (xorB K (bs.take 32)).length = 32 := by rw [xorB_length (by omega), htl]
    have hSt := hid (fun A c w h => stream_any A c (n - 32) (xorB K (bs.take 32)) w h (by omega))
    generalize turnB K r bs = TB at *
    generalize hXe : xorB K (bs.take 32) = X at *
    replace hXe := hid hXe
    generalize chaS X (n - 32) = ST at *
    rcases hr' with rfl | rfl
    all_goals
      go_enter Tryz.func74, Tryz.ntmps74
      go_wp2_with fail
      have B1 := (bag_new w 91 (K.map W8)).drew
      generalize w.alloc (.cells (K.map W8).toArray 91) = w1 at *
      refine wp_region_parts [] [0, 1, 2, 3, 4, 5] [] (by as_aux_lemma => kernel_rfl) (by as_aux_lemma => kernel_rfl) (by intro _ _ d _ _ h; cases d <;> exact h) ?_
      simp only [wpParts, pick, List.getElem?_cons_succ, List.getElem?_cons_zero, Option.toList_some, List.cons_append, List.nil_append]
      repeat (go_big_quiet_step (fail))
      refine wpQuiet_nil ?_
      go_wp2_with fail
      have hb1 := hb.later B1.lat
      have hgl := hb.lt
      have hk1 := B1.nth 0 rfl
      (refine (hm1.out w.heap.size 0 32 _ _ _ _ [] [] K (bs.take 32) _ (by rw [List.nil_append, List.append_nil]; exact hk1) rfl hK ((blk_head hb1 hbl).take h32) (fun _ ad e => by cases e; show g ≠ w.heap.size; omega) (by omega)).mono ?_); rintro e w5 ⟨rfl, hk2, ho2⟩
      rw [List.nil_append, List.append_nil, hXe.out] at hk2
      have B2 := B1.write 0 rfl ho2 hk2
      have hb2 := hb.later B2.lat
      go_wp2_with fail
      (refine (hSt.out _ _ _ (blk_rdBW hk2 hxl)).mono ?_); rintro e w6 ⟨A6, c6, rfl, hown6, j6⟩
      go_wp2_with fail
      have hgs := B2.lat.size
      (refine (hm2.out _ _ _ ST _ (hb2.later j6) hown6.rd (fun _ ad e => by subst e; have := (hown6.lt ad.block rfl).1; omega)).mono ?_); rintro e w7 ⟨rfl, hb7, ho7⟩
      rw [← hT.out] at hb7
      go_wp2_with fail
      exact bodyPost_end (results_none rfl _ _ _) rfl ⟨rfl, hb7, (B2.lat.trans j6).thenOnly ho7⟩
end Go.Proofs.YtkibgdigcgakfabGreat
namespace Go.Proofs.YtkibgdigcgakfabGreat
open Go.RowKit
open Go.BigFrame

abbrev lab1 : ByteArray := ⟨#[119, 105, 100, 101, 49]⟩
abbrev lab2 : ByteArray := ⟨#[119, 105, 100, 101, 50]⟩
abbrev lab3 : ByteArray := ⟨#[119, 105, 100, 101, 51]⟩
abbrev lab4 : ByteArray := ⟨#[119, 105, 100, 101, 52]⟩
def labW (r : Int) : ByteArray := if r = 1 then lab1 else if r = 2 then lab2 else if r = 3 then lab3 else lab4
def okR (rs : List Int) : Prop := ∀ r ∈ rs, 1 ≤ r ∧ r ≤ 4
instance (rs : List Int) : Decidable (okR rs) := by unfold okR; infer_instance
def fitW (key bs : List UInt8) : Prop := key.length = 32 ∧ 32 ≤ bs.length ∧ bs.length ≤ 4096
instance (key bs : List UInt8) : Decidable (fitW key bs) := by unfold fitW; infer_instance
/-- Round by round. -/
def foldW (key : List UInt8) (rs : List Int) (bs : List UInt8) : List UInt8 := rs.foldl (fun b r => turnB (derB key (labW r)) r.toNat b) bs
theorem foldW_length (key : List UInt8) : ∀ (rs : List Int) (bs : List UInt8), 32 ≤ bs.length → (foldW key rs bs).length = bs.length
  | [], _, _ => rfl
  | r :: rs, bs, h => by
    show (foldW key rs (turnB _ _ bs)).length = _
    have := turnB_length (derB key (labW r)) r.toNat bs h
    rw [foldW_length key rs _ (by omega), this]
theorem foldW_append (key : List UInt8) (rs rs' : List Int) (bs : List UInt8) : foldW key (rs ++ rs') bs = foldW key rs' (foldW key rs bs) := by rw [foldW, List.foldl_append]; rfl
/-- The same rounds backwards undo them. -/
theorem foldW_back (key : List UInt8) : ∀ (rs : List Int) (bs : List UInt8), 32 ≤ bs.length → foldW key rs.reverse (foldW key rs bs) = bs
  | [], _, _ => rfl
  | r :: rs, bs, h => by
    have hl := turnB_length (derB key (labW r)) r.toNat bs h
    rw [List.reverse_cons, foldW_append]
    show foldW key [r] (foldW key rs.reverse (foldW key rs (turnB (derB key (labW r)) r.toNat bs))) = bs
    rw [foldW_back key rs _ (by omega)]
    exact turnB_twice _ _ _ h
def wideE (key bs : List UInt8) (rs : List Int) : Nat := if okR rs then (if fitW key bs then 0 else 2) else 1
def wideB (key bs : List UInt8) (rs : List Int) : List UInt8 := if okR rs then (if fitW key bs then foldW key rs bs else []) else []
theorem fitsBlock_any (B : Option Addr) (m d : Nat) (w : World) :
    Calls Tryz.prog 87 #[.slice B m d] w fun e w' => e = .returned (.bool (decide (32 ≤ m ∧ m ≤ 4096))) ∧ w' = w := by
  by_cases h1 : 32 ≤ m
  · by_cases h2 : m ≤ 4096
    · have e1 : (32 : Int) ≤ (m : Int) := by omega
      have e2 : (m : Int) ≤ 4096 := by omega
      rw [decide_eq_true (show 32 ≤ m ∧ m ≤ 4096 from ⟨h1, h2⟩)]
      go_enter Tryz.func87, Tryz.ntmps87
      go_wp2
      go_ret
      exact ⟨rfl, rfl⟩
    · have e1 : (32 : Int) ≤ (m : Int) := by omega
      have e2 : ¬ (m : Int) ≤ 4096 := by omega
      rw [decide_eq_false (show ¬ (32 ≤ m ∧ m ≤ 4096) from fun h => h2 h.2)]
      go_enter Tryz.func87, Tryz.ntmps87
      go_wp2
      go_ret
      exact ⟨rfl, rfl⟩
  · have e1 : ¬ (32 : Int) ≤ (m : Int) := by omega
    rw [decide_eq_false (show ¬ (32 ≤ m ∧ m ≤ 4096) from fun h => h1 h.1)]
    go_enter Tryz.func87, Tryz.ntmps87
    go_wp2
    go_ret
    exact ⟨rfl, rfl⟩
theorem fits_wide (A B : Option Addr) (n c m d : Nat) (w : World) :
    Calls Tryz.prog 73 #[.slice A n c, .slice B m d] w fun e w' => e = .returned (.bool (decide (n = 32 ∧ 32 ≤ m ∧ m ≤ 4096))) ∧ w' = w := by
  have hf := hid (fitsBlock_any B m d)
  by_cases h0 : n = 32
  · subst h0
    rw [show decide (32 = 32 ∧ 32 ≤ m ∧ m ≤ 4096) = decide (32 ≤ m ∧ m ≤ 4096) by simp]
    go_enter Tryz.func73, Tryz.ntmps73
    go_wp2_with fail
    (with_reducible refine (hf.out _).mono ?_); rintro e w1 ⟨rfl, rfl⟩
    go_wp2_with fail
    go_ret
    exact ⟨by simp, rfl⟩
  · have e1 : ((n : Int) == 32) = false := by simp; omega
    rw [decide_eq_false (show ¬ (n = 32 ∧ 32 ≤ m ∧ m ≤ 4096) from fun h => h0 h.1)]
    go_enter Tryz.func73, Tryz.ntmps73
    go_wp2_with fail
    go_ret
    exact ⟨by simp, rfl⟩
end Go.Proofs.YtkibgdigcgakfabGreat
namespace Go.Proofs.YtkibgdigcgakfabGreat
open Go.RowKit
open Go.BigFrame

theorem wideB_bad {key bs : List UInt8} {rs : List Int} (h : ¬ okR rs) : wideB key bs rs = [] := by rw [wideB, if_neg h]
theorem wideE_bad {key bs : List UInt8} {rs : List Int} (h : ¬ okR rs) : wideE key bs rs = 1 := by rw [wideE, if_neg h]
theorem wideB_unfit {key bs : List UInt8} {rs : List Int} (h : okR rs) (h2 : ¬ fitW key bs) : wideB key bs rs = [] := by rw [wideB, if_pos h, if_neg h2]
theorem wideE_unfit {key bs : List UInt8} {rs : List Int} (h : okR rs) (h2 : ¬ fitW key bs) : wideE key bs rs = 2 := by rw [wideE, if_pos h, if_neg h2]
theorem wideB_fit {key bs : List UInt8} {rs : List Int} (h : okR rs) (h2 : fitW key bs) : wideB key bs rs = foldW key rs bs := by rw [wideB, if_pos h, if_pos h2]
theorem wideE_fit {key bs : List UInt8} {rs : List Int} (h : okR rs) (h2 : fitW key bs) : wideE key bs rs = 0 := by rw [wideE, if_pos h, if_pos h2]
def intV (r : Int) : Value := .int .i64 r
theorem rdI_at {w : World} {C : Option Addr} {k : Nat} {rs : List Int} (h : Rd w C k (rs.map intV)) {j : Nat} (hj : j < k) : ∃ b o, C = some ⟨b, o, none⟩ ∧ b < w.heap.size ∧ ∀ w', Later w w' → w'.cell? ⟨b, o + j, none⟩ = some (.int .i64 (rs.getD j 0)) := by
  have hl : rs.length = k := by have := h.1; rwa [List.length_map] at this
  obtain ⟨b, o, e, hb, hc⟩ := h.2 (by omega)
  refine ⟨b, o, e, hb, fun w' hl' => (hl'.below.cell (p := ⟨b, o + j, none⟩) hb).trans (hc j _ ?_)⟩
  rw [List.getElem?_map, List.getElem?_eq_getElem (show j < rs.length by omega), List.getD_eq_getElem?_getD, List.getElem?_eq_getElem (show j < rs.length by omega)]
  rfl
theorem foldW_take (key : List UInt8) (rs : List Int) (bs : List UInt8) (j : Nat) (h : j < rs.length) : foldW key (rs.take (j + 1)) bs = turnB (derB key (labW (rs.getD j 0))) (rs.getD j 0).toNat (foldW key (rs.take j) bs) := by
  rw [List.take_succ_eq_append_getElem h, foldW_append, List.getD_eq_getElem?_getD, List.getElem?_eq_getElem h]
  rfl
/-- The four keys. -/
def keysW (s : List UInt8) : List UInt8 := keysAt s [lab1, lab2, lab3, lab4] 4
theorem keysW_get (s : List UInt8) (r : Int) (h1 : 1 ≤ r) (h4 : r ≤ 4) : (keysW s).drop ((r.toNat - 1) * 32) = derB s (labW r) ++ ((keysW s).drop ((r.toNat - 1) * 32)).drop 32 := by
  have l1 := derB_length s lab1
  have l2 := derB_length s lab2
  have l3 := derB_length s lab3
  have l4 := derB_length s lab4
  have e : keysW s = derB s lab1 ++ (derB s lab2 ++ (derB s lab3 ++ derB s lab4)) := by simp [keysW, keysAt]
  have hr : r = 1 ∨ r = 2 ∨ r = 3 ∨ r = 4 := by omega
  rw [e]
  generalize hd1 : derB s lab1 = d1 at *
  generalize hd2 : derB s lab2 = d2 at *
  generalize hd3 : derB s lab3 = d3 at *
  generalize hd4 : derB s lab4 = d4 at *
  rcases hr with rfl | rfl | rfl | rfl
  · show (d1 ++ _).drop 0 = derB s lab1 ++ ((d1 ++ _).drop 0).drop 32
    rw [hd1, List.drop_zero, List.drop_left' l1]
  · show (d1 ++ _).drop 32 = derB s lab2 ++ ((d1 ++ _).drop 32).drop 32
    rw [hd2, List.drop_left' l1, List.drop_left' l2]
  · show (d1 ++ _).drop 64 = derB s lab3 ++ ((d1 ++ _).drop 64).drop 32
    rw [hd3, show (64 : Nat) = 32 + 32 from rfl, ← List.drop_drop, List.drop_left' l1, List.drop_left' l2, List.drop_left' l3]
  · show (d1 ++ _).drop 96 = derB s lab4 ++ ((d1 ++ _).drop 96).drop 32
    rw [hd4, show (96 : Nat) = 32 + (32 + 32) from rfl, ← List.drop_drop, ← List.drop_drop, List.drop_left' l1, List.drop_left' l2, List.drop_left' l3]
    have : d4.drop 32 = [] := List.drop_eq_nil_of_le (by omega)
    rw [this, List.append_nil]
theorem own_maxc {w : World} {base n c : Nat} {A : Option Addr} {bs : List UInt8} (h : OwnB w base A n c bs) : c ≤ maxLen := by
  rcases h.2 with ⟨hv, _⟩ | ⟨g2, cap, cur, hv, _, _, _, hm, _⟩
  · cases hv
    exact Nat.zero_le _
  · cases hv
    exact hm
theorem turn_at (g n c : Nat) (K bs : List UInt8) (r : Nat) (i : Int) (hi : i = (r : Int)) (rest : List Value) (w : World) (hb : Blk w g 5 (bs.map W8 ++ rest)) (hbl : bs.length = n) (h32 : 32 ≤ n) (hn : n ≤ 4096) (hc : n ≤ c) (hK : K.length = 32) (h1 : 1 ≤ r) (h4 : r ≤ 4) :
    Calls Tryz.prog 74 #[.slice (some ⟨g, 0, none⟩) n c, .agg (K.map W8).toArray, .int .i64 i] w fun e w' => e = .returned (.tuple #[]) ∧ Blk w' g 5 ((turnB K r bs).map W8 ++ rest) ∧ Only g w w' := by
  subst hi
  exact turn_any g n c K bs r rest w hb hbl h32 hn hc hK h1 h4
theorem key_cell {w : World} {g : Nat} {t : TypeId} {ks : List UInt8} (h : Blk w g t (ks.map W8)) {q : Nat} {K r : List UInt8} (hd : ks.drop (q * 32) = K ++ r) {j : Nat} {v : Value} (hv : (K.map W8)[j]? = some v) : w.cell? ⟨g, q * 32 + j, none⟩ = some v := by
  refine h.cellD _ ?_
  rw [List.getElem?_map, Option.map_eq_some_iff] at hv ⊢
  obtain ⟨x, hx, rfl⟩ := hv
  refine ⟨x, ?_, rfl⟩
  rw [← List.getElem?_drop, hd, List.getElem?_append_left (List.getElem?_eq_some_iff.1 hx).1]
  exact hx
set_option maxRecDepth 100000 in
set_option maxHeartbeats 8000000 in
theorem rounds_wide (A B C : Option Addr) (n c m d k e0 : Nat) (key bs : List UInt8) (rs : List Int) (w : World) (hk : RdB w A n key) (hc : n ≤ c) (hb : RdB w B m bs) (hd : m ≤ d) (hr : Rd w C k (rs.map intV)) (hn : n ≤ 2097152) (hm : m ≤ 2097152) (hk2 : k ≤ 2097152) :
    Calls Tryz.prog 60 #[.slice A n c, .slice B m d, .slice C k e0] w fun e w' => Later w w' ∧ ∃ A' c', e = .returned (.tuple #[.slice A' (wideB key bs rs).length c', .int .i64 (wideE key bs rs : Nat)]) ∧ OwnB w' w.heap.size A' (wideB key bs rs).length c' (wideB key bs rs) := by
  have hkl := hk.len
  have hbl := hb.len
  have hrl : rs.length = k := by have := hr.1; rwa [List.length_map] at this
  have hbad := hid (fun h => And.intro (@wideB_bad key bs rs h) (@wideE_bad key bs rs h))
  have hunf := hid (fun h h2 => And.intro (@wideB_unfit key bs rs h h2) (@wideE_unfit key bs rs h h2))
  have hfit := hid (fun h h2 => And.intro (@wideB_fit key bs rs h h2) (@wideE_fit key bs rs h h2))
  have hat := hid (fun j (hj : j < k) => rdI_at hr hj)
  have hff := hid (fits_wide A B n c m d)
  generalize wideB key bs rs = WB at *
  generalize wideE key bs rs = WE at *
  go_enter Tryz.func60, Tryz.ntmps60
  go_wp2_with fail
  go_loopw [16] (fun i wr => ∃ j : Nat, j ≤ k ∧ i = .int .i64 j ∧ wr = w ∧ Hid (∀ t, t < j → 1 ≤ rs.getD t 0 ∧ rs.getD t 0 ≤ 4)) (fun i _ => k - (intOf i).toNat)
  case atStart => exact ⟨0, by omega, rfl, rfl, hid (fun t h => by omega)⟩
  case round =>
    obtain ⟨j, hj, rfl, rfl, hall⟩ := hrel
    by_cases hlt : j < k
    · obtain ⟨b, o, rfl, hbb, hcell⟩ := hat.out j hlt
      have c1 := hcell wr (Later.refl _)
      clear hcell
      have hmem : rs.getD j 0 ∈ rs := by rw [List.getD_eq_getElem?_getD, List.getElem?_eq_getElem (show j < rs.length by omega)]; exact List.getElem_mem _
      have hbd : ¬ (1 ≤ rs.getD j 0 ∧ rs.getD j 0 ≤ 4) → Hid (WB = [] ∧ WE = 1) := fun h => hid (hbad.out (fun hok => h (hok _ hmem)))
      have hst : 1 ≤ rs.getD j 0 → rs.getD j 0 ≤ 4 → Hid (∀ t, t < j + 1 → 1 ≤ rs.getD t 0 ∧ rs.getD t 0 ≤ 4) := fun h1 h2 => hid (fun t ht => by
        by_cases e : t = j
        · subst e; exact ⟨h1, h2⟩
        · exact hall.out t (by omega))
      clear hmem
      generalize rs.getD j 0 = r at *
      by_cases h1 : r < 1
      · have hB := hbd (by omega)
        clear hbd hst
        go_wp2_with fail
        go_ret2
        refine ⟨Later.refl _, none, 0, ?_, ?_⟩
        · rw [hB.out.1, hB.out.2]; rfl
        · rw [hB.out.1]; exact own_nil _ _ _
      · by_cases h2 : 4 < r
        · have hB := hbd (by omega)
          clear hbd hst
          go_wp2_with fail
          go_ret2
          refine ⟨Later.refl _, none, 0, ?_, ?_⟩
          · rw [hB.out.1, hB.out.2]; rfl
          · rw [hB.out.1]; exact own_nil _ _ _
        · have hS := hst (by omega) (by omega)
          clear hbd hst
          go_wp2_with fail
          go_roundw
          case rel => exact ⟨j + 1, by omega, by go_num, trivial, hS⟩
          case measure => simp [intOf]; omega
    · obtain rfl : k = j := by omega
      have hok : okR rs := fun r hr' => by
        obtain ⟨t, ht⟩ := List.getElem?_of_mem hr'
        have htl := (List.getElem?_eq_some_iff.1 ht).1
        have := hall.out t (by omega)
        rwa [List.getD_eq_getElem?_getD, ht] at this
      clear hbad
      go_wp2_with fail
      (with_reducible refine (hff.out _).mono ?_); rintro e w1 ⟨rfl, rfl⟩
      by_cases hf : n = 32 ∧ 32 ≤ m ∧ m ≤ 4096
      · rw [decide_eq_true hf]
        have hF := hid (hfit.out hok ⟨by rw [hkl]; exact hf.1, by rw [hbl]; exact hf.2⟩)
        obtain ⟨rfl, hm32, hm4⟩ := hf
        clear hunf hfit
        have hDe := hid (fun B d w h1 h2 => derive_any A B 32 c 4 d key [lab1, lab2, lab3, lab4] w h1 hc (by omega) h2 (by omega) (by omega) (by intro x hx; simp only [List.mem_cons, List.not_mem_nil, or_false] at hx; rcases hx with rfl | rfl | rfl | rfl <;> decide))
        have hKW := hid (fun r h1 h4 => keysW_get key r h1 h4)
        have hFt := hid (fun j h => foldW_take key rs bs j h)
        have hFl := hid (fun rs => foldW_length key rs bs (by omega))
        have hDl := hid (fun r => derB_length key (labW r))
        have hTu := hid turn_at
        have hCj := hid (fun A c w h => cjoin_any A 1 c [bs] w h (by omega) (by rw [flatten_one]; omega))
        rw [flatten_one, hbl] at hCj
        rw [show keysAt key [lab1, lab2, lab3, lab4] 4 = keysW key from rfl] at hDe
        have hF0 := hid (show foldW key (rs.take 0) bs = bs from rfl)
        go_wp2_with fail
        have J1 := later_alloc w1 (.cells #[.string lab1, .string lab2, .string lab3, .string lab4] 9)
        have hst : Strs (w1.alloc (.cells #[.string lab1, .string lab2, .string lab3, .string lab4] 9)) (some ⟨w1.heap.size, 0, none⟩) 4 [lab1, lab2, lab3, lab4] := (Blk.new w1 9 [.string lab1, .string lab2, .string lab3, .string lab4]).rd rfl
        (refine (hDe.out _ _ _ (hk.later J1) hst).mono ?_); rintro e w2 ⟨gK, rfl, hgK, hbK, j2⟩
        go_wp2_with fail
        have J2 := (J1.trans j2).trans (later_alloc w2 (.cells #[.slice B m d] 23))
        have hpp := parts_blk1 (Blk.new w2 23 [.slice B m d]) (part_of (hb.later J2) hd)
        (with_reducible refine (hCj.out _ _ _ hpp).mono ?_); rintro e w3 ⟨A3, c3, rfl, hown3, j3⟩
        have L3 := J2.trans j3
        have hbK3 := hbK.later ((later_alloc w2 (.cells #[.slice B m d] 23)).trans j3)
        have hgKw : w1.heap.size ≤ gK := Nat.le_trans J1.size hgK
        replace hown3 := hown3.mono J2.size
        have hmx := own_maxc hown3
        obtain ⟨gO, rest, rfl, hgO, hbO, hcO, hcc⟩ := own_some hown3 (by omega)
        replace hcO := hid hcO
        clear J1 hst j2 J2 hpp j3 hown3 hbK hgK
        go_wp2_with fail
        have hgl := hbO.lt
        go_loopw [39] (fun i wr => ∃ j : Nat, j ≤ k ∧ i = .int .i64 j ∧ Blk wr gO 5 ((foldW key (rs.take j) bs).map W8 ++ rest) ∧ Blk wr gK 91 ((keysW key).map W8) ∧ Later w1 wr) (fun i _ => k - (intOf i).toNat)
        case atStart => exact ⟨0, by omega, rfl, by rw [hF0.out]; exact hbO, hbK3, L3⟩
        case round =>
          clear hbO hbK3 L3 hgl
          obtain ⟨j, hj, rfl, hbO, hbK, L⟩ := hrel
          by_cases hlt : j < k
          · obtain ⟨b, o, rfl, hbb, hcell⟩ := hat.out j hlt
            have c1 := hcell wr L
            have hrr := hall.out j hlt
            have HF := hid (hFt.out j (by omega))
            have hFlj := hFl.out (rs.take j)
            have hKr := hKW.out _ hrr.1 hrr.2
            have hDlr := hDl.out (rs.getD j 0)
            clear hcell
            generalize rs.getD j 0 = r at *
            obtain ⟨q, rfl⟩ : ∃ q : Nat, r = (q : Int) + 1 := ⟨(r - 1).toNat, by omega⟩
            have hq4 : q < 4 := by omega
            have hqn : ((q : Int) + 1).toNat = q + 1 := by omega
            rw [hqn] at HF hKr
            rw [Nat.add_sub_cancel] at hKr
            generalize derB key (labW ((q : Int) + 1)) = Kr at *
            generalize foldW key (rs.take j) bs = F at *
            replace hKr := hid hKr
            clear hqn hrr
            go_wp2_with (first
              | (refine wpList_load_agg rfl 91 _ rfl gK (q * 32) (Kr.map W8) ?hc ?hx _ Tryz.underlying91 rfl ?hi ?_; (case hx => rfl); (case hi => rw [List.length_map, hDlr]; exact size32w); (case hc => intro j v hv; exact key_cell hbK hKr.out hv))
              | fail)
            (refine (hTu.out gO m c3 Kr F (q + 1) _ (by omega) rest _ hbO (by omega) hm32 hm4 hcc hDlr (by omega) (by omega)).mono ?_); rintro e w5 ⟨rfl, hb5, ho5⟩
            go_wp2_with fail
            go_roundw
            case rel => exact ⟨j + 1, by omega, by go_num, by rw [HF.out]; exact hb5, hbK.only ho5 (hbK.ne_type hbO (by decide)), L.only ho5 hgO⟩
            case measure => simp [intOf]; omega
          · obtain rfl : k = j := by omega
            rw [List.take_of_length_le (by omega)] at hbO
            have hFl' := hFl.out rs
            rw [← hF.out.1] at hbO hFl'
            have hcw : c3 = (WB.map W8 ++ rest).length := by
              rw [hcO.out, List.length_append, List.length_append, List.length_map, List.length_map]
              omega
            have hWl : WB.length = m := by omega
            have hWE := hF.out.2
            have hown := own_mk hbO hgO (by rw [← hcw]; exact hmx)
            rw [← hcw, List.length_map, hWl] at hown
            go_wp2_with fail
            go_ret2
            exact ⟨L, _, _, by rw [hWl, hWE]; rfl, by rw [hWl]; exact hown⟩
      · rw [decide_eq_false hf]
        have hB := hid (hunf.out hok (fun h => hf ⟨by rw [← hkl]; exact h.1, by rw [← hbl]; exact h.2⟩))
        clear hunf hfit
        go_wp2_with fail
        go_ret2
        refine ⟨Later.refl _, none, 0, ?_, ?_⟩
        · rw [hB.out.1, hB.out.2]; rfl
        · rw [hB.out.1]; exact own_nil _ _ _
end Go.Proofs.YtkibgdigcgakfabGreat
