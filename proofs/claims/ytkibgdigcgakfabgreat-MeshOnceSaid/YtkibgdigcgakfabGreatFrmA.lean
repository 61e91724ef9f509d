/-
  Parts of messages: frame.Check, shallotref11.Check; noughts; copies; SamePart.
-/
import Derived.Test.YtkibgdigcgakfabGreatPrt
import Derived.Test.YtkibgdigcgakfabGreatRowP
import Derived.Test.YtkibgdigcgakfabGreatBagMore
import Derived.Test.YtkibgdigcgakfabGreatHelp
import Derived.Test.YtkibgdigcgakfabGreatCanP
import Derived.Test.YtkibgdigcgakfabGreatMemP
namespace Go.Proofs.YtkibgdigcgakfabGreat
open Go.RowKit
open Go.BigFrame

abbrev pz0 : List Value := [.int .u8 0, .int .u64 0, .int .i64 0, .int .i64 0, .slice none 0 0]
theorem zeroPa : (Tryz.prog.info? 32).bind (·.zero) = some (.agg (PaC prt0 (.slice none 0 0)).toArray) := by kernel_rfl
theorem size5p : (Tryz.prog.info? 32).map (·.size) = some 5 := by kernel_rfl
theorem PaC_length (p : Prt) (v : Value) : (PaC p v).length = 5 := rfl
theorem PaC_one (p : Prt) {v : Value} (h : v.oneCell' = true) : ∀ u ∈ PaC p v, u.oneCell' = true := by
  intro u hu
  simp only [PaC, List.mem_cons, List.not_mem_nil, or_false] at hu
  rcases hu with rfl | rfl | rfl | rfl | rfl <;> first | rfl | exact h
theorem built_pa0 : Tryz.prog.built 32 [] = some (PaC prt0 (.slice none 0 0)).toArray := by
  rw [built_struct (pl := [(0, 1), (1, 1), (2, 1), (3, 1), (4, 1)]) Tryz.underlying32 zeroPa (by kernel_rfl), fill_nil]
theorem built_pa4 (kd : UInt8) (id : UInt64) (ix ct : Int) : Tryz.prog.built 32 [(0, W8 kd), (1, W64 id), (2, .int .i64 ix), (3, .int .i64 ct)] = some (PaC ⟨kd, id, ix, ct, []⟩ (.slice none 0 0)).toArray := by
  rw [built_struct (pl := [(0, 1), (1, 1), (2, 1), (3, 1), (4, 1)]) Tryz.underlying32 zeroPa (by kernel_rfl), fill_cons (vs := [W8 kd]) (off := 0) rfl rfl (by simp [PaC]), fill_cons (vs := [W64 id]) (off := 1) rfl rfl (by simp [PaC, spliced]), fill_cons (vs := [.int .i64 ix]) (off := 2) rfl rfl (by simp [PaC, spliced]), fill_cons (vs := [.int .i64 ct]) (off := 3) rfl rfl (by simp [PaC, spliced]), fill_nil]
  rfl
theorem built_pa3 (kd : UInt8) (ix ct : Int) : Tryz.prog.built 32 [(0, W8 kd), (2, .int .i64 ix), (3, .int .i64 ct)] = some (PaC ⟨kd, 0, ix, ct, []⟩ (.slice none 0 0)).toArray := by
  rw [built_struct (pl := [(0, 1), (1, 1), (2, 1), (3, 1), (4, 1)]) Tryz.underlying32 zeroPa (by kernel_rfl), fill_cons (vs := [W8 kd]) (off := 0) rfl rfl (by simp [PaC]), fill_cons (vs := [.int .i64 ix]) (off := 2) rfl rfl (by simp [PaC, spliced]), fill_cons (vs := [.int .i64 ct]) (off := 3) rfl rfl (by simp [PaC, spliced]), fill_nil]
  rfl
section
variable {ops : Array Oper} {rest : List Oper} {o : Oper} {a : Act} {w : World} {Q : Exit → Act → World → Prop}
theorem store_Pa (hgd : o.guard = none) (hd : o.dst = none) (x y : Operand) (ho : o.op = .store 32 x y) {g : Nat} {t : TypeId} {l : List Value} {p : Prt} {v : Value} (hg : Blk w g t l) (hx : a.eval x = .pointer (some ⟨g, 0, none⟩)) (hy : a.eval y = .agg (PaC p v).toArray) (hv : v.oneCell' = true) (hl : l.length = 5)
    (h : ∀ w', Blk w' g t (PaC p v) → Only g w w' → wpList Tryz.prog ops Q rest a w') : wpList Tryz.prog ops Q (o :: rest) a w :=
  wpList_store_blk hgd hd _ x y ho g t l _ hg hx hy 5 size5p rfl hl (PaC_one p hv) h
theorem load_Pa (hw : Region.wanted o (yielded ops a.tmps) = true) (x : Operand) (ho : o.op = .load 32 x) {g : Nat} {t : TypeId} {p : Prt} {v : Value} (hb : Blk w g t (PaC p v)) (hx : a.eval x = .pointer (some ⟨g, 0, none⟩))
    (h : wpList Tryz.prog ops Q rest (a.put o.dst (.agg (PaC p v).toArray)) w) : wpList Tryz.prog ops Q (o :: rest) a w :=
  wpList_load_at hw _ x ho g 0 _ (fun j v hv => by rw [Nat.zero_add]; exact hb.cellD _ hv) hx _ Tryz.underlying32 rfl (by rw [PaC_length]; exact size5p) h
end
theorem prt_cells {w : World} {g : Nat} {t : TypeId} {p : Prt} {v : Value} (h : Blk w g t (PaC p v)) : w.cell? ⟨g, 0, none⟩ = some (W8 p.kd) ∧ w.cell? ⟨g, 1, none⟩ = some (W64 p.id) ∧ w.cell? ⟨g, 2, none⟩ = some (.int .i64 p.ix) ∧ w.cell? ⟨g, 3, none⟩ = some (.int .i64 p.ct) ∧ w.cell? ⟨g, 4, none⟩ = some v :=
  ⟨h.cellD 0 rfl, h.cellD 1 rfl, h.cellD 2 rfl, h.cellD 3 rfl, h.cellD 4 rfl⟩
theorem kd_cases (k : UInt8) : k = 1 ∨ k = 2 ∨ k = 3 ∨ (k < 1 ∨ 3 < k) := by
  have e1 : (1 : UInt8).toNat = 1 := rfl
  have e2 : (2 : UInt8).toNat = 2 := rfl
  have e3 : (3 : UInt8).toNat = 3 := rfl
  rw [UInt8.lt_iff_toNat_lt, UInt8.lt_iff_toNat_lt, ← UInt8.toNat_inj, ← UInt8.toNat_inj, ← UInt8.toNat_inj]
  omega
theorem prtE_1 (id : UInt64) (ix ct : Int) (da : List UInt8) : prtE ⟨1, id, ix, ct, da⟩ = if 450 < da.length then 2 else if ct < 1 ∨ 16 < ct ∨ ix < 0 ∨ ct ≤ ix then 3 else 0 := by
  rw [prtE, if_neg (show ¬ ((1 : UInt8) < 1 ∨ 3 < (1 : UInt8)) by decide)]
  simp
theorem prtE_2 (id : UInt64) (ix ct : Int) (da : List UInt8) : prtE ⟨2, id, ix, ct, da⟩ = if 450 < da.length then 2 else if ct < 1 ∨ 16 < ct ∨ ix < 0 ∨ ct ≤ ix then 3 else if ct ≠ 1 then 3 else if id ≠ 0 ∨ da.length ≠ 0 then 3 else 0 := by
  rw [prtE, if_neg (show ¬ ((2 : UInt8) < 1 ∨ 3 < (2 : UInt8)) by decide)]
  simp
theorem prtE_3 (id : UInt64) (ix ct : Int) (da : List UInt8) : prtE ⟨3, id, ix, ct, da⟩ = if 450 < da.length then 2 else if ct < 1 ∨ 16 < ct ∨ ix < 0 ∨ ct ≤ ix then 3 else if ct ≠ 1 then 3 else 0 := by
  rw [prtE, if_neg (show ¬ ((3 : UInt8) < 1 ∨ 3 < (3 : UInt8)) by decide)]
  simp
theorem prtE_bad {p : Prt} (h : p.kd < 1 ∨ 3 < p.kd) : prtE p = 1 := by rw [prtE, if_pos h]
theorem ne_of_bad {k : UInt8} (h : k < 1 ∨ 3 < k) : (k != 1) = true ∧ (k != 2) = true ∧ (k != 3) = true := by
  refine ⟨?_, ?_, ?_⟩ <;> (rw [bne_iff_ne]; rintro rfl; exact absurd h (by decide))
set_option maxRecDepth 100000 in
set_option maxHeartbeats 4000000 in
theorem fcheck_any (p : Prt) (A : Option Addr) (n c : Nat) (hn : p.da.length = n) (w : World) : Calls Tryz.prog 35 #[.agg (PaC p (.slice A n c)).toArray] w fun e w' => e = .returned (.int .i64 (prtE p : Nat)) ∧ Later w w' := by
  obtain ⟨kd, id, ix, ct, da⟩ := p
  simp only at hn
  have hb : Blk (w.alloc (.cells (PaC ⟨kd, id, ix, ct, da⟩ (.slice A n c)).toArray 32)) w.heap.size 32 (PaC ⟨kd, id, ix, ct, da⟩ (.slice A n c)) := Blk.new _ _ _
  obtain ⟨c0, c1, c2, c3, c4⟩ := prt_cells hb
  have L := later_alloc w (.cells (PaC ⟨kd, id, ix, ct, da⟩ (.slice A n c)).toArray 32)
  clear hb
  obtain ⟨E, hE⟩ : ∃ E, prtE ⟨kd, id, ix, ct, da⟩ = E := ⟨_, rfl⟩
  rw [hE]
  rcases kd_cases kd with rfl | rfl | rfl | hbad
  case inr.inr.inr =>
    have HE := hid (hE.symm.trans (prtE_bad (p := ⟨kd, id, ix, ct, da⟩) hbad))
    clear hE
    rcases hbad with h | h
    · go_enter Tryz.func35, Tryz.ntmps35
      go_wp2_with fail
      go_ret
      exact ⟨by rw [HE.out]; rfl, L⟩
    · by_cases h1 : kd < 1
      all_goals
        go_enter Tryz.func35, Tryz.ntmps35
        go_wp2_with fail
        go_ret
        exact ⟨by rw [HE.out]; rfl, L⟩
  all_goals
    have HE := hE.symm.trans (by first | exact prtE_1 id ix ct da | exact prtE_2 id ix ct da | exact prtE_3 id ix ct da)
    rw [hn] at HE
    replace HE := hid HE
    clear hE
    by_cases h2 : 450 < n
    · have hd : decide ((450 : Int) < (n : Int)) = true := decide_eq_true (by omega)
      replace HE := hid (HE.out.trans (if_pos h2))
      go_enter Tryz.func35, Tryz.ntmps35
      go_wp2_with fail
      go_ret
      exact ⟨by rw [HE.out]; rfl, L⟩
    have hd : decide ((450 : Int) < (n : Int)) = false := decide_eq_false (by omega)
    replace HE := hid (HE.out.trans (if_neg h2))
    by_cases h3 : ct < 1 ∨ 16 < ct ∨ ix < 0 ∨ ct ≤ ix
    · replace HE := hid (HE.out.trans (if_pos h3))
      by_cases k1 : ct < 1
      · go_enter Tryz.func35, Tryz.ntmps35
        go_wp2_with fail
        go_ret
        exact ⟨by rw [HE.out]; rfl, L⟩
      by_cases k2 : 16 < ct
      · go_enter Tryz.func35, Tryz.ntmps35
        go_wp2_with fail
        go_ret
        exact ⟨by rw [HE.out]; rfl, L⟩
      by_cases k3 : ix < 0
      · go_enter Tryz.func35, Tryz.ntmps35
        go_wp2_with fail
        go_ret
        exact ⟨by rw [HE.out]; rfl, L⟩
      have k4 : ct ≤ ix := by omega
      go_enter Tryz.func35, Tryz.ntmps35
      go_wp2_with fail
      go_ret
      exact ⟨by rw [HE.out]; rfl, L⟩
    replace HE := hid (HE.out.trans (if_neg h3))
    have k1 : ¬ ct < 1 := by omega
    have k2 : ¬ 16 < ct := by omega
    have k3 : ¬ ix < 0 := by omega
    have k4 : ¬ ct ≤ ix := by omega
    clear h3
  · go_enter Tryz.func35, Tryz.ntmps35
    go_wp2_with fail
    go_ret
    exact ⟨by rw [HE.out]; rfl, L⟩
  all_goals
    by_cases h4 : ct = 1
    case neg =>
      have hd4 : (ct != 1) = true := by simpa using h4
      replace HE := hid (HE.out.trans (if_pos h4))
      go_enter Tryz.func35, Tryz.ntmps35
      go_wp2_with fail
      go_ret
      exact ⟨by rw [HE.out]; rfl, L⟩
    subst h4
    replace HE := hid (HE.out.trans (if_neg (by simp)))
  · cases e1 : (id == 0)
    · have n1 : (id != 0) = true := by rw [bne, e1]; rfl
      have hne : id ≠ 0 := by simpa using e1
      replace HE := hid (HE.out.trans (if_pos (.inl hne)))
      go_enter Tryz.func35, Tryz.ntmps35
      go_wp2_with fail
      go_ret
      exact ⟨by rw [HE.out]; rfl, L⟩
    · have n1 : (id != 0) = false := by rw [bne, e1]; rfl
      have heq : id = 0 := by simpa using e1
      by_cases h5 : n = 0
      · replace HE := hid (HE.out.trans (if_neg (by simp [heq, h5])))
        have n2 : ((n : Int) != 0) = false := by simp [h5]
        clear h5 heq
        go_enter Tryz.func35, Tryz.ntmps35
        go_wp2_with fail
        go_ret
        exact ⟨by rw [HE.out]; rfl, L⟩
      · replace HE := hid (HE.out.trans (if_pos (.inr h5)))
        have n2 : ((n : Int) != 0) = true := by simp; omega
        clear h5 heq
        go_enter Tryz.func35, Tryz.ntmps35
        go_wp2_with fail
        go_ret
        exact ⟨by rw [HE.out]; rfl, L⟩
  · go_enter Tryz.func35, Tryz.ntmps35
    go_wp2_with fail
    go_ret
    exact ⟨by rw [HE.out]; rfl, L⟩
set_option maxRecDepth 100000 in
set_option maxHeartbeats 4000000 in
theorem pcheck_ref (p : Prt) (A : Option Addr) (n c : Nat) (hn : p.da.length = n) (w : World) : Calls Tryz.prog 43 #[.agg (PaC p (.slice A n c)).toArray] w fun e w' => e = .returned (.int .i64 (prtE p : Nat)) ∧ Later w w' := by
  obtain ⟨kd, id, ix, ct, da⟩ := p
  simp only at hn
  have hb : Blk (w.alloc (.cells (PaC ⟨kd, id, ix, ct, da⟩ (.slice A n c)).toArray 32)) w.heap.size 32 (PaC ⟨kd, id, ix, ct, da⟩ (.slice A n c)) := Blk.new _ _ _
  obtain ⟨c0, c1, c2, c3, c4⟩ := prt_cells hb
  have L := later_alloc w (.cells (PaC ⟨kd, id, ix, ct, da⟩ (.slice A n c)).toArray 32)
  clear hb
  obtain ⟨E, hE⟩ : ∃ E, prtE ⟨kd, id, ix, ct, da⟩ = E := ⟨_, rfl⟩
  rw [hE]
  rcases kd_cases kd with rfl | rfl | rfl | hbad
  case inr.inr.inr =>
    have HE := hid (hE.symm.trans (prtE_bad (p := ⟨kd, id, ix, ct, da⟩) hbad))
    clear hE
    obtain ⟨m1, m2, m3⟩ := ne_of_bad hbad
    clear hbad
    go_enter Tryz.func43, Tryz.ntmps43
    go_wp2_with fail
    go_ret
    exact ⟨by rw [HE.out]; rfl, L⟩
  all_goals
    have HE := hE.symm.trans (by first | exact prtE_1 id ix ct da | exact prtE_2 id ix ct da | exact prtE_3 id ix ct da)
    rw [hn] at HE
    replace HE := hid HE
    clear hE
    by_cases h2 : 450 < n
    · have hd : decide ((450 : Int) < (n : Int)) = true := decide_eq_true (by omega)
      replace HE := hid (HE.out.trans (if_pos h2))
      go_enter Tryz.func43, Tryz.ntmps43
      go_wp2_with fail
      go_ret
      exact ⟨by rw [HE.out]; rfl, L⟩
    have hd : decide ((450 : Int) < (n : Int)) = false := decide_eq_false (by omega)
    replace HE := hid (HE.out.trans (if_neg h2))
    by_cases h3 : ct < 1 ∨ 16 < ct ∨ ix < 0 ∨ ct ≤ ix
    · replace HE := hid (HE.out.trans (if_pos h3))
      by_cases k1 : ct < 1
      · go_enter Tryz.func43, Tryz.ntmps43
        go_wp2_with fail
        go_ret
        exact ⟨by rw [HE.out]; rfl, L⟩
      by_cases k2 : 16 < ct
      · go_enter Tryz.func43, Tryz.ntmps43
        go_wp2_with fail
        go_ret
        exact ⟨by rw [HE.out]; rfl, L⟩
      by_cases k3 : ix < 0
      · go_enter Tryz.func43, Tryz.ntmps43
        go_wp2_with fail
        go_ret
        exact ⟨by rw [HE.out]; rfl, L⟩
      have k4 : ct ≤ ix := by omega
      go_enter Tryz.func43, Tryz.ntmps43
      go_wp2_with fail
      go_ret
      exact ⟨by rw [HE.out]; rfl, L⟩
    replace HE := hid (HE.out.trans (if_neg h3))
    have k1 : ¬ ct < 1 := by omega
    have k2 : ¬ 16 < ct := by omega
    have k3 : ¬ ix < 0 := by omega
    have k4 : ¬ ct ≤ ix := by omega
    clear h3
  · go_enter Tryz.func43, Tryz.ntmps43
    go_wp2_with fail
    go_ret
    exact ⟨by rw [HE.out]; rfl, L⟩
  all_goals
    by_cases h4 : ct = 1
    case neg =>
      have hd4 : 1 < ct := by omega
      replace HE := hid (HE.out.trans (if_pos h4))
      go_enter Tryz.func43, Tryz.ntmps43
      go_wp2_with fail
      go_ret
      exact ⟨by rw [HE.out]; rfl, L⟩
    subst h4
    replace HE := hid (HE.out.trans (if_neg (by simp)))
  · cases e1 : (id == 0)
    · have n1 : (id != 0) = true := by rw [bne, e1]; rfl
      have hne : id ≠ 0 := by simpa using e1
      replace HE := hid (HE.out.trans (if_pos (.inl hne)))
      go_enter Tryz.func43, Tryz.ntmps43
      go_wp2_with fail
      go_ret
      exact ⟨by rw [HE.out]; rfl, L⟩
    · have n1 : (id != 0) = false := by rw [bne, e1]; rfl
      have heq : id = 0 := by simpa using e1
      by_cases h5 : n = 0
      · replace HE := hid (HE.out.trans (if_neg (by simp [heq, h5])))
        have n2 : decide (0 < (n : Int)) = false := decide_eq_false (by omega)
        have n3 : ¬ 0 < n := by omega
        clear h5 heq
        go_enter Tryz.func43, Tryz.ntmps43
        go_wp2_with fail
        go_ret
        exact ⟨by rw [HE.out]; rfl, L⟩
      · replace HE := hid (HE.out.trans (if_pos (.inr h5)))
        have n2 : decide (0 < (n : Int)) = true := decide_eq_true (by omega)
        have n3 : 0 < n := by omega
        clear h5 heq
        go_enter Tryz.func43, Tryz.ntmps43
        go_wp2_with fail
        go_ret
        exact ⟨by rw [HE.out]; rfl, L⟩
  · go_enter Tryz.func43, Tryz.ntmps43
    go_wp2_with fail
    go_ret
    exact ⟨by rw [HE.out]; rfl, L⟩
def allZ (bs : List UInt8) : Bool := bs.all (· == 0)
theorem allZ_iff : ∀ (bs : List UInt8), allZ bs = true ↔ bs = List.replicate bs.length 0
  | [] => by simp [allZ]
  | b :: bs => by
    have ih := allZ_iff bs
    rw [allZ] at ih
    rw [allZ, List.all_cons, Bool.and_eq_true, ih, List.length_cons, List.replicate_succ, List.cons.injEq, beq_iff_eq]
theorem allZ_no {bs : List UInt8} {k : Nat} (hk : k < bs.length) (h : bs.getD k 0 ≠ 0) : allZ bs = false := by
  rw [allZ, List.all_eq_false]
  refine ⟨bs[k], List.getElem_mem hk, ?_⟩
  rw [List.getD_eq_getElem?_getD, List.getElem?_eq_getElem hk] at h
  simpa using h
theorem allZ_yes {bs : List UInt8} (h : ∀ k, k < bs.length → bs.getD k 0 = 0) : allZ bs = true := by
  rw [allZ, List.all_eq_true]
  intro x hx
  obtain ⟨k, hk, rfl⟩ := List.getElem_of_mem hx
  have := h k hk
  rw [List.getD_eq_getElem?_getD, List.getElem?_eq_getElem hk] at this
  simpa using this
set_option maxRecDepth 100000 in
theorem allz_any (A : Option Addr) (n c : Nat) (bs : List UInt8) (w : World) (hb : RdB w A n bs) (hn : n ≤ 140737488355328) :
    Calls Tryz.prog 33 #[.slice A n c] w fun e w' => e = .returned (.bool (allZ bs)) ∧ Later w w' := by
  have hl := hb.len
  go_enter Tryz.func33, Tryz.ntmps33
  go_wp2
  go_loopw [7] (fun i wr => ∃ k : Nat, i = .int .i64 k ∧ k ≤ n ∧ Hid (∀ j, j < k → bs.getD j 0 = 0) ∧ Later w wr) (fun i _ => n - (intOf i).toNat)
  case atStart => exact ⟨0, rfl, by omega, hid (fun j hj => absurd hj (by omega)), Later.refl w⟩
  case round =>
    obtain ⟨k, rfl, hk, hp, L⟩ := hrel
    by_cases hlt : k < n
    · obtain ⟨b, o, rfl, hb2, hc2⟩ := RdB.at_ (hb.later L) (by omega)
      have c1 := hc2 k hlt
      have hno := hid (fun h => allZ_no (bs := bs) (k := k) (by omega) h)
      have hgo := hid (fun h : bs.getD k 0 = 0 => below_succ (p := fun j => bs.getD j 0 = 0) hp.out h)
      clear hc2
      generalize bs.getD k 0 = x at *
      cases hx : (x == 0)
      · have n1 : (x != 0) = true := by rw [bne, hx]; rfl
        have hE := hid (hno.out (by simpa using hx))
        go_wp2
        go_ret
        exact ⟨by rw [hE.out]; rfl, L⟩
      · have n1 : (x != 0) = false := by rw [bne, hx]; rfl
        have hG := hid (hgo.out (by simpa using hx))
        go_wp2
        exact ⟨⟨k + 1, by go_num, by omega, hG, L⟩, by simp [intOf]; omega⟩
    · obtain rfl : k = n := by omega
      have hE := hid (allZ_yes (bs := bs) (by rw [hl]; exact hp.out))
      go_wp2
      go_ret
      exact ⟨by rw [hE.out]; rfl, L⟩
set_option maxRecDepth 100000 in
theorem copied_any (A : Option Addr) (n c : Nat) (bs : List UInt8) (w : World) (hb : RdB w A n bs) (hn : n ≤ 1048576) :
    Calls Tryz.prog 16 #[.slice A n c] w fun e w' => e = .returned (.slice (some ⟨w.heap.size, 0, none⟩) n n) ∧ Blk w' w.heap.size 5 (bs.map W8) ∧ Later w w' := by
  have hl := hb.len
  go_enter Tryz.func16, Tryz.ntmps16
  go_wp2_with (first
    | (refine wpList_make_n rfl _ _ _ rfl 5 _ 1 Tryz.underlying23 info8 rfl _ _ _ _ n rfl rfl rfl rfl (by omega) (by omega) ?_; intro w1 hb1 hl1)
    | (refine wpList_copy_rd rfl _ _ _ _ rfl 5 Tryz.underlying23 size8 w.heap.size 0 n n _ _ hb1 A n c (bs.map W8) (RdB.later hb hl1) (w8_one _) rfl rfl (by simp) ?_; intro w4 hb4 ho4
       rw [List.take_of_length_le (by rw [List.length_map, hl]; omega), spliced_all _ _ (by rw [List.length_map, List.length_replicate, hl])] at hb4)
    | fail)
  go_ret
  exact ⟨rfl, hb4, hl1.only ho4 (Nat.le_refl _)⟩
end Go.Proofs.YtkibgdigcgakfabGreat
