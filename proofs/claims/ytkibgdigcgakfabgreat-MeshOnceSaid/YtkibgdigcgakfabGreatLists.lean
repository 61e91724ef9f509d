/-
  Lists of bytes; shallotref01's Equal, Copy.
-/
import Derived.Test.YtkibgdigcgakfabGreatProg
import Derived.Test.YtkibgdigcgakfabGreatMem
namespace Go.Proofs.YtkibgdigcgakfabGreat
open Go.RowKit

theorem info8 : (Tryz.prog.info? 5).map (fun i => (i.zero, i.size, i.bytes)) = some (some (.int .u8 0), 1, 1) := by kernel_rfl
theorem size8 : (Tryz.prog.info? 5).map (·.size) = some 1 := by kernel_rfl
@[go_sem high] theorem cut8 (A : Option Addr) (n c : Nat) (kl kh : IntKind) (l h : Nat) (h1 : l ≤ h) (h2 : h ≤ c) (W : World) :
    (Instr.sliceAt 23 (.slice A n c) (some (.int kl (l : Int))) (some (.int kh (h : Int))) none).run Tryz.prog W = .ok (.slice (cutA A l c) (h - l) (c - l)) W := run_nat_cut Tryz.underlying23 size8 A n c kl kh l h h1 h2 W
@[go_sem high] theorem cut8_from (A : Option Addr) (n c : Nat) (kl : IntKind) (l : Nat) (h1 : l ≤ n) (W : World) :
    (Instr.sliceAt 23 (.slice A n c) (some (.int kl (l : Int))) none none).run Tryz.prog W = .ok (.slice (cutA A l c) (n - l) (c - l)) W := run_nat_from Tryz.underlying23 size8 A n c kl l h1 W
@[go_sem high] theorem cut8_to (A : Option Addr) (n c : Nat) (kh : IntKind) (h : Nat) (h2 : h ≤ c) (W : World) :
    (Instr.sliceAt 23 (.slice A n c) none (some (.int kh (h : Int))) none).run Tryz.prog W = .ok (.slice A h c) W := run_nat_to Tryz.underlying23 size8 A n c kh h h2 W
@[go_sem high] theorem arr64_from (b o : Nat) (kl : IntKind) (l : Nat) (h1 : l < 64) (W : World) :
    (Instr.sliceAt 203 (.pointer (some ⟨b, o, none⟩)) (some (.int kl (l : Int))) none none).run Tryz.prog W = .ok (.slice (some ⟨b, o + l, none⟩) (64 - l) (64 - l)) W := run_arr_from Tryz.underlying203 size8 b o kl l h1 W
@[go_sem high] theorem arr64_all (b o : Nat) (W : World) :
    (Instr.sliceAt 203 (.pointer (some ⟨b, o, none⟩)) none none none).run Tryz.prog W = .ok (.slice (some ⟨b, o, none⟩) 64 64) W := run_arr_all Tryz.underlying203 size8 b o W
@[go_sem high] theorem arr32_all (b o : Nat) (W : World) :
    (Instr.sliceAt 91 (.pointer (some ⟨b, o, none⟩)) none none none).run Tryz.prog W = .ok (.slice (some ⟨b, o, none⟩) 32 32) W := run_arr_all Tryz.underlying91 size8 b o W
theorem bool_ret {b c : Bool} (h : b = c) : Ending.returned (.bool b) = .returned (.bool c) := by rw [h]

theorem map_set8 (l : List UInt8) (i : Nat) (x : UInt8) : (l.map W8).set i (W8 x) = (l.set i x).map W8 := by rw [List.map_set]
set_option maxRecDepth 100000 in
set_option maxHeartbeats 400000 in
theorem equal_any (A B : Option Addr) (n m c d : Nat) (xs ys : List UInt8) (w : World) (hx : RdB w A n xs) (hy : RdB w B m ys) (hn : n ≤ 140737488355328) (hm : m ≤ 140737488355328) :
    Calls Tryz.prog 9 #[.slice A n c, .slice B m d] w fun e w' => e = .returned (.bool (decide (xs = ys))) ∧ Later w w' := by
  have lx := hx.len
  have ly := hy.len
  by_cases hnm : n = m
  · subst hnm
    have hr : ∀ b : Bool, (b = true ↔ xs = ys) → decide (xs = ys) = b := by
      intro b hb
      cases b
      · exact decide_eq_false (fun h => by have := hb.2 h; cases this)
      · exact decide_eq_true (hb.1 rfl)
    have HR := hid hr
    clear hr
    generalize decide (xs = ys) = R at *
    go_enter Tryz.func9, Tryz.ntmps9
    go_wp2
    go_loopw [5] (fun i wr => ∃ k : Nat, k ≤ n ∧ i = .int .i64 k ∧ Later w wr ∧ Hid (∀ j, j < k → xs.getD j 0 = ys.getD j 0)) (fun i _ => n - (intOf i).toNat)
    case atStart => exact ⟨0, by omega, rfl, Later.refl w, hid (fun j hj => absurd hj (by omega))⟩
    case round =>
      obtain ⟨k, hk, rfl, hl, he⟩ := hrel
      by_cases hlt : k < n
      · obtain ⟨b1, o1, rfl, hb1, hc1⟩ := hx.at_ (by omega)
        obtain ⟨b2, o2, rfl, hb2, hc2⟩ := hy.at_ (by omega)
        have c1 : wr.cell? ⟨b1, o1 + k, none⟩ = some (W8 (xs.getD k 0)) := (hl.below.cell (p := ⟨b1, o1 + k, none⟩) hb1).trans (hc1 k hlt)
        have c2 : wr.cell? ⟨b2, o2 + k, none⟩ = some (W8 (ys.getD k 0)) := (hl.below.cell (p := ⟨b2, o2 + k, none⟩) hb2).trans (hc2 k hlt)
        clear hc1 hc2 hx hy
        generalize hX : xs.getD k 0 = X at *
        generalize hY : ys.getD k 0 = Y at *
        have HX := hid hX
        have HY := hid hY
        clear hX hY
        go_wp2
        refine wp_region_parts [] [0, 1, 2, 3, 4, 5, 6, 7, 8] [] (by as_aux_lemma => kernel_rfl) (by as_aux_lemma => kernel_rfl) (by intro _ _ d _ _ h; cases d <;> exact h) ?_
        simp only [wpParts, pick, List.getElem?_cons_succ, List.getElem?_cons_zero, Option.toList_some, List.cons_append, List.nil_append]
        repeat (go_big_quiet_step (fail))
        refine wpQuiet_nil ?_
        go_wp2
        · go_ret
          refine ⟨bool_ret (HR.out false ⟨fun h => (by cases h), fun h => ?_⟩).symm, hl.drew⟩
          have hne : (X != Y) = true := by assumption
          rw [← HX.out, ← HY.out, h] at hne
          simp at hne
        · go_roundw
          case rel =>
            have hne : (X != Y) = false := by assumption
            refine ⟨k + 1, by omega, by go_num, hl.drew, hid fun j hj => ?_⟩
            by_cases hjk : j = k
            · subst hjk
              rw [HX.out, HY.out]
              simpa using hne
            · exact he.out j (by omega)
          case measure => simp [intOf]; omega
      · go_wp2
        go_ret
        refine ⟨bool_ret (HR.out true ⟨fun _ => ?_, fun _ => rfl⟩).symm, hl⟩
        apply List.ext_getElem (by omega)
        intro j h1 h2
        have := he.out j (by omega)
        rw [List.getD_eq_getElem?_getD, List.getD_eq_getElem?_getD, List.getElem?_eq_getElem h1, List.getElem?_eq_getElem h2] at this
        exact this
  · have hne : ((n : Int) != (m : Int)) = true := by simp; omega
    have hf : decide (xs = ys) = false := decide_eq_false (fun h => hnm (by rw [← lx, ← ly, h]))
    have HF := hid hf
    clear hf
    generalize decide (xs = ys) = R at *
    go_enter Tryz.func9, Tryz.ntmps9
    go_wp2
    go_ret
    exact ⟨bool_ret HF.out.symm, Later.refl w⟩

theorem own_eq {w : World} {base : Nat} {e : TypeId} {v : Value} {n m : Nat} {xs ys : List Value} (h : w.ownsRow base e 1 v n xs) (hn : n = m) (hx : xs = ys) : w.ownsRow base e 1 v m ys := by subst hn; subst hx; exact h
/-- A slice of bytes of the call's own. -/
def OwnB (w : World) (base : Nat) (A : Option Addr) (n c : Nat) (bs : List UInt8) : Prop := w.ownsRow base 5 1 (.slice A n c) n (bs.map W8)
theorem OwnB.rd {w : World} {base : Nat} {A : Option Addr} {n c : Nat} {bs : List UInt8} (h : OwnB w base A n c bs) : RdB w A n bs := own_rd h
theorem OwnB.later {w w' : World} {base : Nat} {A : Option Addr} {n c : Nat} {bs : List UInt8} (h : OwnB w base A n c bs) (hl : Later w w') : OwnB w' base A n c bs := own_later h hl
theorem OwnB.mono {w : World} {base base' : Nat} {A : Option Addr} {n c : Nat} {bs : List UInt8} (h : OwnB w base A n c bs) (hb : base' ≤ base) : OwnB w base' A n c bs := own_mono h hb
theorem OwnB.len {w : World} {base : Nat} {A : Option Addr} {n c : Nat} {bs : List UInt8} (h : OwnB w base A n c bs) : bs.length = n := h.rd.len

set_option maxHeartbeats 400000 in
theorem copy_any (A : Option Addr) (n c : Nat) (bs : List UInt8) (w : World) (hr : RdB w A n bs) (hn : n ≤ 140737488355328) :
    Calls Tryz.prog 7 #[.slice A n c] w fun e w' => ∃ A' c', e = .returned (.slice A' n c') ∧ OwnB w' w.heap.size A' n c' bs ∧ Later w w' := by
  go_enter Tryz.func7, Tryz.ntmps7
  go_wp2_with (first
    | (refine wpList_append_rd rfl _ _ _ rfl 5 _ 1 Tryz.underlying23 info8 rfl w _ 0 [] (own_new w _ [] (by simp)) (later_alloc _ _) A n c (bs.map W8) (Rd.later hr (later_alloc _ _)) (w8_one _) rfl rfl (by omega) (by omega) ?_; intro A' c' w' hown hl _ _))
  go_ret
  exact ⟨A', c', rfl, own_eq (by rwa [Nat.zero_add] at hown) rfl (by simp), hl⟩
end Go.Proofs.YtkibgdigcgakfabGreat
