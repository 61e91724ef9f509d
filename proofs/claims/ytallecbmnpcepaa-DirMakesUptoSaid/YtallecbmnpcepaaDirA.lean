/-
  The law DirMakes: its walk.
-/
import Derived.Test.YtallecbmnpcepaaDir8
import Derived.Test.YtallecbmnpcepaaDir9
namespace Go.Proofs.Ytallecbmnpcepaa
open Go.RowKit
open Go.BigFrame

theorem fits_made {seed : List UInt8} {ss : List ByteArray} (h : makeE ss = 0) : fitsN (makeL seed ss) = true := by
  refine fits_ok (by rw [check_made, h]) fun k hk => ?_
  rw [makeL_length] at hk
  rw [makeL_getD _ _ _ hk, fitB]
  exact beq_iff_eq.2 rfl
theorem sizeS : (Try.prog.info? 9).map (·.size) = some 1 := by kernel_rfl
@[go_sem high] theorem cutS_8 (A : Option Addr) (n c : Nat) (kh : IntKind) (h : 8 ≤ c) (W : World) : (Instr.sliceAt 34 (.slice A n c) none (some (.int kh 8)) none).run Try.prog W = .ok (.slice A 8 c) W :=
  run_nat_to Try.underlying34 sizeS A n c kh 8 h W
theorem strs_one (ss : List ByteArray) : ∀ v ∈ ss.map Value.string, v.oneCell' = true := by
  intro v hv
  obtain ⟨s, _, rfl⟩ := List.mem_map.1 hv
  rfl
theorem check_nil : checkN [] = 0 := rfl
theorem fits_nil : fitsN [] = true := rfl
set_option maxRecDepth 100000 in
theorem dirMakes_walk (A B : Option Addr) (n c m d : Nat) (seed : List UInt8) (ss : List ByteArray) (w : World) (hx : RdB w A n seed) (hn : n ≤ 1048576) (hb : Strs w B m ss) (hd : m ≤ d) (hm : m ≤ 1048576) (hs : ∀ s ∈ ss, s.size ≤ 1048576) :
    Calls Try.prog 4 #[.slice A n c, .slice B m d] w fun e w' => e = .returned (.bool true) ∧ Later w w' := by
  go_enter Try.func4, Try.ntmps4
  go_wp2_with fail
  refine (awake09 _).mono ?_
  rintro e w1 ⟨rfl, L⟩
  replace hx := hx.later L
  replace hb := Strs.later hb L
  by_cases hcut : 8 < m ∧ m ≤ 64
  case' pos =>
    obtain ⟨hc1, hc2⟩ := hcut
    have ht : Strs w1 B 8 (ss.take 8) := by
      have := Rd.take hb (m := 8) (by omega)
      rwa [← List.map_take] at this
    have hts : ∀ s ∈ ss.take 8, s.size ≤ 1048576 := fun s h => hs s (List.mem_of_mem_take h)
    have h8d : 8 ≤ d := by omega
    clear hb hs
    generalize ss.take 8 = ss at *
    have hb := ht
    have hs := hts
    clear ht hts
  case' neg =>
    have hc : ¬ (8 < (m : Int)) ∨ (8 < (m : Int) ∧ ¬ ((m : Int) ≤ 64)) := by omega
    rcases hc with hc | ⟨hc, hc2⟩
  all_goals
    go_wp2_with fail
    refine (copy_any A n c seed w1 hx (by omega)).mono ?_
    rintro e w2 ⟨A2, c2, rfl, o2, l2⟩
    go_wp2_with (first
      | (refine wpList_append_rd rfl _ _ _ rfl 9 _ 16 Try.underlying34 infoS rfl w2 _ 0 [] (own_new w2 _ [] (by simp)) (later_alloc _ _) B _ _ _ (Strs.later hb (l2.alloc _)) (strs_one _) rfl rfl (by omega) (by omega) ?_; intro A3 c3 w3 hown3 hl3 _ _; simp only [Nat.zero_add, List.nil_append] at hown3)
      | fail)
    have hs' : ∀ s ∈ ss, s.size ≤ 140737488355328 := fun s h => Nat.le_trans (hs s h) (by omega)
    refine (dmake_any A2 A3 n c2 _ _ seed ss w3 (o2.rd.later hl3) o2.cap (by omega) (own_rd hown3) (by omega) hs').mono ?_
    rintro e w4 ⟨v4, rfl, hbad4, hok4, l4⟩
    replace L := ((L.trans l2).trans hl3).trans l4
    go_wp2_with fail
    refine (dmake_ref A B n c _ _ seed ss _ (hx.later ((l2.trans hl3).trans l4)) (by omega) (Strs.later hb ((l2.trans hl3).trans l4)) (by omega) hs').mono ?_
    rintro e w5 ⟨v5, rfl, hbad5, hok5, l5⟩
    replace L := L.trans l5
    have hml := hb.1
    rw [List.length_map] at hml
    obtain ⟨k, ys, A4, c4, A5, c5, rfl, rfl, r4, r5, hk, hck, hft, hnm⟩ : ∃ k ys A4 c4 A5 c5, v4 = .slice A4 k c4 ∧ v5 = .slice A5 k c5 ∧ RdN w5 A4 k ys ∧ RdN w5 A5 k ys ∧ k ≤ 1048576 ∧ checkN ys = 0 ∧ fitsN ys = true ∧ ∀ x ∈ ys, x.nm.size ≤ 140737488355328 := by
      by_cases hE : makeE ss = 0
      · obtain ⟨g, rfl, _, hN⟩ := hok4 hE
        obtain ⟨A5, c5, rfl, hR⟩ := hok5 hE
        exact ⟨_, makeL seed ss, _, _, _, _, rfl, rfl, blk_rdF NC_length (hN.later l5) (by rw [makeL_length, hml]), hR, by omega, by rw [check_made, hE], fits_made hE, made_names hs'⟩
      · obtain rfl := hbad4 hE
        obtain rfl := hbad5 hE
        exact ⟨0, [], _, _, _, _, rfl, rfl, rdF_none _, rdF_none _, by omega, check_nil, fits_nil, by simp⟩
    have hS := hid (same_ok A4 A5 k c4 c5 ys w5 r4 r5 (by omega))
    have hF := hid (fun w h => dfits_any A4 k c4 ys w h (by omega) hnm)
    have hC := hid (fun w h => dcheck_any A4 k c4 ys w h (by omega) hnm)
    rw [hck] at hC hF
    rw [hft] at hF
    clear hbad4 hbad5 hok4 hok5 hck hft hnm
    generalize makeE ss = E at *
    go_wp2_with fail
    refine (hS.out).mono ?_
    rintro e w6 ⟨rfl, l6⟩
    go_wp2_with fail
    refine (hF.out _ (r4.later l6)).mono ?_
    rintro e w7 ⟨rfl, l7⟩
    go_wp2_with fail
    refine (hC.out _ ((r4.later l6).later l7)).mono ?_
    rintro e w8 ⟨rfl, l8⟩
    go_wp2
    go_ret
    exact ⟨rfl, ((L.trans l6).trans l7).trans l8⟩
end Go.Proofs.Ytallecbmnpcepaa
