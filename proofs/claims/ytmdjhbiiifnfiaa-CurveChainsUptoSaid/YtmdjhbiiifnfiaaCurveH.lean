/-
  shallotlaw06: CurveChains.
-/
import Derived.Test.YtmdjhbiiifnfiaaCurveG
namespace Go.Proofs.Ytmdjhbiiifnfiaa
open Go.RowKit
open Go.BigFrame

theorem Parts.take {w : World} {bad : Nat → Prop} {A : Option Addr} {n : Nat} {ps : List (List UInt8)} (h : Parts w bad A n ps) {m : Nat} (hm : m ≤ n) : Parts w bad A m (ps.take m) := by
  obtain ⟨vs, h1, h2, h3, h4⟩ := h
  refine ⟨vs.take m, h1.take hm, fun h0 ad hA => h2 (by omega) ad hA, by rw [List.length_take, List.length_take, h3], fun j v p hv hp => ?_⟩
  rw [List.getElem?_take] at hv hp
  split at hv
  · rename_i hlt
    rw [if_pos hlt] at hp
    exact h4 j v p hv hp
  · cases hv
set_option maxRecDepth 100000 in
set_option maxHeartbeats 4000000 in
/-- Behind the cut to four. -/
theorem curveChains_walk (A B : Option Addr) (n c m d : Nat) (us : List UInt8) (ps : List (List UInt8)) (w : World) (hu : RdB w A n us) (hp : Parts w (fun _ => False) B m ps) (hn : n ≤ 140737488355328) (hmd : m ≤ d) (hps : ∀ p ∈ ps, p.length ≤ 140737488355328) :
    Calls Try.prog 14 #[.slice A n c, .slice B m d] w fun e w' => e = .returned (.bool true) ∧ Later w w' := by
  have key : ∀ (m' : Nat) (ps' : List (List UInt8)), ((m ≤ 4 ∧ m' = m ∧ ps' = ps) ∨ (4 < m ∧ m' = 4 ∧ ps' = ps.take 4)) → m' ≤ 4 ∧ Parts w (fun _ => False) B m' ps' ∧ ∀ p ∈ ps', p.length ≤ 140737488355328 := by
    rintro m' ps' (⟨h, rfl, rfl⟩ | ⟨h, rfl, rfl⟩)
    · exact ⟨h, hp, hps⟩
    · exact ⟨by omega, hp.take (by omega), fun p h => hps p (List.mem_of_mem_take h)⟩
  obtain ⟨m', ps', hcase⟩ : ∃ (m' : Nat) (ps' : List (List UInt8)), (m ≤ 4 ∧ m' = m ∧ ps' = ps) ∨ (4 < m ∧ m' = 4 ∧ ps' = ps.take 4) := by
    by_cases h : m ≤ 4
    · exact ⟨m, ps, .inl ⟨h, rfl, rfl⟩⟩
    · exact ⟨4, ps.take 4, .inr ⟨by omega, rfl, rfl⟩⟩
  obtain ⟨hm4, hp', hps'⟩ := key m' ps' hcase
  have hB : (m ≤ 4 ∧ m' = m) ∨ (4 < m ∧ m' = 4) := by rcases hcase with ⟨a, b, _⟩ | ⟨a, b, _⟩; exact .inl ⟨a, b⟩; exact .inr ⟨a, b⟩
  clear key hcase hps hp
  have hC := hid (fun (w : World) A B c d h1 h2 => chain_any A B n c m' d us ps' w h1 h2 hn (by omega))
  have hCr := hid (fun (w : World) A B c d h1 h2 => chain_ref A B n c m' d us ps' w h1 h2 hn (by omega))
  have hP := hid (fun (w : World) A c h => public_any A n c us w h hn)
  have hPr := hid (fun (w : World) A c h => public_ref A n c us w h hn)
  obtain ⟨x, hx⟩ := sub32 (chainR_length us ps')
  obtain ⟨y, hy⟩ := sub32 (multB_length us (nb 9))
  rw [← hx] at hC hCr
  rw [← hy] at hP hPr
  clear hx hy
  generalize (chainR us ps').2 = e1 at *
  generalize multE us (nb 9) = e2 at *
  have hxl := x.2
  have hyl := y.2
  rcases hB with ⟨h4, rfl⟩ | ⟨h4, rfl⟩
  all_goals
    go_enter Try.func14, Try.ntmps14
    go_wp2_with fail
    (with_reducible refine (awake06 _).mono ?_); rintro e w1 ⟨rfl, j1⟩
    go_wp2_with fail
    (with_reducible refine (copy_any A n c us _ (hu.later j1) (by omega)).mono ?_); rintro e w2 ⟨A2, c2, rfl, o2, j2⟩
    go_wp2_with fail
    (with_reducible refine (copies_any _ _ _ ps' _ (hp'.later (j1.trans j2)) (by omega) hps').mono ?_); rintro e w3 ⟨A3, c3, rfl, o3, j3⟩
    go_wp2_with fail
    (with_reducible refine (hC.out _ A2 A3 c2 c3 (o2.rd.later j3) o3.parts).mono ?_); rintro e w4 ⟨rfl, j4⟩
    go_wp2_with (first
      | (refine store_B rfl rfl _ _ rfl (Blk.new w4 _ (List.replicate 32 (.int .u8 0))) rfl rfl hxl rfl ?_; intro w5 hb5 ho5)
      | fail)
    have B1 := (Bag.none w).push ((((j1.trans j2).trans j3).trans j4).trans (later_alloc w4 _)) (((j1.trans j2).trans j3).trans j4).size ho5 hb5
    clear j1 j2 j3 j4 o2 o3 hb5 ho5
    (with_reducible refine (hCr.out _ _ _ _ _ (hu.later B1.lat) (hp'.later B1.lat)).mono ?_); rintro e w6 ⟨rfl, j6⟩
    go_wp2_with (first
      | (refine store_B rfl rfl _ _ rfl (Blk.new w6 _ (List.replicate 32 (.int .u8 0))) rfl rfl hxl rfl ?_; intro w7 hb7 ho7
         have B2 := B1.push (j6.trans (later_alloc w6 _)) j6.size ho7 hb7)
      | (refine load_B rfl _ rfl (B2.nth 1 rfl) hxl rfl ?_)
      | (refine load_B rfl _ rfl (B2.nth 0 rfl) hxl rfl ?_)
      | fail)
    clear j6 hb7 ho7 B1
    (with_reducible refine (copy_any A n c us _ (hu.later B2.lat) (by omega)).mono ?_); rintro e w8 ⟨A8, c8, rfl, o8, j8⟩
    go_wp2_with fail
    (with_reducible refine (hP.out _ A8 c8 o8.rd).mono ?_); rintro e w9 ⟨rfl, j9⟩
    have B3 := B2.later (j8.trans j9)
    clear j8 j9 o8 B2
    go_wp2_with (first
      | (refine store_B rfl rfl _ _ rfl (B3.nth 1 rfl) rfl rfl hyl (by rw [List.length_map, hxl]) ?_; intro w10 hb10 ho10)
      | fail)
    have B4 := B3.write 1 rfl ho10 hb10
    clear hb10 ho10 B3
    (with_reducible refine (hPr.out _ A c (hu.later B4.lat)).mono ?_); rintro e w11 ⟨rfl, j11⟩
    go_wp2_with (first
      | (refine store_B rfl rfl _ _ rfl ((B4.later j11).nth 0 rfl) rfl rfl hyl (by rw [List.length_map, hxl]) ?_; intro w12 hb12 ho12
         have B5 := (B4.later j11).write 0 rfl ho12 hb12)
      | (refine load_B rfl _ rfl (B5.nth 1 rfl) hyl rfl ?_)
      | (refine load_B rfl _ rfl (B5.nth 0 rfl) hyl rfl ?_)
      | fail)
    go_ret
    exact ⟨rfl, B5.lat⟩
end Go.Proofs.Ytmdjhbiiifnfiaa
