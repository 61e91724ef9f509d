/-
  The law WideRounds, walked.
-/
import Derived.Test.YtjohieongjnemaaWideF
namespace Go.Proofs.Ytjohieongjnemaa
open Go.RowKit
open Go.BigFrame

theorem infoI : (Try.prog.info? 3).map (fun i => (i.zero, i.size, i.bytes)) = some (some (.int .i64 0), 1, 8) := by kernel_rfl
theorem sizeI : (Try.prog.info? 3).map (·.size) = some 1 := by kernel_rfl
theorem intV_one (l : List Int) : ∀ u ∈ l.map intV, u.oneCell' = true := by
  intro u hu
  obtain ⟨x, _, rfl⟩ := List.mem_map.1 hu
  rfl
theorem rev_take (rs : List Int) (j : Nat) (h : j < rs.length) : rs.reverse.take (j + 1) = rs.reverse.take j ++ [rs.getD (rs.length - 1 - j) 0] := by
  have hj : j < rs.reverse.length := by rw [List.length_reverse]; exact h
  rw [List.take_succ_eq_append_getElem hj, List.getElem_reverse, List.getD_eq_getElem?_getD, List.getElem?_eq_getElem (show rs.length - 1 - j < rs.length by omega)]
  rfl
set_option maxRecDepth 100000 in
set_option maxHeartbeats 4000000 in
/-- Behind the cut to twelve. -/
theorem wideRounds_walk (A B C : Option Addr) (n c m d k0 e0 : Nat) (key bs : List UInt8) (rs0 : List Int) (w : World) (hk : RdB w A n key) (hc : n ≤ c) (hb : RdB w B m bs) (hd : m ≤ d) (hr0 : Rd w C k0 (rs0.map intV)) (he0 : k0 ≤ e0) (hn : n ≤ 1048576) (hm : m ≤ 1048576) (hk0 : k0 ≤ 1048576) :
    Calls Try.prog 3 #[.slice A n c, .slice B m d, .slice C k0 e0] w fun e w' => e = .returned (.bool true) ∧ Later w w' := by
  have hbl := hb.len
  have hcut : ∀ W, (Instr.sliceAt 23 (.slice C k0 e0) none (some (.int .i64 12)) none).run Try.prog W = .ok (.slice C 12 e0) W ∨ ¬ 12 ≤ e0 := fun W => by
    by_cases h : 12 ≤ e0
    · exact .inl (run_nat_to Try.underlying23 sizeI C k0 e0 .i64 12 h W)
    · exact .inr h
  have h1 := hid (fun (A B C : Option Addr) (c d e0 k : Nat) (rs : List Int) w h1 hc h2 hd h3 (hk : k ≤ 1048576) => rounds_wide A B C n c m d k e0 key bs rs w h1 hc h2 hd h3 (by omega) (by omega) (by omega))
  have h2 := hid (fun (k : Nat) (rs : List Int) w h1 h2 h3 (hk : k ≤ 1048576) => rounds_ref A B C n c m d k e0 key bs rs w h1 h2 hd h3 (by omega) (by omega) (by omega))
  have h3 := hid (fun (B C : Option Addr) (d e0 k m : Nat) (xs : List UInt8) (rs : List Int) w h1 h2 hd h3 (hm : m ≤ 1048576) (hk : k ≤ 1048576) => rounds_wide A B C n c m d k e0 key xs rs w h1 hc h2 hd h3 (by omega) (by omega) (by omega))
  have hq := hid (fun A C c d w h1 h2 => equal_any A C m m c d bs bs w h1 h2 (by omega) (by omega))
  rw [decide_eq_true rfl] at hq
  have hle : ∀ rs, (wideB key bs rs).length ≤ 1048576 := fun rs => by
    by_cases h : okR rs ∧ fitW key bs
    · rw [wideB_fit h.1 h.2, foldW_length key rs bs h.2.2.1]; omega
    · rw [show wideB key bs rs = [] by unfold wideB; split; (split; exact absurd ⟨by assumption, by assumption⟩ h; rfl); rfl]; exact Nat.zero_le _
  have hle := hid hle
  have hbk := hid (fun rs h => @wide_back key bs rs h)
  have hrt := hid rev_take
  obtain ⟨k, rs, hkk, hr, hk12⟩ : ∃ (k : Nat) (rs : List Int), ((12 < k0 ∧ Hid (k = 12) ∧ ∀ W, (Instr.sliceAt 23 (.slice C k0 e0) none (some (.int .i64 12)) none).run Try.prog W = .ok (.slice C k e0) W) ∨ (¬ 12 < k0 ∧ k0 = k)) ∧ Rd w C k (rs.map intV) ∧ k ≤ 1048576 := by
    by_cases h : 12 < k0
    · refine ⟨12, rs0.take 12, .inl ⟨h, hid rfl, fun W => (hcut W).resolve_right (fun g => g (by omega))⟩, ?_, by omega⟩
      have := hr0.take (m := 12) (by omega)
      rwa [← List.map_take] at this
    · exact ⟨k0, rs0, .inr ⟨h, rfl⟩, hr0, hk0⟩
  clear hcut
  have hrl : rs.length = k := by have := hr.1; rwa [List.length_map] at this
  have hat := hid (fun j (hj : j < k) => rdI_at (j := j) hr hj)
  replace h1 := hid (fun A B C c d e0 w g1 hc g2 hd g3 => h1.out A B C c d e0 k rs w g1 hc g2 hd g3 hk12)
  replace h2 := hid (fun w g1 g2 g3 => h2.out k rs w g1 g2 g3 hk12)
  replace hle := hle.out rs
  replace hbk := hid (hbk.out rs)
  replace hrt := hid (fun j h => hrt.out rs j h)
  replace h3 := hid (fun (B C : Option Addr) (d e0 m : Nat) (xs : List UInt8) w g1 g2 hd g3 (hm : m ≤ 1048576) => h3.out B C d e0 k m xs rs.reverse w g1 g2 hd g3 hm hk12)
  generalize hX : wideB key bs rs = X at *
  generalize hE : wideE key bs rs = E at *
  clear hX hE
  rcases hkk with ⟨hbig, _, hct⟩ | ⟨hbig, hk2'⟩
  all_goals try (rw [hk2'] at hbig ⊢; clear hk2')
  all_goals
    go_enter Try.func3, Try.ntmps3
    go_wp2_with fail
    (with_reducible refine (awake07 _).mono ?_); rintro e w1 ⟨rfl, j1⟩
    go_wp2_with fail
    (with_reducible refine (copy_any A n c key _ (hk.later j1) (by omega)).mono ?_); rintro e w2 ⟨A2, c2, rfl, ho2, j2⟩
    go_wp2_with fail
    (with_reducible refine (copy_any B m d bs _ ((hb.later j1).later j2) (by omega)).mono ?_); rintro e w3 ⟨A3, c3, rfl, ho3, j3⟩
    have L3 := (j1.trans j2).trans j3
    have J4 := later_alloc w3 (.cells #[] 3)
    go_wp2_with (first
      | (refine wpList_append_rd rfl _ _ _ rfl 3 _ 8 Try.underlying23 infoI rfl w3 _ 0 [] (own_blk' (n := 0) (Blk.new w3 3 []) (Nat.le_refl _) rfl (by omega)) J4 C k e0 _ (hr.later (L3.trans J4)) (intV_one _) rfl rfl (by omega) (by omega) ?_; intro A5 c5 w5 hown5 hl5 hg5 _; simp only [Nat.zero_add, List.nil_append] at hown5 ⊢)
      | fail)
    (with_reducible refine (h1.out A2 A3 A5 c2 c3 c5 _ (ho2.later (j3.trans hl5)).rd ho2.cap (ho3.later hl5).rd ho3.cap (own_rd hown5)).mono ?_); rintro e w6 ⟨j6, A6, c6, rfl, ho6⟩
    have L6 := (L3.trans hl5).trans j6
    go_wp2_with fail
    (with_reducible refine (h2.out _ (hk.later L6) (hb.later L6) (hr.later L6)).mono ?_); rintro e w7 ⟨j7, A7, c7, rfl, ho7⟩
    have L7 := L6.trans j7
    have hX6 := (ho6.later j7).rd
    have hcap6 := ho6.cap
    have hX7 := ho7.rd
    clear ho2 ho3 hown5 ho6 ho7 hl5 hg5 j1 j2 j3 J4 j6 j7 L3 L6
    go_wp2_with fail
    (with_reducible refine (told_same A6 A7 _ _ _ _ X _ hX6 hX7 (by omega)).mono ?_); rintro e w8 ⟨rfl, j8⟩
    have L8 := L7.trans j8
    by_cases hE0 : E = 0
    · obtain ⟨x1, x2, x3⟩ := hbk.out hE0
      subst hE0
      have hX8 := hX6.later j8
      rw [x1, hbl] at hX8 hcap6
      have hxl : m ≤ 1048576 := hm
      have hback := hid (fun C e0 w g1 g2 g3 => h3.out A6 C c6 e0 m X w g1 g2 hcap6 g3 hxl)
      rw [x2, x3, hbl] at hback
      go_wp2_with fail
      go_loopw [11, 12] (fun v i wr => ∃ (j : Nat) (A' : Option Addr) (c' : Nat), j ≤ k ∧ i = .int .i64 ((k : Int) - 1 - (j : Int)) ∧ v = .slice A' j c' ∧ wr.ownsRow w8.heap.size 3 1 (.slice A' j c') j ((rs.reverse.take j).map intV) ∧ Later w8 wr) (fun _ i _ => (intOf i + 1).toNat)
      case atStart => exact ⟨0, none, 0, by omega, by simp, rfl, World.ownsRow_nil _ _ _ 1, Later.refl _⟩
      case round =>
        obtain ⟨j, A9, c9, hj, rfl, rfl, hown, L⟩ := hrel
        by_cases hlt : j < k
        · obtain ⟨q, hq'⟩ : ∃ q : Nat, k = q + 1 + j := ⟨k - 1 - j, by omega⟩
          have hge : (0 : Int) ≤ (k : Int) - 1 - (j : Int) := by omega
          have hqi : ((k : Int) - 1 - (j : Int)) = (q : Int) := by omega
          have hqk : q < k := by omega
          obtain ⟨b, o, rfl, hbb, hcell⟩ := hat.out q (by omega)
          have d1 := hcell wr (L8.trans L)
          have HR := hid (hrt.out j (by omega))
          rw [show rs.length - 1 - j = q by omega] at HR
          clear hcell
          generalize rs.getD q 0 = r at *
          rw [hqi]
          replace hq' := hid hq'
          replace hqi := hid hqi
          have J := later_alloc wr (.cells #[.int .i64 r] 3)
          go_wp2_with (first
            | (refine wpList_append_rd rfl _ _ _ rfl 3 _ 8 Try.underlying23 infoI rfl w8 _ j _ (own_later hown J) (L.trans J) _ 1 1 _ ((Blk.new wr 3 [.int .i64 r]).rd rfl) (intV_one [r]) rfl rfl (by omega) (by omega) ?_; intro A3 c3 w3 hown3 hl3 hg3 _)
            | fail)
          go_roundw
          case rel => exact ⟨j + 1, A3, c3, by omega, congrArg (Value.int .i64) (by have := hqi.out; omega), rfl, by rw [HR.out, List.map_append]; exact hown3, hl3⟩
          case measure => simp only [intOf]; omega
        · obtain rfl : k = j := by omega
          rw [List.take_of_length_le (by rw [List.length_reverse]; omega)] at hown
          have hge : ¬ (0 : Int) ≤ (k : Int) - 1 - (k : Int) := by omega
          go_wp2_with fail
          (with_reducible refine (hback.out A9 c9 _ (hk.later (L8.trans L)) (hX8.later L) (own_rd hown)).mono ?_); rintro e w12 ⟨j12, A12, c12, rfl, ho12⟩
          go_wp2_with fail
          (with_reducible refine (hq.out A12 B _ _ _ ho12.rd (hb.later ((L8.trans L).trans j12))).mono ?_); rintro e w13 ⟨rfl, j13⟩
          go_wp2_with fail
          go_ret
          exact ⟨by simp, ((L8.trans L).trans j12).trans j13⟩
    · have hne : ((E : Int) != 0) = true := by simp; omega
      go_wp2_with fail
      go_ret
      exact ⟨rfl, L8⟩
end Go.Proofs.Ytjohieongjnemaa
