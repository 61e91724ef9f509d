/-
  The law WideAll, walked.
-/
import Derived.Test.YtjohieongjnemaaWideI
namespace Go.Proofs.Ytjohieongjnemaa
open Go.RowKit
open Go.BigFrame

theorem Parts.take {w : World} {A : Option Addr} {n : Nat} {ps : List (List UInt8)} (h : Parts w (fun _ => False) A n ps) {m : Nat} (hm : m ≤ n) : Parts w (fun _ => False) A m (ps.take m) := by
  have hl := h.len
  obtain ⟨vs, hr, _, hvl, hat⟩ := h
  refine ⟨vs.take m, hr.take hm, avoid_false _ _, by rw [List.length_take, List.length_take, hvl], fun j v p hv hp => hat j v p ?_ ?_⟩
  · have := (List.getElem?_eq_some_iff.1 hv).1
    rw [List.length_take] at this
    rwa [List.getElem?_take_of_lt (by omega)] at hv
  · have := (List.getElem?_eq_some_iff.1 hp).1
    rw [List.length_take] at this
    rwa [List.getElem?_take_of_lt (by omega)] at hp
theorem all_back {ks : List (List UInt8)} {bs : List UInt8} (h : allE ks bs = 0) : (allB rsS ks bs).length = bs.length ∧ allE ks.reverse (allB rsS ks bs) = 0 ∧ allB rsO ks.reverse (allB rsS ks bs) = bs := by
  have hf : fitBk bs ∧ okK ks := by
    unfold allE at h
    split at h
    · assumption
    · cases h
  have hl := foldK_length rsS ks bs hf.1.1
  have e := (@all_fit rsS ks bs hf).1
  have hf' : fitBk (foldK rsS ks bs) ∧ okK ks.reverse := ⟨⟨by rw [hl]; exact hf.1.1, by rw [hl]; exact hf.1.2⟩, fun p hp => hf.2 p (List.mem_reverse.1 hp)⟩
  have e2 := @all_fit rsO ks.reverse (foldK rsS ks bs) hf'
  rw [e]
  exact ⟨hl, e2.2, by rw [e2.1]; exact foldK_back rsS ks bs hf.1.1⟩
theorem allB_small (rs : List Int) (ks : List (List UInt8)) (bs : List UInt8) : (allB rs ks bs).length ≤ 4096 := by
  by_cases h : fitBk bs ∧ okK ks
  · rw [(all_fit h).1, foldK_length rs ks bs h.1.1]; exact h.1.2
  · rw [(all_bad h).1]; exact Nat.zero_le _
theorem revK_take (ks : List (List UInt8)) (j : Nat) (h : j < ks.length) : ks.reverse.take (j + 1) = ks.reverse.take j ++ [ks.getD (ks.length - 1 - j) []] := by
  have hj : j < ks.reverse.length := by rw [List.length_reverse]; exact h
  rw [List.take_succ_eq_append_getElem hj, List.getElem_reverse, List.getD_eq_getElem?_getD, List.getElem?_eq_getElem (show ks.length - 1 - j < ks.length by omega)]
  rfl
set_option maxRecDepth 100000 in
set_option maxHeartbeats 4000000 in
theorem wideAll_walk (A B : Option Addr) (m d k0 e0 : Nat) (bs : List UInt8) (ks0 : List (List UInt8)) (w : World) (hb : RdB w B m bs) (hp0 : Parts w (fun _ => False) A k0 ks0) (he0 : k0 ≤ e0) (hm : m ≤ 1048576) (hk0 : k0 ≤ 1048576) (hs0 : ∀ p ∈ ks0, p.length ≤ 1048576) :
    Calls Try.prog 5 #[.slice B m d, .slice A k0 e0] w fun e w' => e = .returned (.bool true) ∧ Later w w' := by
  have hbl := hb.len
  obtain ⟨k, ks, hkk, hp, hk12, hs⟩ : ∃ (k : Nat) (ks : List (List UInt8)), ((4 < k0 ∧ Hid (k = 4) ∧ ∀ W, (Instr.sliceAt 36 (.slice A k0 e0) none (some (.int .i64 4)) none).run Try.prog W = .ok (.slice A k e0) W) ∨ (¬ 4 < k0 ∧ k0 = k)) ∧ Parts w (fun _ => False) A k ks ∧ k ≤ 1048576 ∧ ∀ p ∈ ks, p.length ≤ 1048576 := by
    by_cases h : 4 < k0
    · exact ⟨4, ks0.take 4, .inl ⟨h, hid rfl, fun W => run_nat_to Try.underlying36 sizeB A k0 e0 .i64 4 (by omega) W⟩, hp0.take (by omega), by omega, fun p hp => hs0 p (List.mem_of_mem_take hp)⟩
    · exact ⟨k0, ks0, .inr ⟨h, rfl⟩, hp0, hk0, hs0⟩
  clear hp0 hs0
  have hkl := hp.len
  have sP := hid (fun A B d e0 w h1 hd h2 => sealAll_any A B m d k e0 ks bs w h1 hd h2 (by omega) (by omega))
  have oP := hid (fun A B d e0 w h1 hd h2 => openAll_any A B m d k e0 ks bs w h1 hd h2 (by omega) (by omega))
  have sR := hid (fun w h1 h2 => allR_seal A B m d k e0 ks bs w h1 h2 (by omega) (by omega))
  have oR := hid (fun w h1 h2 => allR_open A B m d k e0 ks bs w h1 h2 (by omega) (by omega))
  have o2 := hid (fun A B d e0 m xs (ks : List (List UInt8)) w h1 hd h2 hm => openAll_any A B m d k e0 ks xs w h1 hd h2 hm (by omega))
  have hbk := hid (fun h => @all_back ks bs h)
  have hX := allB_small rsS ks bs
  have hY := allB_small rsO ks bs
  have hq := hid (fun A C c d w h1 h2 => equal_any A C m m c d bs bs w h1 h2 (by omega) (by omega))
  rw [decide_eq_true rfl] at hq
  have hCs := hid (fun w h => copies_any A k e0 ks w h (by omega) (fun p h => by have := hs p h; omega))
  have hrt := hid (fun j h => revK_take ks j h)
  have hs := hid hs
  generalize allB rsS ks bs = X at *
  generalize allB rsO ks bs = Y at *
  generalize allE ks bs = E at *
  rcases hkk with ⟨hbig, _, hct⟩ | ⟨hbig, hk2'⟩
  all_goals try (rw [hk2'] at hbig ⊢; clear hk2')
  all_goals
    go_enter Try.func5, Try.ntmps5
    go_wp2_with fail
    (with_reducible refine (awake07 _).mono ?_); rintro e w1 ⟨rfl, j1⟩
    go_wp2_with fail
    (with_reducible refine (copy_any B m d bs _ (hb.later j1) (by omega)).mono ?_); rintro e w2 ⟨A2, c2, rfl, ho2, j2⟩
    go_wp2_with fail
    (with_reducible refine (hCs.out _ (hp.later (j1.trans j2))).mono ?_); rintro e w3 ⟨A3, c3, rfl, ho3, j3⟩
    have L3 := (j1.trans j2).trans j3
    go_wp2_with fail
    (with_reducible refine (sP.out A3 A2 c2 c3 _ (ho2.later j3).rd ho2.cap ho3.parts).mono ?_); rintro e w4 ⟨j4, A4, c4, rfl, ho4⟩
    have L4 := L3.trans j4
    go_wp2_with fail
    (with_reducible refine (sR.out _ (hb.later L4) (hp.later L4)).mono ?_); rintro e w5 ⟨j5, A5, c5, rfl, ho5⟩
    have L5 := L4.trans j5
    go_wp2_with fail
    (with_reducible refine (copy_any B m d bs _ (hb.later L5) (by omega)).mono ?_); rintro e w6 ⟨A6, c6, rfl, ho6, j6⟩
    go_wp2_with fail
    (with_reducible refine (hCs.out _ (hp.later (L5.trans j6))).mono ?_); rintro e w7 ⟨A7, c7, rfl, ho7, j7⟩
    have L7 := (L5.trans j6).trans j7
    go_wp2_with fail
    (with_reducible refine (oP.out A7 A6 c6 c7 _ (ho6.later j7).rd ho6.cap ho7.parts).mono ?_); rintro e w8 ⟨j8, A8, c8, rfl, ho8⟩
    have L8 := L7.trans j8
    go_wp2_with fail
    (with_reducible refine (oR.out _ (hb.later L8) (hp.later L8)).mono ?_); rintro e w9 ⟨j9, A9, c9, rfl, ho9⟩
    have L9 := L8.trans j9
    have J59 := ((j6.trans j7).trans j8).trans j9
    have hX4 := (ho4.later (j5.trans J59)).rd
    have hX5 := (ho5.later J59).rd
    have hcap4 := ho4.cap
    have hY8 := (ho8.later j9).rd
    have hY9 := ho9.rd
    clear ho2 ho3 ho4 ho5 ho6 ho7 ho8 ho9 J59 j1 j2 j3 j4 j5 j6 j7 j8 j9 L3 L4 L5 L7 L8
    go_wp2_with fail
    (with_reducible refine (told_same A4 A5 _ _ _ _ X _ hX4 hX5 (by omega)).mono ?_); rintro e w10 ⟨rfl, j10⟩
    go_wp2_with fail
    (with_reducible refine (told_same A8 A9 _ _ _ _ Y _ (hY8.later j10) (hY9.later j10) (by omega)).mono ?_); rintro e w11 ⟨rfl, j11⟩
    have L11 := L9.trans (j10.trans j11)
    by_cases hE : E = 0
    · obtain ⟨x1, x2, x3⟩ := hbk.out hE
      subst hE
      have hX8 := hX4.later (j10.trans j11)
      rw [x1, hbl] at hX8 hcap4
      have hback := hid (fun A e0 w h1 h2 => o2.out A A4 c4 e0 m X ks.reverse w h1 hcap4 h2 (by omega))
      rw [x2, x3, hbl] at hback
      clear hX4 hX5 hY8 hY9 j10 j11 L9
      go_wp2_with fail
      obtain ⟨w12, hw12⟩ : ∃ w12, w12 = w11 := ⟨_, rfl⟩
      subst hw12
      go_loopw [13, 14] (fun v i wr => ∃ (j : Nat) (A' : Option Addr) (c' : Nat), j ≤ k ∧ i = .int .i64 ((k : Int) - 1 - (j : Int)) ∧ v = .slice A' j c' ∧ OwnParts wr w12.heap.size A' j c' (ks.reverse.take j) ∧ Later w12 wr) (fun _ i _ => (intOf i + 1).toNat)
      case atStart => exact ⟨0, none, 0, by omega, by simp, rfl, ⟨[], World.ownsRow_nil _ _ _ 1, rfl, by simp⟩, Later.refl _⟩
      case round =>
        obtain ⟨j, A9, c9, hj, rfl, rfl, ⟨us, hu1, hu2, hu3⟩, L⟩ := hrel
        by_cases hlt : j < k
        · obtain ⟨q, hq'⟩ : ∃ q : Nat, k = q + 1 + j := ⟨k - 1 - j, by omega⟩
          have hge : (0 : Int) ≤ (k : Int) - 1 - (j : Int) := by omega
          have hqi : ((k : Int) - 1 - (j : Int)) = (q : Int) := by omega
          have hqk : q < k := by omega
          obtain ⟨b, o, Ak, nk, ck, rfl, hbb, hck, hcap, hrd, _⟩ := (hp.later (L11.trans L)).at_ (k := q) (by omega)
          have HR := hid (hrt.out j (by omega))
          rw [show ks.length - 1 - j = q by omega] at HR
          have hpq := hs.out _ (getD_mem' ks q (by omega))
          have hlen := hrd.len
          generalize ks.getD q [] = p at *
          have HU := hid hu3
          clear hu3
          rw [hqi]
          replace hq' := hid hq'
          replace hqi := hid hqi
          go_wp2_with (first
            | (go_at_call 14; refine (copy_any Ak nk ck p _ hrd (by omega)).mono ?_; rintro e w13 ⟨A1, c1, rfl, hown1, hl1⟩)
            | (refine wpList_append_rd rfl _ _ _ rfl 22 _ 24 Try.underlying36 infoB rfl w12 _ j us (own_later hu1 (hl1.alloc _)) ((L.trans hl1).alloc _) _ 1 1 [.slice A1 nk c1] (own_rd (own_new w13 _ [.slice A1 nk c1] (by simp))) ?h1 rfl rfl (by omega) (by omega) ?_; (case h1 => simp [slice_one]); intro A2 c2 w14 hown2 hl2 hg2 _))
          go_roundw
          case rel =>
            refine ⟨j + 1, A2, c2, by omega, congrArg (Value.int .i64) (by have := hqi.out; omega), rfl, ?_, hl2⟩
            rw [HR.out]
            exact OwnParts.snoc (own_later hu1 (hl1.alloc _)) hu2 (fun j v p hv hp => by obtain ⟨B, m, d, e1, e2⟩ := HU.out j v p hv hp; exact ⟨B, m, d, e1, e2.later (hl1.alloc _)⟩) ((hown1.mono L.size).later (later_alloc _ _)) hg2 hown2
          case measure => simp only [intOf]; omega
        · obtain rfl : k = j := by omega
          have hop : OwnParts wr w12.heap.size A9 k c9 (ks.reverse.take k) := ⟨us, hu1, hu2, hu3⟩
          rw [List.take_of_length_le (by rw [List.length_reverse]; omega)] at hop
          have hge : ¬ (0 : Int) ≤ (k : Int) - 1 - (k : Int) := by omega
          go_wp2_with fail
          (with_reducible refine (hback.out A9 c9 _ (hX8.later L) hop.parts).mono ?_); rintro e w15 ⟨j15, A15, c15, rfl, ho15⟩
          go_wp2_with fail
          (with_reducible refine (hq.out A15 B _ _ _ ho15.rd (hb.later ((L11.trans L).trans j15))).mono ?_); rintro e w16 ⟨rfl, j16⟩
          go_wp2_with fail
          go_ret
          exact ⟨by simp, ((L11.trans L).trans j15).trans j16⟩
    · have hne : ((E : Int) != 0) = true := by simp; omega
      go_wp2_with fail
      go_ret
      exact ⟨rfl, L11⟩
end Go.Proofs.Ytjohieongjnemaa
