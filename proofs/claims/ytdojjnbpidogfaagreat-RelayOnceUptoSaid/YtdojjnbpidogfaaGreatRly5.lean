/-
  RelayPeels: its walk.
-/
import Derived.Test.YtdojjnbpidogfaaGreatRcG
namespace Go.Proofs.YtdojjnbpidogfaaGreat
open Go.RowKit
open Go.BigFrame

theorem parts_first {w : World} {A : Option Addr} {n : Nat} {ps : List (List UInt8)} (h : Parts w (fun _ => False) A n ps) {m : Nat} (hm : m ≤ n) : Parts w (fun _ => False) A m (ps.take m) := by
  have hl := h.len
  obtain ⟨vs, hr, _, hvl, hat⟩ := h
  refine ⟨vs.take m, ?_, fun _ _ _ h => h, by rw [List.length_take, List.length_take, hvl], fun j v p hv hp => ?_⟩
  · refine ⟨by rw [List.length_take, hr.1]; omega, fun h0 => ?_⟩
    obtain ⟨b, o, hA, hb, hc⟩ := hr.2 (by omega)
    refine ⟨b, o, hA, hb, fun j u hu => hc j u ?_⟩
    rw [List.getElem?_take] at hu
    split at hu
    · exact hu
    · cases hu
  · rw [List.getElem?_take] at hv hp
    split at hv
    · rename_i h1
      rw [if_pos h1] at hp
      exact hat j v p hv hp
    · cases hv
theorem pelL_small : ∀ (ks : List (List UInt8)) (p : Y768), ∀ y ∈ pelL ks p, y.B.length ≤ 480
  | [], _, y, h => by simp [pelL] at h
  | k :: ks, p, y, h => by
    rw [pelL] at h
    split at h
    · rcases List.mem_cons.1 h with rfl | h
      · exact unwB_small k p.val p.2
      · split at h
        · exact pelL_small ks _ y h
        · simp at h
    · simp at h
theorem getD_small {ys : List Pel} (h : ∀ y ∈ ys, y.B.length ≤ 480) (i : Nat) (hi : i < ys.length) : (ys.getD i pel0).B.length ≤ 480 := by
  rw [List.getD_eq_getElem?_getD, List.getElem?_eq_getElem hi]
  exact h _ (List.getElem_mem hi)
theorem PelOk.later {w w' : World} {b : Nat} {x : PelV} {y : Pel} (h : PelOk w b x y) (l : Later w w') : PelOk w' b x y := ⟨h.1, h.2.1, h.2.2.1, own_later h.2.2.2 l⟩
/-- The cells of an element of a row of one's own. -/
theorem row_at {α : Type} {F : α → List Value} {sz : Nat} (hF : ∀ x, (F x).length = sz) (d : α) {w : World} {base n c : Nat} {e : TypeId} {A : Option Addr} {xs : List α} (h : w.ownsRow base e sz (.slice A n c) n (xs.flatMap F)) (hn : xs.length = n) {k : Nat} (hk : k < n) :
    ∃ g l, A = some ⟨g, 0, none⟩ ∧ Blk w g e l ∧ n ≤ c ∧ ∀ j v, (F (xs.getD k d))[j]? = some v → l[k * sz + j]? = some v := by
  rcases h.2 with ⟨_, h0⟩ | ⟨g, cap, cur, hv, _, hh, hc, _, _, ht⟩
  · omega
  · injection hv with h1 h2 h3
    subst h3
    refine ⟨g, cur.toList, h1, hh, hc, fun j v hj => ?_⟩
    have := flatF_get hF d xs k (by omega) hj
    rw [← ht, List.getElem?_take] at this
    split at this
    · exact this
    · cases this
/-- 'is' of an element of both lists. -/
theorem is15_row {w : World} {b1 b2 : Nat} {x : PelV} {z : RefV} {y : Pel} (hx : PelOk w b1 x y) (hz : RefOk w b2 z y) (hs : y.B.length ≤ 480) : Calls Tryz.prog 19 #[.agg (VC x).toArray, .agg (VR z).toArray] w fun e w' => e = .returned (.bool true) ∧ Later w w' := by
  obtain ⟨xc, xP, xA, xn, xcp⟩ := x
  obtain ⟨zc, zQ, znq, zcq, zA, zn, zcp⟩ := z
  obtain ⟨yc, yP, yB⟩ := y
  obtain ⟨h1, h2, h3, h4⟩ := hx
  obtain ⟨g1, g2, g3, Q, g4, g5⟩ := hz
  simp only at h1 h2 h3 h4 g1 g2 g3 g4 g5 hs
  subst h1 h2 h3 g1 g2
  exact is15_ok _ _ _ _ _ _ _ _ _ _ _ _ _ xP.2 h4.rd g3.rd (show yB.length ≤ _ by omega) g4.rd g5
set_option maxRecDepth 100000 in
set_option maxHeartbeats 4000000 in
theorem relayPeels_walk (A B : Option Addr) (n c m0 d : Nat) (p : List UInt8) (ks0 : List (List UInt8)) (w : World) (hp : RdB w A n p) (hc : n ≤ c) (hn : n ≤ 1048576) (hk0 : Parts w (fun _ => False) B m0 ks0) (hmd : m0 ≤ d) (hm0 : m0 ≤ 1048576) (hks0 : ∀ k ∈ ks0, k.length ≤ 1048576) :
    Calls Tryz.prog 5 #[.slice A n c, .slice B m0 d] w fun e w' => e = .returned (.bool true) ∧ Later w w' := by
  by_cases h768 : n = 768
  · subst h768
    have hpl := hp.len
    obtain ⟨q, rfl⟩ : ∃ q : Y768, q.val = p := ⟨⟨p, hpl⟩, rfl⟩
    obtain ⟨m, ks, hB, hm5, hk, hks⟩ : ∃ (m : Nat) (ks : List (List UInt8)), ((m0 ≤ 5 ∧ m = m0) ∨ (5 < m0 ∧ m = 5)) ∧ m ≤ 5 ∧ Parts w (fun _ => False) B m ks ∧ ∀ p ∈ ks, p.length ≤ 1048576 := by
      by_cases h : m0 ≤ 5
      · exact ⟨m0, ks0, .inl ⟨h, rfl⟩, h, hk0, hks0⟩
      · exact ⟨5, ks0.take 5, .inr ⟨by omega, rfl⟩, by omega, parts_first hk0 (by omega), fun p h => hks0 p (List.mem_of_mem_take h)⟩
    have HZ := hid zcP
    have l0 : ((List.replicate 768 (0 : UInt8)).map W8).length = 768 := by rw [List.length_map, List.length_replicate]
    generalize List.replicate 768 (0 : UInt8) = Z at *
    have hPa := hid (fun (w : World) h => parse15_any A c q.val w h)
    have hYs := hid (pelL_small ks q)
    have hYl : (pelL ks q).length ≤ 5 := by have := pelL_length ks q; have := hk.len; omega
    have hCo := hid (fun (w : World) h => copies_any B m d ks w h (by omega) (fun p h => by have := hks p h; omega))
    have hPe := hid (fun (w : World) B' d' h => rpeel_any B' m d' ks q w h (by omega) hks)
    have hRe := hid (fun (w : World) h1 h2 => rpeel_ref A B c m d ks q w h1 hc h2 (by omega) hks)
    clear hks hk0 hks0
    generalize pelL ks q = YS at *
    generalize pelE ks q = PE at *
    have hD : (decide ((5 : Int) < (m0 : Int)) = false ∧ m = m0) ∨ (decide ((5 : Int) < (m0 : Int)) = true ∧ m = 5 ∧ 5 ≤ d) := hB.elim (fun h => .inl ⟨decide_eq_false (by omega), h.2⟩) (fun h => .inr ⟨decide_eq_true (by omega), h.2, by omega⟩)
    rcases hD with ⟨hdec, rfl⟩ | ⟨hdec, rfl, h5d⟩
    all_goals
      clear hB
      go_enter Tryz.func5, Tryz.ntmps5
      go_wp2_with fail
      (with_reducible refine (awake15 _).mono ?_); rintro e w1 ⟨rfl, j1⟩
      go_wp2_with fail
      (refine (hPa.out _ (hp.later j1)).mono ?_); rintro e w2 ⟨rfl, j2⟩
      have C0 := ((Bag.none w).later j1).later j2
      go_wp2_with (first
        | (refine store_Pk rfl rfl _ _ rfl ((Blk.new w2 _ Tryz.zeroCells40.toList).cast HZ.out) rfl rfl hpl l0 ?_; intro w3 hb3 ho3
           have C1 := C0.push (later_alloc _ _) (Nat.le_refl _) ho3 hb3)
        | fail)
      have C2 := C1.drew
      clear C0 C1 hb3 ho3 j1 j2
      refine wp_region_parts [([0, 1], 2), ([], 3)] [4, 5, 6, 7, 8] [] (by as_aux_lemma => kernel_rfl) (by as_aux_lemma => kernel_rfl) (by intro _ _ d _ _ h; cases d <;> exact h) ?_
      simp only [wpParts, pick, List.getElem?_cons_succ, List.getElem?_cons_zero, Option.toList_some, List.cons_append, List.nil_append]
      repeat (first | go_big_quiet_skip | (go_big_quiet_want; (refine quiet_Y 0 768 _ rfl (C2.nth 0 rfl) rfl Tryz.underlying40 rfl size768 (subB_all _ _ hpl) hpl ?_); simp only [Act.put, List.setIfInBounds_toArray, List.set_cons_succ, List.set_cons_zero]; go_big_quiet_on) | (go_big_quiet_step (fail)))
      refine wpQuiet_nil ?_
      go_wp2_with fail
      (refine (hCo.out _ (hk.later C2.lat)).mono ?_); rintro e w4 ⟨A4, c4, rfl, o4, j4⟩
      go_wp2_with fail
      try refine ⟨by first | assumption | exact later_drew _ | exact later_alloc _ _ | exact Later.refl _, ?_⟩
      try simp only [wpParts, pick, List.getElem?_cons_succ, List.getElem?_cons_zero, Option.toList_some, List.cons_append, List.nil_append]
      repeat (go_big_quiet_step (fail))
      refine wpQuiet_nil ?_
      go_wp2_with fail
      (refine (hPe.out _ _ _ o4.parts).mono ?_); rintro e w5 ⟨A5, c5, xs, rfl, o5, row5, j5⟩
      have C3 := (C2.later j4).later j5
      go_wp2_with fail
      try refine ⟨by first | assumption | exact later_drew _ | exact later_alloc _ _ | exact Later.refl _, ?_⟩
      try simp only [wpParts, pick, List.getElem?_cons_succ, List.getElem?_cons_zero, Option.toList_some, List.cons_append, List.nil_append]
      repeat (go_big_quiet_step (fail))
      refine wpQuiet_nil ?_
      go_wp2_with fail
      (refine (hRe.out _ (hp.later C3.lat) (hk.later C3.lat)).mono ?_); rintro e w6 ⟨A6, c6, zs, rfl, o6, row6, j6⟩
      have C4 := C3.later j6
      have hl5 := row5.len
      have hl6 := row6.len
      obtain ⟨N, hN⟩ : ∃ N, YS.length = N := ⟨_, rfl⟩
      rw [hN] at hl5 hl6
      rw [hl5] at o5
      rw [hl6] at o6
      rw [hl5, hl6]
      replace o5 := own_laterK o5 j6
      replace row5 := row5.later j6
      replace hl5 := hid hl5
      replace hl6 := hid hl6
      have hN5 : N ≤ 5 := by have := hYl; omega
      replace hN := hid hN
      clear C3 j4 j5 j6 o4 hPe hRe hCo hPa
      go_wp2_with fail
      go_loopw [56] (fun i wr => ∃ k : Nat, i = .int .i64 k ∧ k ≤ N ∧ Later w6 wr) (fun i _ => N - (intOf i).toNat)
      case atStart => exact ⟨0, rfl, by omega, Later.refl _⟩
      case round =>
        obtain ⟨k, rfl, hkN, L⟩ := hrel
        by_cases hlt : k < N
        · obtain ⟨g5, l5, rfl, hb5, hc5, hv5⟩ := row_at VC_length pelv0 (own_laterK o5 L) hl5.out hlt
          obtain ⟨g6, l6, rfl, hb6, hc6, hv6⟩ := row_at VR_length refv0 (own_laterK o6 L) hl6.out hlt
          have hx := hid ((row5.at_ k (by rw [hN.out]; exact hlt)).later L)
          have hz := hid (RefOk.mono (fun _ _ _ _ h => own_later h L) (All2.at_ refv0 pel0 k row6 (by rw [hN.out]; exact hlt)))
          have hs := hid (getD_small hYs.out k (by rw [hN.out]; exact hlt))
          generalize xs.getD k pelv0 = x at *
          generalize zs.getD k refv0 = z at *
          generalize YS.getD k pel0 = y at *
          have y5 := hb5.lt
          have y6 := hb6.lt
          go_wp2_with fail
          refine wp_region_parts [([0, 1, 2, 3, 4, 5, 6, 7], 8)] [9] [] (by as_aux_lemma => kernel_rfl) (by as_aux_lemma => kernel_rfl) (by intro _ _ d _ _ h; cases d <;> exact h) ?_
          simp only [wpParts, pick, List.getElem?_cons_succ, List.getElem?_cons_zero, Option.toList_some, List.cons_append, List.nil_append]
          repeat (first | go_big_quiet_skip | (go_big_quiet_want; (first | refine quiet_part _ _ rfl (k * 789) (VC x) hb5.drew rfl hv5 _ Tryz.underlying46 rfl (by rw [VC_length]; exact size789) ?_ | refine quiet_part _ _ rfl (k * 22) (VR z) hb6.drew rfl hv6 _ Tryz.underlying30 rfl (by rw [VR_length]; exact size22) ?_); simp only [Act.put, List.setIfInBounds_toArray, List.set_cons_succ, List.set_cons_zero]; go_big_quiet_on) | (go_big_quiet_step (fail)))
          refine wpQuiet_nil ?_
          go_wp2_with fail
          (refine (is15_row (hx.out.later (later_drew wr)) (RefOk.mono (fun _ _ _ _ h => own_later h (later_drew wr)) hz.out) hs.out).mono ?_); rintro e w7 ⟨rfl, j7⟩
          go_wp2_with fail
          try refine ⟨by first | assumption | exact later_drew _ | exact later_alloc _ _ | exact Later.refl _, ?_⟩
          try simp only [wpParts, pick, List.getElem?_cons_succ, List.getElem?_cons_zero, Option.toList_some, List.cons_append, List.nil_append]
          repeat (go_big_quiet_step (fail))
          refine wpQuiet_nil ?_
          go_wp2
          exact ⟨⟨k + 1, by go_num, by omega, L.drew.trans j7⟩, by simp [intOf]; omega⟩
        · obtain rfl : k = N := by omega
          go_wp2
          go_ret
          exact ⟨rfl, C4.lat.trans L⟩
  · have hne : ((n : Int) != 768) = true := by simp; omega
    go_enter Tryz.func5, Tryz.ntmps5
    go_wp2_with fail
    (with_reducible refine (awake15 _).mono ?_); rintro e w1 ⟨rfl, j1⟩
    go_wp2
    go_ret
    exact ⟨rfl, j1⟩
end Go.Proofs.YtdojjnbpidogfaaGreat

