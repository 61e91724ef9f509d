/-
  shallotlaw12: KeysKeeps.
-/
import Derived.Test.YtjohieongjnemaaKeys8
import Derived.Test.YtjohieongjnemaaBagMore
namespace Go.Proofs.Ytjohieongjnemaa
open Go.RowKit
open Go.BigFrame

/-- Schedule over one hop: no step, or one. -/
theorem ksched1 (x pub : List UInt8) : ∃ (E k : Nat) (T : List UInt8) (Ts : List (List UInt8)), T.length = 192 ∧ ((k = 0 ∧ Ts = []) ∨ (k = 1 ∧ Ts = [T])) ∧
    (∀ (A B : Option Addr) (n c d : Nat) (w : World), RdB w A n x → n ≤ c → n ≤ 35184372088832 → Parts w (fun _ => False) B 1 [pub] → Calls Try.prog 35 #[.slice A n c, .slice B 1 d] w fun e w' => Later w w' ∧ ∃ A' c', e = .returned (.tuple #[.slice A' k c', .int .i64 (E : Nat)]) ∧ k ≤ c' ∧ RdK 192 w' A' k Ts ∧ ∀ b o, A' = some ⟨b, o, none⟩ → w.heap.size ≤ b) ∧
    (∀ (A B : Option Addr) (n c d : Nat) (w : World), RdB w A n x → n ≤ 35184372088832 → Parts w (fun _ => False) B 1 [pub] → Calls Try.prog 36 #[.slice A n c, .slice B 1 d] w fun e w' => Later w w' ∧ ∃ A' c', e = .returned (.tuple #[.slice A' k c', .int .i64 (E : Nat)]) ∧ k ≤ c' ∧ RdK 192 w' A' k Ts) := by
  have hT := stepA_length x [pub] 0
  have e1 : stepsA x [pub] 1 = [stepA x [pub] 0] := rfl
  by_cases hE : schedE x [pub] = 0
  · refine ⟨0, 1, stepA x [pub] 0, [stepA x [pub] 0], hT, .inr ⟨rfl, rfl⟩, fun A B n c d w hx hc hn hp => (kschedule_own A B n c 1 d x [pub] w hx hc hn hp (by omega)).mono ?_, fun A B n c d w hx hn hp => (kschedule_ref A B n c 1 d x [pub] w hx hn hp (by omega)).mono ?_⟩
    · rintro e w' ⟨hl, ⟨h, _⟩ | ⟨_, A', c', rfl, h1, h2, h3⟩⟩
      · exact absurd hE h
      · exact ⟨hl, A', c', rfl, h1, e1 ▸ h2, h3⟩
    · rintro e w' ⟨hl, ⟨h, _⟩ | ⟨_, A', c', rfl, h1, h2⟩⟩
      · exact absurd hE h
      · exact ⟨hl, A', c', rfl, h1, e1 ▸ h2⟩
  · refine ⟨schedE x [pub], 0, stepA x [pub] 0, [], hT, .inl ⟨rfl, rfl⟩, fun A B n c d w hx hc hn hp => (kschedule_own A B n c 1 d x [pub] w hx hc hn hp (by omega)).mono ?_, fun A B n c d w hx hn hp => (kschedule_ref A B n c 1 d x [pub] w hx hn hp (by omega)).mono ?_⟩
    · rintro e w' ⟨hl, ⟨_, rfl⟩ | ⟨h, _⟩⟩
      · exact ⟨hl, none, 0, rfl, Nat.le_refl _, rdK_none 192 _, fun b o e => by cases e⟩
      · exact absurd h hE
    · rintro e w' ⟨hl, ⟨_, rfl⟩ | ⟨h, _⟩⟩
      · exact ⟨hl, none, 0, rfl, Nat.le_refl _, rdK_none 192 _⟩
      · exact absurd h hE
theorem RdK.only {sz : Nat} {w w' : World} {A : Option Addr} {n k : Nat} {xs : List (List UInt8)} (h : RdK sz w A n xs) (ho : Only k w w') (hne : ∀ b o, A = some ⟨b, o, none⟩ → b ≠ k) : RdK sz w' A n xs := by
  refine ⟨h.1, fun hn => ?_⟩
  obtain ⟨b, o, hA, hb, hc⟩ := h.2 hn
  exact ⟨b, o, hA, Nat.lt_of_lt_of_le hb ho.size, fun j i v hj hv => (World.cell?_of_block (a := ⟨b, o + j * sz + i, none⟩) (ho.block b hb (fun e => hne b o hA (by injection e)))).trans (hc j i v hj hv)⟩
theorem pay_type {gs : List Nat} {ps : List (List UInt8)} : ∀ p ∈ List.zipWith payB gs ps, p.2.1 = 5 := by
  intro p hp
  obtain ⟨i, hi⟩ := List.getElem?_of_mem hp
  rw [List.getElem?_zipWith] at hi
  cases h1 : gs[i]? <;> cases h2 : ps[i]? <;> rw [h1, h2] at hi <;> cases hi
  rfl
set_option maxRecDepth 100000 in
set_option maxHeartbeats 8000000 in
theorem keysKeeps_walk (A B : Option Addr) (n m c d : Nat) (x pub : List UInt8) (w : World) (hx : RdB w A n x) (hu : RdB w B m pub) (hn : n ≤ 1048576) (hm : m ≤ 1048576) (hmd : m ≤ d) :
    Calls Try.prog 11 #[.slice A n c, .slice B m d] w fun e w' => e = .returned (.bool true) ∧ Later w w' := by
  obtain ⟨E, k, T, Ts, hTl, hkT, hS1, hS2⟩ := ksched1 x pub
  have hS1 := hid hS1
  have hS2 := hid hS2
  have h1 := hid (fun (w : World) A B c d h1 h2 => peel_any A B n c m d x pub w h1 h2 (by omega) (by omega))
  have h2 := hid (fun (w : World) A B c d h1 h2 => peel_ref A B n c m d x pub w h1 h2 (by omega) (by omega))
  have hOf := hid (fun (w : World) A c h1 hc => of_keys A n c x w h1 hc (by omega))
  have hPl := peelB_length x pub
  have hIs := hid (fun w => is12_same (peelB x pub) hPl w)
  have hIsT := hid (fun w => is12_same T hTl w)
  generalize peelB x pub = S at *
  generalize multE x pub = e1 at *
  generalize ofB x = O1 at *
  generalize ofE x = O2 at *
  have hxl := hx.len
  have hul := hu.len
  have hSp1 := hid (fun (w : World) h => spare_any A n c x w h (by omega))
  have hSp2 := hid (fun (w : World) h => spare_any B m d pub w h (by omega))
  rw [spareB_map] at hSp1 hSp2
  have hzS := zc192
  have hzR := zcRl
  go_enter Try.func11, Try.ntmps11
  go_wp2_with fail
  (with_reducible refine (awake12 _).mono ?_); rintro e w1 ⟨rfl, j1⟩
  go_wp2_with fail
  (with_reducible refine (hSp1.out _ (hx.later j1)).mono ?_); rintro e w2 ⟨rfl, hb2, j2⟩
  have B1 := (Bag.none w).fresh (j1.trans j2) j1.size hb2
  clear j1 j2 hb2
  generalize w1.heap.size = gA at *
  go_wp2_with fail
  (with_reducible refine (hSp2.out _ (hu.later B1.lat)).mono ?_); rintro e w3 ⟨rfl, hb3, j3⟩
  have B2 := B1.fresh j3 (Nat.le_refl _) hb3
  clear j3 hb3 B1
  generalize w2.heap.size = gB at *
  go_wp2_with fail
  have B3 := B2.later (later_alloc w3 (.cells #[.slice (some ⟨gB, 0, none⟩) m (m + 40)] 22))
  (with_reducible refine (hS1.out _ _ _ _ _ _ (blk_head (B3.nth 1 rfl) hxl) (by omega) (by omega) (parts_blk1 (Blk.new _ _ _) (part_of (blk_head (B3.nth 0 rfl) hul) (by omega)))).mono ?_); rintro e w4 ⟨j4, A5, c5, rfl, hc5, hr5, hnew⟩
  replace hnew : ∀ b o, A5 = some ⟨b, o, none⟩ → b ≠ gA ∧ b ≠ gB := fun b o e => by
    have h0 := hnew b o e
    have h1 := (B3.nth 0 rfl).lt
    have h2 := (B3.nth 1 rfl).lt
    omega
  have B4 := B3.later j4
  clear B2 B3 j4 hc5
  go_wp2_with fail
  (with_reducible refine (hOf.out _ _ _ (blk_head (B4.nth 1 rfl) hxl) (by omega)).mono ?_); rintro e w5 ⟨rfl, j5⟩
  have B5 := B4.later j5
  replace hr5 := hr5.later j5
  clear B4 j5
  go_wp2_with fail
  (with_reducible refine (h1.out _ _ _ _ _ (blk_head (B5.nth 1 rfl) hxl) (blk_head (B5.nth 0 rfl) hul)).mono ?_); rintro e w6 ⟨rfl, j6⟩
  go_wp2_with (first
    | (refine store_St rfl rfl _ _ rfl (Blk.new w6 _ Try.zeroCells63.toList) rfl rfl hPl hzS ?_; intro w7 hb7 ho7)
    | fail)
  have B6 := B5.push (j6.trans (later_alloc w6 _)) j6.size ho7 hb7
  replace hr5 := hr5.later ((j6.trans (later_alloc w6 _)).only ho7 j6.size)
  clear B5 j6 ho7 hb7
  generalize w6.heap.size = g11 at *
  (with_reducible refine (kept_true _ A n _ c x w7 (spare_all (B6.nth 2 rfl) hxl) (hx.later B6.lat) (by omega)).mono ?_); rintro e w8 ⟨rfl, j8⟩
  have B7 := B6.later j8
  replace hr5 := hr5.later j8
  clear B6 j8
  go_wp2_with fail
  (with_reducible refine (kept_true _ B m _ d pub w8 (spare_all (B7.nth 1 rfl) hul) (hu.later B7.lat) (by omega)).mono ?_); rintro e w9 ⟨rfl, j9⟩
  have B8 := B7.later j9
  replace hr5 := hr5.later j9
  clear B7 j9
  go_wp2_with fail
  (with_reducible refine (over_blk gA _ _ x _ w9 (B8.nth 2 rfl) (by omega) n hxl).mono ?_); rintro e w10 ⟨rfl, hb10, ho10⟩
  have B9 := B8.write 2 rfl ho10 hb10
  replace hr5 := hr5.only ho10 fun b o e => (hnew b o e).1
  clear B8 ho10 hb10
  go_wp2_with fail
  (with_reducible refine (over_blk gB _ _ pub _ w10 (B9.nth 1 rfl) (by omega) m hul).mono ?_); rintro e w11 ⟨rfl, hb11, ho11⟩
  have B10 := B9.write 1 rfl ho11 hb11
  replace hr5 := hr5.only ho11 fun b o e => (hnew b o e).2
  clear B9 ho11 hb11
  go_wp2_with fail
  have B11 := B10.later (later_alloc w11 (.cells #[.slice B m d] 22))
  (with_reducible refine (hS2.out _ _ _ _ _ _ (hx.later B11.lat) (by omega) (parts_blk1 (Blk.new _ _ _) (part_of (hu.later B11.lat) hmd))).mono ?_); rintro e w12 ⟨j12, A6, c6, rfl, hc6, hr6⟩
  have B12 := B11.later j12
  replace hr5 := (hr5.later (later_alloc w11 _)).later j12
  clear B10 B11 j12 hc6
  go_wp2_with fail
  (with_reducible refine (h2.out _ A B c d (hx.later B12.lat) (hu.later B12.lat)).mono ?_); rintro e w13 ⟨rfl, j13⟩
  go_wp2_with (first
    | (refine store_SR rfl rfl _ _ rfl (Blk.new w13 _ Try.zeroCells66.toList) rfl rfl hPl hzR ?_; intro w14 hb14 ho14)
    | fail)
  have B13 := (B12.push (j13.trans (later_alloc w13 _)) j13.size ho14 hb14).drew
  replace hr5 := hr5.later (((j13.trans (later_alloc w13 _)).only ho14 j13.size).trans (later_drew _))
  replace hr6 := hr6.later (((j13.trans (later_alloc w13 _)).only ho14 j13.size).trans (later_drew _))
  clear B12 j13 ho14 hb14
  generalize w13.heap.size = g15 at *
  have h192 : subB S 0 192 = S := by rw [subB, List.drop_zero, List.take_of_length_le (by omega)]
  have hT192 : subB T 0 192 = T := by rw [subB, List.drop_zero, List.take_of_length_le (by omega)]
  have h11 := B13.nth 1 rfl
  have h15 := B13.nth 0 rfl
  rcases hkT with ⟨rfl, rfl⟩ | ⟨rfl, rfl⟩
  · skip
    refine wp_region_parts [([0, 1, 2, 3, 4, 5, 6, 7, 8, 9, 10], 11), ([12, 13, 14, 15, 16, 17, 18, 19, 20, 21, 22, 23, 24, 25, 26, 27, 28, 29, 30, 31], 32)] [33, 34, 35] [] (by as_aux_lemma => kernel_rfl) (by as_aux_lemma => kernel_rfl) (by intro _ _ d _ _ h; cases d <;> exact h) ?_
    simp only [wpParts, pick, List.getElem?_cons_succ, List.getElem?_cons_zero, Option.toList_some, List.cons_append, List.nil_append]
    repeat (first | go_big_quiet_skip | (go_big_quiet_want; (first | refine quiet_Y 0 192 _ rfl h11 rfl Try.underlying63 rfl size192 h192 hPl ?_ | refine quiet_Y 0 192 _ rfl h15 rfl Try.underlying66 rfl size192r h192 hPl ?_); simp only [Act.put, List.setIfInBounds_toArray, List.set_cons_succ, List.set_cons_zero]; go_big_quiet_on) | (go_big_quiet_step (fail)))
    refine wpQuiet_nil ?_
    go_wp2_with fail
    (with_reducible refine (hIs.out _).mono ?_); rintro e w15 ⟨rfl, j15⟩
    go_wp2_with fail
    try refine ⟨by first | assumption | exact later_drew _ | exact later_alloc _ _ | exact Later.refl _, ?_⟩
    try simp only [wpParts, pick, List.getElem?_cons_succ, List.getElem?_cons_zero, Option.toList_some, List.cons_append, List.nil_append]
    repeat (go_big_quiet_step (fail))
    refine wpQuiet_nil ?_
    go_wp2_with fail
    try refine ⟨by first | assumption | exact later_drew _ | exact later_alloc _ _ | exact Later.refl _, ?_⟩
    try simp only [wpParts, pick, List.getElem?_cons_succ, List.getElem?_cons_zero, Option.toList_some, List.cons_append, List.nil_append]
    repeat (go_big_quiet_step (fail))
    refine wpQuiet_nil ?_
    have B14 : Bag w w15 [(g15, 66, S.map W8), (g11, 63, S.map W8), (gB, 5, (overB pub).map W8 ++ spareR pub), (gA, 5, (overB x).map W8 ++ spareR x)] := B13.later j15
    have L15 := j15
    clear B13 j15 h11 h15
    go_wp2_with fail
    (with_reducible refine (pays_any A5 0 c5 [] w15 (hr5.later L15) (by simp) (by omega)).mono ?_); rintro e w16 ⟨gs1, rfl, hgs1, P1⟩
    have hrow1 := P1.nth 0 rfl
    have hlow1 := Nat.le_trans B14.lat.size (P1.at_low 0 rfl)
    have B15 := (B14.drop 2).join (P1.drop 1)
    generalize w15.heap.size = r1 at *
    replace hr5 := (hr5.later L15).later P1.lat
    clear P1 B14 L15
    go_wp2_with fail
    (with_reducible refine (pays_any A5 0 c5 [] w16 hr5 (by simp) (by omega)).mono ?_); rintro e w17 ⟨gs2, rfl, hgs2, P2⟩
    have hrow2 := P2.nth 0 rfl
    have B16 := B15.join (P2.drop 1)
    replace hrow1 := own_blk' (hrow1.later P2.lat) hlow1 (n := 0) (by rw [List.length_map, hgs1]) (by omega)
    generalize w16.heap.size = r2 at *
    clear P2 B15
    have hT : ∀ p ∈ List.drop 1 ((r2, 22, gs2.map sl32) :: List.zipWith payB gs2 (paysOf [])) ++ (List.drop 1 ((r1, 22, gs1.map sl32) :: List.zipWith payB gs1 (paysOf [])) ++ List.drop 2 [(g15, 66, S.map W8), (g11, 63, S.map W8), (gB, 5, (overB pub).map W8 ++ spareR pub), (gA, 5, (overB x).map W8 ++ spareR x)]), p.2.1 = 5 := by
      intro p hp
      rcases List.mem_append.1 hp with hp | hp
      · exact pay_type p hp
      · rcases List.mem_append.1 hp with hp | hp
        · exact pay_type p hp
        · simp only [List.drop_succ_cons, List.drop_zero, List.mem_cons, List.not_mem_nil, or_false] at hp
          rcases hp with rfl | rfl <;> rfl
    have hT' := fun p hp (e : _ = _) => ne8L ((hT p hp).symm.trans e)
    go_wp2_with (first
      | (refine wpList_append_rd rfl _ _ _ rfl 22 _ 24 Try.underlying36 infoB rfl w _ 0 (gs1.map sl32) hrow1 B16.lat _ 0 0 (gs2.map sl32) (hrow2.rd (by rw [List.length_map, hgs2])) (fun u hu => by obtain ⟨b, _, rfl⟩ := List.mem_map.1 hu; rfl) rfl rfl (by omega) (by omega) ?_
         intro A7 c7 w18 hown7 hl7 hg7 _
         have B17 := (B16.grownRow hrow1 hT' hg7 hl7).later (later_alloc w18 (.cells #[.slice (some ⟨gA, 0, none⟩) (n + 40) (n + 40), .slice (some ⟨gB, 0, none⟩) (m + 40) (m + 40)] 22))
         have hown8 := own_later hown7 (later_alloc w18 (.cells #[.slice (some ⟨gA, 0, none⟩) (n + 40) (n + 40), .slice (some ⟨gB, 0, none⟩) (m + 40) (m + 40)] 22)))
      | (refine wpList_append_rd rfl _ _ _ rfl 22 _ 24 Try.underlying36 infoB rfl w _ (0 + 0) _ hown8 B17.lat _ 2 2 _ ((Blk.new w18 22 [.slice (some ⟨gA, 0, none⟩) (n + 40) (n + 40), .slice (some ⟨gB, 0, none⟩) (m + 40) (m + 40)]).rd rfl) (by simp [slice_one]) rfl rfl (by omega) (by omega) ?_
         intro A9 c9 w19 hown9 hl9 hg9 _
         have B18 := B17.grownRow hown8 hT' hg9 hl9)
      | fail)
    obtain rfl := List.eq_nil_of_length_eq_zero hgs1
    obtain rfl := List.eq_nil_of_length_eq_zero hgs2
    have hnd := B18.nd
    (with_reducible refine (apart_bag B18 hT' hown9 ?hv ?hd (by omega)).mono ?_)
    case hv =>
      intro v hv
      simp only [List.map_nil, List.nil_append, List.mem_cons, List.not_mem_nil, or_false] at hv
      rcases hv with rfl | rfl
      · exact .inr ⟨_, List.mem_of_getElem? (i := 1) rfl, _, _, rfl, Nat.le_refl _, by simp [spareR_length, overB_length, hxl], by omega⟩
      · exact .inr ⟨_, List.mem_of_getElem? (i := 0) rfl, _, _, rfl, Nat.le_refl _, by simp [spareR_length, overB_length, hul], by omega⟩
    case hd =>
      simp at hnd
      simp [Value.ownBlock]
      omega
    rintro e w20 ⟨rfl, hl20, _⟩
    go_wp2_with fail
    go_ret
    exact ⟨rfl, hl20⟩
  · skip
    have hT0 : ∀ x ∈ [T], x.length = 192 := fun y hy => by rw [List.mem_singleton.1 hy]; exact hTl
    have hpl : (subB T 64 32).length = 32 := subB_length (by omega)
    obtain ⟨b5, o5, rfl, hb5, C5⟩ := hr5.sub (k := 0) (by omega)
    obtain ⟨b6, o6, rfl, hb6, C6⟩ := hr6.sub (k := 0) (by omega)
    refine wp_region_parts [([0, 1, 2, 3, 4, 5, 6, 7, 8, 9, 10], 11), ([12, 13, 14, 15, 16, 17, 18, 19, 20, 21, 22, 23, 24, 25, 26, 27, 28, 29, 30, 31], 32)] [33, 34, 35] [] (by as_aux_lemma => kernel_rfl) (by as_aux_lemma => kernel_rfl) (by intro _ _ d _ _ h; cases d <;> exact h) ?_
    simp only [wpParts, pick, List.getElem?_cons_succ, List.getElem?_cons_zero, Option.toList_some, List.cons_append, List.nil_append]
    repeat (first | go_big_quiet_skip | (go_big_quiet_want; (first | refine quiet_Y 0 192 _ rfl h11 rfl Try.underlying63 rfl size192 h192 hPl ?_ | refine quiet_Y 0 192 _ rfl h15 rfl Try.underlying66 rfl size192r h192 hPl ?_); simp only [Act.put, List.setIfInBounds_toArray, List.set_cons_succ, List.set_cons_zero]; go_big_quiet_on) | (go_big_quiet_step (fail)))
    refine wpQuiet_nil ?_
    go_wp2_with fail
    (with_reducible refine (hIs.out _).mono ?_); rintro e w15a ⟨rfl, j15a⟩
    go_wp2_with fail
    try refine ⟨by first | assumption | exact later_drew _ | exact later_alloc _ _ | exact Later.refl _, ?_⟩
    try simp only [wpParts, pick, List.getElem?_cons_succ, List.getElem?_cons_zero, Option.toList_some, List.cons_append, List.nil_append]
    repeat (first | go_big_quiet_skip | (go_big_quiet_want; (first | (refine quiet_load_agg 63 _ rfl b5 o5 (T.map W8) ?hc ?hx _ Try.underlying63 rfl ?hi ?_; (case hx => rfl); (case hi => rw [List.length_map, hTl]; exact size192); (case hc => rintro w' ⟨z, rfl⟩; exact C5 _ (j15a.trans ⟨z, rfl⟩) 0 192 T hT192)) | (refine quiet_load_agg 66 _ rfl b6 o6 (T.map W8) ?hc ?hx _ Try.underlying66 rfl ?hi ?_; (case hx => rfl); (case hi => rw [List.length_map, hTl]; exact size192r); (case hc => rintro w' ⟨z, rfl⟩; exact C6 _ (j15a.trans ⟨z, rfl⟩) 0 192 T hT192))); simp only [Act.put, List.setIfInBounds_toArray, List.set_cons_succ, List.set_cons_zero]; go_big_quiet_on) | (go_big_quiet_step (fail)))
    refine wpQuiet_nil ?_
    go_wp2_with fail
    (with_reducible refine (hIsT.out _).mono ?_); rintro e w15 ⟨rfl, j15⟩
    go_wp2_with fail
    try refine ⟨by first | assumption | exact later_drew _ | exact later_alloc _ _ | exact Later.refl _, ?_⟩
    try simp only [wpParts, pick, List.getElem?_cons_succ, List.getElem?_cons_zero, Option.toList_some, List.cons_append, List.nil_append]
    repeat (go_big_quiet_step (fail))
    refine wpQuiet_nil ?_
    have B14 : Bag w w15 [(g15, 66, S.map W8), (g11, 63, S.map W8), (gB, 5, (overB pub).map W8 ++ spareR pub), (gA, 5, (overB x).map W8 ++ spareR x)] := (B13.later j15a).later j15
    have L15 := j15a.trans j15
    clear B13 j15a j15 h11 h15 C5 C6
    go_wp2_with fail
    (with_reducible refine (pays_any (some ⟨b5, o5, none⟩) 1 c5 [T] w15 (hr5.later L15) (by simpa using hT0) (by omega)).mono ?_); rintro e w16 ⟨gs1, rfl, hgs1, P1⟩
    have hrow1 := P1.nth 0 rfl
    have hlow1 := Nat.le_trans B14.lat.size (P1.at_low 0 rfl)
    have B15 := (B14.drop 2).join (P1.drop 1)
    generalize w15.heap.size = r1 at *
    replace hr5 := (hr5.later L15).later P1.lat
    clear P1 B14 L15
    go_wp2_with fail
    (with_reducible refine (pays_any (some ⟨b5, o5, none⟩) 1 c5 [T] w16 hr5 (by simpa using hT0) (by omega)).mono ?_); rintro e w17 ⟨gs2, rfl, hgs2, P2⟩
    have hrow2 := P2.nth 0 rfl
    have B16 := B15.join (P2.drop 1)
    replace hrow1 := own_blk' (hrow1.later P2.lat) hlow1 (n := 1) (by rw [List.length_map, hgs1]) (by omega)
    generalize w16.heap.size = r2 at *
    clear P2 B15
    have hT : ∀ p ∈ List.drop 1 ((r2, 22, gs2.map sl32) :: List.zipWith payB gs2 (paysOf [T])) ++ (List.drop 1 ((r1, 22, gs1.map sl32) :: List.zipWith payB gs1 (paysOf [T])) ++ List.drop 2 [(g15, 66, S.map W8), (g11, 63, S.map W8), (gB, 5, (overB pub).map W8 ++ spareR pub), (gA, 5, (overB x).map W8 ++ spareR x)]), p.2.1 = 5 := by
      intro p hp
      rcases List.mem_append.1 hp with hp | hp
      · exact pay_type p hp
      · rcases List.mem_append.1 hp with hp | hp
        · exact pay_type p hp
        · simp only [List.drop_succ_cons, List.drop_zero, List.mem_cons, List.not_mem_nil, or_false] at hp
          rcases hp with rfl | rfl <;> rfl
    have hT' := fun p hp (e : _ = _) => ne8L ((hT p hp).symm.trans e)
    go_wp2_with (first
      | (refine wpList_append_rd rfl _ _ _ rfl 22 _ 24 Try.underlying36 infoB rfl w _ 1 (gs1.map sl32) hrow1 B16.lat _ 1 1 (gs2.map sl32) (hrow2.rd (by rw [List.length_map, hgs2])) (fun u hu => by obtain ⟨b, _, rfl⟩ := List.mem_map.1 hu; rfl) rfl rfl (by omega) (by omega) ?_
         intro A7 c7 w18 hown7 hl7 hg7 _
         have B17 := (B16.grownRow hrow1 hT' hg7 hl7).later (later_alloc w18 (.cells #[.slice (some ⟨gA, 0, none⟩) (n + 40) (n + 40), .slice (some ⟨gB, 0, none⟩) (m + 40) (m + 40)] 22))
         have hown8 := own_later hown7 (later_alloc w18 (.cells #[.slice (some ⟨gA, 0, none⟩) (n + 40) (n + 40), .slice (some ⟨gB, 0, none⟩) (m + 40) (m + 40)] 22)))
      | (refine wpList_append_rd rfl _ _ _ rfl 22 _ 24 Try.underlying36 infoB rfl w _ (1 + 1) _ hown8 B17.lat _ 2 2 _ ((Blk.new w18 22 [.slice (some ⟨gA, 0, none⟩) (n + 40) (n + 40), .slice (some ⟨gB, 0, none⟩) (m + 40) (m + 40)]).rd rfl) (by simp [slice_one]) rfl rfl (by omega) (by omega) ?_
         intro A9 c9 w19 hown9 hl9 hg9 _
         have B18 := B17.grownRow hown8 hT' hg9 hl9)
      | fail)
    obtain ⟨p1, rfl⟩ := List.length_eq_one_iff.1 hgs1
    obtain ⟨p2, rfl⟩ := List.length_eq_one_iff.1 hgs2
    have hnd := B18.nd
    (with_reducible refine (apart_bag B18 hT' hown9 ?hv ?hd (by omega)).mono ?_)
    case hv =>
      intro v hv
      simp only [List.map_cons, List.map_nil, List.cons_append, List.nil_append, List.mem_cons, List.not_mem_nil, or_false] at hv
      rcases hv with rfl | rfl | rfl | rfl
      · exact .inr ⟨_, List.mem_of_getElem? (i := 1) rfl, _, _, rfl, Nat.le_refl _, by simp [payB, hpl], by omega⟩
      · exact .inr ⟨_, List.mem_of_getElem? (i := 0) rfl, _, _, rfl, Nat.le_refl _, by simp [payB, hpl], by omega⟩
      · exact .inr ⟨_, List.mem_of_getElem? (i := 3) rfl, _, _, rfl, Nat.le_refl _, by simp [spareR_length, overB_length, hxl], by omega⟩
      · exact .inr ⟨_, List.mem_of_getElem? (i := 2) rfl, _, _, rfl, Nat.le_refl _, by simp [spareR_length, overB_length, hul], by omega⟩
    case hd =>
      simp [payB, paysOf] at hnd
      simp [Value.ownBlock, sl32]
      omega
    rintro e w20 ⟨rfl, hl20, _⟩
    go_wp2_with fail
    go_ret
    exact ⟨rfl, hl20⟩
end Go.Proofs.Ytjohieongjnemaa
