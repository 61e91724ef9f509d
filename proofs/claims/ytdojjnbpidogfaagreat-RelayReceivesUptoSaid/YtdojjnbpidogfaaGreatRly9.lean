/-
  RelayReceives: its walk.
-/
import Derived.Test.YtdojjnbpidogfaaGreatRly8
namespace Go.Proofs.YtdojjnbpidogfaaGreat
open Go.RowKit
open Go.BigFrame

section
variable {ops : Array Oper} {rest : List Oper} {o : Oper} {a : Act}
theorem makes_part (hw : Region.wanted o (yielded ops a.tmps) = true) (ho : o.op = .alloc 86) :
    Makes Tryz.prog ops o (fun g => .pointer (some ⟨g, 0, none⟩)) (.cells pz0.toArray 86) a :=
  ⟨hw, fun w => by
    unfold execOp
    rw [ho]
    simp [go_sem]⟩
end
theorem recB_small (k p : List UInt8) (hp : p.length = 768) : (recB k p).length ≤ 480 := by
  unfold recB
  split
  · exact unwB_small k p hp
  · simp
theorem rec_err {k p : List UInt8} (h : recE k p ≠ 0) : recC k p = cmd0 ∧ recB k p = [] :=
  ⟨by rw [recC, if_neg h], by rw [recB, if_neg h]⟩
set_option maxRecDepth 100000 in
set_option maxHeartbeats 4000000 in
theorem relayReceives_walk (A B : Option Addr) (n c m d : Nat) (k p : List UInt8) (w : World) (hk : RdB w A n k) (hn : n ≤ 1048576) (hp : RdB w B m p) (hm : m ≤ 1048576) (hd : m ≤ d) :
    Calls Tryz.prog 7 #[.slice A n c, .slice B m d] w fun e w' => e = .returned (.bool true) ∧ Later w w' := by
  by_cases h768 : m = 768
  · subst h768
    have hpl := hp.len
    have HZ := hid zcP
    have HZp := hid zcPe
    have l0 : ((List.replicate 768 (0 : UInt8)).map W8).length = 768 := by rw [List.length_map, List.length_replicate]
    have hPa := hid (fun (w : World) h => parse15_any B d p w h)
    have hCo := hid (fun (w : World) h => copy_any A n c k w h (by omega))
    have hU := hid (fun (w : World) A' c' h => rrecv_any A' n c' k p w h (by omega) hpl)
    have hR := hid (fun (w : World) h1 h2 => rrecv_ref A B n c d k p w h1 (by omega) h2 hd)
    have hEr := hid (fun h => rec_err (k := k) (p := p) h)
    have hBs := recB_small k p hpl
    have hPs := recP_small k p hpl
    have hzl : (PC cmd0 z768 nil8).length = 789 := PC_length _ z768_length _
    have z768l := z768_length
    have hz0 : re0.length = 22 := rfl
    generalize List.replicate 768 (0 : UInt8) = Z at *
    generalize recE k p = UE at *
    generalize recC k p = UC at *
    generalize recB k p = UB at *
    generalize recP k p = UP at *
    go_enter Tryz.func7, Tryz.ntmps7
    go_wp2_with fail
    (with_reducible refine (awake15 _).mono ?_); rintro e w1 ⟨rfl, j1⟩
    go_wp2_with fail
    (refine (hPa.out _ (hp.later j1)).mono ?_); rintro e w2 ⟨rfl, j2⟩
    have C0 := ((Bag.none w).later j1).later j2
    go_wp2_with (first
      | (refine store_Pk rfl rfl _ _ rfl ((Blk.new w2 _ Tryz.zeroCells40.toList).cast HZ.out) rfl rfl hpl l0 ?_; intro w3 hb3 ho3
         have C1 := C0.push (later_alloc _ _) (Nat.le_refl _) ho3 hb3)
      | fail)
    have C2 := C1.drew
    clear C0 C1 hb3 ho3 j1 j2
    refine wp_region_makers [0, 2] [([], 1, 1), ([], 1, 3), ([4, 5, 6, 7], 2, 8), ([], 2, 9)] [] [10, 11, 12] [8, 9] (fun i => if i = 8 then (fun g => .pointer (some ⟨g, 0, none⟩), .cells pz0.toArray 86) else (fun g => .pointer (some ⟨g, 0, none⟩), .cells Tryz.zeroCells46 46)) (by as_aux_lemma => kernel_rfl) (by as_aux_lemma => kernel_rfl) (by intro _ _ d _ _ h; cases d <;> exact h) (by intro _ _ d _ _ h; cases d <;> exact h) ?_
    simp only [pick, List.getElem?_cons_succ, List.getElem?_cons_zero, Option.toList_some, List.cons_append, List.nil_append]
    repeat (first | go_big_quiet_skip | (go_big_quiet_want; (refine quiet_Y 0 768 _ rfl (C2.nth 0 rfl) rfl Tryz.underlying40 rfl size768 (subB_all _ _ hpl) hpl ?_); simp only [Act.put, List.setIfInBounds_toArray, List.set_cons_succ, List.set_cons_zero]; go_big_quiet_on) | (go_big_quiet_step (fail)))
    refine wpQuiet_nil ?_
    refine ⟨?mk, ?_⟩
    case mk =>
      refine ⟨fun o ho => ?_, fun o ho => ?_, trivial⟩
      all_goals
        simp only [List.getElem?_cons_succ, List.getElem?_cons_zero, Option.some.injEq] at ho
        subst ho
      · exact makes_part rfl rfl
      · exact makes_peel rfl rfl
    simp only [wpPartsM, pick, List.getElem?_cons_succ, List.getElem?_cons_zero, Option.toList_some, List.cons_append, List.nil_append, reduceIte, Option.bind_some]
    refine wpQuiet_nil ?_
    intro m1 j1
    go_wp2_with fail
    (refine (hCo.out _ (hk.later (C2.lat.trans j1))).mono ?_); rintro e m2 ⟨A2, c2, rfl, o2, j2⟩
    go_wp2_with fail
    try refine ⟨by first | assumption | exact later_drew _ | exact later_alloc _ _ | exact Later.refl _, ?_⟩
    try simp only [wpParts, pick, List.getElem?_cons_succ, List.getElem?_cons_zero, Option.toList_some, List.cons_append, List.nil_append]
    repeat (go_big_quiet_step (fail))
    refine wpQuiet_nil ?_
    intro m3 j3
    go_wp2_with fail
    (refine (hU.out _ _ _ (show OwnB m3 _ A2 n c2 k from own_later o2 j3).rd).mono ?_); rintro e m4 ⟨A4, c4, A5, c5, rfl, o4, o5, _, j4⟩
    go_wp2_with fail
    try refine ⟨by first | assumption | exact later_drew _ | exact later_alloc _ _ | exact Later.refl _, ?_⟩
    try simp only [wpParts, pick, List.getElem?_cons_succ, List.getElem?_cons_zero, Option.toList_some, List.cons_append, List.nil_append]
    repeat (go_big_quiet_step (fail))
    refine wpQuiet_nil ?_
    intro m5 g8 j5 hg8 _ hb8
    refine wpQuiet_nil ?_
    intro m6 g9 j6 hg9 hn9 hb9
    refine wpQuiet_nil ?_
    intro m7 j7
    simp only [Act.put, List.setIfInBounds_toArray, List.set_cons_succ, List.set_cons_zero]
    have hne : g8 ≠ g9 := fun e => hn9 (.inl e.symm)
    have hX : Blk m7 g8 86 pz0 := Blk.later (show Blk m5 g8 _ _ from hb8) (j6.trans j7)
    have hY : Blk m7 g9 46 (PC cmd0 z768 nil8) := (Blk.later (show Blk m6 g9 _ Tryz.zeroCells46.toList from hb9) j7).cast HZp.out
    have jj := ((j1.trans j2).trans (j3.trans j4)).trans ((j5.trans j6).trans j7)
    have o6 := own_later o4 ((j5.trans j6).trans j7)
    have o7 := own_later o5 ((j5.trans j6).trans j7)
    have gl8 : w3.drew.heap.size ≤ g8 := by have := hg8; simpa using this
    have gl9 : w3.drew.heap.size ≤ g9 := by have := hg9; simpa using this
    have Ca := C2.add jj (k := g8) (fun p hp e => by have := (C2.blk p hp).lt; omega) (by have := C2.lat.size; omega) hX
    have Cb := Ca.add (Later.refl m7) (k := g9) (fun p hp e => by
      rcases List.mem_cons.1 hp with rfl | hp
      · exact hne e.symm
      · have := (C2.blk p hp).lt
        omega) (by have := C2.lat.size; omega) hY
    clear hb8 hb9 j1 j2 j3 j4 j5 j6 j7 hn9 o2 o4 o5 hU jj Ca C2
    go_wp2_with (first
      | (refine store_Pa rfl rfl _ _ rfl (Cb.nth 1 rfl) rfl rfl rfl rfl ?_; intro m8 hb8 ho8
         have Cc := Cb.write 1 rfl ho8 hb8
         have p6 := own_onlyK o6 (Cb.nth 1 rfl) (by decide) ho8
         have p7 := own_onlyK o7 (Cb.nth 1 rfl) (by decide) ho8)
      | (refine store_PC rfl rfl _ _ rfl (Cc.nth 0 rfl) rfl rfl z768l rfl hzl ?_; intro m9 hb9 ho9
         have C3 := Cc.write 0 rfl ho9 hb9
         have q6 := own_onlyK p6 (Cc.nth 0 rfl) (by decide) ho9
         have q7 := own_onlyK p7 (Cc.nth 0 rfl) (by decide) ho9)
      | fail)
    (refine (hR.out _ (hk.later C3.lat) (hp.later C3.lat)).mono ?_); rintro e w8 ⟨A8, c8, A9, c9, A10, c10, rfl, o8, o9, j8⟩
    have Cd := (C3.later j8).fresh (later_alloc w8 (.cells pz0.toArray 86)) (Nat.le_refl _) (Blk.new w8 _ pz0)
    have Ce := Cd.add (later_alloc _ (.cells re0.toArray 30)) (k := w8.heap.size + 1) (fun q hq e => by
      have := (Cd.blk q hq).lt
      simp at this
      omega) (by have := (C3.later j8).lat.size; omega) (Blk.new' _ _ re0 (by simp))
    have jn := (later_alloc w8 (.cells pz0.toArray 86)).trans (later_alloc _ (.cells re0.toArray 30))
    have r6 := own_later (own_later q6 j8) jn
    have r7 := own_later (own_later q7 j8) jn
    have r8 := own_later o8 jn
    have r9 := own_later o9 jn
    clear o8 o9 j8 jn C3 Cd Cb Cc q6 q7 p6 p7 o6 o7 hX hY hb8 ho8 hb9 ho9
    go_wp2_with (first
      | (refine store_Pa rfl rfl _ _ rfl (Ce.nth 1 rfl) rfl rfl rfl rfl ?_; intro w9 hb9 ho9
         have Cf := Ce.write 1 rfl ho9 hb9
         have s6 := own_onlyK r6 (Ce.nth 1 rfl) (by decide) ho9
         have s7 := own_onlyK r7 (Ce.nth 1 rfl) (by decide) ho9
         have s8 := own_onlyK r8 (Ce.nth 1 rfl) (by decide) ho9
         have s9 := own_onlyK r9 (Ce.nth 1 rfl) (by decide) ho9)
      | (refine store_RC rfl rfl _ _ rfl (Cf.nth 0 rfl) rfl rfl rfl rfl hz0 ?_; intro w10 hb10 ho10
         have Cg := Cf.write 0 rfl ho10 hb10
         have t6 := own_onlyK s6 (Cf.nth 0 rfl) (by decide) ho10
         have t7 := own_onlyK s7 (Cf.nth 0 rfl) (by decide) ho10
         have t8 := own_onlyK s8 (Cf.nth 0 rfl) (by decide) ho10
         have t9 := own_onlyK s9 (Cf.nth 0 rfl) (by decide) ho10)
      | (refine load_Pa rfl _ rfl (Cg.nth 1 rfl) rfl ?_)
      | (refine load_Pa rfl _ rfl (Cg.nth 3 rfl) rfl ?_)
      | fail)
    (refine (samepart_ok UP A4 A8 _ c4 c8 _ (own_rd t6) (own_rd t8) (by omega)).mono ?_); rintro e w11 ⟨rfl, j11⟩
    have Ch := Cg.later j11
    have u7 := own_later t7 j11
    have u9 := own_later t9 j11
    clear r6 r7 r8 r9 s6 s7 s8 s9 t6 t7 t8 t9 Ce Cf Cg hb9 hb10 ho9 ho10 j11
    by_cases h0 : UE = 0
    · have e0 : ((UE : Int) != 0) = false := by simp [h0]
      have e1 : ((UE : Int) == 0) = true := by simp [h0]
      clear h0 hEr
      go_wp2_with (first
        | (refine load_PC rfl _ rfl (Ch.nth 2 rfl) z768l rfl ?_)
        | (refine wpList_load_at rfl 30 _ rfl (w8.heap.size + 1) 0 (RCc UC (.slice A10 0 c10) (.slice A9 UB.length c9)) (fun j v hv => (Ch.nth 0 rfl).cellD _ (all_cells _ j v hv)) rfl _ Tryz.underlying30 rfl (by rw [RCc_length]; exact size22) ?_)
        | fail)
      (refine (is15_ok UC z768 [] UB A5 A9 A10 _ _ _ 0 _ _ z768l (own_rd u7) (own_rd u9) (by omega) ⟨rfl, fun h => absurd h (by omega)⟩ (.inl ⟨rfl, rfl⟩)).mono ?_); rintro e w12 ⟨rfl, j12⟩
      go_wp2
      go_ret
      exact ⟨rfl, Ch.lat.trans j12⟩
    · have e0 : ((UE : Int) != 0) = true := by simp; omega
      have e1 : ((UE : Int) == 0) = false := by simp; omega
      have hN := hid (none_of ⟨(hEr.out h0).1, rfl, (hEr.out h0).2⟩ A5 c5)
      clear h0 hEr
      go_wp2_with (first
        | (refine load_PC rfl _ rfl (Ch.nth 2 rfl) z768l rfl ?_)
        | fail)
      (refine (hN.out _).mono ?_); rintro e w12 ⟨rfl, j12⟩
      go_wp2
      go_ret
      exact ⟨rfl, Ch.lat.trans j12⟩
  · have hne : ((m : Int) != 768) = true := by simp; omega
    go_enter Tryz.func7, Tryz.ntmps7
    go_wp2_with fail
    (with_reducible refine (awake15 _).mono ?_); rintro e w1 ⟨rfl, j1⟩
    go_wp2
    go_ret
    exact ⟨rfl, j1⟩
end Go.Proofs.YtdojjnbpidogfaaGreat

