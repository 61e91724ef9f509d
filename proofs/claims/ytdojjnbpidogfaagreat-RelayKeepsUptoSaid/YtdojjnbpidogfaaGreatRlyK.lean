/-
  RelayKeeps: its walk.
-/
import Derived.Test.YtdojjnbpidogfaaGreatRly5
import Derived.Test.YtdojjnbpidogfaaGreatRly7
import Derived.Test.YtdojjnbpidogfaaGreatEnts
namespace Go.Proofs.YtdojjnbpidogfaaGreat
open Go.RowKit
open Go.BigFrame

theorem own_ent {w : World} {base n c : Nat} {A : Option Addr} {bs : List UInt8} (h : OwnB w base A n c bs) (hn : n ≤ 1099511627776) : ∃ e : Ent, slE e = .slice A n c ∧ okE e ∧ ∀ p, blE e = some p → base ≤ p.1 ∧ Blk w p.1 p.2.1 p.2.2 := by
  rcases h.2 with ⟨hv, _⟩ | ⟨g, cap, cur, hv, hb, hh, hc, _, hs, _⟩
  · exact ⟨none, hv.symm, trivial, fun p hp => by cases hp⟩
  · injection hv with h1 h2 h3
    subst h1 h3
    refine ⟨some (g, n, c, cur.toList), rfl, ⟨hc, by simpa using Nat.le_of_eq hs.symm, hn⟩, fun p hp => ?_⟩
    cases hp
    exact ⟨hb, hh⟩
theorem Bag.perm' {w wk : World} {ls ls' : List (Nat × TypeId × List Value)} (h : Bag w wk ls) (p : ls.Perm ls') : Bag w wk ls' :=
  ⟨h.lat, fun x hx => h.blk x (p.mem_iff.2 hx), fun x hx => h.low x (p.mem_iff.2 hx), (p.map _).nodup_iff.1 h.nd⟩
/-- One more list behind the others. -/
theorem Bag.addEnt {w wk v : World} {bx es : List (Nat × TypeId × List Value)} (h : Bag w wk (bx ++ es)) (j : Later wk v) (e : Ent) (he : ∀ p, blE e = some p → wk.heap.size ≤ p.1 ∧ Blk v p.1 p.2.1 p.2.2) : Bag w v (bx ++ ((blE e).toList ++ es)) := by
  cases hb : blE e with
  | none => exact h.later j
  | some p =>
    obtain ⟨h1, h2⟩ := he p hb
    have := h.fresh (k := p.1) (t := p.2.1) (l := p.2.2) j h1 h2
    exact this.perm' List.perm_middle.symm
/-- Two more, the one made behind the other. -/
theorem Bag.addTwo {w wk v : World} {bx es : List (Nat × TypeId × List Value)} (h : Bag w wk (bx ++ es)) (j : Later wk v) (e f : Ent) (he : ∀ p, blE e = some p → wk.heap.size ≤ p.1 ∧ Blk v p.1 p.2.1 p.2.2) (hf : ∀ p, blE f = some p → wk.heap.size ≤ p.1 ∧ Blk v p.1 p.2.1 p.2.2)
    (hd : Behind (slE f) (slE e)) : Bag w v (bx ++ ((blE f).toList ++ ((blE e).toList ++ es))) := by
  have h1 := h.addEnt j e he
  cases hb : blE f with
  | none => exact h1
  | some p =>
    obtain ⟨h2, h3⟩ := hf p hb
    have hne : ∀ q ∈ bx ++ ((blE e).toList ++ es), p.1 ≠ q.1 := by
      intro q hq heq
      rcases List.mem_append.1 hq with hq | hq
      · have := (h.blk q (List.mem_append_left _ hq)).lt
        omega
      · rcases List.mem_append.1 hq with hq | hq
        · have hq' : blE e = some q := by simpa using hq
          have := hd p.1 q.1 (by rw [slE_block, hb]; rfl) (by rw [slE_block, hq']; rfl)
          omega
        · have := (h.blk q (List.mem_append_right _ hq)).lt
          omega
    have := h1.add (k := p.1) (t := p.2.1) (l := p.2.2) (Later.refl v) hne (Nat.le_trans h.lat.size h2) h3
    exact this.perm' List.perm_middle.symm
theorem Bag.ents {w wk : World} {bx es : List (Nat × TypeId × List Value)} (h : Bag w wk (bx ++ es)) : Bag w wk es := h.sub (List.sublist_append_right _ _)
theorem fm_cons (e : Ent) (es : List Ent) : (e :: es).filterMap blE = (blE e).toList ++ es.filterMap blE := by
  rw [List.filterMap_cons]
  cases blE e <;> rfl
theorem ents_perm (f e1 e3 e4 e2 : Ent) {p : Nat × TypeId × List Value} (hf : blE f = some p) : ([f, e1, e3, e4, e2].filterMap blE).Perm ((blE e4).toList ++ ((blE e3).toList ++ ((blE e2).toList ++ ((blE e1).toList ++ [p])))) := by
  rw [fm_cons, fm_cons, fm_cons, fm_cons, fm_cons, List.filterMap_nil, List.append_nil, hf]
  generalize (blE e1).toList = A1
  generalize (blE e2).toList = A2
  generalize (blE e3).toList = A3
  generalize (blE e4).toList = A4
  show (p :: (A1 ++ (A3 ++ (A4 ++ A2)))).Perm _
  have h1 : (A1 ++ (A3 ++ (A4 ++ A2))).Perm (A4 ++ (A3 ++ (A2 ++ A1))) :=
    ((List.perm_append_comm_assoc A3 A4 A2).append_left A1).trans ((List.perm_append_comm_assoc A1 A4 (A3 ++ A2)).trans (((List.perm_append_comm_assoc A1 A3 A2).trans (List.perm_append_comm.append_left A3)).append_left A4))
  have h2 : (p :: (A4 ++ (A3 ++ (A2 ++ A1)))).Perm ((A4 ++ (A3 ++ (A2 ++ A1))) ++ [p]) := (List.perm_append_singleton _ _).symm
  refine ((h1.cons p).trans h2).trans (List.Perm.of_eq ?_)
  simp only [List.append_assoc]
theorem pelE_one (k : List UInt8) (q : Y768) : pelE [k] q = unwE k q.val := by
  rw [pelE]
  split
  · rename_i h
    rw [h]
    split <;> rfl
  · rfl
set_option maxRecDepth 100000 in
set_option maxHeartbeats 8000000 in
theorem relayKeeps_walk (A B : Option Addr) (n c m d : Nat) (k p : List UInt8) (w : World) (hk : RdB w A n k) (hn : n ≤ 1048576) (hp : RdB w B m p) (hm : m ≤ 1048576) (hd : m ≤ d) :
    Calls Tryz.prog 8 #[.slice A n c, .slice B m d] w fun e w' => e = .returned (.bool true) ∧ Later w w' := by
  by_cases h768 : m = 768
  · subst h768
    have hpl := hp.len
    have hkl := hk.len
    obtain ⟨q, rfl⟩ : ∃ q : Y768, q.val = p := ⟨⟨p, hpl⟩, rfl⟩
    have HZ := hid zcP
    have HZp := hid zcPe
    have l0 : ((List.replicate 768 (0 : UInt8)).map W8).length = 768 := by rw [List.length_map, List.length_replicate]
    generalize List.replicate 768 (0 : UInt8) = Z at *
    have hPa := hid (fun (w : World) h => parse15_any B d q.val w h)
    have hSp := hid (fun (w : World) h => spare_any A n c k w h (by omega))
    rw [spareB_map] at hSp
    have hU := hid (fun (w : World) A' c' h => unwrap_any A' n c' k q.val w h (by omega) hpl)
    have hRe := hid (fun (w : World) A' c' h => rrecv_any A' n c' k q.val w h (by omega) hpl)
    have hPe := hid (fun (w : World) B' h => rpeel_any B' 1 1 [k] q w h (by omega) (by intro x hx; rw [List.mem_singleton.1 hx]; omega))
    rw [pelE_one] at hPe
    have hBy := hid (fun (w : World) => pbytes_any q.val hpl w)
    have hEq := hid (fun (w : World) A' c' h1 h2 => equal_any A' B 768 768 c' d q.val q.val w h1 h2 (by omega) (by omega))
    rw [decide_eq_true rfl] at hEq
    have hKp := hid (fun (w : World) g h1 h2 => kept_true (some ⟨g, 0, none⟩) A n (n + 40) c k w h1 h2 (by omega))
    have hPl := unwP_length k q.val hpl
    have hB1 := unwB_small k q.val hpl
    have hB3 : (recB k q.val).length ≤ 480 := by
      unfold recB
      split
      · exact hB1
      · simp
    have hB4 := recP_small k q.val hpl
    have hYs := hid (pelL_small [k] q)
    have hYl := pelL_length [k] q
    have hzl : (PC cmd0 z768 nil8).length = 789 := PC_length _ z768_length _
    have z768l := z768_length
    generalize unwE k q.val = UE at *
    generalize unwC k q.val = UC at *
    generalize unwP k q.val = UP at *
    generalize unwB k q.val = UB at *
    generalize recE k q.val = RE at *
    generalize recC k q.val = RC at *
    generalize recB k q.val = RB at *
    generalize recP k q.val = RP at *
    generalize pelL [k] q = YS at *
    go_enter Tryz.func8, Tryz.ntmps8
    go_wp2_with fail
    (with_reducible refine (awake15 _).mono ?_); rintro e w1 ⟨rfl, j1⟩
    go_wp2_with fail
    (refine (hSp.out _ (hk.later j1)).mono ?_); rintro e w2 ⟨rfl, hb2, j2⟩
    have C2 : Bag w w2 ([] ++ [(w1.heap.size, 5, k.map W8 ++ spareR k)]) := ((Bag.none w).later j1).fresh j2 (Nat.le_refl _) hb2
    clear hb2 j1 j2
    go_wp2_with fail
    (refine (hPa.out _ (hp.later C2.lat)).mono ?_); rintro e w3 ⟨rfl, j3⟩
    have C3 := C2.later j3
    go_wp2_with (first
      | (refine store_Pk rfl rfl _ _ rfl ((Blk.new w3 _ Tryz.zeroCells40.toList).cast HZ.out) rfl rfl hpl l0 ?_; intro w4 hb4 ho4
         have C4 : Bag w w4 ([(w3.heap.size, 40, q.val.map W8)] ++ [(w1.heap.size, 5, k.map W8 ++ spareR k)]) := C3.push (later_alloc _ _) (Nat.le_refl _) ho4 hb4)
      | (refine load_Pk rfl _ rfl (C4.nth 0 rfl) hpl rfl ?_)
      | fail)
    (refine (hU.out _ _ _ (blk_rdB_app (C4.nth 1 rfl) hkl)).mono ?_); rintro e w5 ⟨A5, c5, rfl, o5, j5⟩
    obtain ⟨e1, he1, hk1, hb1⟩ := own_ent o5 (by omega)
    have C5 := C4.addEnt j5 e1 (fun p hp => ⟨by have := (hb1 p hp).1; omega, (hb1 p hp).2⟩)
    clear C2 C3 C4 o5 j5 hb1 j3 hb4 ho4
    have hfm : ∀ ls : List (Nat × TypeId × List Value), (w1.heap.size, 5, k.map W8 ++ spareR k) ∈ ls ++ [(w1.heap.size, 5, k.map W8 ++ spareR k)] := fun ls => by simp
    go_wp2_with (first
      | (refine store_PC rfl rfl _ _ rfl ((Blk.new w5 _ Tryz.zeroCells46.toList).cast HZp.out) rfl rfl hPl rfl hzl ?_; intro w6 hb6 ho6
         have C6 : Bag w w6 ([(w5.heap.size, 46, PC UC UP (.slice A5 UB.length c5)), (w3.heap.size, 40, q.val.map W8)] ++ ((blE e1).toList ++ [(w1.heap.size, 5, k.map W8 ++ spareR k)])) := C5.push (later_alloc _ _) (Nat.le_refl _) ho6 hb6)
      | (refine load_Pk rfl _ rfl (C6.nth 1 rfl) hpl rfl ?_)
      | fail)
    have C6a := C6.later (later_alloc w6 (.cells #[.slice (some ⟨w1.heap.size, 0, none⟩) n (n + 40)] 22))
    have P6 := parts_blk1 (Blk.new w6 22 [.slice (some ⟨w1.heap.size, 0, none⟩) n (n + 40)]) (part_rd (blk_rdB_app (C6a.blk (w1.heap.size, 5, k.map W8 ++ spareR k) (by simp)) hkl) (by omega))
    (refine (hPe.out _ _ P6).mono ?_); rintro e w7 ⟨A7, c7, xs, rfl, o7, row7, j7⟩
    have hxl := row7.len
    clear P6 hPe hU C5 C6 hb6 ho6
    have hx1 : xs.length ≤ 1 := by have : [k].length = 1 := rfl; omega
    obtain ⟨e2, hE2, hE3⟩ : ∃ e2 : Ent, (okE e2 ∧ ∀ p, blE e2 = some p → (w6.alloc (.cells #[.slice (some ⟨w1.heap.size, 0, none⟩) n (n + 40)] 22)).heap.size ≤ p.1 ∧ Blk w7 p.1 p.2.1 p.2.2) ∧ ((xs = [] ∧ e2 = none) ∨ ∃ x0, xs = [x0] ∧ slE e2 = .slice x0.A x0.n x0.cp) := by
      cases xs with
      | nil => exact ⟨none, ⟨trivial, fun p hp => by cases hp⟩, .inl ⟨rfl, rfl⟩⟩
      | cons x0 xs' =>
        cases xs' with
        | cons _ _ => simp at hx1
        | nil =>
          have hy : 0 < YS.length := by rw [← hxl]; simp
          obtain ⟨_, _, hn0, ho⟩ := PelRow.at_ 0 row7 hy
          obtain ⟨e, h1, h2, h3⟩ := own_ent ho (by have := getD_small hYs.out 0 hy; rw [hn0]; omega)
          exact ⟨e, ⟨h2, h3⟩, .inr ⟨x0, rfl, h1⟩⟩
    have C7 := C6a.addEnt j7 e2 hE2.2
    have hk2 := hE2.1
    clear hE2 row7 hxl hx1 C6a j7 hYs hYl
    have hkE : okE (some (w1.heap.size, n + 40, n + 40, k.map W8 ++ spareR k)) := ⟨Nat.le_refl _, by rw [List.length_append, List.length_map, hkl, spareR_length]; omega, by omega⟩
    rcases hE3 with ⟨rfl, rfl⟩ | ⟨x0, rfl, hs2⟩
    all_goals
      go_wp2_with (first
        | (refine load_Pk rfl _ rfl (C7.nth 1 rfl) hpl rfl ?_)
        | fail)
      (refine (hRe.out _ _ _ (blk_rdB_app (C7.blk (w1.heap.size, 5, k.map W8 ++ spareR k) (by simp)) hkl)).mono ?_); rintro e w8 ⟨A8, c8, A9, c9, rfl, oP, oB, hbeh, j8⟩
      obtain ⟨e3, he3, hk3, hb3⟩ := own_ent oB (by omega)
      obtain ⟨e4, he4, hk4, hb4⟩ := own_ent oP (by omega)
      have C8 := C7.addTwo j8 e3 e4 hb3 hb4 (by rw [he3, he4]; exact hbeh)
      have o8 := own_laterK o7 j8
      have hx8 : ∀ b, (Value.slice A7 _ c7).ownBlock = some b → b < w8.heap.size := fun b hb => (World.ownsRow.lt o8 b hb).2
      have Ca := C8.fresh (later_alloc w8 (.cells pz0.toArray 86)) (Nat.le_refl _) (Blk.new w8 _ pz0)
      have Cb := Ca.add (later_alloc _ (.cells Tryz.zeroCells46 46)) (k := w8.heap.size + 1) (fun q hq e => by
        have := (Ca.blk q hq).lt
        simp at this
        omega) (by have := C8.lat.size; omega) ((Blk.new' _ _ Tryz.zeroCells46.toList (by simp)).cast HZp.out)
      have o9 := own_laterK o8 ((later_alloc w8 (.cells pz0.toArray 86)).trans (later_alloc _ (.cells Tryz.zeroCells46 46)))
      clear hb3 hb4 hbeh oP oB C7 C8 Ca o7 o8 j8 hRe
      go_wp2_with (first
        | (refine store_Pa rfl rfl _ _ rfl (Cb.nth 1 rfl) rfl rfl rfl rfl ?_; intro w9 hb9 ho9
           have Cc := Cb.write 1 rfl ho9 hb9
           have oA := own_onlyN o9 ho9 (fun b hb => Nat.ne_of_lt (hx8 b hb)))
        | (refine store_PC rfl rfl _ _ rfl (Cc.nth 0 rfl) rfl rfl z768l rfl hzl ?_; intro w10 hb10 ho10
           have Cd := Cc.write 0 rfl ho10 hb10
           have oC := own_onlyN oA ho10 (fun b hb => by have := hx8 b hb; omega))
        | fail)
      (refine (hKp.out _ _ (spare_all (Cd.blk (w1.heap.size, 5, k.map W8 ++ spareR k) (by simp)) hkl) (hk.later Cd.lat)).mono ?_); rintro e w11 ⟨rfl, j11⟩
      have Ce := Cd.later j11
      have oE := own_laterK oC j11
      clear hb9 ho9 hb10 ho10 Cb Cc Cd o9 oA oC j11 hKp
      go_wp2_with (first
        | (refine load_Pk rfl _ rfl (Ce.nth 3 rfl) hpl rfl ?_)
        | fail)
      (refine (hBy.out _).mono ?_); rintro e w12 ⟨A12, c12, rfl, o12, j12⟩
      go_wp2_with fail
      (refine (hEq.out _ _ _ o12.rd (hp.later (Ce.lat.trans j12))).mono ?_); rintro e w13 ⟨rfl, j13⟩
      have Cf := (Ce.later j12).later j13
      have oF := own_laterK (own_laterK oE j12) j13
      clear o12 j12 j13 Ce oE hEq hBy
      have x1 := (Cf.nth 2 rfl).cellD 788 (PC_body _ hPl _)
      have x3 := (Cf.nth 0 rfl).cellD 788 (PC_body _ z768l _)
      have x4 := (prt_cells (Cf.nth 1 rfl)).2.2.2.2
      have y1 := (Cf.nth 2 rfl).lt
      have y3 := (Cf.nth 0 rfl).lt
      have y4 := (Cf.nth 1 rfl).lt
    · have hv : ([.slice (some ⟨w1.heap.size, 0, none⟩) (n + 40) (n + 40), .slice A5 UB.length c5, .slice A9 RB.length c9, .slice A8 RP.da.length c8] : List Value) = ([some (w1.heap.size, n + 40, n + 40, k.map W8 ++ spareR k), e1, e3, e4] : List Ent).map slE := by
        simp only [List.map_cons, List.map_nil, he1, he3, he4]
        rfl
      have own := own_new w13 22 [.slice (some ⟨w1.heap.size, 0, none⟩) (n + 40) (n + 40), .slice A5 UB.length c5, .slice A9 RB.length c9, .slice A8 RP.da.length c8] (by simp)
      have Cg : Bag w w13 ([(w8.heap.size + 1, 46, PC RC z768 (.slice A9 RB.length c9)), (w8.heap.size, 86, PaC RP (.slice A8 RP.da.length c8)), (w5.heap.size, 46, PC UC UP (.slice A5 UB.length c5)), (w3.heap.size, 40, q.val.map W8)] ++ ((blE e4).toList ++ ((blE e3).toList ++ ((blE none).toList ++ ((blE e1).toList ++ [(w1.heap.size, 5, k.map W8 ++ spareR k)]))))) := Cf
      have C9 := (Cg.later (later_alloc w13 (.cells ([.slice (some ⟨w1.heap.size, 0, none⟩) (n + 40) (n + 40), .slice A5 UB.length c5, .slice A9 RB.length c9, .slice A8 RP.da.length c8] : List Value).toArray 22))).ents
      have hPm := ents_perm (some (w1.heap.size, n + 40, n + 40, k.map W8 ++ spareR k)) e1 e3 e4 none rfl
      go_wp2_with fail
      have own' : (w13.alloc (.cells ([.slice (some ⟨w1.heap.size, 0, none⟩) (n + 40) (n + 40), .slice A5 UB.length c5, .slice A9 RB.length c9, .slice A8 RP.da.length c8] : List Value).toArray 22)).ownsRow w13.heap.size 22 1 (.slice (some ⟨w13.heap.size, 0, none⟩) 4 4) 4 (([some (w1.heap.size, n + 40, n + 40, k.map W8 ++ spareR k), e1, e3, e4] : List Ent).map slE) := by rw [← hv]; exact own
      (refine (apart_ents C9 [some (w1.heap.size, n + 40, n + 40, k.map W8 ++ spareR k), e1, e3, e4] hPm (by intro e he; simp only [List.mem_cons, List.not_mem_nil, or_false] at he; rcases he with rfl | rfl | rfl | rfl <;> assumption) own' (by omega)).mono ?_); rintro e w14 ⟨rfl, j14, _⟩
      go_wp2_with fail
      go_ret
      exact ⟨rfl, j14⟩
    · obtain ⟨g7, l7, hA7, hb7, hc7, hv7⟩ := row_at VC_length pelv0 oF rfl (k := 0) (by simp)
      have x2 := hb7.cellD 788 (u := .slice x0.A x0.n x0.cp) (by have := hv7 788 _ (PC_body _ x0.P.2 _); simpa using this)
      have y2 := hb7.lt
      subst hA7
      clear hv7 hb7 oF
      have hv : ([.slice (some ⟨w1.heap.size, 0, none⟩) (n + 40) (n + 40), .slice A5 UB.length c5, .slice A9 RB.length c9, .slice A8 RP.da.length c8] ++ [.slice x0.A x0.n x0.cp] : List Value) = ([some (w1.heap.size, n + 40, n + 40, k.map W8 ++ spareR k), e1, e3, e4, e2] : List Ent).map slE := by
        simp only [List.map_cons, List.map_nil, he1, he3, he4, hs2]
        rfl
      have own := own_new w13 22 [.slice (some ⟨w1.heap.size, 0, none⟩) (n + 40) (n + 40), .slice A5 UB.length c5, .slice A9 RB.length c9, .slice A8 RP.da.length c8] (by simp)
      have jA := later_alloc w13 (.cells ([.slice (some ⟨w1.heap.size, 0, none⟩) (n + 40) (n + 40), .slice A5 UB.length c5, .slice A9 RB.length c9, .slice A8 RP.da.length c8] : List Value).toArray 22)
      have hPm := ents_perm (some (w1.heap.size, n + 40, n + 40, k.map W8 ++ spareR k)) e1 e3 e4 e2 rfl
      have Cg : Bag w w13 ([(w8.heap.size + 1, 46, PC RC z768 (.slice A9 RB.length c9)), (w8.heap.size, 86, PaC RP (.slice A8 RP.da.length c8)), (w5.heap.size, 46, PC UC UP (.slice A5 UB.length c5)), (w3.heap.size, 40, q.val.map W8)] ++ ((blE e4).toList ++ ((blE e3).toList ++ ((blE e2).toList ++ ((blE e1).toList ++ [(w1.heap.size, 5, k.map W8 ++ spareR k)]))))) := Cf
      have jB := jA.trans (later_alloc _ (.cells #[.slice x0.A x0.n x0.cp] 22))
      have C9 := (Cg.later jB).ents
      have own2 := own_later own (later_alloc _ (.cells #[.slice x0.A x0.n x0.cp] 22))
      have hnw : Rd ((w13.alloc (.cells ([.slice (some ⟨w1.heap.size, 0, none⟩) (n + 40) (n + 40), .slice A5 UB.length c5, .slice A9 RB.length c9, .slice A8 RP.da.length c8] : List Value).toArray 22)).alloc (.cells #[.slice x0.A x0.n x0.cp] 22)) (some ⟨w13.heap.size + 1, 0, none⟩) 1 [.slice x0.A x0.n x0.cp] := (Blk.new' _ _ [_] (by simp)).rd rfl
      have hty : ∀ p ∈ ((blE e4).toList ++ ((blE e3).toList ++ ((blE e2).toList ++ ((blE e1).toList ++ [(w1.heap.size, 5, k.map W8 ++ spareR k)])))), p.2.1 ≠ 22 := fun p hp => by
        rw [blE_type p (hPm.mem_iff.2 hp)]
        decide
      have hlo := Cg.lat.size
      go_wp2_with (first
        | (refine wpList_append_rd rfl _ _ _ rfl 22 _ 24 Tryz.underlying61 infoB rfl w13 _ 4 _ own2 jB _ 1 1 _ hnw (by intro u hu; rw [List.mem_singleton.1 hu]; rfl) rfl rfl (by omega) (by omega) ?_; intro A15 c15 w15 hown15 hl15 hg15 _
           have C10 := Bag.grown C9 own2 hty hlo hg15)
        | fail)
      rw [hv] at hown15
      (refine (apart_ents C10 [some (w1.heap.size, n + 40, n + 40, k.map W8 ++ spareR k), e1, e3, e4, e2] hPm (by intro e he; simp only [List.mem_cons, List.not_mem_nil, or_false] at he; rcases he with rfl | rfl | rfl | rfl | rfl <;> assumption) hown15 (by omega)).mono ?_); rintro e w16 ⟨rfl, j16, _⟩
      go_wp2_with fail
      go_ret
      exact ⟨rfl, j16⟩
  · have hne : ((m : Int) != 768) = true := by simp; omega
    go_enter Tryz.func8, Tryz.ntmps8
    go_wp2_with fail
    (with_reducible refine (awake15 _).mono ?_); rintro e w1 ⟨rfl, j1⟩
    go_wp2
    go_ret
    exact ⟨rfl, j1⟩
end Go.Proofs.YtdojjnbpidogfaaGreat

