/-
  The law WideKeeps, walked.
-/
import Derived.Test.YtjohieongjnemaaWideJ
import Derived.Test.YtjohieongjnemaaEnts
namespace Go.Proofs.Ytjohieongjnemaa
open Go.RowKit
open Go.BigFrame

theorem Bag.perm2 {w wk : World} {ls ls' : List (Nat × TypeId × List Value)} (h : Bag w wk ls) (p : ls.Perm ls') : Bag w wk ls' :=
  ⟨h.lat, fun q hq => h.blk q (p.mem_iff.2 hq), fun q hq => h.low q (p.mem_iff.2 hq), (p.map _).nodup_iff.1 h.nd⟩
/-- A row of the call's own, as an entry. -/
theorem ent_of {w : World} {base n c : Nat} {A : Option Addr} {L : List UInt8} (h : OwnB w base A n c L) (hn : n ≤ 1099511627776) :
    ∃ e : Ent, slE e = .slice A n c ∧ okE e ∧ isE L e ∧ ∀ p, blE e = some p → base ≤ p.1 ∧ Blk w p.1 p.2.1 p.2.2 := by
  have hl := h.len
  rcases h.2 with ⟨hv, h0⟩ | ⟨g, cap, cur, hv, hb, hh, hnc, hm, hs, ht⟩
  · cases hv
    exact ⟨none, rfl, trivial, List.eq_nil_of_length_eq_zero (by omega), fun p hp => by cases hp⟩
  · have hcur : cur.toList = L.map W8 ++ cur.toList.drop n := by
      rw [← show cur.toList.take n = L.map W8 by simpa using ht, List.take_append_drop]
    refine ⟨some (g, n, c, cur.toList), by rw [hv]; cases hv; rfl, ⟨?_, ?_, hn⟩, ⟨hl, _, hcur⟩, fun p hp => ?_⟩
    · cases hv; exact hnc
    · cases hv; simpa using Nat.le_of_eq hs.symm
    · cases hp
      exact ⟨hb, hh⟩
theorem Bag.ent {w wk v : World} {es : List Ent} (h : Bag w wk (es.filterMap blE)) (j : Later wk v) {e : Ent} (he : ∀ p, blE e = some p → wk.heap.size ≤ p.1 ∧ Blk v p.1 p.2.1 p.2.2) : Bag w v ((e :: es).filterMap blE) := by
  cases hb : blE e with
  | none =>
    rw [List.filterMap_cons_none hb]
    exact h.later j
  | some p =>
    rw [List.filterMap_cons_some hb]
    obtain ⟨h1, h2⟩ := he p hb
    exact h.fresh j h1 h2
def wideLs (k b : List UInt8) : List (List UInt8) := [wideB k b rsS, wideB k b rsO, wideB k b [], allB rsS [] b, allB rsO [k, k] b]
theorem wideB_small (key bs : List UInt8) (rs : List Int) : (wideB key bs rs).length ≤ 4096 := by
  by_cases h : okR rs ∧ fitW key bs
  · rw [wideB_fit h.1 h.2, foldW_length key rs bs h.2.2.1]; exact h.2.2.2
  · rw [show wideB key bs rs = [] by unfold wideB; split; (split; exact absurd ⟨by assumption, by assumption⟩ h; rfl); rfl]; exact Nat.zero_le _
theorem wideLs_small {k b : List UInt8} : ∀ p ∈ wideLs k b, p.length ≤ 140737488355328 := by
  intro p hp
  simp only [wideLs, List.mem_cons, List.not_mem_nil, or_false] at hp
  have h1 := wideB_small k b
  have h2 := fun rs ks => allB_small rs ks b
  rcases hp with rfl | rfl | rfl | rfl | rfl
  · have := h1 rsS; omega
  · have := h1 rsO; omega
  · have := h1 []; omega
  · have := h2 rsS []; omega
  · have := h2 rsO [k, k]; omega
set_option maxRecDepth 100000 in
set_option maxHeartbeats 4000000 in
theorem lists07_any (A B : Option Addr) (n c m d : Nat) (a b : List UInt8) (w : World) (hx : RdB w A n a) (hc : n ≤ c) (hy : RdB w B m b) (hd : m ≤ d) (hn : n ≤ 2097152) (hm : m ≤ 2097152) :
    Calls Try.prog 27 #[.slice A n c, .slice B m d] w fun e w' => ∃ (g : Nat) (es : List Ent), e = .returned (.slice (some ⟨g, 0, none⟩) 5 5) ∧ Bag w w' ((g, 22, es.map slE) :: es.filterMap blE) ∧ es.length = 5 ∧ (∀ e ∈ es, okE e) ∧
      ∀ (j : Nat) e L, es[j]? = some e → (wideLs a b)[j]? = some L → isE L e := by
  have h1 := hid (fun w g1 g2 => seal_wide A B n c m d a b w g1 hc g2 hd hn hm)
  have h2 := hid (fun w g1 g2 => open_wide A B n c m d a b w g1 hc g2 hd hn hm)
  have h3 := hid (fun w g1 g2 => rounds_wide A B none n c m d 0 0 a b [] w g1 hc g2 hd ⟨rfl, fun h => absurd h (by omega)⟩ hn hm (by omega))
  have h4 := hid (fun w g1 => sealAll_any none B m d 0 0 [] b w g1 hd ⟨[], ⟨rfl, fun h => absurd h (by omega)⟩, avoid_false _ _, rfl, fun j v p hv => by simp at hv⟩ hm (by omega))
  have h5 := hid (fun C e0 w g1 g2 => openAll_any C B m d 2 e0 [a, a] b w g1 hd g2 hm (by omega))
  have l1 := wideB_small a b rsS
  have l2 := wideB_small a b rsO
  have l3 := wideB_small a b []
  have l4 := allB_small rsS [] b
  have l5 := allB_small rsO [a, a] b
  have hLs := hid (show wideLs a b = [wideB a b rsS, wideB a b rsO, wideB a b [], allB rsS [] b, allB rsO [a, a] b] from rfl)
  generalize wideLs a b = LL at *
  generalize wideB a b rsS = X1 at *
  generalize wideB a b rsO = X2 at *
  generalize wideB a b [] = X3 at *
  generalize allB rsS [] b = X4 at *
  generalize allB rsO [a, a] b = X5 at *
  go_enter Try.func27, Try.ntmps27
  go_wp2_with fail
  (with_reducible refine (h1.out _ hx hy).mono ?_); rintro e w1 ⟨j1, A1, c1, rfl, o1⟩
  obtain ⟨e1, s1, k1, i1, b1⟩ := ent_of o1 (by omega)
  have B1 : Bag w w1 ([e1].filterMap blE) := Bag.ent (es := []) (Bag.none w) j1 b1
  clear o1 b1 j1
  go_wp2_with fail
  (with_reducible refine (h2.out _ (hx.later B1.lat) (hy.later B1.lat)).mono ?_); rintro e w2 ⟨j2, A2, c2, rfl, o2⟩
  obtain ⟨e2, s2, k2, i2, b2⟩ := ent_of o2 (by omega)
  have B2 := B1.ent j2 b2
  clear o2 b2 j2 B1
  go_wp2_with fail
  (with_reducible refine (h3.out _ (hx.later B2.lat) (hy.later B2.lat)).mono ?_); rintro e w3 ⟨j3, A3, c3, rfl, o3⟩
  obtain ⟨e3, s3, k3, i3, b3⟩ := ent_of o3 (by omega)
  have B3 := B2.ent j3 b3
  clear o3 b3 j3 B2
  go_wp2_with fail
  (with_reducible refine (h4.out _ (hy.later B3.lat)).mono ?_); rintro e w4 ⟨j4, A4, c4, rfl, o4⟩
  obtain ⟨e4, s4, k4, i4, b4⟩ := ent_of o4 (by omega)
  have B4 := B3.ent j4 b4
  clear o4 b4 j4 B3
  go_wp2_with fail
  have J5 := later_alloc w4 (.cells #[.slice A n c, .slice A n c] 22)
  have hpp := parts_blk2 (Blk.new w4 22 [.slice A n c, .slice A n c]) (part_of (hx.later (B4.lat.trans J5)) hc) (part_of (hx.later (B4.lat.trans J5)) hc)
  (with_reducible refine (h5.out _ _ _ (hy.later (B4.lat.trans J5)) hpp).mono ?_); rintro e w5 ⟨j5, A5, c5, rfl, o5⟩
  obtain ⟨e5, s5, k5, i5, b5⟩ := ent_of o5 (by omega)
  have B5 := (B4.later J5).ent j5 b5
  clear o5 b5 j5 B4 J5 hpp
  go_wp2_with fail

  have hm : [e1, e2, e3, e4, e5].map slE = [.slice A1 X1.length c1, .slice A2 X2.length c2, .slice A3 X3.length c3, .slice A4 X4.length c4, .slice A5 X5.length c5] := by
    simp only [List.map_cons, List.map_nil, s1, s2, s3, s4, s5]
  have F : Bag w (w5.alloc (.cells #[.slice A1 X1.length c1, .slice A2 X2.length c2, .slice A3 X3.length c3, .slice A4 X4.length c4, .slice A5 X5.length c5] 22)) ((w5.heap.size, 22, [e1, e2, e3, e4, e5].map slE) :: [e5, e4, e3, e2, e1].filterMap blE) := by
    rw [hm]
    exact B5.fresh (later_alloc w5 _) (Nat.le_refl _) (Blk.new w5 22 [.slice A1 X1.length c1, .slice A2 X2.length c2, .slice A3 X3.length c3, .slice A4 X4.length c4, .slice A5 X5.length c5])
  go_ret
  refine ⟨_, [e1, e2, e3, e4, e5], rfl, F.perm2 (List.Perm.cons _ ((List.reverse_perm [e1, e2, e3, e4, e5]).filterMap _)), rfl, ?_, ?_⟩
  · intro e he
    simp only [List.mem_cons, List.not_mem_nil, or_false] at he
    rcases he with h | h | h | h | h <;> subst h <;> assumption
  · intro j e L he hL
    rw [hLs.out] at hL
    match j, he, hL with
    | 0, he, hL => exact (Option.some.inj he : e1 = e) ▸ (Option.some.inj hL : X1 = L) ▸ i1
    | 1, he, hL => exact (Option.some.inj he : e2 = e) ▸ (Option.some.inj hL : X2 = L) ▸ i2
    | 2, he, hL => exact (Option.some.inj he : e3 = e) ▸ (Option.some.inj hL : X3 = L) ▸ i3
    | 3, he, hL => exact (Option.some.inj he : e4 = e) ▸ (Option.some.inj hL : X4 = L) ▸ i4
    | 4, he, hL => exact (Option.some.inj he : e5 = e) ▸ (Option.some.inj hL : X5 = L) ▸ i5
    | n + 5, he, _ => simp at he
theorem OwnParts.only7 {w w' : World} {base : Nat} {A : Option Addr} {n c : Nat} {ps : List (List UInt8)} {k : Nat} (h : OwnParts w base A n c ps) (ho : Only k w w') (hk : k < base) : OwnParts w' base A n c ps := by
  obtain ⟨vs, h1, h2, h3⟩ := h
  exact ⟨vs, own_only h1 ho (fun b hb e => by have := (h1.lt b hb).1; omega), h2, fun j v p hv hp => by
    obtain ⟨A', n', c', e1, e2⟩ := h3 j v p hv hp
    exact ⟨A', n', c', e1, own_only e2 ho (fun b hb e => by have := (e2.lt b hb).1; omega)⟩⟩
theorem wideLs_length (a b : List UInt8) : (wideLs a b).length = 5 := rfl
set_option maxRecDepth 100000 in
set_option maxHeartbeats 8000000 in
theorem wideKeeps_walk (A B : Option Addr) (n m c d : Nat) (x y : List UInt8) (w : World) (hx : RdB w A n x) (hu : RdB w B m y) (hn : n ≤ 1048576) (hm : m ≤ 1048576) :
    Calls Try.prog 6 #[.slice A n c, .slice B m d] w fun e w' => e = .returned (.bool true) ∧ Later w w' := by
  have hxl := hx.len
  have hul := hu.len
  have hSp1 := hid (fun (w : World) h => spare_any A n c x w h (by omega))
  have hSp2 := hid (fun (w : World) h => spare_any B m d y w h (by omega))
  rw [spareB_map] at hSp1 hSp2
  have hLi := hid (fun A B c d (w : World) h1 h2 h3 h4 => lists07_any A B n c m d x y w h1 h2 h3 h4 (by omega) (by omega))
  have hLn := hid (wideLs_length x y)
  have hLs := hid (wideLs_small (k := x) (b := y))
  generalize wideLs x y = LL at *
  go_enter Try.func6, Try.ntmps6
  go_wp2_with fail
  (with_reducible refine (awake07 _).mono ?_); rintro e w1 ⟨rfl, j1⟩
  go_wp2_with fail
  (with_reducible refine (hSp1.out _ (hx.later j1)).mono ?_); rintro e w2 ⟨rfl, hb2, j2⟩
  have B1 := (Bag.none w).fresh (j1.trans j2) j1.size hb2
  clear j1 j2 hb2
  generalize w1.heap.size = gA at *
  go_wp2_with fail
  (with_reducible refine (hSp2.out _ (hu.later B1.lat)).mono ?_); rintro e w3 ⟨rfl, hb3, j3⟩
  have B2 := B1.fresh j3 (Nat.le_refl _) hb3
  clear j3 hb3 B1
  generalize w2.heap.size = gB at *
  go_wp2_with fail
  (with_reducible refine (hLi.out _ _ _ _ _ (blk_head (B2.nth 1 rfl) hxl) (by omega) (blk_head (B2.nth 0 rfl) hul) (by omega)).mono ?_); rintro e w4 ⟨g1, es1, rfl, P1, he1, hk1, hL1⟩
  have B3 := (B2.join P1).perm2 List.perm_append_comm
  simp only [List.cons_append, List.nil_append] at B3
  have hone : ∀ (w' : World) ls, Bag w w' ls → Blk w' g1 22 (es1.map slE) → (∀ p ∈ es1.filterMap blE, p ∈ ls) → Parts w' (fun _ => False) (some ⟨g1, 0, none⟩) 5 LL := fun w' ls h hb hs =>
    parts_ents h (hb.rd (by rw [List.length_map, he1])) hs (by rw [he1, hLn.out]) hk1 hL1
  have hone := hid hone
  have hrow1 := B3.nth 2 rfl
  clear B2 P1
  go_wp2_with fail
  (with_reducible refine (copies_any _ 5 _ LL _ (hone.out _ _ B3 hrow1 (fun p hp => List.mem_cons_of_mem _ (List.mem_cons_of_mem _ (List.mem_cons_of_mem _ hp)))) (by omega) hLs.out).mono ?_); rintro e w5 ⟨A5, c5, rfl, hop5, j5⟩
  have B5 := B3.later j5
  have hbase : gA < w4.heap.size ∧ gB < w4.heap.size := ⟨(B3.nth 1 rfl).lt, (B3.nth 0 rfl).lt⟩
  clear B3 j5
  go_wp2_with fail
  (with_reducible refine (hLi.out _ _ _ _ _ (blk_head (B5.nth 1 rfl) hxl) (by omega) (blk_head (B5.nth 0 rfl) hul) (by omega)).mono ?_); rintro e w12 ⟨g2, es2, rfl, P2, he2, hk2, hL2⟩
  have B13 := B5.join P2
  replace hop5 := hop5.later P2.lat
  have htwo : ∀ (w' : World) ls, Bag w w' ls → Blk w' g2 22 (es2.map slE) → (∀ p ∈ es2.filterMap blE, p ∈ ls) → Parts w' (fun _ => False) (some ⟨g2, 0, none⟩) 5 LL := fun w' ls h hb hs =>
    parts_ents h (hb.rd (by rw [List.length_map, he2])) hs (by rw [he2, hLn.out]) hk2 hL2
  have htwo := hid htwo
  have B13 := B13.perm2 List.perm_append_comm
  simp only [List.cons_append] at B13
  have s2 : ∀ p ∈ es2.filterMap blE, p ∈ (gB, 5, y.map W8 ++ spareR y) :: (gA, 5, x.map W8 ++ spareR x) :: (g1, 22, es1.map slE) :: (es1.filterMap blE ++ (g2, 22, es2.map slE) :: es2.filterMap blE) := fun p hp => by simp [hp]
  have m2 : ((g2, 22, es2.map slE) : Nat × TypeId × List Value) ∈ (gB, 5, y.map W8 ++ spareR y) :: (gA, 5, x.map W8 ++ spareR x) :: (g1, 22, es1.map slE) :: (es1.filterMap blE ++ (g2, 22, es2.map slE) :: es2.filterMap blE) := by simp
  clear B5 P2 hrow1
  go_wp2_with fail
  (with_reducible refine (equals_same _ _ 5 _ _ LL _ (htwo.out _ _ B13 (B13.blk _ m2) s2) hop5.parts hLs.out (by omega)).mono ?_); rintro e w13 ⟨rfl, j13⟩
  have B14 := B13.later j13
  replace hop5 := hop5.later j13
  clear B13 j13 s2 m2
  go_wp2_with fail
  (with_reducible refine (kept_true _ A n _ c x _ (spare_all (B14.nth 1 rfl) hxl) (hx.later B14.lat) (by omega)).mono ?_); rintro e w14 ⟨rfl, j14⟩
  have B15 := B14.later j14
  replace hop5 := hop5.later j14
  clear B14 j14
  go_wp2_with fail
  (with_reducible refine (kept_true _ B m _ d y _ (spare_all (B15.nth 0 rfl) hul) (hu.later B15.lat) (by omega)).mono ?_); rintro e w15 ⟨rfl, j15⟩
  have B16 := B15.later j15
  replace hop5 := hop5.later j15
  clear B15 j15
  go_wp2_with fail
  (with_reducible refine (over_blk gA _ _ x _ _ (B16.nth 1 rfl) (by omega) n hxl).mono ?_); rintro e w16 ⟨rfl, hb16, ho16⟩
  have B17 := B16.write 1 rfl ho16 hb16
  replace hop5 := hop5.only7 ho16 hbase.1
  clear B16 ho16 hb16
  go_wp2_with fail
  (with_reducible refine (over_blk gB _ _ y _ _ (B17.nth 0 rfl) (by omega) m hul).mono ?_); rintro e w17 ⟨rfl, hb17, ho17⟩
  have B18 : Bag w w17 ((gB, 5, (overB y).map W8 ++ spareR y) :: (gA, 5, (overB x).map W8 ++ spareR x) :: (g1, 22, es1.map slE) :: (es1.filterMap blE ++ (g2, 22, es2.map slE) :: es2.filterMap blE)) := B17.write 0 rfl ho17 hb17
  replace hop5 := hop5.only7 ho17 hbase.2
  clear B17 ho17 hb17
  have s1 : ∀ p ∈ es1.filterMap blE, p ∈ (gB, 5, (overB y).map W8 ++ spareR y) :: (gA, 5, (overB x).map W8 ++ spareR x) :: (g1, 22, es1.map slE) :: (es1.filterMap blE ++ (g2, 22, es2.map slE) :: es2.filterMap blE) := fun p hp => List.mem_cons_of_mem _ (List.mem_cons_of_mem _ (List.mem_cons_of_mem _ (List.mem_append_left _ hp)))
  have s2 : ∀ p ∈ es2.filterMap blE, p ∈ (gB, 5, (overB y).map W8 ++ spareR y) :: (gA, 5, (overB x).map W8 ++ spareR x) :: (g1, 22, es1.map slE) :: (es1.filterMap blE ++ (g2, 22, es2.map slE) :: es2.filterMap blE) := fun p hp => List.mem_cons_of_mem _ (List.mem_cons_of_mem _ (List.mem_cons_of_mem _ (List.mem_append_right _ (List.mem_cons_of_mem _ hp))))
  have m2 : ((g2, 22, es2.map slE) : Nat × TypeId × List Value) ∈ (gB, 5, (overB y).map W8 ++ spareR y) :: (gA, 5, (overB x).map W8 ++ spareR x) :: (g1, 22, es1.map slE) :: (es1.filterMap blE ++ (g2, 22, es2.map slE) :: es2.filterMap blE) := List.mem_cons_of_mem _ (List.mem_cons_of_mem _ (List.mem_cons_of_mem _ (List.mem_append_right _ List.mem_cons_self)))
  go_wp2_with fail
  (with_reducible refine (equals_same _ _ 5 _ _ LL _ (hone.out _ _ B18 (B18.nth 2 rfl) s1) hop5.parts hLs.out (by omega)).mono ?_); rintro e w18 ⟨rfl, j18⟩
  have B19 := B18.later j18
  replace hop5 := hop5.later j18
  clear B18 j18
  go_wp2_with fail
  (with_reducible refine (equals_same _ _ 5 _ _ LL _ (htwo.out _ _ B19 (B19.blk _ m2) s2) hop5.parts hLs.out (by omega)).mono ?_); rintro e w19 ⟨rfl, j19⟩
  have B20 := B19.later j19
  replace hop5 := hop5.later j19
  clear B19 j19
  go_wp2_with fail
  (with_reducible refine (copy_any A n c x _ (hx.later B20.lat) (by omega)).mono ?_); rintro e w20 ⟨A20, c20, rfl, hown20, j20⟩
  go_wp2_with fail
  (with_reducible refine (copy_any B m d y _ ((hu.later B20.lat).later j20) (by omega)).mono ?_); rintro e w21 ⟨A21, c21, rfl, hown21, j21⟩
  have hrd20 := (hown20.later j21).rd
  go_wp2_with fail
  (with_reducible refine (hLi.out _ _ _ _ _ hrd20 hown20.cap hown21.rd hown21.cap).mono ?_); rintro e w22 ⟨g3, es3, rfl, P3, he3, hk3, hL3⟩
  have B22 := B20.later ((j20.trans j21).trans P3.lat)
  replace hop5 := hop5.later ((j20.trans j21).trans P3.lat)
  have hp3 : Parts w22 (fun _ => False) (some ⟨g3, 0, none⟩) 5 LL := parts_ents P3 ((P3.nth 0 rfl).rd (by rw [List.length_map, he3])) (fun p hp => List.mem_cons_of_mem _ hp) (by rw [he3, hLn.out]) hk3 hL3
  clear B20 j20 j21 hown20 hown21 hrd20 P3
  go_wp2_with fail
  (with_reducible refine (equals_same _ _ 5 _ _ LL _ hp3 hop5.parts hLs.out (by omega)).mono ?_); rintro e w25 ⟨rfl, j25⟩
  have B25 := B22.later j25
  clear B22 j25 hop5 hp3
  have hrow := own_blk' (n := 2) (Blk.new w25 22 [.slice (some ⟨gA, 0, none⟩) (n + 40) (n + 40), .slice (some ⟨gB, 0, none⟩) (m + 40) (m + 40)]) (Nat.le_refl _) rfl (by omega)
  have J26 := later_alloc w25 (.cells #[.slice (some ⟨gA, 0, none⟩) (n + 40) (n + 40), .slice (some ⟨gB, 0, none⟩) (m + 40) (m + 40)] 22)
  have B26 := B25.later J26
  have hlt26 := fun p hp => (B25.blk p hp).lt
  go_wp2_with (first
    | (refine wpList_append_rd rfl _ _ _ rfl 22 _ 24 Try.underlying36 infoB rfl w25 _ 2 _ hrow J26 _ 5 5 (es1.map slE) ((B26.nth 2 rfl).rd (by rw [List.length_map, he1])) (fun u hu => by obtain ⟨e, _, rfl⟩ := List.mem_map.1 hu; exact slE_one e) rfl rfl (by omega) (by omega) ?_
       intro A27 c27 w27 hown27 hl27 hg27 _
       have B27 := B26.grownNew hrow hlt26 hg27 (B25.lat.trans hl27))
    | (refine wpList_append_rd rfl _ _ _ rfl 22 _ 24 Try.underlying36 infoB rfl w25 _ (2 + 5) _ hown27 hl27 _ 5 5 (es2.map slE) ((B27.blk _ m2).rd (by rw [List.length_map, he2])) (fun u hu => by obtain ⟨e, _, rfl⟩ := List.mem_map.1 hu; exact slE_one e) rfl rfl (by omega) (by omega) ?_
       intro A28 c28 w28 hown28 hl28 hg28 _
       have B28 := B27.grownNew hown27 hlt26 hg28 (B25.lat.trans hl28))
    | fail)
  have B29 := B28.sub (List.Sublist.cons_cons _ (List.Sublist.cons_cons _ (List.Sublist.cons _ ((List.Sublist.refl _).append (List.sublist_cons_self _ _)))))
  have hown29 : w28.ownsRow w25.heap.size 22 1 (.slice A28 (2 + 5 + 5) c28) (2 + 5 + 5) (((some (gA, n + 40, n + 40, (overB x).map W8 ++ spareR x) :: some (gB, m + 40, m + 40, (overB y).map W8 ++ spareR y) :: es1) ++ es2 : List Ent).map slE) := by
    rw [List.map_append]
    exact hown28
  (with_reducible refine (apart_ents B29 _ ?hp ?hk hown29 (by omega)).mono ?_)
  case hp =>
    rw [List.filterMap_append]
    exact List.Perm.swap _ _ _
  case hk =>
    intro e he
    rcases List.mem_append.1 he with he | he
    · rcases List.mem_cons.1 he with rfl | he
      · exact ⟨Nat.le_refl _, by simp [spareR_length, overB_length, hxl], by omega⟩
      · rcases List.mem_cons.1 he with rfl | he
        · exact ⟨Nat.le_refl _, by simp [spareR_length, overB_length, hul], by omega⟩
        · exact hk1 e he
    · exact hk2 e he
  rintro e w29 ⟨rfl, hl29, _⟩
  go_wp2_with fail
  go_ret
  exact ⟨rfl, hl29⟩
end Go.Proofs.Ytjohieongjnemaa
