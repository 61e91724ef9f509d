/-
  shallotlaw03: MacKeeps.
-/
import Derived.Test.YtmdbekdphkkmkaaMacB
import Derived.Test.YtmdbekdphkkmkaaByteStr
import Derived.Test.YtmdbekdphkkmkaaEnts
import Derived.Test.YtmdbekdphkkmkaaShaK
namespace Go.Proofs.Ytmdbekdphkkmkaa
open Go.RowKit
open Go.BigFrame

theorem Bag.perm' {w wk : World} {ls ls' : List (Nat × TypeId × List Value)} (h : Bag w wk ls) (p : ls.Perm ls') : Bag w wk ls' :=
  ⟨h.lat, fun q hq => h.blk q (p.mem_iff.2 hq), fun q hq => h.low q (p.mem_iff.2 hq), (p.map _).nodup_iff.1 h.nd⟩
def macLs (a b : List UInt8) : List (List UInt8) := [(macTag a b).take 16, (macTag b (a ++ b)).take 16, expB a b 40, expB b [] 32]
theorem front_some {w : World} {base n : Nat} {A : Option Addr} {bs : List UInt8} (h : Front w base A n bs) (hn : 0 < n) : ∃ g rest, A = some ⟨g, 0, none⟩ ∧ base ≤ g ∧ Blk w g 5 (bs.map W8 ++ rest) ∧ bs.length = n := by
  rcases h.2 with ⟨_, h0⟩ | ⟨g, rest, e, h1, h2⟩
  · omega
  · exact ⟨g, rest, e, h1, h2, h.1⟩
set_option maxRecDepth 100000 in
set_option maxHeartbeats 4000000 in
theorem lists03_any (A B : Option Addr) (n c m d : Nat) (a b : List UInt8) (w : World) (hx : RdB w A n a) (hc : n ≤ c) (hy : RdB w B m b) (hd : m ≤ d) (hn : n ≤ 2097152) (hm : m ≤ 2097152) :
    Calls Try.prog 57 #[.slice A n c, .slice B m d] w fun e w' => ∃ (g : Nat) (es : List Ent), e = .returned (.slice (some ⟨g, 0, none⟩) 4 4) ∧ Bag w w' ((g, 22, es.map slE) :: es.filterMap blE) ∧ es.length = 4 ∧ (∀ e ∈ es, okE e) ∧
      ∀ (j : Nat) e L, es[j]? = some e → (macLs a b)[j]? = some L → isE L e := by
  have hxl := hx.len
  have hyl := hy.len
  have h1 := hid (fun B d w h1 h2 => expand_is A B n c 1 d 40 40 rfl a [b] w h1 hc (by omega) h2 (by omega) (by simp; omega) (by omega))
  have h2 := hid (fun w h1 => expand_is B none m d 0 0 32 32 rfl b [] w h1 hd (by omega) (parts_nil w) (by omega) (by simp) (by omega))
  have h3 := hid (fun B d w h1 h2 => short_any A B n c 1 d a [b] w h1 hc (by omega) h2 (by omega) (by simp; omega))
  have h4 := hid (fun B' d' w h1 h2 => short_any B B' m d 2 d' b [a, b] w h1 hd (by omega) h2 (by omega) (by simp; omega))
  have e1 : ([b] : List (List UInt8)).flatten = b := by simp
  have e2 : ([a, b] : List (List UInt8)).flatten = a ++ b := by simp
  have e3 : ([] : List (List UInt8)).flatten = [] := rfl
  rw [e1] at h1 h3
  rw [e2] at h4
  rw [e3] at h2
  have hMac := hid (show macLs a b = [(macTag a b).take 16, (macTag b (a ++ b)).take 16, expB a b 40, expB b [] 32] from rfl)
  generalize macLs a b = LL at *
  have l3 : ((macTag a b).take 16).length = 16 := by rw [List.length_take, macTag_length]; rfl
  have l4 : ((macTag b (a ++ b)).take 16).length = 16 := by rw [List.length_take, macTag_length]; rfl
  generalize (macTag a b).take 16 = T3 at *
  generalize (macTag b (a ++ b)).take 16 = T4 at *
  generalize expB a b 40 = T1 at *
  generalize expB b [] 32 = T2 at *
  clear e1 e2 e3
  go_enter Try.func57, Try.ntmps57
  go_wp2_with fail
  have J0 := later_alloc w (.cells #[.slice B m d] 22)
  (with_reducible refine (h1.out _ _ _ (hx.later J0) (parts_blk1 (Blk.new _ _ _) (part_of (hy.later J0) hd))).mono ?_); rintro e w1 ⟨A1, rfl, hf1, j1⟩
  obtain ⟨g1, r1, rfl, hg1, hb1, hl1⟩ := front_some hf1 (by omega)
  have B1 := (Bag.none w).fresh (J0.trans j1) (Nat.le_trans J0.size hg1) hb1
  clear J0 j1 hf1 hb1 hg1
  go_wp2_with fail
  (with_reducible refine (h2.out _ (hy.later B1.lat)).mono ?_); rintro e w2 ⟨A2, rfl, hf2, j2⟩
  obtain ⟨g2, r2, rfl, hg2, hb2, hl2⟩ := front_some hf2 (by omega)
  have B2 := B1.fresh j2 hg2 hb2
  clear B1 j2 hf2 hb2 hg2
  go_wp2_with fail
  have B2' := B2.later (later_alloc w2 (.cells #[.slice B m d] 22))
  (with_reducible refine (h3.out _ _ _ (hx.later B2'.lat) (parts_blk1 (Blk.new _ _ _) (part_of (hy.later B2'.lat) hd))).mono ?_); rintro e w3 ⟨A3, c3, rfl, ho3, j3⟩
  obtain ⟨g3, r3, rfl, hg3, hb3, hc3, hcc3⟩ := own_some ho3 (by omega)
  replace hc3 := hid hc3
  have B3 := B2'.fresh j3 hg3 hb3
  clear B2 B2' j3 ho3 hb3 hg3
  go_wp2_with fail
  have B3' := B3.later (later_alloc w3 (.cells #[.slice A n c, .slice B m d] 22))
  (with_reducible refine (h4.out _ _ _ (hy.later B3'.lat) (parts_blk2 (Blk.new _ _ _) (part_of (hx.later B3'.lat) hc) (part_of (hy.later B3'.lat) hd))).mono ?_); rintro e w4 ⟨A4, c4, rfl, ho4, j4⟩
  obtain ⟨g4, r4, rfl, hg4, hb4, hc4, hcc4⟩ := own_some ho4 (by omega)
  replace hc4 := hid hc4
  have B4 := B3'.fresh j4 hg4 hb4
  clear B3 B3' j4 ho4 hb4 hg4
  go_wp2_with fail
  go_ret
  refine ⟨_, [some (g3, 16, c3, T3.map W8 ++ r3), some (g4, 16, c4, T4.map W8 ++ r4), some (g1, 40, 40, T1.map W8 ++ r1), some (g2, 32, 32, T2.map W8 ++ r2)], rfl, ?_, rfl, ?_, ?_⟩
  · refine Bag.perm' (B4.fresh (later_alloc w4 _) (Nat.le_refl _) (Blk.new w4 22 [.slice (some ⟨g3, 0, none⟩) 16 c3, .slice (some ⟨g4, 0, none⟩) 16 c4, .slice (some ⟨g1, 0, none⟩) 40 40, .slice (some ⟨g2, 0, none⟩) 32 32])) (List.Perm.cons _ ?_)
    exact (List.Perm.swap _ _ _).trans (List.Perm.cons _ (List.Perm.cons _ (List.Perm.swap _ _ _)))
  · intro e he
    simp only [List.mem_cons, List.not_mem_nil, or_false] at he
    rcases he with rfl | rfl | rfl | rfl
    · exact ⟨hcc3, Nat.le_of_eq hc3.out, by omega⟩
    · exact ⟨hcc4, Nat.le_of_eq hc4.out, by omega⟩
    · exact ⟨Nat.le_refl _, by simp [hl1], by omega⟩
    · exact ⟨Nat.le_refl _, by simp [hl2], by omega⟩
  · rw [hMac.out]
    intro j e L he hL
    match j with
    | 0 => cases he; cases hL; exact ⟨l3, r3, rfl⟩
    | 1 => cases he; cases hL; exact ⟨l4, r4, rfl⟩
    | 2 => cases he; cases hL; exact ⟨hl1, r1, rfl⟩
    | 3 => cases he; cases hL; exact ⟨hl2, r2, rfl⟩
    | j + 4 => simp at he
theorem OwnParts.only {w w' : World} {base : Nat} {A : Option Addr} {n c : Nat} {ps : List (List UInt8)} {k : Nat} (h : OwnParts w base A n c ps) (ho : Only k w w') (hk : k < base) : OwnParts w' base A n c ps := by
  obtain ⟨vs, h1, h2, h3⟩ := h
  exact ⟨vs, own_only h1 ho (fun b hb e => by have := (h1.lt b hb).1; omega), h2, fun j v p hv hp => by
    obtain ⟨A', n', c', e1, e2⟩ := h3 j v p hv hp
    exact ⟨A', n', c', e1, own_only e2 ho (fun b hb e => by have := (e2.lt b hb).1; omega)⟩⟩
theorem macLs_length (a b : List UInt8) : (macLs a b).length = 4 := rfl
theorem macLs_small {a b : List UInt8} : ∀ p ∈ macLs a b, p.length ≤ 140737488355328 := by
  intro p hp
  simp only [macLs, List.mem_cons, List.not_mem_nil, or_false] at hp
  rcases hp with rfl | rfl | rfl | rfl
  · rw [List.length_take]; omega
  · rw [List.length_take]; omega
  · rw [expB, List.length_take]; omega
  · rw [expB, List.length_take]; omega
set_option maxRecDepth 100000 in
set_option maxHeartbeats 8000000 in
theorem macKeeps_walk (A B : Option Addr) (n m c d : Nat) (x y : List UInt8) (w : World) (hx : RdB w A n x) (hu : RdB w B m y) (hn : n ≤ 1048576) (hm : m ≤ 1048576) :
    Calls Try.prog 15 #[.slice A n c, .slice B m d] w fun e w' => e = .returned (.bool true) ∧ Later w w' := by
  have hxl := hx.len
  have hul := hu.len
  have hSp1 := hid (fun (w : World) h => spare_any A n c x w h (by omega))
  have hSp2 := hid (fun (w : World) h => spare_any B m d y w h (by omega))
  rw [spareB_map] at hSp1 hSp2
  have hLi := hid (fun A B c d (w : World) h1 h2 h3 h4 => lists03_any A B n c m d x y w h1 h2 h3 h4 (by omega) (by omega))
  have hLn := hid (macLs_length x y)
  have hLs := hid (macLs_small (a := x) (b := y))
  have hG := macTag_length x y
  have hTs := hid (fun g w hh => tagSum_any g x y w hh (by omega))
  have hTg := hid (fun A c w h hc => newTagger_any A n c x w h hc (by omega))
  have hRT := hid (fun (w : World) h1 h2 => refTag_any A B n c m d x y w h1 (by omega) h2 (by omega))
  have hmk : ((macKey x).map W8).length = 64 := by rw [List.length_map, macKey_length]
  have hWr := hid (fun g A c w hh h => write_any g 72 ((macKey x).map W8) (maskB (macKey x) 54 ++ []) A 1 c [y] w hh h (by omega) (by rw [flatten_one, List.append_nil, maskB_length, macKey_length]; omega))
  rw [flatten_one, List.append_nil] at hWr
  have hCh := hid (fun A B C c d e0 w h1 hc h2 h3 => check_any A B C n c 2 d m e0 x y [y, x] w h1 hc (by omega) h2 (by omega) h3 (by omega) (by simp; omega))
  have hDe := hid (fun A B c d ss w h1 hc h2 hs => derive_any A B n c 2 d x ss w h1 hc (by omega) h2 (by omega) (by omega) hs)
  obtain ⟨G, hGe⟩ : ∃ G : Y32, G.val = macTag x y := ⟨⟨_, hG⟩, rfl⟩
  rw [← hGe] at hG hTs hRT
  clear hGe
  generalize macLs x y = LL at *
  go_enter Try.func15, Try.ntmps15
  go_wp2_with fail
  (with_reducible refine (awake03 _).mono ?_); rintro e w1 ⟨rfl, j1⟩
  go_wp2_with fail
  (with_reducible refine (hSp1.out _ (hx.later j1)).mono ?_); rintro e w2 ⟨rfl, hb2, j2⟩
  have B1 := (Bag.none w).fresh (j1.trans j2) j1.size hb2
  clear j1 j2 hb2
  generalize w1.heap.size = gA at *
  go_wp2_with fail
  (with_reducible refine (hSp2.out _ (hu.later B1.lat)).mono ?_); rintro e w3 ⟨rfl, hb3, j3⟩
  have B2 := B1.fresh j3 (Nat.le_refl _) hb3
  clear j3 hb3 B1
  generalize w2.heap.size = gB at *
  go_wp2_with fail
  (with_reducible refine (hLi.out _ _ _ _ _ (blk_head (B2.nth 1 rfl) hxl) (by omega) (blk_head (B2.nth 0 rfl) hul) (by omega)).mono ?_); rintro e w4 ⟨g1, es1, rfl, P1, he1, hk1, hL1⟩
  have B3 := (B2.join P1).perm' List.perm_append_comm
  simp only [List.cons_append, List.nil_append] at B3
  have hone : ∀ (w' : World) ls, Bag w w' ls → Blk w' g1 22 (es1.map slE) → (∀ p ∈ es1.filterMap blE, p ∈ ls) → Parts w' (fun _ => False) (some ⟨g1, 0, none⟩) 4 LL := fun w' ls h hb hs =>
    parts_ents h (hb.rd (by rw [List.length_map, he1])) hs (by rw [he1, hLn.out]) hk1 hL1
  have hone := hid hone
  have hrow1 := B3.nth 2 rfl
  clear B2 P1
  go_wp2_with fail
  (with_reducible refine (copies_any _ 4 _ LL _ (hone.out _ _ B3 hrow1 (fun p hp => List.mem_cons_of_mem _ (List.mem_cons_of_mem _ (List.mem_cons_of_mem _ hp)))) (by omega) hLs.out).mono ?_); rintro e w5 ⟨A5, c5, rfl, hop5, j5⟩
  have B5 := B3.later j5
  have hbase : gA < w4.heap.size ∧ gB < w4.heap.size := ⟨(B3.nth 1 rfl).lt, (B3.nth 0 rfl).lt⟩
  clear B3
  go_wp2_with fail
  (with_reducible refine (hTg.out _ _ _ (blk_head (B5.nth 1 rfl) hxl) (by omega)).mono ?_); rintro e w6 ⟨gT, rfl, hgT, hh6, j6⟩
  go_wp2_with fail
  have B6 := B5.later (j6.trans (later_alloc w6 (.cells #[.slice (some ⟨gB, 0, none⟩) m (m + 40)] 22)))
  have hgne : gA ≠ gT ∧ gB ≠ gT := ⟨by have := (B5.nth 1 rfl).lt; omega, by have := (B5.nth 0 rfl).lt; omega⟩
  replace hh6 : HashAt w6 gT 72 ((macKey x).map W8) (maskB (macKey x) 54) := by
    unfold TagAt at hh6
    rwa [List.append_nil] at hh6
  have hhlt := HashAt.lt hh6
  (with_reducible refine (hWr.out gT _ _ _ (HashAt.later hh6 (later_alloc w6 _)) (parts_b1 (Blk.new w6 22 [.slice (some ⟨gB, 0, none⟩) m (m + 40)]) (by omega) (part_at (blk_head (B6.nth 0 rfl) hul) (by omega) (by omega)))).mono ?_); rintro e w7 ⟨rfl, hh7, ho7⟩
  have j7 := (j6.trans (later_alloc w6 (.cells #[.slice (some ⟨gB, 0, none⟩) m (m + 40)] 22))).only ho7 hgT
  have B7 := B5.later j7
  replace hop5 := hop5.later j7
  clear B5 B6 j6 j7 ho7 hh6 hhlt
  replace hh7 : TagAt w7 gT x y := hh7
  go_wp2_with fail
  (with_reducible refine (hTs.out gT _ hh7).mono ?_); rintro e w8 ⟨rfl, j8⟩
  go_wp2_with (first
    | (refine store_Z 32 rfl rfl _ _ rfl (Blk.new w8 _ (List.replicate 32 (.int .u8 0))) rfl rfl size32k hG rfl ?_; intro w9 hb9 ho9)
    | fail)
  have j9 := (j8.trans (later_alloc w8 _)).only ho9 j8.size
  have B9 := B7.push (j8.trans (later_alloc w8 _)) j8.size ho9 hb9
  have hh9 : TagAt w9 gT x y := HashAt.later hh7 j9
  replace hop5 := hop5.later j9
  clear B7 hh7 j8 j9 ho9 hb9
  generalize w8.heap.size = g12 at *
  have J9 := later_alloc w9 (.cells #[.slice (some ⟨gB, 0, none⟩) m (m + 40), .slice (some ⟨gA, 0, none⟩) n (n + 40)] 22)
  have B10 := B9.later J9
  (with_reducible refine (hCh.out _ _ _ _ _ _ _ (blk_head (B10.nth 2 rfl) hxl) (by omega) (blk_head (B10.nth 1 rfl) hul) (parts_blk2 (Blk.new _ _ _) (part_of (blk_head (B10.nth 1 rfl) hul) (by omega)) (part_of (blk_head (B10.nth 2 rfl) hxl) (by omega)))).mono ?_); rintro e w10 ⟨rfl, j10⟩
  have B11 := B10.later j10
  have hh11 : TagAt w10 gT x y := HashAt.later hh9 (J9.trans j10)
  replace hop5 := hop5.later (J9.trans j10)
  clear B9 B10 hh9 J9 j10
  generalize decide ((macTag x (List.flatten [y, x])).take 16 = y) = bb at *
  go_wp2_with fail
  have J11 := later_alloc w10 (.cells #[.string { data := #[97] }, .string { data := #[98] }] 9)
  have hst : Strs (w10.alloc (.cells #[.string { data := #[97] }, .string { data := #[98] }] 9)) (some ⟨w10.heap.size, 0, none⟩) 2 [{ data := #[97] }, { data := #[98] }] := (Blk.new w10 9 [.string { data := #[97] }, .string { data := #[98] }]).rd rfl
  (with_reducible refine (hDe.out _ _ _ _ _ _ (blk_head ((B11.later J11).nth 2 rfl) hxl) (by omega) hst (fun s hs => by simp at hs; rcases hs with rfl | rfl <;> decide)).mono ?_); rintro e w11 ⟨gD, rfl, _, _, j11⟩
  have B12 := B11.later (J11.trans j11)
  have hh12 : TagAt w11 gT x y := HashAt.later hh11 (J11.trans j11)
  replace hop5 := hop5.later (J11.trans j11)
  clear B11 hh11 J11 j11 hst
  go_wp2_with fail
  (with_reducible refine (hLi.out _ _ _ _ _ (blk_head (B12.nth 2 rfl) hxl) (by omega) (blk_head (B12.nth 1 rfl) hul) (by omega)).mono ?_); rintro e w12 ⟨g2, es2, rfl, P2, he2, hk2, hL2⟩
  have B13 := B12.later P2.lat
  have hh13 : TagAt w12 gT x y := HashAt.later hh12 P2.lat
  replace hop5 := hop5.later P2.lat
  have hp2 : Parts w12 (fun _ => False) (some ⟨g2, 0, none⟩) 4 LL := parts_ents P2 ((P2.nth 0 rfl).rd (by rw [List.length_map, he2])) (fun p hp => List.mem_cons_of_mem _ hp) (by rw [he2, hLn.out]) hk2 hL2
  clear B12 hh12 P2
  go_wp2_with fail
  (with_reducible refine (equals_same _ _ 4 _ _ LL _ hp2 hop5.parts hLs.out (by omega)).mono ?_); rintro e w13 ⟨rfl, j13⟩
  have B14 := B13.later j13
  have hh14 : TagAt w13 gT x y := HashAt.later hh13 j13
  replace hop5 := hop5.later j13
  clear B13 hh13 hp2 j13
  go_wp2_with fail
  (with_reducible refine (kept_true _ A n _ c x _ (spare_all (B14.nth 2 rfl) hxl) (hx.later B14.lat) (by omega)).mono ?_); rintro e w14 ⟨rfl, j14⟩
  have B15 := B14.later j14
  have hh15 : TagAt w14 gT x y := HashAt.later hh14 j14
  replace hop5 := hop5.later j14
  clear B14 hh14 j14
  go_wp2_with fail
  (with_reducible refine (kept_true _ B m _ d y _ (spare_all (B15.nth 1 rfl) hul) (hu.later B15.lat) (by omega)).mono ?_); rintro e w15 ⟨rfl, j15⟩
  have B16 := B15.later j15
  have hh16 : TagAt w15 gT x y := HashAt.later hh15 j15
  replace hop5 := hop5.later j15
  clear B15 hh15 j15
  go_wp2_with fail
  (with_reducible refine (over_blk gA _ _ x _ _ (B16.nth 2 rfl) (by omega) n hxl).mono ?_); rintro e w16 ⟨rfl, hb16, ho16⟩
  have B17 := B16.write 2 rfl ho16 hb16
  have hh17 : TagAt w16 gT x y := HashAt.only hh16 ho16 (fun e => hgne.1 e.symm)
  replace hop5 := hop5.only ho16 hbase.1
  clear B16 hh16 ho16 hb16
  go_wp2_with fail
  (with_reducible refine (over_blk gB _ _ y _ _ (B17.nth 1 rfl) (by omega) m hul).mono ?_); rintro e w17 ⟨rfl, hb17, ho17⟩
  have B18 : Bag w w17 ((g12, 39, G.val.map W8) :: (gB, 5, (overB y).map W8 ++ spareR y) :: (gA, 5, (overB x).map W8 ++ spareR x) :: (g1, 22, es1.map slE) :: es1.filterMap blE) := B17.write 1 rfl ho17 hb17
  have hh18 : TagAt w17 gT x y := HashAt.only hh17 ho17 (fun e => hgne.2 e.symm)
  replace hop5 := hop5.only ho17 hbase.2
  clear B17 hh17 ho17 hb17
  go_wp2_with fail
  (with_reducible refine (copy_any A n c x _ (hx.later B18.lat) (by omega)).mono ?_); rintro e w18 ⟨A18, c18, rfl, hown18, j18⟩
  go_wp2_with fail
  (with_reducible refine (copy_any B m d y _ ((hu.later B18.lat).later j18) (by omega)).mono ?_); rintro e w19 ⟨A19, c19, rfl, hown19, j19⟩
  have hrd18 := (hown18.later j19).rd
  go_wp2_with fail
  (with_reducible refine (hLi.out _ _ _ _ _ hrd18 hown18.cap hown19.rd hown19.cap).mono ?_); rintro e w20 ⟨g3, es3, rfl, P3, he3, hk3, hL3⟩
  have B20 := (B18.later (j18.trans j19)).join P3
  have hh20 : TagAt w20 gT x y := HashAt.later hh18 ((j18.trans j19).trans P3.lat)
  replace hop5 := hop5.later ((j18.trans j19).trans P3.lat)
  have htwo : ∀ (w' : World) ls, Bag w w' ls → Blk w' g3 22 (es3.map slE) → (∀ p ∈ es3.filterMap blE, p ∈ ls) → Parts w' (fun _ => False) (some ⟨g3, 0, none⟩) 4 LL := fun w' ls h hb hs =>
    parts_ents h (hb.rd (by rw [List.length_map, he3])) hs (by rw [he3, hLn.out]) hk3 hL3
  clear B18 hh18 j18 j19 hown18 hown19 hrd18 P3
  go_wp2_with fail
  have B21 := B20.drew
  have hh21 : TagAt w20.drew gT x y := HashAt.later hh20 (later_drew _)
  replace hop5 := hop5.later (later_drew _)
  clear B20 hh20
  have s32 : subB G.val 0 32 = G.val := by rw [subB, List.drop_zero, List.take_of_length_le (by omega)]
  have m12 : ((g12, 39, G.val.map W8) : Nat × TypeId × List Value) ∈ ((g3, 22, es3.map slE) :: es3.filterMap blE) ++ (g12, 39, G.val.map W8) :: (gB, 5, (overB y).map W8 ++ spareR y) :: (gA, 5, (overB x).map W8 ++ spareR x) :: (g1, 22, es1.map slE) :: es1.filterMap blE := List.mem_append_right _ (by simp)
  have m1 : ((g1, 22, es1.map slE) : Nat × TypeId × List Value) ∈ ((g3, 22, es3.map slE) :: es3.filterMap blE) ++ (g12, 39, G.val.map W8) :: (gB, 5, (overB y).map W8 ++ spareR y) :: (gA, 5, (overB x).map W8 ++ spareR x) :: (g1, 22, es1.map slE) :: es1.filterMap blE := List.mem_append_right _ (by simp)
  have h12 := B21.blk _ m12
  refine wp_region_parts [([0, 2], 1), ([3, 4, 5, 6, 7], 8), ([9, 10, 11, 12, 13], 14), ([15, 16, 17, 18, 19], 20)] [21, 22] [] (by as_aux_lemma => kernel_rfl) (by as_aux_lemma => kernel_rfl) (by intro _ _ d _ _ h; cases d <;> exact h) ?_
  simp only [wpParts, pick, List.getElem?_cons_succ, List.getElem?_cons_zero, Option.toList_some, List.cons_append, List.nil_append]
  repeat (first | go_big_quiet_skip | (go_big_quiet_want; refine quiet_Y 0 32 _ rfl h12 rfl Try.underlying39 rfl size32k s32 hG ?_; simp only [Act.put, List.setIfInBounds_toArray, List.set_cons_succ, List.set_cons_zero]; go_big_quiet_on) | (go_big_quiet_step (fail)))
  refine wpQuiet_nil ?_
  go_wp2_with fail
  (with_reducible refine (hTs.out gT _ hh21).mono ?_); rintro e w22 ⟨rfl, j22⟩
  have B22 := B21.later j22
  replace hop5 := hop5.later j22
  clear B21 hh21 h12
  have h12 := B22.blk _ m12
  go_wp2_with fail
  try refine ⟨by first | assumption | exact later_drew _ | exact later_alloc _ _ | exact Later.refl _, ?_⟩
  try simp only [wpParts, pick, List.getElem?_cons_succ, List.getElem?_cons_zero, Option.toList_some, List.cons_append, List.nil_append]
  repeat (first | go_big_quiet_skip | (go_big_quiet_want; refine quiet_Y 0 32 _ rfl h12 rfl Try.underlying39 rfl size32k s32 hG ?_; simp only [Act.put, List.setIfInBounds_toArray, List.set_cons_succ, List.set_cons_zero]; go_big_quiet_on) | (go_big_quiet_step (fail)))
  refine wpQuiet_nil ?_
  clear j22
  go_wp2_with fail
  (with_reducible refine (hRT.out _ (hx.later B22.lat) (hu.later B22.lat)).mono ?_); rintro e w23 ⟨rfl, j23⟩
  have B23 := B22.later j23
  replace hop5 := hop5.later j23
  clear B22 h12
  go_wp2_with fail
  try refine ⟨by first | assumption | exact later_drew _ | exact later_alloc _ _ | exact Later.refl _, ?_⟩
  try simp only [wpParts, pick, List.getElem?_cons_succ, List.getElem?_cons_zero, Option.toList_some, List.cons_append, List.nil_append]
  repeat (go_big_quiet_step (fail))
  refine wpQuiet_nil ?_
  clear j23
  go_wp2_with fail
  (with_reducible refine (equals_same _ _ 4 _ _ LL _ (hone.out _ _ B23 (B23.blk _ m1) (fun p hp => List.mem_append_right _ (by simp [hp]))) hop5.parts hLs.out (by omega)).mono ?_); rintro e w24 ⟨rfl, j24⟩
  have B24 := B23.later j24
  replace hop5 := hop5.later j24
  clear B23
  go_wp2_with fail
  try refine ⟨by first | assumption | exact later_drew _ | exact later_alloc _ _ | exact Later.refl _, ?_⟩
  try simp only [wpParts, pick, List.getElem?_cons_succ, List.getElem?_cons_zero, Option.toList_some, List.cons_append, List.nil_append]
  repeat (go_big_quiet_step (fail))
  refine wpQuiet_nil ?_
  clear j24
  go_wp2_with fail
  (with_reducible refine (equals_same _ _ 4 _ _ LL _ (htwo _ _ B24 (B24.nth 0 rfl) (fun p hp => List.mem_append_left _ (List.mem_cons_of_mem _ hp))) hop5.parts hLs.out (by omega)).mono ?_); rintro e w25 ⟨rfl, j25⟩
  have B25 := B24.later j25
  clear B24 hop5
  go_wp2_with fail
  try refine ⟨by first | assumption | exact later_drew _ | exact later_alloc _ _ | exact Later.refl _, ?_⟩
  try simp only [wpParts, pick, List.getElem?_cons_succ, List.getElem?_cons_zero, Option.toList_some, List.cons_append, List.nil_append]
  repeat (go_big_quiet_step (fail))
  refine wpQuiet_nil ?_
  clear j25
  have hrow := own_blk' (n := 2) (Blk.new w25 22 [.slice (some ⟨gA, 0, none⟩) (n + 40) (n + 40), .slice (some ⟨gB, 0, none⟩) (m + 40) (m + 40)]) (Nat.le_refl _) rfl (by omega)
  have J26 := later_alloc w25 (.cells #[.slice (some ⟨gA, 0, none⟩) (n + 40) (n + 40), .slice (some ⟨gB, 0, none⟩) (m + 40) (m + 40)] 22)
  have B26 := B25.later J26
  have hlt26 := fun p hp => (B25.blk p hp).lt
  go_wp2_with (first
    | (refine wpList_append_rd rfl _ _ _ rfl 22 _ 24 Try.underlying37 infoB rfl w25 _ 2 _ hrow J26 _ 4 4 (es1.map slE) ((B26.blk _ m1).rd (by rw [List.length_map, he1])) (fun u hu => by obtain ⟨e, _, rfl⟩ := List.mem_map.1 hu; exact slE_one e) rfl rfl (by omega) (by omega) ?_
       intro A27 c27 w27 hown27 hl27 hg27 _
       have B27 := B26.grownNew hrow hlt26 hg27 (B25.lat.trans hl27))
    | (refine wpList_append_rd rfl _ _ _ rfl 22 _ 24 Try.underlying37 infoB rfl w25 _ (2 + 4) _ hown27 hl27 _ 4 4 (es3.map slE) ((B27.nth 0 rfl).rd (by rw [List.length_map, he3])) (fun u hu => by obtain ⟨e, _, rfl⟩ := List.mem_map.1 hu; exact slE_one e) rfl rfl (by omega) (by omega) ?_
       intro A28 c28 w28 hown28 hl28 hg28 _
       have B28 := B27.grownNew hown27 hlt26 hg28 (B25.lat.trans hl28))
    | fail)
  have B29 := B28.sub ((List.sublist_cons_self _ _).append ((List.Sublist.cons _ (List.Sublist.cons_cons _ (List.Sublist.cons_cons _ (List.sublist_cons_self _ _))))))
  have hown29 : w28.ownsRow w25.heap.size 22 1 (.slice A28 (2 + 4 + 4) c28) (2 + 4 + 4) (((some (gA, n + 40, n + 40, (overB x).map W8 ++ spareR x) :: some (gB, m + 40, m + 40, (overB y).map W8 ++ spareR y) :: es1) ++ es3 : List Ent).map slE) := by
    rw [List.map_append]
    exact hown28
  (with_reducible refine (apart_ents B29 _ ?hp ?hk hown29 (by omega)).mono ?_)
  case hp =>
    rw [List.filterMap_append]
    exact List.perm_append_comm.trans (List.Perm.append_left _ (List.Perm.swap _ _ _))
  case hk =>
    intro e he
    rcases List.mem_append.1 he with he | he
    · rcases List.mem_cons.1 he with rfl | he
      · exact ⟨Nat.le_refl _, by simp [spareR_length, overB_length, hxl], by omega⟩
      · rcases List.mem_cons.1 he with rfl | he
        · exact ⟨Nat.le_refl _, by simp [spareR_length, overB_length, hul], by omega⟩
        · exact hk1 e he
    · exact hk3 e he
  rintro e w29 ⟨rfl, hl29, _⟩
  go_wp2_with fail
  go_ret
  exact ⟨rfl, hl29⟩
end Go.Proofs.Ytmdbekdphkkmkaa
