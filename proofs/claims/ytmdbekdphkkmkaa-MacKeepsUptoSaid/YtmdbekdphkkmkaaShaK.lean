/-
  shallotlaw02: ShaKeeps.
-/
import Derived.Test.YtmdbekdphkkmkaaShaL
import Derived.Test.YtmdbekdphkkmkaaPads
import Derived.Test.YtmdbekdphkkmkaaByteStr
import Derived.Test.YtmdbekdphkkmkaaBagMore
namespace Go.Proofs.Ytmdbekdphkkmkaa
open Go.RowKit
open Go.BigFrame

theorem size32k : (Try.prog.info? 39).map (·.size) = some 32 := by kernel_rfl
section
variable {w wk v : World} {ls : List (Nat × TypeId × List Value)}
/-- A block that is none of these is written. -/
theorem Bag.far (h : Bag w wk ls) {g : Nat} (o : Only g wk v) (hw : w.heap.size ≤ g) (hne : ∀ p ∈ ls, p.1 ≠ g) : Bag w v ls :=
  ⟨h.lat.only o hw, fun p hp => (h.blk p hp).only o (hne p hp), h.low, h.nd⟩
theorem Bag.ne_hash (h : Bag w wk ls) {g : Nat} {t : TypeId} {rest : List Value} {bs : List UInt8} (hh : HashAt wk g t rest bs) (hT : ¬ t ∈ ls.map (·.2.1)) : ∀ p ∈ ls, p.1 ≠ g := by
  obtain ⟨st, op, _, hb⟩ := hh
  exact fun p hp => (h.blk p hp).ne_type hb fun e => hT (List.mem_map.2 ⟨p, hp, e⟩)
end
theorem Bag.grownNew {w wk v : World} {ls : List (Nat × TypeId × List Value)} (h : Bag w wk ls) {base n sz : Nat} {e : TypeId} {vr : Value} {vs : List Value} (hr : wk.ownsRow base e sz vr n vs) (hlt : ∀ p ∈ ls, p.1 < base) (hg : wk.grownBy v vr.ownBlock) (hl : Later w v) : Bag w v ls :=
  ⟨hl, fun p hp => (hg.block p.1 (h.blk p hp).lt (fun e => by have := (hr.lt p.1 e.symm).1; have := hlt p hp; omega)).trans (h.blk p hp), h.low, h.nd⟩
theorem HashAt.grownNew {w w' : World} {g base n sz : Nat} {t e : TypeId} {rest : List Value} {bs : List UInt8} {vr : Value} {vs : List Value} (h : HashAt w g t rest bs) (hr : w.ownsRow base e sz vr n vs) (hlt : g < base) (hg : w.grownBy w' vr.ownBlock) : HashAt w' g t rest bs := by
  obtain ⟨st, op, hok, hb⟩ := h
  exact ⟨st, op, hok, (hg.block g hb.lt (fun e => by have := (hr.lt g e.symm).1; omega)).trans hb⟩
theorem types_ne {ls : List (Nat × TypeId × List Value)} {t : TypeId} (h : ¬ t ∈ ls.map (·.2.1)) : ∀ p ∈ ls, p.2.1 ≠ t := fun p hp e => h (List.mem_map.2 ⟨p, hp, e⟩)
theorem part_at {w : World} {bad : Nat → Prop} {b n c : Nat} {p : List UInt8} (h : RdB w (some ⟨b, 0, none⟩) n p) (hc : n ≤ c) (hb : ¬ bad b) : Part w bad (.slice (some ⟨b, 0, none⟩) n c) p := ⟨_, n, c, rfl, hc, h, avoid_lt hb⟩
theorem own_some {w : World} {base n c : Nat} {A : Option Addr} {bs : List UInt8} (h : OwnB w base A n c bs) (hn : 0 < n) : ∃ g rest, A = some ⟨g, 0, none⟩ ∧ base ≤ g ∧ Blk w g 5 (bs.map W8 ++ rest) ∧ c = (bs.map W8 ++ rest).length ∧ n ≤ c := by
  rcases own_blk h with ⟨_, h0⟩ | ⟨g, rest, e, h1, h2, h3⟩
  · omega
  · exact ⟨g, rest, e, h1, h2, h3, h.cap⟩
theorem parts_b1 {w : World} {bad : Nat → Prop} {g : Nat} {t : TypeId} {v : Value} {p : List UInt8} (hb : Blk w g t [v]) (hg : ¬ bad g) (hp : Part w bad v p) : Parts w bad (some ⟨g, 0, none⟩) 1 [p] :=
  parts_bad (hb.rd rfl) (avoid_lt hg) ⟨hp, trivial⟩
set_option maxRecDepth 100000 in
set_option maxHeartbeats 8000000 in
theorem shaKeeps_walk (A B : Option Addr) (n m c d : Nat) (x y : List UInt8) (w : World) (hx : RdB w A n x) (hu : RdB w B m y) (hn : n ≤ 1048576) (hm : m ≤ 1048576) :
    Calls Try.prog 8 #[.slice A n c, .slice B m d] w fun e w' => e = .returned (.bool true) ∧ Later w w' := by
  have hxl := hx.len
  have hul := hu.len
  have hSp1 := hid (fun (w : World) h => spare_any A n c x w h (by omega))
  have hSp2 := hid (fun (w : World) h => spare_any B m d y w h (by omega))
  rw [spareB_map] at hSp1 hSp2
  have hG := shaSum_length (x ++ y)
  have hG2 := shaSum_length (x ++ y ++ x)
  have hs1 := hid (fun A c w h => ssum_any A 2 c [x, y] w h (by omega) (by simp; omega))
  have hs2 := hid (fun g t rest w hh => hsum_any g t rest (x ++ y) w hh (by simp; omega))
  have hs3 := hid (fun g t rest w hh => hsum_any g t rest (x ++ y ++ x) w hh (by simp; omega))
  have hs4 := hid (fun A n c w h => ref_sum A n c (x ++ y ++ x) w h)
  have hnew := hid (fun A c w h => new_any A 1 c [x] w h (by omega) (by simp; omega))
  have hw1 := hid (fun g t rest A c w hh h => write_any g t rest x A 1 c [y] w hh h (by omega) (by simp; omega))
  have hw2 := hid (fun g t rest A c w hh h => write_any g t rest (x ++ y) A 1 c [x] w hh h (by omega) (by simp; omega))
  rw [flatten_one] at hnew hw1 hw2
  rw [show ([x, y] : List (List UInt8)).flatten = x ++ y by simp] at hs1
  obtain ⟨G, hGe⟩ : ∃ G : Y32, G.val = shaSum (x ++ y) := ⟨⟨_, hG⟩, rfl⟩
  rw [← hGe] at hG hs1 hs2
  clear hGe
  obtain ⟨G2, hGe⟩ : ∃ G : Y32, G.val = shaSum (x ++ y ++ x) := ⟨⟨_, hG2⟩, rfl⟩
  rw [← hGe] at hG2 hs3 hs4
  clear hGe
  go_enter Try.func8, Try.ntmps8
  go_wp2_with fail
  (with_reducible refine (awake02 _).mono ?_); rintro e w1 ⟨rfl, j1⟩
  go_wp2_with fail
  (with_reducible refine (hSp1.out _ (hx.later j1)).mono ?_); rintro e w2 ⟨rfl, hb2, j2⟩
  have B1 := (Bag.none w).fresh (j1.trans j2) j1.size hb2
  clear j1 j2 hb2
  generalize w1.heap.size = gA at *
  go_wp2_with fail
  (with_reducible refine (hSp2.out _ (hu.later B1.lat)).mono ?_); rintro e w3 ⟨rfl, hb3, j3⟩
  have B2 := B1.fresh j3 (Nat.le_refl _) hb3
  clear j3 hb3 B1
  generalize w2.heap.size = gB at *
  go_wp2_with fail
  have B3 := B2.later (later_alloc w3 (.cells #[.slice (some ⟨gA, 0, none⟩) n (n + 40), .slice (some ⟨gB, 0, none⟩) m (m + 40)] 22))
  (with_reducible refine (hs1.out _ _ _ (parts_blk2 (Blk.new _ _ _) (part_of (blk_head (B3.nth 1 rfl) hxl) (by omega)) (part_of (blk_head (B3.nth 0 rfl) hul) (by omega)))).mono ?_); rintro e w4 ⟨rfl, j4⟩
  go_wp2_with (first
    | (refine store_Z 32 rfl rfl _ _ rfl (Blk.new w4 _ (List.replicate 32 (.int .u8 0))) rfl rfl size32k hG rfl ?_; intro w5 hb5 ho5)
    | fail)
  have B4 := (B3.later j4).push (later_alloc w4 _) (Nat.le_refl _) ho5 hb5
  clear B2 B3 j4 hb5 ho5
  generalize w4.heap.size = g9 at *
  have B5 := B4.later (later_alloc w5 (.cells #[.slice (some ⟨gA, 0, none⟩) n (n + 40)] 22))
  (with_reducible refine (hnew.out _ _ _ (parts_blk1 (Blk.new _ _ _) (part_of (blk_head (B5.nth 2 rfl) hxl) (by omega)))).mono ?_); rintro e w6 ⟨rfl, hh6, j6⟩
  have B6 := B5.later j6
  have hgH := B5.lat.size
  clear B4 B5 j6
  generalize (w5.alloc (.cells #[.slice (some ⟨gA, 0, none⟩) n (n + 40)] 22)).heap.size = gH at *
  have hne6 := B6.ne_hash hh6 (by simp)
  go_wp2_with fail
  have J6 := later_alloc w6 (.cells #[.slice (some ⟨gB, 0, none⟩) m (m + 40)] 22)
  (with_reducible refine (hw1.out gH _ _ _ 1 _ (hh6.later J6) (parts_b1 (Blk.new w6 22 [.slice (some ⟨gB, 0, none⟩) m (m + 40)]) (by have := hh6.lt; omega) (part_at (blk_head ((B6.later J6).nth 1 rfl) hul) (by omega) (hne6 _ (List.mem_of_getElem? (i := 1) rfl))))).mono ?_); rintro e w7 ⟨rfl, hh7, ho7⟩
  have B7 := (B6.later J6).far ho7 hgH hne6
  clear hh6 B6 J6 ho7 hne6
  go_wp2_with fail
  (with_reducible refine (hs2.out gH _ _ _ hh7).mono ?_); rintro e w8 ⟨rfl, j8⟩
  go_wp2_with (first
    | (refine store_Z 32 rfl rfl _ _ rfl (Blk.new w8 _ (List.replicate 32 (.int .u8 0))) rfl rfl size32k hG rfl ?_; intro w9 hb9 ho9)
    | fail)
  have hh9 := hh7.later ((j8.trans (later_alloc w8 _)).only ho9 j8.size)
  have B8 := B7.push (j8.trans (later_alloc w8 _)) j8.size ho9 hb9
  clear hh7 B7 j8 ho9 hb9
  generalize w8.heap.size = g11 at *
  have hne9 := B8.ne_hash hh9 (by simp)
  have J9 := later_alloc w9 (.cells #[.slice (some ⟨gA, 0, none⟩) n (n + 40)] 22)
  (with_reducible refine (hw2.out gH _ _ _ 1 _ (hh9.later J9) (parts_b1 (Blk.new w9 22 [.slice (some ⟨gA, 0, none⟩) n (n + 40)]) (by have := hh9.lt; omega) (part_at (blk_head ((B8.later J9).nth 3 rfl) hxl) (by omega) (hne9 _ (List.mem_of_getElem? (i := 3) rfl))))).mono ?_); rintro e w10 ⟨rfl, hh10, ho10⟩
  have B9 := (B8.later J9).far ho10 hgH hne9
  clear hh9 B8 J9 ho10 hne9
  go_wp2_with fail
  (with_reducible refine (pad_ok n (by omega) _).mono ?_); rintro e w11 ⟨A11, c11, rfl, hown11, j11⟩
  go_wp2_with fail
  (with_reducible refine (pad_ok n (by omega) _).mono ?_); rintro e w12 ⟨A12, c12, rfl, hown12, j12⟩
  go_wp2_with fail
  obtain ⟨p1, rest1, rfl, hlow1, hp1, hc1, hcc1⟩ := own_some hown11 (by omega)
  replace hc1 := hid hc1
  obtain ⟨p2, rest2, rfl, hlow2, hp2, hc2, hcc2⟩ := own_some hown12 (by omega)
  replace hc2 := hid hc2
  have B11 := ((B9.fresh j11 hlow1 hp1).fresh j12 hlow2 hp2).drew
  have hh12 := ((hh10.later j11).later j12).later (later_drew _)
  clear B9 hh10 j11 j12 hown11 hown12 hp1 hp2 hlow1 hlow2
  have h9 := B11.nth 3 rfl
  have h11 := B11.nth 2 rfl
  have s32 : subB G.val 0 32 = G.val := by rw [subB, List.drop_zero, List.take_of_length_le (by omega)]
  refine wp_region_parts [([0, 1, 2, 3, 4, 5], 6), ([7, 8, 9, 10, 11], 12), ([13, 14, 15, 16, 17, 20], 18), ([], 19)] [21, 22] [] (by as_aux_lemma => kernel_rfl) (by as_aux_lemma => kernel_rfl) (by intro _ _ d _ _ h; cases d <;> exact h) ?_
  simp only [wpParts, pick, List.getElem?_cons_succ, List.getElem?_cons_zero, Option.toList_some, List.cons_append, List.nil_append]
  repeat (first | go_big_quiet_skip | (go_big_quiet_want; (first | refine quiet_Y 0 32 _ rfl h9 rfl Try.underlying39 rfl size32k s32 hG ?_ | refine quiet_Y 0 32 _ rfl h11 rfl Try.underlying39 rfl size32k s32 hG ?_); simp only [Act.put, List.setIfInBounds_toArray, List.set_cons_succ, List.set_cons_zero]; go_big_quiet_on) | (go_big_quiet_step (fail)))
  refine wpQuiet_nil ?_
  go_wp2_with fail
  (with_reducible refine (kept_true _ A n _ c x _ (spare_all (B11.nth 5 rfl) hxl) (hx.later B11.lat) (by omega)).mono ?_); rintro e w13 ⟨rfl, j13⟩
  have B12 := B11.later j13
  have hh13 := hh12.later j13
  clear B11 hh12 h9 h11
  go_wp2_with fail
  try refine ⟨by first | assumption | exact later_drew _ | exact later_alloc _ _ | exact Later.refl _, ?_⟩
  try simp only [wpParts, pick, List.getElem?_cons_succ, List.getElem?_cons_zero, Option.toList_some, List.cons_append, List.nil_append]
  repeat (go_big_quiet_step (fail))
  refine wpQuiet_nil ?_
  clear j13
  go_wp2_with fail
  (with_reducible refine (kept_true _ B m _ d y _ (spare_all (B12.nth 4 rfl) hul) (hu.later B12.lat) (by omega)).mono ?_); rintro e w14 ⟨rfl, j14⟩
  have B13 := B12.later j14
  have hh14 := hh13.later j14
  clear B12 hh13
  have h9 := B13.nth 3 rfl
  go_wp2_with fail
  try refine ⟨by first | assumption | exact later_drew _ | exact later_alloc _ _ | exact Later.refl _, ?_⟩
  try simp only [wpParts, pick, List.getElem?_cons_succ, List.getElem?_cons_zero, Option.toList_some, List.cons_append, List.nil_append]
  repeat (first | go_big_quiet_skip | (go_big_quiet_want; refine quiet_Y 0 32 _ rfl h9 rfl Try.underlying39 rfl size32k s32 hG ?_; simp only [Act.put, List.setIfInBounds_toArray, List.set_cons_succ, List.set_cons_zero]; go_big_quiet_on) | (go_big_quiet_step (fail)))
  refine wpQuiet_nil ?_
  clear j14 h9
  go_wp2_with fail
  try refine ⟨by first | assumption | exact later_drew _ | exact later_alloc _ _ | exact Later.refl _, ?_⟩
  try simp only [wpParts, pick, List.getElem?_cons_succ, List.getElem?_cons_zero, Option.toList_some, List.cons_append, List.nil_append]
  repeat (go_big_quiet_step (fail))
  refine wpQuiet_nil ?_
  have B14 := B13.later (later_alloc w14 (.cells #[.slice (some ⟨gA, 0, none⟩) n (n + 40), .slice (some ⟨gB, 0, none⟩) m (m + 40)] 22))
  have hh15 := hh14.later (later_alloc w14 (.cells #[.slice (some ⟨gA, 0, none⟩) n (n + 40), .slice (some ⟨gB, 0, none⟩) m (m + 40)] 22))
  clear B13 hh14
  go_wp2_with fail
  (with_reducible refine (hs1.out _ _ _ (parts_blk2 (Blk.new _ _ _) (part_of (blk_head (B14.nth 5 rfl) hxl) (by omega)) (part_of (blk_head (B14.nth 4 rfl) hul) (by omega)))).mono ?_); rintro e w16 ⟨rfl, j16⟩
  have B16 := B14.later j16
  have hh16 := hh15.later j16
  clear B14 hh15
  go_wp2_with fail
  try refine ⟨by first | assumption | exact later_drew _ | exact later_alloc _ _ | exact Later.refl _, ?_⟩
  try simp only [wpParts, pick, List.getElem?_cons_succ, List.getElem?_cons_zero, Option.toList_some, List.cons_append, List.nil_append]
  repeat (go_big_quiet_step (fail))
  refine wpQuiet_nil ?_
  clear j16
  go_wp2_with fail
  have hne := B16.ne_hash hh16 (by simp)
  (with_reducible refine (over_blk gA _ _ x _ _ (B16.nth 5 rfl) (by omega) n hxl).mono ?_); rintro e w17 ⟨rfl, hb17, ho17⟩
  have hh17 := hh16.only ho17 (fun e => hne _ (List.mem_of_getElem? (i := 5) rfl) e.symm)
  have B17 := B16.write 5 rfl ho17 hb17
  clear B16 hb17 ho17 hh16
  go_wp2_with fail
  (with_reducible refine (over_blk gB _ _ y _ _ (B17.nth 4 rfl) (by omega) m hul).mono ?_); rintro e w18 ⟨rfl, hb18, ho18⟩
  have hh18 := hh17.only ho18 (fun e => hne _ (List.mem_of_getElem? (i := 4) rfl) e.symm)
  have B18 : Bag w w18 [(p2, 5, (padB n).map W8 ++ rest2), (p1, 5, (padB n).map W8 ++ rest1), (g11, 39, G.val.map W8), (g9, 39, G.val.map W8), (gB, 5, (overB y).map W8 ++ spareR y), (gA, 5, (overB x).map W8 ++ spareR x)] := B17.write 4 rfl ho18 hb18
  clear B17 hb18 ho18 hh17 hne
  go_wp2_with fail
  (with_reducible refine (copy_any A n c x _ (hx.later B18.lat) (by omega)).mono ?_); rintro e w19 ⟨A19, c19, rfl, hown19, j19⟩
  have B19 := B18.later j19
  have hh19 := hh18.later j19
  have hlt : ∀ p ∈ [(p2, 5, (padB n).map W8 ++ rest2), (p1, 5, (padB n).map W8 ++ rest1), (g11, 39, G.val.map W8), (g9, 39, G.val.map W8), (gB, 5, (overB y).map W8 ++ spareR y), (gA, 5, (overB x).map W8 ++ spareR x)], p.1 < w18.heap.size := fun p hp => (B18.blk p hp).lt
  have hltH := hh18.lt
  go_wp2_with (first
    | (refine wpList_append_rd rfl _ _ _ rfl 5 _ 1 Try.underlying22 info8 rfl w18 _ n _ hown19 j19 B m d _ (hu.later B19.lat) (w8_one _) rfl rfl (by omega) (by omega) ?_; intro A20 c20 w20 hown20 hl20 hg20 _
       have B20 := B19.grownNew hown19 hlt hg20 (B18.lat.trans hl20)
       have hh20 := hh19.grownNew hown19 hltH hg20)
    | (refine wpList_append_rd rfl _ _ _ rfl 5 _ 1 Try.underlying22 info8 rfl w18 _ (n + m) _ hown20 hl20 A n c _ (hx.later B20.lat) (w8_one _) rfl rfl (by omega) (by omega) ?_; intro A21 c21 w21 hown21 hl21 hg21 _
       have B21 := B20.grownNew hown20 hlt hg21 (B18.lat.trans hl21)
       have hh21 := hh20.grownNew hown20 hltH hg21)
    | fail)
  rw [← List.map_append, ← List.map_append] at hown21
  (with_reducible refine (hs3.out gH _ _ _ hh21).mono ?_); rintro e w22 ⟨rfl, j22⟩
  go_wp2_with fail
  have hrd21 : RdB w22 A21 (n + m + n) (x ++ y ++ x) := own_rd (own_later hown21 j22)
  (with_reducible refine (hs4.out _ _ _ _ hrd21 (by omega)).mono ?_); rintro e w23 ⟨rfl, j23⟩
  have B23 := B21.later (j22.trans j23)
  go_wp2_with fail
  have hpl := padB_length n
  have B24 := B23.later (later_alloc w23 (.cells #[.slice (some ⟨p1, 0, none⟩) (padZ n + 9) c11, .slice (some ⟨p2, 0, none⟩) (padZ n + 9) c12, .slice (some ⟨gA, 0, none⟩) (n + 40) (n + 40), .slice (some ⟨gB, 0, none⟩) (m + 40) (m + 40)] 22))
  have hnd := B24.nd
  have hz : padZ n < 64 := Nat.mod_lt _ (by omega)
  have hrow := own_blk' (n := 4) (Blk.new w23 22 [.slice (some ⟨p1, 0, none⟩) (padZ n + 9) c11, .slice (some ⟨p2, 0, none⟩) (padZ n + 9) c12, .slice (some ⟨gA, 0, none⟩) (n + 40) (n + 40), .slice (some ⟨gB, 0, none⟩) (m + 40) (m + 40)]) (Nat.le_refl _) rfl (by omega)
  (with_reducible refine (apart_bag B24 ?hT hrow ?hv ?hd (by omega)).mono ?_)
  case hT => exact types_ne (by simp)
  case hv =>
    intro v hv
    simp only [List.mem_cons, List.not_mem_nil, or_false] at hv
    rcases hv with rfl | rfl | rfl | rfl
    · exact .inr ⟨_, List.mem_of_getElem? (i := 1) rfl, _, _, rfl, hcc1, Nat.le_of_eq hc1.out, by omega⟩
    · exact .inr ⟨_, List.mem_of_getElem? (i := 0) rfl, _, _, rfl, hcc2, Nat.le_of_eq hc2.out, by omega⟩
    · exact .inr ⟨_, List.mem_of_getElem? (i := 5) rfl, _, _, rfl, Nat.le_refl _, by simp [spareR_length, overB_length, hxl], by omega⟩
    · exact .inr ⟨_, List.mem_of_getElem? (i := 4) rfl, _, _, rfl, Nat.le_refl _, by simp [spareR_length, overB_length, hul], by omega⟩
  case hd =>
    simp at hnd
    simp [Value.ownBlock]
    omega
  rintro e w24 ⟨rfl, hl24, _⟩
  go_wp2_with fail
  go_ret
  exact ⟨rfl, hl24⟩
end Go.Proofs.Ytmdbekdphkkmkaa
