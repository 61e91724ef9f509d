/-
  shallotref04: Block.
-/
import Derived.Test.YtjohieongjnemaaCha7
import Derived.Test.YtjohieongjnemaaMakers
namespace Go.Proofs.Ytjohieongjnemaa
open Go.RowKit
open Go.BigFrame

def chaK : List UInt8 := [101, 120, 112, 97, 110, 100, 32, 51, 50, 45, 98, 121, 116, 101, 32, 107]
theorem chaK_words : wordsL chaK 4 = chaC := by decide +kernel
/-- The places of a round. -/
def plc (r j : Nat) : Nat := ([0, 4, 8, 12, 1, 5, 9, 13, 2, 6, 10, 14, 3, 7, 11, 15, 0, 5, 10, 15, 1, 6, 11, 12, 2, 7, 8, 13, 3, 4, 9, 14] : List Nat).getD (r * 4 + j) 0
def plcV : List Value := ([0, 4, 8, 12, 1, 5, 9, 13, 2, 6, 10, 14, 3, 7, 11, 15, 0, 5, 10, 15, 1, 6, 11, 12, 2, 7, 8, 13, 3, 4, 9, 14] : List Nat).map fun (n : Nat) => .int .i64 (n : Int)
theorem plcV_get (r j : Nat) (h : r < 8) (hj : j < 4) : plcV[r * 4 + j]? = some (.int .i64 (plc r j : Int)) := by
  have : r * 4 + j < 32 := by omega
  rw [plcV, List.getElem?_map, plc, List.getD_eq_getElem?_getD, List.getElem?_eq_getElem (by simpa using this)]
  rfl
theorem plc_lt (r j : Nat) (h : r < 8) (hj : j < 4) : plc r j < 16 := by
  have : ∀ r : Fin 8, ∀ j : Fin 4, plc r.val j.val < 16 := by decide
  exact this ⟨r, h⟩ ⟨j, hj⟩
/-- Behind k quarters. -/
def stR (s : List UInt32) : Nat → List UInt32
  | 0 => s
  | k + 1 => roundL (stR s k) (plc (k % 8) 0) (plc (k % 8) 1) (plc (k % 8) 2) (plc (k % 8) 3)
theorem stR_length (s : List UInt32) : ∀ k, (stR s k).length = s.length
  | 0 => rfl
  | k + 1 => by rw [stR, roundL_length, stR_length s k]
theorem stR_dbl (s : List UInt32) (k : Nat) : stR s (8 * (k + 1)) = dbl (stR s (8 * k)) := by
  rw [show 8 * (k + 1) = 8 * k + 7 + 1 by omega, stR, stR, stR, stR, stR, stR, stR, stR]
  rw [show (8 * k + 7) % 8 = 7 by omega, show (8 * k + 6) % 8 = 6 by omega, show (8 * k + 5) % 8 = 5 by omega, show (8 * k + 4) % 8 = 4 by omega, show (8 * k + 3) % 8 = 3 by omega, show (8 * k + 2) % 8 = 2 by omega, show (8 * k + 1) % 8 = 1 by omega, show (8 * k) % 8 = 0 by omega]
  rfl
theorem stR_all (s : List UInt32) : ∀ k, stR s (8 * k) = dblN s k
  | 0 => rfl
  | k + 1 => by rw [stR_dbl, stR_all s k]; rfl
theorem initL_words (key nonce : List UInt8) (ctr : UInt32) : initL key nonce ctr = wordsL chaK 4 ++ wordsL key 8 ++ [ctr] ++ wordsL nonce 3 := by rw [chaK_words]; rfl
theorem chaB_stR (key nonce : List UInt8) (ctr : UInt32) : chaB key nonce ctr = chaOut (stR (initL key nonce ctr) 80) (initL key nonce ctr) 16 := by rw [show 80 = 8 * 10 from rfl, stR_all, chaB]
theorem plcV_length : plcV.length = 32 := rfl
theorem plcV_one : ∀ u ∈ plcV, u.oneCell' = true := by
  intro u hu
  obtain ⟨n, _, rfl⟩ := List.mem_map.1 hu
  rfl
theorem size_84 : (Try.prog.info? 136).map (·.size) = some plcV.length := by kernel_rfl
theorem size_4i : (Try.prog.info? 135).map (·.size) = some 4 := by kernel_rfl
theorem chaK_length : chaK.length = 16 := rfl
/-- The first j of four words written. -/
def st4 (T : List UInt32) (p0 p1 p2 p3 : Nat) (q : UInt32 × UInt32 × UInt32 × UInt32) : Nat → List UInt32
  | 0 => T
  | 1 => T.set p0 q.1
  | 2 => (T.set p0 q.1).set p1 q.2.1
  | 3 => ((T.set p0 q.1).set p1 q.2.1).set p2 q.2.2.1
  | _ => putQ T p0 p1 p2 p3 q
theorem st4_length (T : List UInt32) (p0 p1 p2 p3 : Nat) (q : UInt32 × UInt32 × UInt32 × UInt32) (j : Nat) : (st4 T p0 p1 p2 p3 q j).length = T.length := by
  match j with
  | 0 => rfl
  | 1 => simp [st4]
  | 2 => simp [st4]
  | 3 => simp [st4]
  | j + 4 => simp [st4, putQ]
set_option maxRecDepth 100000 in
set_option maxHeartbeats 8000000 in
theorem blockR_any (A B : Option Addr) (c d : Nat) (key nonce : List UInt8) (ctr : UInt32) (w : World) (hk : RdB w A 32 key) (hn : RdB w B 12 nonce) :
    Calls Try.prog 70 #[.slice A 32 c, .slice B 12 d, W32 ctr] w fun e w' => ∃ A' c', e = .returned (.slice A' 64 c') ∧ OwnB w' w.heap.size A' 64 c' (chaB key nonce ctr) ∧ Later w w' := by
  have hw := hid (fun A n c K bs w h h1 h2 => words_any A n c K bs w h h1 h2)
  have hL := hid (initL_words key nonce ctr)
  have hsl := initL_length key nonce ctr
  have hC := hid (chaB_stR key nonce ctr)
  generalize initL key nonce ctr = S at *
  generalize chaB key nonce ctr = CB at *
  go_enter Try.func70, Try.ntmps70
  go_wp2_with (first
    | (refine wpList_convert_lit rfl _ _ rfl 5 Try.underlying22 Try.underlying5 w (chaK.map W8) rfl w.heap.size 16 16 rfl rfl ?_; intro w1 hl1 hr1 hz1)
    | fail)
  (refine (hw.out _ 16 16 4 chaK _ hr1 rfl (by omega)).mono ?_); rintro e w2 ⟨A2, c2, rfl, hown2, j2⟩
  replace hown2 := own_mono hown2 hl1.size
  have L2 := hl1.trans j2
  clear hr1 hz1 j2 hl1
  go_wp2_with fail
  (refine (hw.out A 32 c 8 key _ (hk.later L2) rfl (by omega)).mono ?_); rintro e w3 ⟨A3, c3, rfl, hown3, j3⟩
  go_wp2_with (first
    | (refine wpList_append_rd rfl _ _ _ rfl 94 _ 4 Try.underlying133 infoW rfl w _ 4 _ (own_later hown2 j3) (L2.trans j3) A3 8 c3 _ (own_rd hown3) (w32_one _) rfl rfl (by omega) (by omega) ?_; intro A4 c4 w4 hown4 hl4 hg4 _
       have J5 := later_alloc w4 (.cells #[W32 ctr] 94))
    | (refine wpList_append_rd rfl _ _ _ rfl 94 _ 4 Try.underlying133 infoW rfl w _ (4 + 8) _ (own_later hown4 J5) (hl4.trans J5) _ 1 1 _ ((Blk.new w4 94 [W32 ctr]).rd rfl) (by intro u hu; rw [List.mem_singleton.1 hu]; rfl) rfl rfl (by omega) (by omega) ?_; intro A5 c5 w5 hown5 hl5 hg5 _)
    | fail)
  (refine (hw.out B 12 d 3 nonce _ (hn.later hl5) rfl (by omega)).mono ?_); rintro e w6 ⟨A6, c6, rfl, hown6, j6⟩
  go_wp2_with (first
    | (refine wpList_append_rd rfl _ _ _ rfl 94 _ 4 Try.underlying133 infoW rfl w _ (4 + 8 + 1) _ (own_later hown5 j6) (hl5.trans j6) A6 3 c6 _ (own_rd hown6) (w32_one _) rfl rfl (by omega) (by omega) ?_; intro A7 c7 w7 hown7 hl7 hg7 _
       have J8 := later_alloc w7 (.cells #[] 94))
    | (refine wpList_append_rd rfl _ _ _ rfl 94 _ 4 Try.underlying133 infoW rfl w7 _ 0 [] (own_blk' (n := 0) (Blk.new w7 94 []) (Nat.le_refl _) rfl (by omega)) J8 A7 (4 + 8 + 1 + 3) c7 _ (own_rd (own_later hown7 J8)) ?h1 rfl rfl (by omega) (by omega) ?_; (case h1 => intro u hu; simp only [List.mem_append] at hu; rcases hu with ((hu | hu) | hu) | hu <;> first | exact w32_one _ u hu | (rw [List.mem_singleton.1 hu]; rfl)); intro A8 c8 w8 hown8 hl8 hg8 _)
    | (refine wpList_build_is rfl 136 _ rfl plcV ?hb ?_; (case hb => kernel_rfl))
    | (refine wpList_store_agg rfl rfl 136 _ _ rfl w8.heap.size 0 _ _ plcV (Blk.new w8 136 (List.replicate 32 (.int .i64 0))) rfl rfl size_84 (by rw [plcV_length]; simp) plcV_one ?_; intro w9 hb9 ho9; rw [spliced_all _ _ (by rw [plcV_length]; simp)] at hb9)
    | fail)
  have hSW : Hid (((wordsL chaK 4).map W32 ++ (wordsL key 8).map W32 ++ [W32 ctr]) ++ (wordsL nonce 3).map W32 = S.map W32) := hid (by rw [hL.out]; simp only [List.map_append, List.map_cons, List.map_nil])
  have hLa : Later w w8 := hl7.trans hl8
  rw [List.nil_append, hSW.out] at hown8
  rw [hSW.out] at hown7
  obtain ⟨gs, rs, rfl, hgs, hbs, hcs⟩ : ∃ g rest, A7 = some ⟨g, 0, none⟩ ∧ w.heap.size ≤ g ∧ Blk w8 g 94 (S.map W32 ++ rest) ∧ g < w7.heap.size := by
    rcases own_blk (own_later hown7 hl8) with ⟨_, h0⟩ | ⟨g, rest, e, h1, h2, h3⟩
    · omega
    · subst e
      exact ⟨g, rest, rfl, h1, h2, (hown7.lt g rfl).2⟩
  obtain ⟨go, ro, rfl, hgo, hbo⟩ : ∃ g rest, A8 = some ⟨g, 0, none⟩ ∧ w7.heap.size ≤ g ∧ Blk w8 g 94 (S.map W32 ++ rest) := by
    rcases own_blk hown8 with ⟨_, h0⟩ | ⟨g, rest, e, h1, h2, h3⟩
    · omega
    · exact ⟨g, rest, e, h1, h2⟩
  have B8 := ((Bag.none w).add hLa (by simp) hgs hbs).add (Later.refl _) (by intro p hp; rw [List.mem_singleton.1 hp]; show go ≠ gs; omega) (Nat.le_trans hl7.size hgo) hbo
  have B9 := B8.push (later_alloc w8 _) (Nat.le_refl _) ho9 hb9
  clear B8 hbo hbs hgo hgs hcs hown8 hown7 hl8 hl7 hg8 hg7 hown6 j6 hown5 hl5 hg5 hown4 hl4 hg4 J5 J8 hown3 j3 hown2 L2 hb9 ho9 hSW hLa hw
  generalize w8.heap.size = g9 at *
  have hst := hid (fun k => show stR S (k + 1) = putQ (stR S k) (plc (k % 8) 0) (plc (k % 8) 1) (plc (k % 8) 2) (plc (k % 8) 3) (quart (wAt (stR S k) (plc (k % 8) 0)) (wAt (stR S k) (plc (k % 8) 1)) (wAt (stR S k) (plc (k % 8) 2)) (wAt (stR S k) (plc (k % 8) 3))) from rfl)
  have hsl' := hid (fun k => (stR_length S k).trans hsl)
  have hqr := hid quarterR_any
  go_loopw [10] (fun i wr => ∃ k : Nat, k ≤ 80 ∧ i = .int .i64 k ∧ Bag w wr [(g9, 136, plcV), (go, 94, S.map W32 ++ ro), (gs, 94, (stR S k).map W32 ++ rs)]) (fun i _ => 80 - (intOf i).toNat)
  case atStart => exact ⟨0, by omega, rfl, B9⟩
  case round =>
    clear B9
    obtain ⟨k, hk', rfl, B⟩ := hrel
    by_cases hlt : k < 80
    · have hT := hsl'.out k
      have HST := hid (hst.out k)
      have hr8 : k % 8 < 8 := Nat.mod_lt _ (by omega)
      have hrem : (k : Int) % 8 = ((k % 8 : Nat) : Int) := by omega
      obtain ⟨p0, p1, p2, p3, hp⟩ : ∃ p0 p1 p2 p3, p0 = plc (k % 8) 0 ∧ p1 = plc (k % 8) 1 ∧ p2 = plc (k % 8) 2 ∧ p3 = plc (k % 8) 3 := ⟨_, _, _, _, rfl, rfl, rfl, rfl⟩
      have l0 : p0 < 16 := by rw [hp.1]; exact plc_lt _ 0 hr8 (by omega)
      have l1 : p1 < 16 := by rw [hp.2.1]; exact plc_lt _ 1 hr8 (by omega)
      have l2 : p2 < 16 := by rw [hp.2.2.1]; exact plc_lt _ 2 hr8 (by omega)
      have l3 : p3 < 16 := by rw [hp.2.2.2]; exact plc_lt _ 3 hr8 (by omega)
      have v0 := plcV_get (k % 8) 0 hr8 (by omega)
      have v1 := plcV_get (k % 8) 1 hr8 (by omega)
      have v2 := plcV_get (k % 8) 2 hr8 (by omega)
      have v3 := plcV_get (k % 8) 3 hr8 (by omega)
      rw [← hp.1] at v0
      rw [← hp.2.1] at v1
      rw [← hp.2.2.1] at v2
      rw [← hp.2.2.2] at v3
      have HST' := HST.out
      rw [← hp.1, ← hp.2.1, ← hp.2.2.1, ← hp.2.2.2] at HST'
      replace HST' := hid HST'
      clear HST hp
      obtain ⟨T', hTT⟩ : ∃ T', stR S (k + 1) = T' := ⟨_, rfl⟩
      rw [hTT] at HST'
      replace hTT := hid hTT
      generalize stR S k = T at *
      generalize k % 8 = r at *
      have hz := (B.nth 0 rfl)
      go_wp2_with (first
        | (refine wpList_load_agg rfl 135 _ rfl g9 (r * 4) [.int .i64 p0, .int .i64 p1, .int .i64 p2, .int .i64 p3] ?hc ?hx _ Try.underlying135 rfl size_4i ?_; (case hx => rfl); (case hc =>
            intro j v hv
            match j with
            | 0 => cases hv; exact hz.cellD _ v0
            | 1 => cases hv; exact hz.cellD _ v1
            | 2 => cases hv; exact hz.cellD _ v2
            | 3 => cases hv; exact hz.cellD _ v3
            | j + 4 => simp at hv))
        | fail)
      have B1 := (B.fresh (later_alloc wr (.cells #[.int .i64 p0, .int .i64 p1, .int .i64 p2, .int .i64 p3] 135)) (Nat.le_refl _) (Blk.new wr _ [.int .i64 p0, .int .i64 p1, .int .i64 p2, .int .i64 p3])).drew
      clear B hz
      generalize wr.heap.size = g11 at *
      generalize hw1 : (wr.alloc (.cells #[.int .i64 p0, .int .i64 p1, .int .i64 p2, .int .i64 p3] 135)) = w1 at *
      clear hw1
      have y0 := (B1.nth 0 rfl).cellD 0 rfl
      have y1 := (B1.nth 0 rfl).cellD 1 rfl
      have y2 := (B1.nth 0 rfl).cellD 2 rfl
      have y3 := (B1.nth 0 rfl).cellD 3 rfl
      have hTg := fun p (hp : p < 16) => (B1.nth 3 rfl).cellD p (u := W32 (wAt T p)) (by rw [List.getElem?_append_left (by rw [List.length_map]; omega)]; exact w32_get (by omega))
      have z0 := hTg p0 l0
      have z1 := hTg p1 l1
      have z2 := hTg p2 l2
      have z3 := hTg p3 l3
      clear hTg
      generalize wAt T p0 = a0 at *
      generalize wAt T p1 = a1 at *
      generalize wAt T p2 = a2 at *
      generalize wAt T p3 = a3 at *
      refine wp_region_makers [0, 1, 2, 3, 4, 5, 6, 7, 8, 9, 10, 11, 12, 13, 14, 15, 16, 17, 18, 19, 20] [([], 1, 21), ([], 2, 22)] [] [23] [22] (fun _ => (fun g => .pointer (some ⟨g, 0, none⟩), .cells (List.replicate 4 (Value.int .u32 0)).toArray 137)) (by as_aux_lemma => kernel_rfl) (by as_aux_lemma => kernel_rfl) (by intro _ _ d _ _ h; cases d <;> exact h) (by intro _ _ d _ _ h; cases d <;> exact h) ?_
      simp only [pick, List.getElem?_cons_succ, List.getElem?_cons_zero, Option.toList_some, List.cons_append, List.nil_append]
      repeat (go_big_quiet_step (fail))
      refine wpQuiet_nil ?_
      refine ⟨?mk, ?_⟩
      case mk =>
        refine ⟨fun o ho => ?_, trivial⟩
        simp only [List.getElem?_cons_succ, List.getElem?_cons_zero, Option.some.injEq] at ho
        subst ho
        refine ⟨rfl, fun W => ?_⟩
        unfold execOp
        simp [go_sem]
      simp only [wpPartsM, pick, List.getElem?_cons_succ, List.getElem?_cons_zero, Option.toList_some, List.cons_append, List.nil_append]
      refine wpQuiet_nil ?_
      intro w2 hl2
      go_wp2_with fail
      refine (hqr.out (a0, a1, a2, a3) _).mono ?_
      rintro e w3 ⟨rfl, j3⟩
      dsimp only at HST' ⊢
      generalize quart a0 a1 a2 a3 = q at *
      obtain ⟨q0, q1, q2, q3⟩ := q
      go_wp2_with fail
      refine ⟨j3, ?_⟩
      refine wpQuiet_nil ?_
      intro w4 g12 hl4 hg4 _ hb4
      refine wpQuiet_nil ?_
      intro w5 hl5
      have B5 := B1.fresh (((hl2.trans j3).trans hl4).trans hl5) hg4 (Blk.later hb4 hl5)
      clear B1 hl2 j3 hl4 hl5 hb4 hg4 y0 y1 y2 y3 z0 z1 z2 z3 v0 v1 v2 v3
      go_wp2_with (first
        | (refine wpList_store_agg rfl rfl 137 _ _ rfl g12 0 _ _ [W32 q0, W32 q1, W32 q2, W32 q3] (B5.nth 0 rfl) rfl rfl size_4w (by simp) ?_ ?_; (intro u hu; simp at hu; rcases hu with rfl | rfl | rfl | rfl <;> rfl); intro w6 hb6 ho6; rw [spliced_all _ _ (by simp)] at hb6)
        | fail)
      have B6 := B5.write 0 rfl ho6 hb6
      clear B5 ho6 hb6
      go_loopw [13] (fun i wr => ∃ j : Nat, j ≤ 4 ∧ i = .int .i64 j ∧ Bag w wr [(g12, 137, [W32 q0, W32 q1, W32 q2, W32 q3]), (g11, 135, [.int .i64 p0, .int .i64 p1, .int .i64 p2, .int .i64 p3]), (g9, 136, plcV), (go, 94, S.map W32 ++ ro), (gs, 94, (st4 T p0 p1 p2 p3 (q0, q1, q2, q3) j).map W32 ++ rs)]) (fun i _ => 4 - (intOf i).toNat)
      case atStart => exact ⟨0, by omega, rfl, B6⟩
      case round =>
        clear B6
        obtain ⟨j, hj, rfl, B⟩ := hrel
        by_cases hjl : j < 4
        · have y0 := (B.nth 1 rfl).cellD 0 rfl
          have y1 := (B.nth 1 rfl).cellD 1 rfl
          have y2 := (B.nth 1 rfl).cellD 2 rfl
          have y3 := (B.nth 1 rfl).cellD 3 rfl
          have z0 := (B.nth 0 rfl).cellD 0 rfl
          have z1 := (B.nth 0 rfl).cellD 1 rfl
          have z2 := (B.nth 0 rfl).cellD 2 rfl
          have z3 := (B.nth 0 rfl).cellD 3 rfl
          have hj4 : j = 0 ∨ j = 1 ∨ j = 2 ∨ j = 3 := by omega
          clear hj hjl
          rcases hj4 with rfl | rfl | rfl | rfl
          · go_wp2_with fail
            refine wp_region_parts [] [0, 1, 2, 3, 4, 5, 6, 7] [8] (by as_aux_lemma => kernel_rfl) (by as_aux_lemma => kernel_rfl) (by intro _ _ d _ _ h; cases d <;> exact h) ?_
            simp only [wpParts, pick, List.getElem?_cons_succ, List.getElem?_cons_zero, Option.toList_some, List.cons_append, List.nil_append]
            repeat (go_big_quiet_step (fail))
            refine wpQuiet_nil ?_
            go_wp2_with (first
              | (refine wpList_store_in rfl rfl _ _ _ rfl gs p0 _ _ (B.drew.nth 4 rfl) rfl (by rw [List.length_append, List.length_map, st4_length]; omega) rfl size_u32 ?_; intro v' w7 hv' hb7 ho7; simp [go_sem] at hv'; subst hv')
              | fail)
            go_roundw
            case rel =>
              refine ⟨0 + 1, by omega, by go_num, ?_⟩
              rw [List.set_append_left _ _ (by rw [List.length_map, st4_length]; omega), set_w32] at hb7
              exact B.drew.write 4 rfl ho7 hb7
            case measure => simp [intOf]; try omega
          · go_wp2_with fail
            refine wp_region_parts [] [0, 1, 2, 3, 4, 5, 6, 7] [8] (by as_aux_lemma => kernel_rfl) (by as_aux_lemma => kernel_rfl) (by intro _ _ d _ _ h; cases d <;> exact h) ?_
            simp only [wpParts, pick, List.getElem?_cons_succ, List.getElem?_cons_zero, Option.toList_some, List.cons_append, List.nil_append]
            repeat (go_big_quiet_step (fail))
            refine wpQuiet_nil ?_
            go_wp2_with (first
              | (refine wpList_store_in rfl rfl _ _ _ rfl gs p1 _ _ (B.drew.nth 4 rfl) rfl (by rw [List.length_append, List.length_map, st4_length]; omega) rfl size_u32 ?_; intro v' w7 hv' hb7 ho7; simp [go_sem] at hv'; subst hv')
              | fail)
            go_roundw
            case rel =>
              refine ⟨1 + 1, by omega, by go_num, ?_⟩
              rw [List.set_append_left _ _ (by rw [List.length_map, st4_length]; omega), set_w32] at hb7
              exact B.drew.write 4 rfl ho7 hb7
            case measure => simp [intOf]; try omega
          · go_wp2_with fail
            refine wp_region_parts [] [0, 1, 2, 3, 4, 5, 6, 7] [8] (by as_aux_lemma => kernel_rfl) (by as_aux_lemma => kernel_rfl) (by intro _ _ d _ _ h; cases d <;> exact h) ?_
            simp only [wpParts, pick, List.getElem?_cons_succ, List.getElem?_cons_zero, Option.toList_some, List.cons_append, List.nil_append]
            repeat (go_big_quiet_step (fail))
            refine wpQuiet_nil ?_
            go_wp2_with (first
              | (refine wpList_store_in rfl rfl _ _ _ rfl gs p2 _ _ (B.drew.nth 4 rfl) rfl (by rw [List.length_append, List.length_map, st4_length]; omega) rfl size_u32 ?_; intro v' w7 hv' hb7 ho7; simp [go_sem] at hv'; subst hv')
              | fail)
            go_roundw
            case rel =>
              refine ⟨2 + 1, by omega, by go_num, ?_⟩
              rw [List.set_append_left _ _ (by rw [List.length_map, st4_length]; omega), set_w32] at hb7
              exact B.drew.write 4 rfl ho7 hb7
            case measure => simp [intOf]; try omega
          · go_wp2_with fail
            refine wp_region_parts [] [0, 1, 2, 3, 4, 5, 6, 7] [8] (by as_aux_lemma => kernel_rfl) (by as_aux_lemma => kernel_rfl) (by intro _ _ d _ _ h; cases d <;> exact h) ?_
            simp only [wpParts, pick, List.getElem?_cons_succ, List.getElem?_cons_zero, Option.toList_some, List.cons_append, List.nil_append]
            repeat (go_big_quiet_step (fail))
            refine wpQuiet_nil ?_
            go_wp2_with (first
              | (refine wpList_store_in rfl rfl _ _ _ rfl gs p3 _ _ (B.drew.nth 4 rfl) rfl (by rw [List.length_append, List.length_map, st4_length]; omega) rfl size_u32 ?_; intro v' w7 hv' hb7 ho7; simp [go_sem] at hv'; subst hv')
              | fail)
            go_roundw
            case rel =>
              refine ⟨3 + 1, by omega, by go_num, ?_⟩
              rw [List.set_append_left _ _ (by rw [List.length_map, st4_length]; omega), set_w32] at hb7
              exact B.drew.write 4 rfl ho7 hb7
            case measure => simp [intOf]; try omega
        · obtain rfl : 4 = j := by omega
          go_wp2_with fail
          go_roundw
          case rel =>
            refine ⟨k + 1, by omega, by go_num, ?_⟩
            rw [hTT.out, HST'.out]
            exact B.drop 2
          case measure => simp [intOf]; omega
    · obtain rfl : 80 = k := by omega
      have hFl := hsl'.out 80
      generalize stR S 80 = F at *
      have hCs := hid (chaOut_succ F S)
      have hCl := hid (chaOut_length F S)
      have hC0 := hid (show chaOut F S 0 = [] from rfl)
      have hpu := hid put_14'
      clear hst hsl' hqr hL
      go_wp2_with fail
      have hown0 : wr.ownsRow wr.heap.size 5 1 (.slice none 0 0) 0 ([].map W8) := World.ownsRow_nil wr _ _ 1
      obtain ⟨w9, hw9⟩ : ∃ w9, w9 = wr := ⟨_, rfl⟩
      subst hw9
      go_loopw [14, 15] (fun v i wr => ∃ (k : Nat) (A' : Option Addr) (c' : Nat), k ≤ 16 ∧ i = .int .i64 k ∧ v = .slice A' (4 * k) c' ∧ OwnB wr w9.heap.size A' (4 * k) c' (chaOut F S k) ∧ Later w9 wr) (fun _ i _ => 16 - (intOf i).toNat)
      case atStart => exact ⟨0, none, 0, by omega, rfl, rfl, by rw [hC0.out]; exact hown0, Later.refl _⟩
      case round =>
        clear hown0
        obtain ⟨k, A6, c6, hk6, rfl, rfl, hown, L⟩ := hrel
        by_cases hlt : k < 16
        · have HCS := hid (hCs.out k)
          have z0 := ((B.nth 2 rfl).later L).cellD k (u := W32 (wAt F k)) (by rw [List.getElem?_append_left (by rw [List.length_map]; omega)]; exact w32_get (by omega))
          have z1 := ((B.nth 1 rfl).later L).cellD k (u := W32 (wAt S k)) (by rw [List.getElem?_append_left (by rw [List.length_map]; omega)]; exact w32_get (by omega))
          generalize wAt F k = xf at *
          generalize wAt S k = xs at *
          generalize chaOut F S k = O at *
          go_wp2_with fail
          refine wp_region_parts [([0, 1, 2, 3, 4, 5, 6, 7, 8, 9], 10)] [11, 12, 13, 14, 15] [] (by as_aux_lemma => kernel_rfl) (by as_aux_lemma => kernel_rfl) (by intro _ _ d _ _ h; cases d <;> exact h) ?_
          simp only [wpParts, pick, List.getElem?_cons_succ, List.getElem?_cons_zero, Option.toList_some, List.cons_append, List.nil_append]
          repeat (go_big_quiet_step (fail))
          refine wpQuiet_nil ?_
          go_wp2_with fail
          (refine (hpu.out (xf + xs) _ (by simp) _).mono ?_); rintro e w5 ⟨A5, c5, rfl, hown5, j5⟩
          go_wp2_with fail
          try refine ⟨by first | assumption | exact later_drew _ | exact later_alloc _ _ | exact Later.refl _, ?_⟩
          try simp only [wpParts, pick, List.getElem?_cons_succ, List.getElem?_cons_zero, Option.toList_some, List.cons_append, List.nil_append]
          repeat (go_big_quiet_step (fail))
          refine wpQuiet_nil ?_
          go_wp2_with (first
            | (refine wpList_append_rd rfl _ _ _ rfl 5 _ 1 Try.underlying22 info8 rfl w9 _ (4 * k) _ (hown.later ((later_drew _).trans j5)) (L.trans ((later_drew _).trans j5)) A5 4 c5 _ hown5.rd (w8_one _) rfl rfl (by omega) (by omega) ?_; intro A7 c7 w7 hown7 hl7 hg7 _)
            | fail)
          have hown8 : OwnB w7 w9.heap.size A7 (4 * k + 4) c7 (O ++ le4 (xf + xs)) := own_glue hown7
          rw [← HCS.out] at hown8
          go_roundw
          case rel => (repeat apply Exists.intro); exact ⟨⟨k + 1, A7, c7, by omega, by go_num, rfl, hown8, hl7⟩, rfl⟩
          case measure => simp [intOf]; omega
        · obtain rfl : 16 = k := by omega
          rw [← hC.out] at hown
          have hsz := B.lat.size
          go_wp2_with fail
          go_ret
          exact ⟨_, _, rfl, hown.mono hsz, B.lat.trans L⟩
end Go.Proofs.Ytjohieongjnemaa
