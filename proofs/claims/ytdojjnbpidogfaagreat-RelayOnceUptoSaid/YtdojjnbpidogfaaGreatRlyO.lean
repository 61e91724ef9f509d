/-
  RelayOnce: its walk.
-/
import Derived.Test.YtdojjnbpidogfaaGreatRly6
import Derived.Test.YtdojjnbpidogfaaGreatRly5
namespace Go.Proofs.YtdojjnbpidogfaaGreat
open Go.RowKit
open Go.BigFrame

theorem rd_first {w : World} {A : Option Addr} {n : Nat} {vs : List Value} (hr : Rd w A n vs) {m : Nat} (hm : m ≤ n) : Rd w A m (vs.take m) := by
  refine ⟨by rw [List.length_take, hr.1]; omega, fun h0 => ?_⟩
  obtain ⟨b, o, hA, hb, hc⟩ := hr.2 (by omega)
  refine ⟨b, o, hA, hb, fun j u hu => hc j u ?_⟩
  rw [List.getElem?_take] at hu
  split at hu
  · exact hu
  · cases hu
/-- What is asked of a take, over the secrets taken before. -/
def wantE (U : Nat) (S : List UInt8) (l : List Y32) : Nat := if U = 0 ∧ l.any (fun s => s.val == S) = true then 15 else U
theorem wantE_nil (U : Nat) (S : List UInt8) : wantE U S [] = U := by simp [wantE]
theorem wantE_step (U : Nat) (S : List UInt8) (l : List Y32) (s : Y32) :
    (wantE U S l ≠ 0 → wantE U S (l ++ [s]) = wantE U S l) ∧ (wantE U S l = 0 → (s.val == S) = true → wantE U S (l ++ [s]) = 15) ∧ (wantE U S l = 0 → (s.val == S) = false → wantE U S (l ++ [s]) = 0) := by
  unfold wantE
  simp only [List.any_append, List.any_cons, List.any_nil, Bool.or_false]
  by_cases hU : U = 0
  · subst hU
    cases l.any (fun s => s.val == S) <;> cases (s.val == S) <;> simp
  · simp [hU]
theorem take_next {α : Type} (d : α) (l : List α) {j : Nat} (h : j < l.length) : l.take (j + 1) = l.take j ++ [l.getD j d] := by
  rw [List.take_add_one, List.getD_eq_getElem?_getD, List.getElem?_eq_getElem h]
  rfl
theorem unw_sec {k p : List UInt8} (h : unwE k p = 0) : unwS k p = (secY k p).val := by rw [unwS, if_pos h]; rfl
theorem wantE_zero {U : Nat} {S : List UInt8} {l : List Y32} (h : wantE U S l = 0) : U = 0 := by
  unfold wantE at h
  split at h
  · omega
  · exact h
theorem wantE_full {U : Nat} {S : List UInt8} {l : List Y32} (h : wantE U S l ≠ 0) (hU : U = 0) : wantE U S l = 15 := by
  unfold wantE at h ⊢
  split
  · rfl
  · rename_i x
    rw [if_neg x] at h
    exact absurd hU h
theorem takE_want (k p : List UInt8) (ss : List Y32) : takE k p ss.reverse = wantE (unwE k p) (unwS k p) ss := by
  unfold takE wantE
  by_cases h : unwE k p = 0
  · rw [if_pos h, unw_sec h, h]
    by_cases hm : secY k p ∈ ss
    · rw [if_pos (List.mem_reverse.2 hm), if_pos ⟨rfl, by rw [List.any_eq_true]; exact ⟨_, hm, by simp⟩⟩]
    · rw [if_neg (fun x => hm (List.mem_reverse.1 x)), if_neg]
      rintro ⟨_, x⟩
      rw [List.any_eq_true] at x
      obtain ⟨s, hs, he⟩ := x
      exact hm (by rwa [← Subtype.ext (show s.val = (secY k p).val by simpa using he)])
  · rw [if_neg h, if_neg (fun x => h x.1)]
def FY (s : Y32) : List Value := s.val.map W8
theorem FY_length (s : Y32) : (FY s).length = 32 := by rw [FY, List.length_map, s.2]
theorem FY_one (s : Y32) : ∀ u ∈ FY s, u.oneCell' = true := w8_one _
theorem infoY : (Tryz.prog.info? 31).map (fun i => (i.zero, i.size, i.bytes)) = some (some (.agg (FY zero32).toArray), 32, 32) := by kernel_rfl
theorem infoY2 : (Tryz.prog.info? 31).map (fun i => (i.zero, i.size)) = some (some (.agg (FY zero32).toArray), 32) := by kernel_rfl
theorem blk_oneY (w : World) (t : TypeId) (x : Y32) : Blk (w.alloc (.cells (FY x).toArray t)) w.heap.size t ([x].flatMap FY) := by
  rw [List.flatMap_cons, List.flatMap_nil, List.append_nil]
  exact Blk.new w t _
theorem rd_int {w : World} {A : Option Addr} {n : Nat} {os : List Int} (h : Rd w A n (os.map intV)) {k : Nat} (hk : k < os.length) : ∃ b o, A = some ⟨b, o, none⟩ ∧ b < w.heap.size ∧ w.cell? ⟨b, o + k, none⟩ = some (.int .i64 (os.getD k 0)) := by
  have hl := h.1
  rw [List.length_map] at hl
  obtain ⟨b, o, h1, h2, h3⟩ := h.2 (by omega)
  exact ⟨b, o, h1, h2, h3 k _ (by rw [List.getElem?_map, List.getD_eq_getElem?_getD, List.getElem?_eq_getElem hk]; rfl)⟩
section
variable {ops : Array Oper} {rest : List Oper} {o : Oper} {a : Act}
theorem makes_refp (hw : Region.wanted o (yielded ops a.tmps) = true) (ho : o.op = .alloc 30) :
    Makes Tryz.prog ops o (fun g => .pointer (some ⟨g, 0, none⟩)) (.cells re0.toArray 30) a :=
  ⟨hw, fun w => by
    unfold execOp
    rw [ho]
    simp [go_sem]⟩
theorem makes_y32 (hw : Region.wanted o (yielded ops a.tmps) = true) (ho : o.op = .alloc 31) :
    Makes Tryz.prog ops o (fun g => .pointer (some ⟨g, 0, none⟩)) (.cells (List.replicate 32 (Value.int .u8 0)).toArray 31) a :=
  ⟨hw, fun w => by
    unfold execOp
    rw [ho]
    simp [go_sem]⟩
end
set_option maxRecDepth 100000 in
set_option maxHeartbeats 8000000 in
theorem relayOnce_walk (x : Nod) (A B : Option Addr) (n c m0 d : Nat) (ps : List (List UInt8)) (os0 : List Int) (w : World) (hp : Parts w (fun _ => False) A n ps) (_hn : n ≤ 1048576) (hps : ∀ p ∈ ps, p.length ≤ 1048576) (ho0 : Rd w B m0 (os0.map intV)) (hm0 : m0 ≤ 1048576) (hmd : m0 ≤ d) :
    Calls Tryz.prog 6 #[.agg (NC x).toArray, .slice A n c, .slice B m0 d] w fun e w' => e = .returned (.bool true) ∧ Later w w' := by
  obtain ⟨m, os, hB, hm6, hos⟩ : ∃ (m : Nat) (os : List Int), ((m0 ≤ 6 ∧ m = m0) ∨ (6 < m0 ∧ m = 6)) ∧ m ≤ 6 ∧ Rd w B m (os.map intV) := by
    by_cases h : m0 ≤ 6
    · exact ⟨m0, os0, .inl ⟨h, rfl⟩, h, ho0⟩
    · exact ⟨6, os0.take 6, .inr ⟨by omega, rfl⟩, by omega, by rw [List.map_take]; exact rd_first ho0 (by omega)⟩
  have hosl : os.length = m := by have := hos.1; rwa [List.length_map] at this
  have hD : (decide ((6 : Int) < (m0 : Int)) = false ∧ m = m0) ∨ (decide ((6 : Int) < (m0 : Int)) = true ∧ m = 6 ∧ 6 ≤ d) := hB.elim (fun h => .inl ⟨decide_eq_false (by omega), h.2⟩) (fun h => .inr ⟨decide_eq_true (by omega), h.2, by omega⟩)
  have HZ := hid zcP
  have HZp := hid zcPe
  have hzl : (PC cmd0 z768 nil8).length = 789 := PC_length _ z768_length _
  have hz0 : re0.length = 22 := rfl
  have z768l := z768_length
  have hpl := hp.len
  have C1 := bag_new w 71 (NC x)
  have hPu := hid (fun w => nodePublic_any x w)
  have hNe := hid (fun w => rnew_any x w)
  have hbd := hid (built_dnode x)
  have l0 : ((List.replicate 768 (0 : UInt8)).map W8).length = 768 := by rw [List.length_map, List.length_replicate]
  generalize List.replicate 768 (0 : UInt8) = Z at *
  clear hB ho0
  rcases hD with ⟨hdec, rfl⟩ | ⟨hdec, rfl, h6d⟩
  all_goals
    go_enter Tryz.func6, Tryz.ntmps6
    go_wp2_with fail
    (with_reducible refine (awake15 _).mono ?_); rintro e w1 ⟨rfl, j1⟩
    have C2 := C1.later j1
    clear C1 j1
    go_wp2_with (first
      | (refine load_nod rfl _ rfl (blk_cells (C2.nth 0 rfl)) rfl ?_)
      | (refine wpList_build_w rfl 76 _ rfl (NC x) (by simp only [List.map_toArray, List.map_cons, List.map_nil]; exact hbd.out) ?_)
      | fail)
    (refine (hNe.out _).mono ?_); rintro e w2 ⟨g, rfl, hg, hb2, j2⟩
    have C3 : Bag w w2 [(g, 79, LC x (.pointer none) ((0 : Nat) : Int)), (w.heap.size, 71, NC x)] := C2.fresh j2 hg hb2
    have C4 := C3.drew
    have x1 := (C4.nth 0 rfl).cellD 1 (LC_nod _ _ _ (i := 1) rfl)
    have y1 := (C4.nth 1 rfl).cellD 1 (u := W64 x.id) rfl
    have hg2 := (C4.nth 0 rfl).lt
    have hw2 := (C4.nth 1 rfl).lt
    clear C2 hb2 j2 hg
    go_wp2_with fail
    refine wp_region_parts [([0, 1, 2, 3, 4, 5, 6, 7, 8, 9, 10, 11, 12, 13, 14, 15, 16, 17, 19, 20], 18), ([], 21)] [22, 23] [] (by as_aux_lemma => kernel_rfl) (by as_aux_lemma => kernel_rfl) (by intro _ _ d _ _ h; cases d <;> exact h) ?_
    simp only [wpParts, pick, List.getElem?_cons_succ, List.getElem?_cons_zero, Option.toList_some, List.cons_append, List.nil_append]
    repeat (first | go_big_quiet_skip | (go_big_quiet_want; (refine quiet_dnode _ rfl (fun i v hv => (C4.nth 0 rfl).cellD _ (LC_nod _ _ _ hv)) (C4.nth 0 rfl).lt rfl ?_); simp only [Act.put, List.setIfInBounds_toArray, List.set_cons_succ, List.set_cons_zero]; go_big_quiet_on) | (go_big_quiet_step (fail)))
    refine wpQuiet_nil ?_
    go_wp2_with fail
    (refine (hPu.out _).mono ?_); rintro e w3 ⟨g3, rfl, hg3, hb3, j3⟩
    have C5 := C4.later j3
    go_wp2_with fail
    try refine ⟨by first | assumption | exact later_drew _ | exact later_alloc _ _ | exact Later.refl _, ?_⟩
    try simp only [wpParts, pick, List.getElem?_cons_succ, List.getElem?_cons_zero, Option.toList_some, List.cons_append, List.nil_append]
    repeat (go_big_quiet_step (fail))
    refine wpQuiet_nil ?_
    go_wp2_with fail
    (refine (equal_any (some ⟨g3, 0, none⟩) (some ⟨w.heap.size, 34, none⟩) 32 32 32 32 x.pub.val x.pub.val _ (blk_rdB hb3 x.pub.2) (rdB_cells (C5.nth 1 rfl).lt (fun j v hv => (C5.nth 1 rfl).cellD _ (NC_pub x hv)) x.pub.2) (by omega) (by omega)).mono ?_); rintro e w4 ⟨rfl, j4⟩
    rw [decide_eq_true rfl]
    have C6 := C5.later j4
    go_wp2_with fail
    try refine ⟨by first | assumption | exact later_drew _ | exact later_alloc _ _ | exact Later.refl _, ?_⟩
    try simp only [wpParts, pick, List.getElem?_cons_succ, List.getElem?_cons_zero, Option.toList_some, List.cons_append, List.nil_append]
    repeat (go_big_quiet_step (fail))
    refine wpQuiet_nil ?_
    clear C3 C4 C5 x1 y1 hg2 hw2 hb3 hg3 j3 j4 hPu hNe hbd
    go_wp2_with fail
    clear hdec
    go_loopw [8, 56] (fun v i wr => ∃ (k N : Nat) (ss : List Y32) (A8 : Option Addr) (c8 : Nat) (lv : Value), i = .int .i64 k ∧ k ≤ os.length ∧ v = .slice A8 N c8 ∧ N ≤ k ∧ Hid (ss.length = N) ∧ wr.ownsRow w.heap.size 31 32 (.slice A8 N c8) N (ss.flatMap FY) ∧ Chain wr w.heap.size lv ss.reverse ∧ Bag w wr [(g, 79, LC x lv ((N : Nat) : Int)), (w.heap.size, 71, NC x)]) (fun _ i _ => os.length - (intOf i).toNat)
    case atStart => exact ⟨0, 0, [], none, 0, .pointer none, rfl, by omega, rfl, by omega, hid rfl, World.ownsRow_nil _ _ _ 32, rfl, C6⟩
    case round =>
      clear C6
      obtain ⟨k, N, ss, A8, c8, lv, rfl, hkm, rfl, hNk, hss, own, hch, C⟩ := hrel
      by_cases hlt : k < os.length
      · obtain ⟨b, o, rfl, hbb, c0⟩ := rd_int (hos.later C.lat) hlt
        have hlt' := hlt
        rw [hosl] at hlt'
        generalize os.getD k 0 = r at *
        by_cases hr0 : r < 0
        · have d0 : decide (r < 0) = true := decide_eq_true hr0
          go_wp2
          exact ⟨⟨k + 1, N, ss, A8, c8, lv, by go_num, by omega, rfl, by omega, hss, own, hch, C⟩, by simp [intOf]; omega⟩
        · obtain ⟨ρ, rfl⟩ : ∃ ρ : Nat, r = (ρ : Int) := ⟨r.toNat, by omega⟩
          clear hr0
          by_cases hr1 : n ≤ ρ
          · have d1 : decide ((n : Int) ≤ (ρ : Int)) = true := decide_eq_true (by omega)
            go_wp2
            exact ⟨⟨k + 1, N, ss, A8, c8, lv, by go_num, by omega, rfl, by omega, hss, own, hch, C⟩, by simp [intOf]; omega⟩
          · have hρ : ρ < n := by omega
            clear hr1
            have hps' := hid (hps (ps.getD ρ []) (getD_mem' ps ρ (by omega)))
            obtain ⟨b2, o2, Ak, nk, ck, rfl, hb2, hck, hcap, hrd, _⟩ := hp.at_ hρ
            have hckL : Hid (∀ v, Later w v → v.cell? ⟨b2, o2 + ρ, none⟩ = some (.slice Ak nk ck) ∧ b2 < v.heap.size) := hid (fun v l => ⟨((Later.below l).cell (p := ⟨b2, o2 + ρ, none⟩) hb2).trans hck, Nat.lt_of_lt_of_le hb2 l.size⟩)
            clear hck hb2
            obtain ⟨ck1, bl1⟩ := hckL.out wr C.lat
            generalize ps.getD ρ [] = p at *
            by_cases h768 : nk = 768
            · subst h768
              have hpl8 := hrd.len
              have hkd := hid (C.drew.nth 1 rfl)
              have hU := hid (fun (v : World) h1 h2 => unwrapR_any (some ⟨w.heap.size, 2, none⟩) Ak 32 32 ck x.priv.val p v h1 (by omega) h2 hcap)
              have hPa := hid (fun (w : World) h => parse15_any Ak ck p w h)
              have hTw := hid (takE_want x.priv.val p ss)
              have hTk := hid (fun (v : World) h1 h2 h3 => rtake_any g N w.heap.size x lv ss.reverse p v hpl8 h1 (by omega) h2 h3)
              have hSy := hid (fun h => unw_sec (k := x.priv.val) (p := p) h)
              have hEr := hid (fun h => unw_err (k := x.priv.val) (p := p) h)
              have hQc := hid (unwQ_cases x.priv.val p hpl8)
              have hPl := unwP_length x.priv.val p hpl8
              have hBs := unwB_small x.priv.val p hpl8
              have hQs := unwQ_small x.priv.val p hpl8
              have hSl : (unwS x.priv.val p).length = 32 := by
                unfold unwS
                split
                · exact subB_length (by rw [peelB_length]; omega)
                · exact List.length_replicate
              generalize takE x.priv.val p ss.reverse = TE at *
              generalize secY x.priv.val p = SY at *
              generalize unwE x.priv.val p = UE at *
              generalize unwC x.priv.val p = UC at *
              generalize unwP x.priv.val p = UP at *
              generalize unwB x.priv.val p = UB at *
              generalize unwQ x.priv.val p = UQ at *
              generalize unwS x.priv.val p = US at *
              obtain ⟨UY, rfl⟩ : ∃ UY : Y32, UY.val = US := ⟨⟨US, hSl⟩, rfl⟩
              have hx8 : ∀ b, (Value.slice A8 N c8).ownBlock = some b → b < wr.heap.size := fun b hb => (World.ownsRow.lt own b hb).2
              go_wp2_with fail
              obtain ⟨ck2, bl2⟩ := hckL.out wr.drew C.drew.lat
              have hw0 := hkd.out.lt
              refine wp_region_makers [0, 1, 2, 3, 4, 5] [([], 1, 6), ([7, 8, 9, 10], 2, 11), ([], 2, 12)] [] [13, 14, 15] [11, 12] (fun i => if i = 11 then (fun g => .pointer (some ⟨g, 0, none⟩), .cells re0.toArray 30) else (fun g => .pointer (some ⟨g, 0, none⟩), .cells (List.replicate 32 (Value.int .u8 0)).toArray 31)) (by as_aux_lemma => kernel_rfl) (by as_aux_lemma => kernel_rfl) (by intro _ _ d _ _ h; cases d <;> exact h) (by intro _ _ d _ _ h; cases d <;> exact h) ?_
              simp only [pick, List.getElem?_cons_succ, List.getElem?_cons_zero, Option.toList_some, List.cons_append, List.nil_append]
              repeat (go_big_quiet_step (fail))
              refine wpQuiet_nil ?_
              refine ⟨?mk, ?_⟩
              case mk =>
                refine ⟨fun o ho => ?_, fun o ho => ?_, trivial⟩
                all_goals
                  simp only [List.getElem?_cons_succ, List.getElem?_cons_zero, Option.some.injEq] at ho
                  subst ho
                · exact makes_refp rfl rfl
                · exact makes_y32 rfl rfl
              simp only [wpPartsM, pick, List.getElem?_cons_succ, List.getElem?_cons_zero, Option.toList_some, List.cons_append, List.nil_append, reduceIte, Option.bind_some]
              refine wpQuiet_nil ?_
              intro m1 j1
              go_wp2_with fail
              (refine (hU.out _ (rdB_cells (hkd.out.later j1).lt (fun j v hv => (hkd.out.later j1).cellD _ (NC_priv x hv)) x.priv.2) (hrd.later (C.drew.lat.trans j1))).mono ?_); rintro e m2 ⟨AQ, cQ, AB, cB, rfl, oQ, oB, j2⟩
              go_wp2_with fail
              try refine ⟨by first | assumption | exact later_drew _ | exact later_alloc _ _ | exact Later.refl _, ?_⟩
              try simp only [wpParts, pick, List.getElem?_cons_succ, List.getElem?_cons_zero, Option.toList_some, List.cons_append, List.nil_append]
              repeat (go_big_quiet_step (fail))
              refine wpQuiet_nil ?_
              intro m5 g11 j5 hg11 _ hb11
              refine wpQuiet_nil ?_
              intro m6 g12 j6 hg12 hn12 hb12
              refine wpQuiet_nil ?_
              intro m7 j7
              simp only [Act.put, List.setIfInBounds_toArray, List.set_cons_succ, List.set_cons_zero]
              have hne : g11 ≠ g12 := fun e => hn12 (.inl e.symm)
              have hX : Blk m7 g11 30 re0 := Blk.later (show Blk m5 g11 _ _ from hb11) (j6.trans j7)
              have hY : Blk m7 g12 31 (List.replicate 32 (Value.int .u8 0)) := Blk.later (show Blk m6 g12 _ _ from hb12) j7
              have jj := (j1.trans j2).trans ((j5.trans j6).trans j7)
              have pQ := own_later oQ ((j5.trans j6).trans j7)
              have pB := own_later oB ((j5.trans j6).trans j7)
              have own7 := own_laterK own ((later_drew wr).trans jj)
              have hch7 := hch.later ((later_drew wr).trans jj)
              have gl11 : wr.heap.size ≤ g11 := by have := hg11; simpa using this
              have gl12 : wr.heap.size ≤ g12 := by have := hg12; simpa using this
              have hn11 : ∀ b, (Value.slice A8 N c8).ownBlock = some b → b ≠ g11 := fun b hb => by have := hx8 b hb; omega
              have hn13 : ∀ b, (Value.slice A8 N c8).ownBlock = some b → b ≠ g12 := fun b hb => by have := hx8 b hb; omega
              have Ca := C.drew.add jj (k := g11) (fun p hp e => by have := (C.blk p hp).lt; omega) (by have := C.lat.size; omega) hX
              have Cb := Ca.add (Later.refl m7) (k := g12) (fun p hp e => by
                rcases List.mem_cons.1 hp with rfl | hp
                · exact hne e.symm
                · have := (C.blk p hp).lt
                  omega) (by have := C.lat.size; omega) hY
              clear hb11 hb12 j5 j6 j7 hn12 oQ oB hU j1 j2
              go_wp2_with (first
                | (refine store_RC rfl rfl _ _ rfl hX rfl rfl rfl rfl hz0 ?_; intro m8 hb8 ho8
                   have hY8 := hY.only ho8 (fun e => hne e.symm)
                   have own8 := own_onlyN own7 ho8 hn11
                   have hch8 := Chain.only hX (by decide) ho8 hch7
                   have qQ := own_onlyK pQ hX (by decide) ho8
                   have qB := own_onlyK pB hX (by decide) ho8)
                | (refine store_B rfl rfl _ _ rfl hY8 rfl rfl hSl rfl ?_; intro m9 hb9 ho9)
                | fail)
              have C9 : Bag w m9 [(g12, 31, UY.val.map W8), (g11, 30, RCc UC (.slice AQ UQ.length cQ) (.slice AB UB.length cB)), (g, 79, LC x lv ((N : Nat) : Int)), (w.heap.size, 71, NC x)] := (Cb.write 1 rfl ho8 hb8).write 0 rfl ho9 hb9
              have own9 := own_onlyN own8 ho9 hn13
              have hch9 := Chain.only hY8 (by decide) ho9 hch8
              have rQ := own_onlyK qQ hY8 (by decide) ho9
              have rB := own_onlyK qB hY8 (by decide) ho9
              have hcp9 := (C9.nth 3 rfl).lt
              clear hX hY hY8 pQ pB qQ qB own7 own8 hch7 hch8 ho8 ho9 hb8 hb9 jj C own hch
              go_loopw [13, 89] (fun v i wq => ∃ j : Nat, i = .int .i64 j ∧ j ≤ N ∧ v = .int .i64 ((wantE UE UY.val (ss.take j) : Nat) : Int) ∧ Later m9 wq) (fun _ i _ => N - (intOf i).toNat)
              case atStart => exact ⟨0, rfl, by omega, by rw [List.take_zero, wantE_nil], Later.refl _⟩
              case round =>
                obtain ⟨j, rfl, hjN, rfl, L⟩ := hrel
                by_cases hj : j < N
                · obtain ⟨g5, l5, rfl, hb5, hcN, hv5⟩ := row_at FY_length zero32 (own_laterK own9 L) hss.out hj
                  have hst := wantE_step UE UY.val (ss.take j) (ss.getD j zero32)
                  rw [← take_next zero32 ss (by rw [hss.out]; exact hj)] at hst
                  replace hst := hid hst
                  generalize ss.getD j zero32 = s at *
                  generalize hWe : wantE UE UY.val (ss.take (j + 1)) = WN at *
                  replace hWe := hid hWe
                  generalize wantE UE UY.val (ss.take j) = WJ at *
                  have y5 := hb5.lt
                  have hb12 := (C9.later L).nth 0 rfl
                  have hn5 : g12 ≠ wr.heap.size := by have := hb12.lt; omega
                  by_cases hw0 : WJ = 0
                  · subst hw0
                    cases he : (s.val == UY.val)
                    · have hWN : WN = 0 := hst.out.2.2 rfl he
                      subst hWN
                      clear hst
                      go_wp2_with (first
                        | (refine load_32 rfl _ rfl (fun j' v hv => hb5.cellD _ (hv5 j' v hv)) s.2 rfl ?_)
                        | (refine store_B rfl rfl _ _ rfl (Blk.new wr _ (List.replicate 32 (Value.int .u8 0))) rfl rfl s.2 rfl ?_; intro w10 hb10 ho10
                           have hb13 := (hb12.later (later_alloc wr (.cells (List.replicate 32 (Value.int .u8 0)).toArray 31))).only ho10 hn5
                           have L' := (L.trans (later_alloc wr (.cells (List.replicate 32 (Value.int .u8 0)).toArray 31))).only ho10 (by have := L.size; omega))
                        | (refine load_B rfl _ rfl hb10 s.2 rfl ?_)
                        | (refine load_B rfl _ rfl hb13 hSl rfl ?_)
                        | fail)
                      exact ⟨⟨j + 1, by go_num, by omega, by rw [hWe.out]; first | rfl | done, L'⟩, by simp [intOf]; omega⟩
                    · have hWN : WN = 15 := hst.out.2.1 rfl he
                      subst hWN
                      clear hst
                      go_wp2_with (first
                        | (refine load_32 rfl _ rfl (fun j' v hv => hb5.cellD _ (hv5 j' v hv)) s.2 rfl ?_)
                        | (refine store_B rfl rfl _ _ rfl (Blk.new wr _ (List.replicate 32 (Value.int .u8 0))) rfl rfl s.2 rfl ?_; intro w10 hb10 ho10
                           have hb13 := (hb12.later (later_alloc wr (.cells (List.replicate 32 (Value.int .u8 0)).toArray 31))).only ho10 hn5
                           have L' := (L.trans (later_alloc wr (.cells (List.replicate 32 (Value.int .u8 0)).toArray 31))).only ho10 (by have := L.size; omega))
                        | (refine load_B rfl _ rfl hb10 s.2 rfl ?_)
                        | (refine load_B rfl _ rfl hb13 hSl rfl ?_)
                        | fail)
                      exact ⟨⟨j + 1, by go_num, by omega, by rw [hWe.out]; first | rfl | done, L'⟩, by simp [intOf]; omega⟩
                  · have hWN : WN = WJ := hst.out.1 hw0
                    subst hWN
                    have e1 : ((WN : Int) == 0) = false := by simp; omega
                    clear hst hw0
                    go_wp2_with (first
                      | (refine load_32 rfl _ rfl (fun j' v hv => hb5.cellD _ (hv5 j' v hv)) s.2 rfl ?_)
                      | (refine store_B rfl rfl _ _ rfl (Blk.new wr _ (List.replicate 32 (Value.int .u8 0))) rfl rfl s.2 rfl ?_; intro w10 hb10 ho10
                         have L' := (L.trans (later_alloc wr (.cells (List.replicate 32 (Value.int .u8 0)).toArray 31))).only ho10 (by have := L.size; omega))
                      | fail)
                    exact ⟨⟨j + 1, by go_num, by omega, by rw [hWe.out]; first | rfl | done, L'⟩, by simp [intOf]; omega⟩
                · have hNj : N = j := by omega
                  subst hNj
                  have hWT : wantE UE UY.val (ss.take N) = TE := by rw [List.take_of_length_le (by rw [hss.out]; omega)]; exact hTw.out.symm
                  rw [hWT]
                  have Ca := C9.later L
                  have ownA := own_laterK own9 L
                  have hchA := hch9.later L
                  have sQ := own_later rQ L
                  have sB := own_later rB L
                  obtain ⟨ck3, bl3⟩ := hckL.out wr Ca.lat
                  clear hjN hj hWT C9 own9 hch9 rQ rB L
                  go_wp2_with fail
                  (refine (hPa.out _ (hrd.later Ca.lat)).mono ?_); rintro e v1 ⟨rfl, k1⟩
                  have Cb := Ca.later k1
                  have hnb : Blk (v1.alloc (.cells Tryz.zeroCells40 40)) v1.heap.size 40 Tryz.zeroCells40.toList := Blk.new v1 _ _
                  have kk := k1.trans (later_alloc v1 (.cells Tryz.zeroCells40 40))
                  have ownB := own_laterK ownA kk
                  have hchB := hchA.later kk
                  have tQ := own_later sQ kk
                  have tB := own_later sB kk
                  clear Ca ownA hchA sQ sB ck3 bl3 k1 kk
                  go_wp2_with (first
                    | (refine store_Pk rfl rfl _ _ rfl ((Blk.new v1 _ Tryz.zeroCells40.toList).cast HZ.out) rfl rfl hpl8 l0 ?_; intro v2 hb2 ho2
                       have Cc := Cb.push (later_alloc _ _) (Nat.le_refl _) ho2 hb2)
                    | (refine load_Pk rfl _ rfl (Cc.nth 0 rfl) hpl8 rfl ?_)
                    | fail)
                  have ownC := own_onlyK ownB hnb (by decide) ho2
                  have hchC := Chain.only hnb (by decide) ho2 hchB
                  have uQ := own_onlyK tQ hnb (by decide) ho2
                  have uB := own_onlyK tB hnb (by decide) ho2
                  clear hnb ownB hchB tQ tB hb2 ho2 Cb
                  (refine (hTk.out _ (Cc.nth 3 rfl) hchC (by have := Cc.lat.size; omega)).mono ?_); rintro e v3 (⟨hT0, A', c', v', rfl, oU, hbg, hch3, hon⟩ | ⟨hTn, rfl, hbg, hch3, k3⟩)
                  · subst hT0
                    have hU0 := wantE_zero hTw.out.symm
                    have hQ := hid (hQc.out hU0)
                    have hUS : Hid (UY = SY) := hid (Subtype.ext (hSy.out hU0))
                    have Cd : Bag w v3 [(v1.heap.size, 40, p.map W8), (g12, 31, UY.val.map W8), (g11, 30, RCc UC (.slice AQ UQ.length cQ) (.slice AB UB.length cB)), (g, 79, LC x v' ((N : Int) + 1)), (w.heap.size, 71, NC x)] := Cc.write 3 rfl hon hbg
                    have hv3 := hbg.lt
                    have hgl : ∀ b, (Value.slice A8 N c8).ownBlock = some b → b < v3.heap.size := fun b hb => by
                      have h1 := (World.ownsRow.lt (own_onlyK ownC (Cc.nth 3 rfl) (by decide) hon) b hb).2
                      exact h1
                    have ownD := own_laterK (own_onlyK ownC (Cc.nth 3 rfl) (by decide) hon) (later_alloc v3 (.cells Tryz.zeroCells46 46))
                    have hchD := hch3.later (later_alloc v3 (.cells Tryz.zeroCells46 46))
                    have xQ := own_later (own_onlyK uQ (Cc.nth 3 rfl) (by decide) hon) (later_alloc v3 (.cells Tryz.zeroCells46 46))
                    have xB := own_later (own_onlyK uB (Cc.nth 3 rfl) (by decide) hon) (later_alloc v3 (.cells Tryz.zeroCells46 46))
                    have xU := own_later oU (later_alloc v3 (.cells Tryz.zeroCells46 46))
                    have hnb : Blk (v3.alloc (.cells Tryz.zeroCells46 46)) v3.heap.size 46 Tryz.zeroCells46.toList := Blk.new v3 _ _
                    clear hTw hTk hSy hEr hQc hU0 ownC hchC uQ uB Cc hon hch3 hbg oU
                    go_wp2_with (first
                      | (refine store_PC rfl rfl _ _ rfl ((Blk.new v3 _ Tryz.zeroCells46.toList).cast HZp.out) rfl rfl hPl rfl hzl ?_; intro v4 hb4 ho4
                         have Ce := Cd.push (later_alloc _ _) (Nat.le_refl _) ho4 hb4)
                      | (refine load_PC rfl _ rfl (Ce.nth 0 rfl) hPl rfl ?_)
                      | (refine wpList_load_at rfl 30 _ rfl g11 0 (RCc UC (.slice AQ UQ.length cQ) (.slice AB UB.length cB)) (fun j v hv => (Ce.nth 3 rfl).cellD _ (all_cells _ j v hv)) rfl _ Tryz.underlying30 rfl (by rw [RCc_length]; exact size22) ?_)
                      | fail)
                    have ownE := own_onlyN ownD ho4 (fun b hb => Nat.ne_of_lt (hgl b hb))
                    have hchE := Chain.only hnb (by decide) ho4 hchD
                    have yQ := own_onlyK xQ hnb (by decide) ho4
                    have yB := own_onlyK xB hnb (by decide) ho4
                    have yU := own_onlyK xU hnb (by decide) ho4
                    (refine (is15_ok UC UP UQ UB A' AB AQ _ _ _ _ _ _ hPl (own_rd yU) (own_rd yB) (by omega) (own_rd yQ) hQ.out).mono ?_); rintro e v5 ⟨rfl, k5⟩
                    have Cf := Ce.later k5
                    have ownF := own_laterK ownE k5
                    have hchF := hchE.later k5
                    clear hQ ownD hchD xQ xB xU hnb ho4 hb4 yQ yB yU Ce Cd ownE hchE
                    have ja := later_alloc v5 (.cells (FY UY).toArray 31)
                    have Cfa := Cf.later ja
                    have ownA := own_laterK ownF ja
                    have hchA := hchF.later ja
                    have hnR : ∀ q ∈ [(v3.heap.size, 46, PC UC UP (.slice A' UB.length c')), (v1.heap.size, 40, p.map W8), (g12, 31, UY.val.map W8), (g11, 30, RCc UC (.slice AQ UQ.length cQ) (.slice AB UB.length cB)), (g, 79, LC x v' ((N : Int) + 1)), (w.heap.size, 71, NC x)], (Value.slice A8 N c8).ownBlock ≠ some q.1 := by
                      intro q hp
                      simp only [List.mem_cons, List.not_mem_nil, or_false] at hp
                      rcases hp with rfl | rfl | rfl | rfl | rfl | rfl
                      · exact own_neN ownA (Cfa.nth 0 rfl) (by decide)
                      · exact own_neN ownA (Cfa.nth 1 rfl) (by decide)
                      · exact fun hb => hn13 _ hb rfl
                      · exact own_neN ownA (Cfa.nth 3 rfl) (by decide)
                      · exact own_neN ownA (Cfa.nth 4 rfl) (by decide)
                      · exact own_neN ownA (Cfa.nth 5 rfl) (by decide)
                    replace hnR := hid hnR
                    replace ja := hid ja
                    go_wp2_with (first
                      | (refine load_B rfl _ rfl (Cf.nth 2 rfl) UY.2 rfl ?_)
                      | (refine build_oneC rfl 81 _ rfl 31 32 _ (FY UY) Tryz.underlying81 infoY2 (by omega) (by omega) (FY_length UY) rfl ?_
                         have hone := blk_oneY v5 31 UY)
                      | (refine wpList_append_f FY_length FY_one (by omega) rfl _ _ _ rfl 31 _ 32 Tryz.underlying81 infoY (by show (FY zero32).toArray.size = 32; rw [List.size_toArray, FY_length]) w _ N _ (own_laterK ownF (later_alloc _ _)) (Cf.lat.alloc _) _ 1 1 [UY] (blk_rdF (d := zero32) FY_length hone rfl) rfl rfl (by omega) (by omega) ?_; intro A9 c9 v6 own6 l6 hg6)
                      | fail)
                    have Cg := Cfa.grownNe hnR.out (fun b hb => (World.ownsRow.lt ownF b hb).1) hg6
                    have hchG := Chain.grown ownA (by decide) hg6 hchA
                    clear Cf Cfa ownF ownA hchF hchA hnR hg6 l6 ja hgl
                    (refine (rtaken_any g _ x v' ((N : Int) + 1) v6 (Cg.nth 4 rfl)).mono ?_); rintro e v7 ⟨rfl, k7⟩
                    have hN1 : ((N + 1 : Nat) : Int) = (N : Int) + 1 := by omega
                    have Ch := (Cg.later k7).drop 4
                    have hchH := hchG.later k7
                    have ownH := own_laterK own6 k7
                    have hrv : (ss ++ [UY]).reverse = SY :: ss.reverse := by rw [List.reverse_append, hUS.out, List.reverse_singleton, List.singleton_append]
                    have hfl : (ss ++ [UY]).flatMap FY = ss.flatMap FY ++ [UY].flatMap FY := List.flatMap_append
                    have hsl : (ss ++ [UY]).length = N + 1 := by rw [List.length_append, hss.out]; rfl
                    replace hN1 := hid hN1
                    replace hrv := hid hrv
                    replace hfl := hid hfl
                    replace hsl := hid hsl
                    clear Cg hchG own6 k7
                    go_wp2
                    exact ⟨⟨k + 1, N + 1, ss ++ [UY], A9, c9, v', by go_num, by omega, rfl, by omega, hsl, by rw [hfl.out]; exact ownH, by rw [hrv.out]; exact hchH, by rw [hN1.out]; exact Ch⟩, by simp [intOf]; omega⟩
                  · have e0 : ((TE : Int) != 0) = true := by simp; omega
                    have e1 : ((TE : Int) == 0) = false := by simp; omega
                    have Cd := Cc.later k3
                    have hgl : ∀ b, (Value.slice A8 N c8).ownBlock = some b → b < v3.heap.size := fun b hb => (World.ownsRow.lt (own_laterK ownC k3) b hb).2
                    have ownD := own_laterK (own_laterK ownC k3) (later_alloc v3 (.cells Tryz.zeroCells46 46))
                    have hchD := hch3.later (later_alloc v3 (.cells Tryz.zeroCells46 46))
                    have hnb : Blk (v3.alloc (.cells Tryz.zeroCells46 46)) v3.heap.size 46 Tryz.zeroCells46.toList := Blk.new v3 _ _
                    clear hTn hTw hTk hSy hEr hQc ownC hchC uQ uB Cc k3 hch3 hbg
                    go_wp2_with (first
                      | (refine store_PC rfl rfl _ _ rfl ((Blk.new v3 _ Tryz.zeroCells46.toList).cast HZp.out) rfl rfl z768l rfl hzl ?_; intro v4 hb4 ho4
                         have Ce := Cd.push (later_alloc _ _) (Nat.le_refl _) ho4 hb4)
                      | (refine load_PC rfl _ rfl (Ce.nth 0 rfl) z768l rfl ?_)
                      | fail)
                    have ownE := own_onlyN ownD ho4 (fun b hb => Nat.ne_of_lt (hgl b hb))
                    have hchE := Chain.only hnb (by decide) ho4 hchD
                    (refine (none_ok none 0 _).mono ?_); rintro e v5 ⟨rfl, k5⟩
                    have Cf := Ce.later k5
                    have ownF := own_laterK ownE k5
                    have hchF := hchE.later k5
                    clear ownD hchD hnb ho4 hb4 Ce Cd ownE hchE hgl
                    go_wp2_with fail
                    (refine (rtaken_any g _ x lv (N : Int) v5 (Cf.nth 4 rfl)).mono ?_); rintro e v7 ⟨rfl, k7⟩
                    have Ch := (Cf.later k7).drop 4
                    have hchH := hchF.later k7
                    have ownH := own_laterK ownF k7
                    clear Cf ownF hchF k7
                    go_wp2
                    exact ⟨⟨k + 1, N, ss, A8, c8, lv, by go_num, by omega, rfl, by omega, hss, ownH, hchH, Ch⟩, by simp [intOf]; omega⟩
            · have d2 : ((nk : Int) != 768) = true := by simp; omega
              clear h768
              go_wp2
              exact ⟨⟨k + 1, N, ss, A8, c8, lv, by go_num, by omega, rfl, by omega, hss, own, hch, C⟩, by simp [intOf]; omega⟩
      · have hke : k = os.length := by omega
        rw [hosl] at hke
        subst hke
        go_wp2
        go_ret
        exact ⟨rfl, C.lat⟩
end Go.Proofs.YtdojjnbpidogfaaGreat

