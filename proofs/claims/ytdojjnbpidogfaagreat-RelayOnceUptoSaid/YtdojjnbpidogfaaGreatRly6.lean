/-
  (*relay.Relay).Take.
-/
import Derived.Test.YtdojjnbpidogfaaGreatRly1
namespace Go.Proofs.YtdojjnbpidogfaaGreat
open Go.RowKit
open Go.BigFrame

theorem LC_link (x : Nod) (v : Value) (n : Int) : (LC x v n)[66]? = some v := by
  rw [LC, List.getElem?_append_right (by rw [NC_length]; omega), NC_length]
  rfl
theorem LC_setL (x : Nod) (v v' : Value) (n : Int) : (LC x v n).set 66 v' = LC x v' n := by
  rw [LC, List.set_append_right _ _ (by rw [NC_length]; omega), NC_length]
  rfl
theorem LC_setN (x : Nod) (v : Value) (n n' : Int) : (LC x v n).set 67 (.int .i64 n') = LC x v n' := by
  rw [LC, List.set_append_right _ _ (by rw [NC_length]; omega), NC_length]
  rfl
/-- What a relay remembers, one link behind the other, the last one first. -/
def Chain (w : World) (base : Nat) : Value → List Y32 → Prop
  | v, [] => v = .pointer none
  | v, s :: ss => ∃ g v', v = .pointer (some ⟨g, 0, none⟩) ∧ base ≤ g ∧ Blk w g 119 (s.val.map W8 ++ [v']) ∧ Chain w base v' ss
theorem Chain.later {w w' : World} {base : Nat} (hl : Later w w') : ∀ {v : Value} {ss : List Y32}, Chain w base v ss → Chain w' base v ss
  | _, [], h => h
  | _, _ :: _, ⟨g, v', h1, h2, h3, h4⟩ => ⟨g, v', h1, h2, h3.later hl, Chain.later hl h4⟩
/-- A block of another type is written. -/
theorem Chain.only {w w' : World} {base k : Nat} {t : TypeId} {l : List Value} (hb : Blk w k t l) (hne : t ≠ 119) (ho : Only k w w') : ∀ {v : Value} {ss : List Y32}, Chain w base v ss → Chain w' base v ss
  | _, [], h => h
  | _, _ :: _, ⟨g, v', h1, h2, h3, h4⟩ => ⟨g, v', h1, h2, h3.only ho (fun e => by subst e; exact hb.ne_type h3 hne rfl), Chain.only hb hne ho h4⟩
theorem Chain.grown {w w' : World} {base b sz n : Nat} {e : TypeId} {v2 : Value} {vs : List Value} (h2 : w.ownsRow b e sz v2 n vs) (hne : 119 ≠ e) (hg : w.grownBy w' v2.ownBlock) : ∀ {v : Value} {ss : List Y32}, Chain w base v ss → Chain w' base v ss
  | _, [], h => h
  | _, _ :: _, ⟨g, v', h1, h2', h3, h4⟩ => ⟨g, v', h1, h2', blk_grownK h3 h2 hne hg, Chain.grown h2 hne hg h4⟩
theorem chain_one {w : World} {base : Nat} : ∀ {v : Value} {ss : List Y32}, Chain w base v ss → v.oneCell' = true
  | _, [], h => by rw [h]; rfl
  | _, _ :: _, ⟨_, _, h, _⟩ => by rw [h]; rfl
theorem chain_unique {w : World} {base : Nat} : ∀ {v : Value} {ss ss' : List Y32}, Chain w base v ss → Chain w base v ss' → ss = ss'
  | _, [], [], _, _ => rfl
  | _, [], _ :: _, h, ⟨_, _, h', _⟩ => by rw [show _ = Value.pointer none from h] at h'; cases h'
  | _, _ :: _, [], ⟨_, _, h', _⟩, h => by rw [show _ = Value.pointer none from h] at h'; cases h'
  | _, s :: ss, t :: tt, ⟨g, v', h1, _, h3, h4⟩, ⟨g2, v2, k1, _, k3, k4⟩ => by
    rw [h1] at k1
    injection k1 with k1
    injection k1 with k1
    injection k1 with k1
    subst k1
    unfold Blk at h3 k3
    rw [h3] at k3
    injection k3 with k3
    injection k3 with k3
    have e : s.val.map W8 ++ [v'] = t.val.map W8 ++ [v2] := by simpa using congrArg Array.toList k3
    have hl : (s.val.map W8).length = (t.val.map W8).length := by rw [List.length_map, List.length_map, s.2, t.2]
    obtain ⟨e1, e2⟩ := List.append_inj e hl
    injection e2 with e2
    subst e2
    have e3 : s.val = t.val := by
      have hinj : Function.Injective W8 := fun a b h => by
        have : (a.toNat : Int) = b.toNat := by injection h
        exact UInt8.toNat_inj.1 (by omega)
      exact (List.map_inj_right (fun _ _ h => hinj h)).1 e1
    rw [Subtype.ext e3, chain_unique h4 k4]
open Classical in
noncomputable def chLen (base : Nat) (w : World) (v : Value) : Nat := if h : ∃ ss, Chain w base v ss then h.choose.length else 0
theorem chLen_of {base : Nat} {w : World} {v : Value} {ss : List Y32} (h : Chain w base v ss) : chLen base w v = ss.length := by
  have hx : ∃ ss, Chain w base v ss := ⟨ss, h⟩
  rw [chLen, dif_pos hx, chain_unique hx.choose_spec h]
/-- The secret of a packet that opens. -/
def secY (k p : List UInt8) : Y32 := ⟨kSec (peelB k (p.take 32)), subB_length (by rw [peelB_length]; omega)⟩
open Classical in
noncomputable def takE (k p : List UInt8) (ss : List Y32) : Nat := if unwE k p = 0 then (if secY k p ∈ ss then 15 else 0) else unwE k p
theorem zeroLk : (Tryz.prog.info? 119).bind (·.zero) = some (.agg ((List.replicate 32 (W8 0)) ++ [Value.pointer none]).toArray) := by kernel_rfl
theorem size33k : (Tryz.prog.info? 119).map (·.size) = some 33 := by kernel_rfl
theorem built_link (s : Y32) (v : Value) (hv : v.oneCell' = true) : Tryz.prog.built 119 [(0, .agg (s.val.map W8).toArray), (1, v)] = some (s.val.map W8 ++ [v]).toArray := by
  have hs := s.2
  rw [built_struct (pl := [(0, 32), (32, 1)]) Tryz.underlying119 zeroLk (by kernel_rfl), fill_cons (vs := s.val.map W8) (off := 0) rfl (by rw [List.length_map, hs]; rfl) (by simp; omega), fill_cons (vs := [v]) (off := 32) (by cases v <;> first | rfl | cases hv) rfl (by rw [spliced_length _ _ _ (by simp; omega)]; simp), fill_nil]
  congr 2
  rw [spliced, spliced]
  simp [hs]
theorem peel_sec (k p : List UInt8) : subB (peelB k (p.take 32)) 160 32 = (secY k p).val := rfl
theorem makes_step' {ops : Array Oper} {o : Oper} {a : Act} (hw : Region.wanted o (yielded ops a.tmps) = true) (ho : o.op = .alloc 109) :
    Makes Tryz.prog ops o (fun g => .pointer (some ⟨g, 0, none⟩)) (.cells Tryz.zeroCells109 109) a :=
  ⟨hw, fun w => by
    unfold execOp
    rw [ho]
    simp [go_sem]⟩
/-- A block that was not there yet is written beside. -/
theorem only_fresh {g k : Nat} {w a b : World} (h : Only g w a) (ho : Only k a b) (hk : w.heap.size ≤ k) : Only g w b :=
  ⟨ho.os.trans h.os, ho.tape.trans h.tape, ho.output.trans h.output, Nat.le_trans h.size ho.size, fun i hi hn => (ho.block i (Nat.lt_of_lt_of_le hi h.size) (fun e => by injection e with e; omega)).trans (h.block i hi hn)⟩
set_option maxRecDepth 100000 in
set_option maxHeartbeats 8000000 in
theorem rtake_any (g n base : Nat) (x : Nod) (v : Value) (ss : List Y32) (p : List UInt8) (w : World) (hp : p.length = 768) (hb : Blk w g 79 (LC x v (n : Int))) (hn : n ≤ 1048576) (hch : Chain w base v ss) (hbw : base ≤ w.heap.size) :
    Calls Tryz.prog 25 #[.pointer (some ⟨g, 0, none⟩), .agg (p.map W8).toArray] w fun e w' =>
      (takE x.priv.val p ss = 0 ∧ ∃ A' c' v', e = .returned (.tuple #[.agg (PC (unwC x.priv.val p) (unwP x.priv.val p) (.slice A' (unwB x.priv.val p).length c')).toArray, .int .i64 0]) ∧ OwnB w' w.heap.size A' (unwB x.priv.val p).length c' (unwB x.priv.val p) ∧ Blk w' g 79 (LC x v' ((n : Int) + 1)) ∧ Chain w' base v' (secY x.priv.val p :: ss) ∧ Only g w w') ∨
      (takE x.priv.val p ss ≠ 0 ∧ e = .returned (.tuple #[.agg (PC cmd0 z768 nil8).toArray, .int .i64 (takE x.priv.val p ss : Nat)]) ∧ Blk w' g 79 (LC x v (n : Int)) ∧ Chain w' base v ss ∧ Later w w') := by
  have HZ := hid zcPe
  have C1 := bag_new w 40 (p.map W8)
  have C2 := C1.add (later_alloc _ (.cells Tryz.zeroCells46 46)) (k := w.heap.size + 1) (by simp) (by omega) ((Blk.new' _ _ Tryz.zeroCells46.toList (by simp)).cast HZ.out)
  clear C1
  have hal : (p.take 32).length = 32 := by rw [List.length_take]; omega
  have hzl : (PC cmd0 z768 nil8).length = 789 := PC_length _ z768_length _
  have hb0 := built_pe0
  have hglt := hb.lt
  obtain ⟨k, hk⟩ : ∃ k, k = x.priv.val := ⟨_, rfl⟩
  rw [← hk]
  have hkl : k.length = 32 := by rw [hk]; exact x.priv.2
  have hPr := hid (nodePrivate_any x)
  rw [← hk] at hPr
  have hPe := hid (fun (w : World) A B c d h1 h2 => peel_any A B 32 c 32 d k (p.take 32) w h1 h2 (by omega) (by omega))
  have hsl := peelB_length k (p.take 32)
  have hO := hid (ropen_any (peelB k (p.take 32)) p hp hsl)
  have hT : Hid (takE k p ss = if unwE k p = 0 then (if secY k p ∈ ss then 15 else 0) else unwE k p) := hid (by rw [takE])
  have hE : Hid (unwE k p = if multE k (p.take 32) = 0 then relE (peelB k (p.take 32)) p else multE k (p.take 32)) := hid rfl
  have hC : Hid (unwC k p = if multE k (p.take 32) = 0 then relC (peelB k (p.take 32)) p else cmd0) := hid rfl
  have hP : Hid (unwP k p = if multE k (p.take 32) = 0 then relP (peelB k (p.take 32)) p else z768) := hid rfl
  have hB : Hid (unwB k p = if multE k (p.take 32) = 0 then relB (peelB k (p.take 32)) p else []) := hid rfl
  have hRPl := relP_length (peelB k (p.take 32)) p hp hsl
  have hsh : Hid (subB p 0 32 = p.take 32) := hid rfl
  have hsec := hid (peel_sec k p)
  generalize takE k p ss = TE at *
  generalize secY k p = SY at *
  generalize unwE k p = UE at *
  generalize unwC k p = UC at *
  generalize unwP k p = UP at *
  generalize unwB k p = UB at *
  generalize multE k (p.take 32) = ME at *
  generalize relP (peelB k (p.take 32)) p = RP at *
  generalize relC (peelB k (p.take 32)) p = RC at *
  generalize relB (peelB k (p.take 32)) p = RB at *
  generalize relE (peelB k (p.take 32)) p = RE at *
  generalize peelB k (p.take 32) = S at *
  generalize p.take 32 = al at *
  clear hk
  have hlc : (LC x v (n : Int)).length = 68 := LC_length _ _ _
  go_enter Tryz.func25, Tryz.ntmps25
  go_wp2_with fail
  have hbg := hb.later C2.drew.lat
  refine wp_region_makers [0, 1, 2, 3, 5, 6, 7] [([], 1, 4), ([], 1, 8), ([9, 10, 11], 2, 12)] [] [13, 14] [12] (fun _ => (fun g => .pointer (some ⟨g, 0, none⟩), .cells Tryz.zeroCells109 109)) (by as_aux_lemma => kernel_rfl) (by as_aux_lemma => kernel_rfl) (by intro _ _ d _ _ h; cases d <;> exact h) (by intro _ _ d _ _ h; cases d <;> exact h) ?_
  simp only [pick, List.getElem?_cons_succ, List.getElem?_cons_zero, Option.toList_some, List.cons_append, List.nil_append]
  repeat (first | go_big_quiet_skip | (go_big_quiet_want; (refine quiet_part _ _ rfl 0 (NC x) hbg rfl (fun j v hv => LC_nod _ _ _ hv) _ Tryz.underlying76 rfl (by rw [NC_length]; exact size66d) ?_); simp only [Act.put, List.setIfInBounds_toArray, List.set_cons_succ, List.set_cons_zero]; go_big_quiet_on) | (go_big_quiet_step (fail)))
  refine wpQuiet_nil ?_
  refine ⟨?mk, ?_⟩
  case mk =>
    refine ⟨fun o ho => ?_, trivial⟩
    simp only [List.getElem?_cons_succ, List.getElem?_cons_zero, Option.some.injEq] at ho
    subst ho
    exact makes_step' rfl rfl
  simp only [wpPartsM, pick, List.getElem?_cons_succ, List.getElem?_cons_zero, Option.toList_some, List.cons_append, List.nil_append]
  refine wpQuiet_nil ?_
  intro m1 j1
  go_wp2_with fail
  (with_reducible refine (hPr.out _).mono ?_); rintro e m2 ⟨g2, rfl, hg2, hb2, j2⟩
  go_wp2_with fail
  try refine ⟨by first | assumption | exact later_drew _ | exact later_alloc _ _ | exact Later.refl _, ?_⟩
  try simp only [wpParts, pick, List.getElem?_cons_succ, List.getElem?_cons_zero, Option.toList_some, List.cons_append, List.nil_append]
  repeat (go_big_quiet_step (fail))
  refine wpQuiet_nil ?_
  intro m3 j3
  go_wp2_with fail
  (refine (hPe.out _ _ _ _ _ (blk_rdB (hb2.later j3) hkl) (rdB_sub (((((C2.drew).later j1).later j2).later j3).nth 1 rfl) hsh.out hal)).mono ?_); rintro e m4 ⟨rfl, j4⟩
  go_wp2_with fail
  try refine ⟨by first | assumption | exact later_drew _ | exact later_alloc _ _ | exact Later.refl _, ?_⟩
  try simp only [wpParts, pick, List.getElem?_cons_succ, List.getElem?_cons_zero, Option.toList_some, List.cons_append, List.nil_append]
  repeat (go_big_quiet_step (fail))
  refine wpQuiet_nil ?_
  intro m5 gq j5 hgq _ hbq
  refine wpQuiet_nil ?_
  intro m6 j6
  simp only [Option.bind_some, Act.put, List.setIfInBounds_toArray, List.set_cons_succ, List.set_cons_zero]
  have hB6 : Blk m6 gq 109 Tryz.zeroCells109.toList := Blk.later (show Blk m5 gq _ _ from hbq) j6
  refine store_St rfl rfl _ _ rfl hB6 rfl rfl hsl zc192 ?_
  intro m7 hb7 ho7
  have C3 := C2.drew.push (((((j1.trans j2).trans j3).trans j4).trans j5).trans j6) (by have := hgq; simpa using this) ho7 hb7
  clear hb2 hg2 j1 j2 j3 j4 j5 j6 hgq hbq hB6 ho7 hb7 C2 hbg
  by_cases hm : ME = 0
  · subst hm
    replace hE := hid (hE.out.trans (if_pos rfl))
    replace hC := hid (hC.out.trans (if_pos rfl))
    replace hP := hid (hP.out.trans (if_pos rfl))
    replace hB := hid (hB.out.trans (if_pos rfl))
    go_wp2_with (first
      | (refine load_St rfl _ rfl (C3.nth 0 rfl) hsl rfl ?_)
      | (refine load_Pk rfl _ rfl (C3.nth 2 rfl) hp rfl ?_)
      | fail)
    (with_reducible refine (hO.out _).mono ?_); rintro e w8 ⟨A8, c8, rfl, o8, j8⟩
    have C4 := C3.later j8
    have hnb : Blk (w8.alloc (.cells Tryz.zeroCells46 46)) w8.heap.size 46 Tryz.zeroCells46.toList := Blk.new w8 _ _
    have o9 := own_later (own_mono o8 C3.lat.size) (later_alloc w8 (.cells Tryz.zeroCells46 46))
    clear o8 j8 C3 hO
    by_cases hr : RE = 0
    · subst hr
      go_wp2_with (first
        | (refine store_PC rfl rfl _ _ rfl ((Blk.new w8 _ Tryz.zeroCells46.toList).cast HZ.out) rfl rfl hRPl rfl hzl ?_; intro w9 hb9 ho9
           have C5 := C4.push (later_alloc _ _) (Nat.le_refl _) ho9 hb9
           have o10 := own_onlyK o9 hnb (by decide) ho9
           have x66 := (hb.later C5.lat).cellD 66 (LC_link x v (n : Int))
           have y66 := (hb.later C5.lat).lt)
        | fail)
      have hT' : Hid (TE = if SY ∈ ss then 15 else 0) := hid (by rw [hT.out, if_pos hE.out])
      have hch9 := hch.later C5.lat
      have hv1 := chain_one hch
      clear x66 y66 hb9 ho9 o9 hnb C4
      go_loopw [9] (fun u wr => ∃ (dn rs : List Y32), Hid (ss = dn ++ rs) ∧ Hid (SY ∉ dn) ∧ Chain wr base u rs ∧ Later w9 wr) (fun u wr => chLen base wr u)
      case atStart => exact ⟨[], ss, hid rfl, hid (by simp), hch9, Later.refl _⟩
      case round =>
        obtain ⟨dn, rs, hds, hno, hc, L⟩ := hrel
        have C6 := C5.later L
        cases rs with
        | nil =>
          have hu : _ = Value.pointer none := hc
          subst hu
          have hnot : TE = 0 := by
            rw [hT'.out, if_neg]
            rw [hds.out, List.append_nil]
            exact hno.out
          replace hnot := hid hnot
          clear hT hT' hds hno hc hch9
          have C7 := C6.drew
          have hbE := hb.later C7.lat
          have x66 := hbE.cellD 66 (LC_link x v (n : Int))
          have y66 := hbE.lt
          have o11 := own_later (own_later o10 L) (later_drew wr)
          go_wp2_with fail
          refine wp_region_parts [([0, 1, 2, 3, 4, 5, 6, 7], 8)] [9, 10] [11] (by as_aux_lemma => kernel_rfl) (by as_aux_lemma => kernel_rfl) (by intro _ _ d _ _ h; cases d <;> exact h) ?_
          simp only [wpParts, pick, List.getElem?_cons_succ, List.getElem?_cons_zero, Option.toList_some, List.cons_append, List.nil_append]
          repeat (first | go_big_quiet_skip | (go_big_quiet_want; (first | refine quiet_part _ _ rfl 160 (SY.val.map W8) (C7.nth 1 rfl) rfl (sub_cells hsec.out) _ Tryz.underlying31 rfl (by rw [List.length_map, SY.2]; exact size32c) ?_ | refine quiet_build _ _ rfl (SY.val.map W8 ++ [v]) (by simp only [List.map_toArray, List.map_cons, List.map_nil]; exact built_link SY v hv1) ?_); simp only [Act.put, List.setIfInBounds_toArray, List.set_cons_succ, List.set_cons_zero]; go_big_quiet_on) | (go_big_quiet_step (fail)))
          refine wpQuiet_nil ?_
          go_wp2_with fail
          try refine ⟨by first | assumption | exact later_drew _ | exact later_alloc _ _ | exact Later.refl _, ?_⟩
          try simp only [wpParts, pick, List.getElem?_cons_succ, List.getElem?_cons_zero, Option.toList_some, List.cons_append, List.nil_append]
          repeat (go_big_quiet_step (fail))
          refine wpQuiet_nil ?_
          have jW := (later_alloc wr (.cells (SY.val.map W8 ++ [v]).toArray 119)).trans (later_drew (wr.alloc (.cells (SY.val.map W8 ++ [v]).toArray 119)))
          have hbW := hb.later (C6.lat.trans jW)
          have C8 := C6.later jW
          have hlW : Blk (wr.alloc (.cells (SY.val.map W8 ++ [v]).toArray 119)).drew wr.heap.size 119 (SY.val.map W8 ++ [v]) := (Blk.new wr _ _).drew
          have hcW := hch.later (C6.lat.trans jW)
          have oW := own_later (own_later o10 L) jW
          have n8 : w8.heap.size ≠ g := by have := C6.at_low 0 rfl; omega
          have n4 : w.heap.size + 1 ≠ g := by omega
          have nl : wr.heap.size ≠ g := by have := C6.lat.size; omega
          have nl4 : wr.heap.size ≠ w.heap.size + 1 := by have := (C6.nth 2 rfl).lt; omega
          have hbl : base ≤ wr.heap.size := by have := C6.lat.size; omega
          have hcnt : IntKind.i64.wrap ((n : Int) + 1) = (n : Int) + 1 := by rw [IntKind.wrap_i64]; omega
          clear jW C7 hbE x66 y66 o11 C6 C5 L
          generalize (wr.alloc (.cells (SY.val.map W8 ++ [v]).toArray 119)).drew = W at *
          generalize wr.heap.size = gl at *
          go_wp2_with (first
            | (refine wpList_store_in rfl rfl _ _ _ rfl g 66 _ _ hbW rfl (by rw [LC_length]; omega) rfl (by kernel_rfl) ?_; intro v10 w10 hv10 hb10 ho10; simp [go_sem] at hv10; subst hv10; rw [LC_setL] at hb10
               have x67 := hb10.cellD 67 (LC_count _ _ _)
               have y67 := hb10.lt)
            | (refine wpList_store_in rfl rfl _ _ _ rfl g 67 _ _ hb10 rfl (by rw [LC_length]; omega) rfl (by kernel_rfl) ?_; intro v11 w11 hv11 hb11 ho11; simp [go_sem] at hv11; subst hv11; rw [LC_setN] at hb11
               have b8 := ((C8.nth 0 rfl).only ho10 n8).only ho11 n8
               have b4 := ((C8.nth 2 rfl).only ho10 n4).only ho11 n4)
            | (refine load_PC rfl _ rfl b8 hRPl rfl ?_)
            | (refine store_PC rfl rfl _ _ rfl b4 rfl rfl hRPl rfl hzl ?_; intro w12 hb12 ho12)
            | fail)
          refine bodyPost_ret (results_blk_tmp rfl _ _ _ _ _ _ hb12 rfl Tryz.underlying46 rfl (by rw [PC_length _ hRPl]; exact size789)) rfl (.inl ⟨hnot.out, A8, c8, .pointer (some ⟨gl, 0, none⟩), by rw [hC.out, hP.out, hB.out]; rfl, ?_, hb11.only ho12 (fun e => n4 e.symm), ⟨gl, v, rfl, hbl, ((hlW.only ho10 nl).only ho11 nl).only ho12 nl4, ?_⟩, ?_⟩)
          · rw [hB.out]
            exact own_onlyK (own_onlyK (own_onlyK oW hbW (by decide) ho10) hb10 (by decide) ho11) b4 (by decide) ho12
          · exact Chain.only b4 (by decide) ho12 (Chain.only hb10 (by decide) ho11 (Chain.only hbW (by decide) ho10 hcW))
          · exact only_fresh ((C8.lat.thenOnly ho10).trans ho11) ho12 (by omega)
        | cons s rs =>
          obtain ⟨g9, v9, hu, hgb, hbl, hc'⟩ := hc
          subst hu
          have C7 := C6.drew
          have hbl7 := hbl.later (later_drew wr)
          have y9 := hbl.lt
          cases he : (s.val == SY.val)
          · have hno' : Hid (SY ∉ dn ++ [s]) := hid (fun h => by
              rcases List.mem_append.1 h with h | h
              · exact hno.out h
              · rw [List.mem_singleton] at h
                rw [h] at he
                simp at he)
            have hds' : Hid (ss = (dn ++ [s]) ++ rs) := hid (by rw [List.append_assoc]; exact hds.out)
            have x32 := hbl7.cellD 32 (u := v9) (by rw [List.getElem?_append_right (by rw [List.length_map, s.2]; omega), List.length_map, s.2]; rfl)
            have hm1 := chLen_of (Chain.later (later_drew wr) hc')
            have hm2 := chLen_of (show Chain wr base (.pointer (some ⟨g9, 0, none⟩)) (s :: rs) from ⟨g9, v9, rfl, hgb, hbl, hc'⟩)
            go_wp2_with fail
            refine wp_region_parts [] [0, 1, 2, 3, 4, 5, 6] [] (by as_aux_lemma => kernel_rfl) (by as_aux_lemma => kernel_rfl) (by intro _ _ d _ _ h; cases d <;> exact h) ?_
            simp only [wpParts, pick, List.getElem?_cons_succ, List.getElem?_cons_zero, Option.toList_some, List.cons_append, List.nil_append]
            repeat (first | go_big_quiet_skip | (go_big_quiet_want; (first | refine quiet_part _ _ rfl 0 (s.val.map W8) hbl7 rfl (fun j v hv => by rw [Nat.zero_add, List.getElem?_append_left (List.getElem?_eq_some_iff.1 hv).1]; exact hv) _ Tryz.underlying31 rfl (by rw [List.length_map, s.2]; exact size32c) ?_ | refine quiet_part _ _ rfl 160 (SY.val.map W8) (C7.nth 1 rfl) rfl (sub_cells hsec.out) _ Tryz.underlying31 rfl (by rw [List.length_map, SY.2]; exact size32c) ?_); simp only [Act.put, List.setIfInBounds_toArray, List.set_cons_succ, List.set_cons_zero]; go_big_quiet_on) | (go_big_quiet_step (fail)))
            refine wpQuiet_nil ?_
            go_wp2_with fail
            exact ⟨⟨_, rs, hds', hno', Chain.later (later_drew wr) hc', L.drew⟩, by rw [hm2]; exact Nat.lt_of_le_of_lt (Nat.le_of_eq hm1) (Nat.lt_succ_self _)⟩
          · have hin : TE = 15 := by
              have hs : s = SY := Subtype.ext (by simpa using he)
              rw [hT'.out, if_pos (by rw [hds.out, hs]; simp)]
            replace hin := hid hin
            go_wp2_with fail
            refine wp_region_parts [] [0, 1, 2, 3, 4, 5, 6] [] (by as_aux_lemma => kernel_rfl) (by as_aux_lemma => kernel_rfl) (by intro _ _ d _ _ h; cases d <;> exact h) ?_
            simp only [wpParts, pick, List.getElem?_cons_succ, List.getElem?_cons_zero, Option.toList_some, List.cons_append, List.nil_append]
            repeat (first | go_big_quiet_skip | (go_big_quiet_want; (first | refine quiet_part _ _ rfl 0 (s.val.map W8) hbl7 rfl (fun j v hv => by rw [Nat.zero_add, List.getElem?_append_left (List.getElem?_eq_some_iff.1 hv).1]; exact hv) _ Tryz.underlying31 rfl (by rw [List.length_map, s.2]; exact size32c) ?_ | refine quiet_part _ _ rfl 160 (SY.val.map W8) (C7.nth 1 rfl) rfl (sub_cells hsec.out) _ Tryz.underlying31 rfl (by rw [List.length_map, SY.2]; exact size32c) ?_); simp only [Act.put, List.setIfInBounds_toArray, List.set_cons_succ, List.set_cons_zero]; go_big_quiet_on) | (go_big_quiet_step (fail)))
            refine wpQuiet_nil ?_
            go_wp2_with (first
              | (refine wpList_build_w rfl 46 _ rfl (PC cmd0 z768 nil8) (by simp only [List.map_toArray, List.map_nil]; exact hb0) ?_)
              | (refine store_PC rfl rfl _ _ rfl (C7.nth 2 rfl) rfl rfl z768_length rfl hzl ?_; intro w10 hb10 ho10
                 have C8 := C7.write 2 rfl ho10 hb10)
              | fail)
            exact bodyPost_ret (results_blk_tmp rfl _ _ _ _ _ _ hb10 rfl Tryz.underlying46 rfl (by rw [PC_length _ z768_length]; exact size789)) rfl (.inr ⟨by rw [hin.out]; decide, by rw [hin.out]; rfl, hb.later C8.lat, hch.later C8.lat, C8.lat⟩)
    · have hne : ((RE : Int) != 0) = true := by simp; omega
      have HT : TE = RE := by rw [hT.out, hE.out, if_neg hr]
      replace HT := hid HT
      go_wp2_with (first
        | (refine store_PC rfl rfl _ _ rfl ((Blk.new w8 _ Tryz.zeroCells46.toList).cast HZ.out) rfl rfl hRPl rfl hzl ?_; intro w9 hb9 ho9
           have C5 := C4.push (later_alloc _ _) (Nat.le_refl _) ho9 hb9)
        | (refine wpList_build_w rfl 46 _ rfl (PC cmd0 z768 nil8) (by simp only [List.map_toArray, List.map_nil]; exact hb0) ?_)
        | (refine store_PC rfl rfl _ _ rfl (C5.nth 2 rfl) rfl rfl z768_length rfl hzl ?_; intro w10 hb10 ho10
           have C6 := C5.write 2 rfl ho10 hb10)
        | fail)
      exact bodyPost_ret (results_blk_tmp rfl _ _ _ _ _ _ hb10 rfl Tryz.underlying46 rfl (by rw [PC_length _ z768_length]; exact size789)) rfl (.inr ⟨by rw [HT.out]; exact hr, by rw [HT.out]; rfl, hb.later C6.lat, hch.later C6.lat, C6.lat⟩)
  · have hne : ((ME : Int) != 0) = true := by simp; omega
    have HT : TE = ME := by rw [hT.out, hE.out, if_neg hm, if_neg hm]
    replace HT := hid HT
    go_wp2_with (first
      | (refine wpList_build_w rfl 46 _ rfl (PC cmd0 z768 nil8) (by simp only [List.map_toArray, List.map_nil]; exact hb0) ?_)
      | (refine store_PC rfl rfl _ _ rfl (C3.nth 1 rfl) rfl rfl z768_length rfl hzl ?_; intro w10 hb10 ho10
         have C6 := C3.write 1 rfl ho10 hb10)
      | fail)
    exact bodyPost_ret (results_blk_tmp rfl _ _ _ _ _ _ hb10 rfl Tryz.underlying46 rfl (by rw [PC_length _ z768_length]; exact size789)) rfl (.inr ⟨by rw [HT.out]; exact hm, by rw [HT.out]; rfl, hb.later C6.lat, hch.later C6.lat, C6.lat⟩)
end Go.Proofs.YtdojjnbpidogfaaGreat

