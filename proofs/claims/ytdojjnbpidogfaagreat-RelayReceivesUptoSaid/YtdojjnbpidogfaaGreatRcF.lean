/-
  Packets compared; relay.New, Taken; shallotlaw15: awake, parse, none, is.
  A relay: New, Taken; the law's fixed fact.
-/
import Derived.Test.YtdojjnbpidogfaaGreatRcE
import Derived.Test.YtdojjnbpidogfaaGreatDirX
import Derived.Test.YtdojjnbpidogfaaGreatHops
namespace Go.Proofs.YtdojjnbpidogfaaGreat
open Go.RowKit
open Go.BigFrame

/-! ### Packets compared -/
theorem run_eqN_cons {P : Program} {d n k : Nat} {t : TypeId} {f : Field} {fs : List Field} {fs' : Array Field} (hf : f.type = t) (hu : P.underlying t = some (.struct fs')) (hst : P.stoodInHeld t = false) (hs : (P.info? t).map (·.size) = some n) (hn : f.name ≠ "_")
    {xs ys ps qs : List Value} (ho : f.offset = k) (hp : (xs.drop k).take n = ps) (hq : (ys.drop k).take n = qs) (b : Bool) (w : World) (hb : (Op.eqFields (d + 1) ps.toArray qs.toArray fs'.toList).run P w = .ok b w) :
    (Op.eqFields (d + 2) xs.toArray ys.toArray (f :: fs)).run P w = if b then (Op.eqFields (d + 2) xs.toArray ys.toArray fs).run P w else .ok false w := by
  have e : P.fieldsOf t = fs' := by unfold Program.fieldsOf; rw [hu]
  rw [Op.eqFields, if_pos hn]
  simp only [Sem.run_bind, hf, ho, run_part_agg hu rfl hs xs _ hp, run_part_agg hu rfl hs ys _ hq, Result.andThen_ok]
  rw [run_equalIn_struct w (d + 1) t ps.toArray qs.toArray (by rw [e]; exact hu) hst, e, hb]
  simp only [Result.andThen_ok]
  cases b <;> simp
theorem size480 : (Tryz.prog.info? 38).map (·.size) = some 480 := by kernel_rfl
set_option maxRecDepth 100000 in
theorem run_eqh (d : Nat) (x y : List UInt8) (hx : x.length = 288) (hy : y.length = 288) (w : World) {fs : Array Field} (hu : Tryz.prog.underlying 37 = some (.struct fs)) :
    (Op.eqFields (d + 2) (x.map W8).toArray (y.map W8).toArray fs.toList).run Tryz.prog w = .ok (x == y) w := by
  rw [Tryz.underlying37] at hu
  cases hu
  have l1 : ∀ off n, off + n ≤ 288 → (subB x off n).length = n := fun off n h => subB_length (by omega)
  have l2 : ∀ off n, off + n ≤ 288 → (subB y off n).length = n := fun off n h => subB_length (by omega)
  rw [run_eq32_cons (k := 0) rfl (by decide) rfl (take_sub x 0 32) (take_sub y 0 32) (l1 _ _ (by omega)) (l2 _ _ (by omega)),
    run_eqP_cons (k := 32) rfl Tryz.underlying26 size16c size8 Tryz.underlying5 (by decide) rfl (take_sub x 32 16) (take_sub y 32 16) (l1 _ _ (by omega)) (l2 _ _ (by omega)),
    run_eqP_cons (k := 48) rfl Tryz.underlying35 size240 size8 Tryz.underlying5 (by decide) rfl (take_sub x 48 240) (take_sub y 48 240) (l1 _ _ (by omega)) (l2 _ _ (by omega)), run_eq32_nil]
  have h : (x == y) = (subB x 0 32 == subB y 0 32 && (subB x 32 16 == subB y 32 16 && subB x 48 240 == subB y 48 240)) := by
    rw [eq_last x y 48 240 (by omega) (by omega), eq_cut x y 32 16, eq_cut x y 0 32]
    rfl
  rw [h]
  cases subB x 0 32 == subB y 0 32 <;> cases subB x 32 16 == subB y 32 16 <;> cases subB x 48 240 == subB y 48 240 <;> rfl
abbrev Y768 := {l : List UInt8 // l.length = 768}
theorem eqg_pkt : Tryz.prog.eqGuardType Tryz.prog.depth 40 = false := by kernel_rfl
@[go_sem high] theorem eqGuard_pkt (op : BinOp) (x y : Operand) (xs ys : Array Value) (w : World) : (eqGuard op 40 x y (.agg xs) (.agg ys)).run Tryz.prog w = .ok () w := run_eqGuard_agg w op _ x y xs ys eqg_pkt
set_option maxRecDepth 100000 in
theorem run_eqF_pkt (x y : List UInt8) (hx : x.length = 768) (hy : y.length = 768) (w : World) {fs : Array Field} (hu : Tryz.prog.underlying 40 = some (.struct fs)) :
    (Op.eqFields 9999 (x.map W8).toArray (y.map W8).toArray fs.toList).run Tryz.prog w = .ok (x == y) w := by
  rw [Tryz.underlying40] at hu
  cases hu
  have l1 : (subB x 0 288).length = 288 := subB_length (by omega)
  have l2 : (subB y 0 288).length = 288 := subB_length (by omega)
  have l3 : (subB x 288 480).length = 480 := subB_length (by omega)
  have l4 : (subB y 288 480).length = 480 := subB_length (by omega)
  rw [run_eqN_cons (d := 9997) (k := 0) rfl Tryz.underlying37 (by kernel_rfl) size288 (by decide) rfl (take_sub x 0 288) (take_sub y 0 288) _ w (run_eqh 9996 _ _ l1 l2 w Tryz.underlying37),
    run_eqP_cons (d := 9997) (k := 288) rfl Tryz.underlying38 size480 size8 Tryz.underlying5 (by decide) rfl (take_sub x 288 480) (take_sub y 288 480) l3 l4, run_eq32_nil]
  have h : (x == y) = (subB x 0 288 == subB y 0 288 && subB x 288 480 == subB y 288 480) := by
    rw [eq_last x y 288 480 (by omega) (by omega), eq_cut x y 0 288]
    rfl
  rw [h]
  cases subB x 0 288 == subB y 0 288 <;> cases subB x 288 480 == subB y 288 480 <;> rfl
@[go_sem high] theorem run_eql_pkt (x y : Y768) (w : World) : (binOp .eql 40 (.agg (x.val.map W8).toArray) (.agg (y.val.map W8).toArray)).run Tryz.prog w = .ok (.bool (x.val == y.val)) w := by
  rw [run_eql_s Tryz.underlying40 (by kernel_rfl), run_eqF_pkt _ _ x.2 y.2 w Tryz.underlying40]
  rfl
@[go_sem high] theorem run_neq_pkt (x y : Y768) (w : World) : (binOp .neq 40 (.agg (x.val.map W8).toArray) (.agg (y.val.map W8).toArray)).run Tryz.prog w = .ok (.bool (!(x.val == y.val))) w := by
  rw [run_neq_s Tryz.underlying40 (by kernel_rfl), run_eqF_pkt _ _ x.2 y.2 w Tryz.underlying40]
  rfl
section
variable {ops : Array Oper} {rest : List Oper} {o : Oper} {a : Act} {w : World} {Q : Exit → Act → World → Prop}
theorem load_PCp (hw : Region.wanted o (yielded ops a.tmps) = true) (x : Operand) (ho : o.op = .load 40 x) {g : Nat} {t : TypeId} {c : Cmd} {P : List UInt8} {v : Value} (hb : Blk w g t (PC c P v)) (hP : P.length = 768) (hx : a.eval x = .pointer (some ⟨g, 20, none⟩))
    (h : wpList Tryz.prog ops Q rest (a.put o.dst (.agg (P.map W8).toArray)) w) : wpList Tryz.prog ops Q (o :: rest) a w :=
  wpList_load_at hw _ x ho g 20 _ (fun j v hv => hb.cellD _ (PC_pkt _ _ _ j v hv)) hx _ Tryz.underlying40 rfl (by rw [List.length_map, hP]; exact size768) h
theorem load_PCc (hw : Region.wanted o (yielded ops a.tmps) = true) (x : Operand) (ho : o.op = .load 28 x) {g : Nat} {t : TypeId} {c : Cmd} {P : List UInt8} {v : Value} (hb : Blk w g t (PC c P v)) (hx : a.eval x = .pointer (some ⟨g, 0, none⟩))
    (h : wpList Tryz.prog ops Q rest (a.put o.dst (.agg (CC c).toArray)) w) : wpList Tryz.prog ops Q (o :: rest) a w :=
  wpList_load_at hw _ x ho g 0 _ (fun j v hv => hb.cellD _ (PC_cmd _ _ _ j v hv)) hx _ Tryz.underlying28 rfl (by rw [CC_length]; exact size20) h
end
set_option maxRecDepth 100000 in
set_option maxHeartbeats 1000000 in
theorem none_ok (A : Option Addr) (c : Nat) (w : World) : Calls Tryz.prog 16 #[.agg (PC cmd0 z768 (.slice A 0 c)).toArray] w fun e w' => e = .returned (.bool true) ∧ Later w w' := by
  have hb0 := built_cmd0
  have hp0 : Tryz.prog.built 40 [] = some (z768.map W8).toArray := built_pkt0
  obtain ⟨Z, hZ⟩ : ∃ Z : Y768, Z.val = z768 := ⟨⟨z768, z768_length⟩, rfl⟩
  have hZl := Z.2
  rw [← hZ] at hp0 ⊢
  clear hZ
  have hb : Blk (w.alloc (.cells (PC cmd0 Z.val (.slice A 0 c)).toArray 46)) w.heap.size 46 (PC cmd0 Z.val (.slice A 0 c)) := Blk.new _ _ _
  have L := later_alloc w (.cells (PC cmd0 Z.val (.slice A 0 c)).toArray 46)
  have c2 := hb.cellD 788 (PC_body _ hZl _)
  go_enter Tryz.func16, Tryz.ntmps16
  go_wp2_with (first
    | (refine load_PCc rfl _ rfl hb rfl ?_)
    | (refine load_PCp rfl _ rfl hb hZl rfl ?_)
    | (refine wpList_build_w rfl 28 _ rfl (CC cmd0) (by simp only [List.map_toArray, List.map_nil]; exact hb0) ?_)
    | (refine wpList_build_w rfl 40 _ rfl (Z.val.map W8) (by simp only [List.map_toArray, List.map_nil]; exact hp0) ?_)
    | fail)
  go_ret
  exact ⟨rfl, L⟩
set_option maxRecDepth 100000 in
set_option maxHeartbeats 2000000 in
theorem parse15_any (A : Option Addr) (c : Nat) (b : List UInt8) (w : World) (hb : RdB w A 768 b) : Calls Tryz.prog 13 #[.slice A 768 c] w fun e w' => e = .returned (.tuple #[.agg (b.map W8).toArray, .bool true]) ∧ Later w w' := by
  have hl := hb.len
  have HZ := hid zcP
  have C1 : Bag w (w.alloc (.cells Tryz.zeroCells40 40)) [(w.heap.size, 40, (List.replicate 768 (0 : UInt8)).map W8)] := (Bag.none w).add (later_alloc _ _) (by simp) (Nat.le_refl _) ((Blk.new w _ Tryz.zeroCells40.toList).cast zcP)
  have l0 : ((List.replicate 768 (0 : UInt8)).map W8).length = 768 := by rw [List.length_map, List.length_replicate]
  have hP := hid (fun A c (w : World) h hc => pparse_any A c b w h hc)
  have hB := hid (fun (w : World) => pbytes_any b hl w)
  have hE := hid (fun A B c d (w : World) h1 h2 => equal_any A B 768 768 c d b b w h1 h2 (by omega) (by omega))
  rw [decide_eq_true rfl] at hE
  generalize List.replicate 768 (0 : UInt8) = Z at *
  go_enter Tryz.func13, Tryz.ntmps13
  go_wp2_with fail
  (refine (copy_any A 768 c b _ (hb.later C1.lat) (by omega)).mono ?_); rintro e w2 ⟨A2, c2, rfl, o2, l2⟩
  go_wp2_with fail
  (refine (hP.out _ _ _ o2.rd o2.cap).mono ?_); rintro e w3 ⟨rfl, l3⟩
  replace C1 := (C1.later l2).later l3
  clear o2 l2 l3
  go_wp2_with (first
    | (refine store_Pk rfl rfl _ _ rfl ((Blk.new w3 _ Tryz.zeroCells40.toList).cast HZ.out) rfl rfl hl l0 ?_; intro w4 hb4 ho4
       have C2 := C1.push (later_alloc _ _) (Nat.le_refl _) ho4 hb4)
    | fail)
  have C3 := C2.drew
  have n0 := C2.ne 0 1 rfl rfl (by decide)
  refine wp_region_partsS (Spared w4 [w.heap.size]) [([0, 1, 2, 3, 4, 6], 5), ([], 7), ([8], 9)] [10] (by as_aux_lemma => kernel_rfl) (by as_aux_lemma => kernel_rfl) (by intro _ _ d _ _ h; cases d <;> exact h) ⟨Spared.refl _ _, ?_⟩
  simp only [wpPartsS, pick, List.getElem?_cons_succ, List.getElem?_cons_zero, Option.toList_some, List.cons_append, List.nil_append]
  repeat (first | go_big_quiet_skip | (go_big_quiet_want; (refine quiet_late _ _ rfl 0 (b.map W8) (C2.nth 0 rfl) (by intro x hx; simp only [List.mem_cons, List.not_mem_nil, or_false] at hx; subst hx; exact n0) rfl (all_cells _) _ Tryz.underlying40 rfl (by rw [List.length_map, hl]; exact size768) ?_); simp only [Act.put, List.setIfInBounds_toArray, List.set_cons_succ, List.set_cons_zero]; go_big_quiet_on) | (go_big_quiet_step (fail)) | (go_big_quiet_want; go_big_quiet_op; refine ⟨_, fun _ _ => rfl, ?_⟩; go_big_quiet_on))
  refine wpQuiet_nil ?_
  go_wp2_with fail
  (refine (hB.out _).mono ?_); rintro e w5 ⟨A5, c5, rfl, o5, l5⟩
  have C4 := C3.later l5
  have S5 := (Spared.refl w4 [w.heap.size]).later l5
  go_wp2_with fail
  refine ⟨S5, ?_⟩
  try simp only [wpPartsS, pick, List.getElem?_cons_succ, List.getElem?_cons_zero, Option.toList_some, List.cons_append, List.nil_append]
  repeat (first | (go_big_quiet_step (fail)) | (go_big_quiet_want; go_big_quiet_op; refine ⟨_, fun _ _ => rfl, ?_⟩; go_big_quiet_on))
  refine wpQuiet_nil ?_
  go_wp2_with fail
  (refine (hE.out _ _ _ _ _ o5.rd (hb.later C4.lat)).mono ?_); rintro e w6 ⟨rfl, l6⟩
  have C5 := C4.later l6
  have S6 := S5.later l6
  go_wp2_with fail
  refine ⟨S6, ?_⟩
  try simp only [wpPartsS, pick, List.getElem?_cons_succ, List.getElem?_cons_zero, Option.toList_some, List.cons_append, List.nil_append]
  repeat (first | (go_big_quiet_step (fail)) | (go_big_quiet_want; go_big_quiet_op; refine ⟨_, fun _ _ => rfl, ?_⟩; go_big_quiet_on))
  refine wpQuiet_nil ?_
  go_wp2_with (first
    | (refine store_Pk rfl rfl _ _ rfl (C5.nth 1 rfl) rfl rfl hl l0 ?_; intro w7 hb7 ho7
       have C6 := C5.write 1 rfl ho7 hb7)
    | fail)
  refine ⟨S6.only ho7 (List.mem_singleton.2 rfl), ?_⟩
  try simp only [wpPartsS, pick, List.getElem?_cons_succ, List.getElem?_cons_zero, Option.toList_some, List.cons_append, List.nil_append]
  repeat (first | (go_big_quiet_step (fail)) | (go_big_quiet_want; go_big_quiet_op; refine ⟨_, fun _ _ => rfl, ?_⟩; go_big_quiet_on))
  refine wpQuiet_nil ?_
  go_wp2_with fail
  exact bodyPost_ret (results_blk_tmp rfl _ _ _ _ _ _ (C6.nth 1 rfl) rfl Tryz.underlying40 rfl (by rw [List.length_map, hl]; exact size768)) rfl ⟨rfl, C6.lat⟩
/-- A part of a block is loaded, quietly. -/
theorem quiet_part {P : Program} {o : Oper} {a : Act} {J : Act → Prop} (ty : TypeId) (x : Operand) (ho : o.op = .load ty x) {w0 : World} {g : Nat} {t : TypeId} {l : List Value} (off : Nat) (vs : List Value) (hb : Blk w0 g t l) (hx : a.eval x = .pointer (some ⟨g, off, none⟩))
    (hv : ∀ j v, vs[j]? = some v → l[off + j]? = some v) (d : TypeDesc) (hu : P.underlying ty = some d) (hd : aggDesc d = true) (hi : (P.info? ty).map (·.size) = some vs.length) (h : J (a.put o.dst (.agg vs.toArray))) : o.quiet P a (fun w' => ∃ x, w' = grow w0 x) J :=
  quiet_load_agg _ x ho g off vs (fun _ hw j v hv' => by obtain ⟨y, rfl⟩ := hw; exact (hb.later ⟨y, rfl⟩).cellD _ (hv j v hv')) hx d hu hd hi h
theorem dl_wrap (d : UInt32) : IntKind.i64.wrap (d.toNat : Int) = (d.toNat : Int) := by
  have := d.toNat_lt
  rw [IntKind.wrap_i64]
  omega
set_option maxRecDepth 100000 in
set_option maxHeartbeats 4000000 in
theorem is15_ok (c : Cmd) (P Q bd : List UInt8) (A1 A2 A3 : Option Addr) (m c1 c2 nq c3 : Nat) (w : World) (hP : P.length = 768) (h1 : RdB w A1 m bd) (h2 : RdB w A2 m bd) (hm : m ≤ 140737488355328) (h3 : RdB w A3 nq Q) (hQ : (nq = 0 ∧ P = z768) ∨ (nq = 768 ∧ Q = P)) :
    Calls Tryz.prog 19 #[.agg (PC c P (.slice A1 m c1)).toArray, .agg (RCc c (.slice A3 nq c3) (.slice A2 m c2)).toArray] w fun e w' => e = .returned (.bool true) ∧ Later w w' := by
  obtain ⟨Z, rfl⟩ : ∃ Z : Y768, Z.val = P := ⟨⟨P, hP⟩, rfl⟩
  obtain ⟨Z0, hZ0⟩ : ∃ Z0 : Y768, Z0.val = z768 := ⟨⟨z768, z768_length⟩, rfl⟩
  obtain ⟨PP, hPP⟩ : ∃ PP, PP = PC c Z.val (.slice A1 m c1) := ⟨_, rfl⟩
  obtain ⟨RR, hRR⟩ : ∃ RR, RR = RCc c (.slice A3 nq c3) (.slice A2 m c2) := ⟨_, rfl⟩
  have C1 := bag_new w 46 PP
  have C2 := C1.add (later_alloc _ (.cells RR.toArray 30)) (k := w.heap.size + 1) (by simp) (by omega) (Blk.new' _ _ _ (by simp))
  clear C1
  have p0 : ∀ j v, (CC c)[j]? = some v → PP[0 + j]? = some v := by rw [hPP]; exact PC_cmd _ _ _
  have r0 : ∀ j v, (CC c)[j]? = some v → RR[0 + j]? = some v := by rw [hRR]; exact RCc_cmd _ _ _
  have p20 : ∀ j v, (Z.val.map W8)[j]? = some v → PP[20 + j]? = some v := by rw [hPP]; exact PC_pkt _ _ _
  have fp : Hid (PP[788]? = some (.slice A1 m c1) ∧ PP[0]? = some (W8 c.kd) ∧ PP[3]? = some (W64 c.nx)) := hid (by rw [hPP]; exact ⟨PC_body _ hP _, PC_cmd _ _ _ 0 _ rfl, PC_cmd _ _ _ 3 _ rfl⟩)
  have fr : Hid (RR[21]? = some (.slice A2 m c2) ∧ RR[20]? = some (.slice A3 nq c3) ∧ RR[0]? = some (W8 c.kd) ∧ RR[3]? = some (W64 c.nx) ∧ RR[2]? = some (W32 c.dl)) := hid (by rw [hRR]; exact ⟨RCc_B _ _ _, RCc_P _ _ _, RCc_cmd _ _ _ 0 _ rfl, RCc_cmd _ _ _ 3 _ rfl, RCc_cmd _ _ _ 2 _ rfl⟩)
  have hE := hid (fun (w : World) h1 h2 => equal_any A1 A2 m m c1 c2 bd bd w h1 h2 hm hm)
  rw [decide_eq_true rfl] at hE
  have hWt := hid (wait_any c)
  have hLa := hid (last_any c)
  have hdw := dl_wrap c.dl
  rw [← hPP, ← hRR]
  clear hPP hRR
  have hp0 : Hid (Tryz.prog.built 40 [] = some (Z0.val.map W8).toArray) := hid (by rw [hZ0]; exact built_pkt0)
  have hBy := hid (fun (w : World) => pbytes_any Z.val hP w)
  have hE2 := hid (fun A c (w : World) h1 h2 => equal_any A A3 768 768 c c3 Z.val Z.val w h1 h2 (by omega) (by omega))
  rw [decide_eq_true rfl] at hE2
  replace hZ0 := hid hZ0
  go_enter Tryz.func19, Tryz.ntmps19
  cases hk1 : (c.kd == 1)
  all_goals
    have n1 : (c.kd != 1) = !(c.kd == 1) := rfl
    rw [hk1] at n1 hLa
    go_wp2_with fail
    generalize hW : (w.alloc _).alloc _ = w1
    replace C2 : Bag w w1 [(w.heap.size + 1, 30, RR), (w.heap.size, 46, PP)] := by rw [← hW]; exact C2
    clear hW
    have C3 := C2.drew
    have x1 := (C3.nth 1 rfl).cellD 788 fp.out.1
    have x2 := (C3.nth 0 rfl).cellD 21 fr.out.1
    have y1 := (C3.nth 1 rfl).lt
    have y2 := (C3.nth 0 rfl).lt
    refine wp_region_parts [([0, 1, 2, 3, 4, 5, 6, 7, 8, 9, 10], 11), ([12, 13, 14, 15, 16, 17, 18, 19, 20, 21, 22, 23, 24, 25, 26, 27, 28, 29, 30, 31, 32, 33, 34, 35, 36, 38, 39, 40, 41], 37), ([42, 43, 44, 45, 46, 48, 49, 50, 51], 47)] [52, 53] [] (by as_aux_lemma => kernel_rfl) (by as_aux_lemma => kernel_rfl) (by intro _ _ d _ _ h; cases d <;> exact h) ?_
    simp only [wpParts, pick, List.getElem?_cons_succ, List.getElem?_cons_zero, Option.toList_some, List.cons_append, List.nil_append]
    repeat (first | go_big_quiet_skip | (go_big_quiet_want; (first | refine quiet_part _ _ rfl 0 (CC c) (C3.nth 1 rfl) rfl p0 _ Tryz.underlying28 rfl (by rw [CC_length]; exact size20) ?_ | refine quiet_part _ _ rfl 0 (CC c) (C3.nth 0 rfl) rfl r0 _ Tryz.underlying28 rfl (by rw [CC_length]; exact size20) ?_); simp only [Act.put, List.setIfInBounds_toArray, List.set_cons_succ, List.set_cons_zero]; go_big_quiet_on) | (go_big_quiet_step (fail)))
    refine wpQuiet_nil ?_
    go_wp2_with fail
    (refine (hE.out _ (h1.later C3.lat) (h2.later C3.lat)).mono ?_); rintro e w4 ⟨rfl, l4⟩
    have C4 := C3.later l4
    clear x1 x2 y1 y2
    have x1 := (C4.nth 1 rfl).cellD 0 fp.out.2.1
    have x2 := (C4.nth 0 rfl).cellD 0 fr.out.2.2.1
    have x3 := (C4.nth 1 rfl).cellD 3 fp.out.2.2
    have x4 := (C4.nth 0 rfl).cellD 3 fr.out.2.2.2.1
    have x5 := (C4.nth 0 rfl).cellD 2 fr.out.2.2.2.2
    have y1 := (C4.nth 1 rfl).lt
    have y2 := (C4.nth 0 rfl).lt
    go_wp2_with fail
    try refine ⟨by first | assumption | exact later_drew _ | exact later_alloc _ _ | exact Later.refl _, ?_⟩
    try simp only [wpParts, pick, List.getElem?_cons_succ, List.getElem?_cons_zero, Option.toList_some, List.cons_append, List.nil_append]
    repeat (first | go_big_quiet_skip | (go_big_quiet_want; (refine quiet_part _ _ rfl 0 (CC c) (C4.nth 1 rfl) rfl p0 _ Tryz.underlying44 rfl (by rw [CC_length]; exact size20t) ?_); simp only [Act.put, List.setIfInBounds_toArray, List.set_cons_succ, List.set_cons_zero]; go_big_quiet_on) | (go_big_quiet_step (fail)))
    refine wpQuiet_nil ?_
    go_wp2_with fail
    (with_reducible refine (hWt.out _).mono ?_); rintro e w5 ⟨rfl, l5⟩
    have C5 := C4.later l5
    clear x1 x2 x3 x4 x5 y1 y2
    have x2 := (C5.nth 0 rfl).cellD 0 fr.out.2.2.1
    have x5 := (C5.nth 0 rfl).cellD 2 fr.out.2.2.2.2
    have y1 := (C5.nth 1 rfl).lt
    have y2 := (C5.nth 0 rfl).lt
    go_wp2_with fail
    try refine ⟨by first | assumption | exact later_drew _ | exact later_alloc _ _ | exact Later.refl _, ?_⟩
    try simp only [wpParts, pick, List.getElem?_cons_succ, List.getElem?_cons_zero, Option.toList_some, List.cons_append, List.nil_append]
    repeat (first | go_big_quiet_skip | (go_big_quiet_want; (refine quiet_part _ _ rfl 0 (CC c) (C5.nth 1 rfl) rfl p0 _ Tryz.underlying44 rfl (by rw [CC_length]; exact size20t) ?_); simp only [Act.put, List.setIfInBounds_toArray, List.set_cons_succ, List.set_cons_zero]; go_big_quiet_on) | (go_big_quiet_step (fail)))
    refine wpQuiet_nil ?_
    go_wp2_with fail
    (with_reducible refine (hLa.out _).mono ?_); rintro e w6 ⟨rfl, l6⟩
    have C6 := C5.later l6
    clear x2 x5 y1 y2
    go_wp2_with fail
    try refine ⟨by first | assumption | exact later_drew _ | exact later_alloc _ _ | exact Later.refl _, ?_⟩
    try simp only [wpParts, pick, List.getElem?_cons_succ, List.getElem?_cons_zero, Option.toList_some, List.cons_append, List.nil_append]
    repeat (go_big_quiet_step (fail))
    refine wpQuiet_nil ?_
    have x6 := (C6.nth 0 rfl).cellD 20 fr.out.2.1
    have y1 := (C6.nth 1 rfl).lt
    have y2 := (C6.nth 0 rfl).lt
    rcases hQ with ⟨rfl, hZZ⟩ | ⟨rfl, rfl⟩
    · obtain rfl : Z = Z0 := Subtype.ext (hZZ.trans hZ0.out.symm)
      clear hZZ
      go_wp2_with (first
        | (refine wpList_load_at rfl 40 _ rfl w.heap.size 20 _ (fun j v hv => (C6.nth 1 rfl).cellD _ (p20 j v hv)) rfl _ Tryz.underlying40 rfl (by rw [List.length_map, hP]; exact size768) ?_)
        | (refine wpList_build_w rfl 40 _ rfl (Z.val.map W8) (by simp only [List.map_toArray, List.map_nil]; exact hp0.out) ?_)
        | fail)
      go_ret
      exact ⟨rfl, C6.lat⟩
    · go_wp2_with fail
      have C7 := C6.drew
      clear x6 y1 y2
      have x6 := (C7.nth 0 rfl).cellD 20 fr.out.2.1
      have y1 := (C7.nth 1 rfl).lt
      have y2 := (C7.nth 0 rfl).lt
      refine wp_region_parts [([0, 1, 3, 4], 2), ([], 5)] [6] [] (by as_aux_lemma => kernel_rfl) (by as_aux_lemma => kernel_rfl) (by intro _ _ d _ _ h; cases d <;> exact h) ?_
      simp only [wpParts, pick, List.getElem?_cons_succ, List.getElem?_cons_zero, Option.toList_some, List.cons_append, List.nil_append]
      repeat (first | go_big_quiet_skip | (go_big_quiet_want; (refine quiet_part _ _ rfl 20 (Z.val.map W8) (C7.nth 1 rfl) rfl p20 _ Tryz.underlying40 rfl (by rw [List.length_map, hP]; exact size768) ?_); simp only [Act.put, List.setIfInBounds_toArray, List.set_cons_succ, List.set_cons_zero]; go_big_quiet_on) | (go_big_quiet_step (fail)))
      refine wpQuiet_nil ?_
      go_wp2_with fail
      (with_reducible refine (hBy.out _).mono ?_); rintro e w8 ⟨A8, c8, rfl, o8, l8⟩
      have C8 := C7.later l8
      go_wp2_with fail
      try refine ⟨by first | assumption | exact later_drew _ | exact later_alloc _ _ | exact Later.refl _, ?_⟩
      try simp only [wpParts, pick, List.getElem?_cons_succ, List.getElem?_cons_zero, Option.toList_some, List.cons_append, List.nil_append]
      repeat (go_big_quiet_step (fail))
      refine wpQuiet_nil ?_
      go_wp2_with fail
      (refine (hE2.out _ _ _ o8.rd (h3.later C8.lat)).mono ?_); rintro e w9 ⟨rfl, l9⟩
      go_wp2_with fail
      try refine ⟨by first | assumption | exact later_drew _ | exact later_alloc _ _ | exact Later.refl _, ?_⟩
      try simp only [wpParts, pick, List.getElem?_cons_succ, List.getElem?_cons_zero, Option.toList_some, List.cons_append, List.nil_append]
      repeat (go_big_quiet_step (fail))
      refine wpQuiet_nil ?_
      go_wp2_with fail
      go_ret
      exact ⟨rfl, C8.lat.trans l9⟩
end Go.Proofs.YtdojjnbpidogfaaGreat
namespace Go.Proofs.YtdojjnbpidogfaaGreat
open Go.RowKit
open Go.BigFrame

/-- A relay's cells: the node, what it remembers, how many. -/
def LC (x : Nod) (v : Value) (n : Int) : List Value := NC x ++ [v, .int .i64 n]
theorem LC_length (x : Nod) (v : Value) (n : Int) : (LC x v n).length = 68 := by rw [LC, List.length_append, NC_length]; rfl
theorem LC_nod (x : Nod) (v : Value) (n : Int) {i : Nat} {u : Value} (h : (NC x)[i]? = some u) : (LC x v n)[0 + i]? = some u := by
  rw [Nat.zero_add, LC, List.getElem?_append_left (List.getElem?_eq_some_iff.1 h).1]
  exact h
theorem LC_count (x : Nod) (v : Value) (n : Int) : (LC x v n)[67]? = some (.int .i64 n) := by
  rw [LC, List.getElem?_append_right (by rw [NC_length]; omega), NC_length]
  rfl
theorem zeroL : (Tryz.prog.info? 79).bind (·.zero) = some (.agg (LC nod0 (.pointer none) 0).toArray) := by kernel_rfl
theorem built_relay (x : Nod) : Tryz.prog.built 79 [(0, .agg (NC x).toArray)] = some (LC x (.pointer none) 0).toArray := by
  rw [built_struct (pl := [(0, 66), (66, 1), (67, 1)]) Tryz.underlying79 zeroL (by kernel_rfl), fill_cons (vs := NC x) (off := 0) rfl (by rw [NC_length]; rfl) (by rw [NC_length, LC_length]; omega), fill_nil, LC, spl_first (by rw [NC_length, NC_length]), LC]
set_option maxRecDepth 100000 in
theorem rnew_any (x : Nod) (w : World) :
    Calls Tryz.prog 23 #[.agg (NC x).toArray] w fun e w' => ∃ g, e = .returned (.pointer (some ⟨g, 0, none⟩)) ∧ w.heap.size ≤ g ∧ Blk w' g 79 (LC x (.pointer none) 0) ∧ Later w w' := by
  have hb0 : Blk (w.alloc (.cells (NC x).toArray 76)) w.heap.size 76 (NC x) := Blk.new _ _ _
  have L := later_alloc w (.cells (NC x).toArray 76)
  have hbr := built_relay x
  have L2 := later_alloc (w.alloc (.cells (NC x).toArray 76)) (.cells (LC x (.pointer none) 0).toArray 79)
  have hb1 := Blk.new' (n := w.heap.size + 1) (w.alloc (.cells (NC x).toArray 76)) 79 (LC x (.pointer none) 0) (by simp)
  go_enter Tryz.func23, Tryz.ntmps23
  go_wp2_with (first
    | (refine load_dnode rfl _ rfl (blk_cells hb0) rfl ?_)
    | (refine wpList_build_w rfl 79 _ rfl (LC x (.pointer none) 0) (by simp only [List.map_toArray, List.map_cons, List.map_nil]; exact hbr) ?_)
    | fail)
  go_ret
  exact ⟨_, rfl, Nat.le_succ _, hb1, L.trans L2⟩
set_option maxRecDepth 100000 in
theorem rtaken_any (g : Nat) (t : TypeId) (x : Nod) (v : Value) (n : Int) (w : World) (hb : Blk w g t (LC x v n)) :
    Calls Tryz.prog 26 #[.pointer (some ⟨g, 0, none⟩)] w fun e w' => e = .returned (.int .i64 n) ∧ Later w w' := by
  have c0 := hb.cellD 67 (LC_count x v n)
  have hlt := hb.lt
  go_enter Tryz.func26, Tryz.ntmps26
  go_wp2
  go_ret
  exact ⟨rfl, Later.refl w⟩
set_option maxRecDepth 100000 in
theorem zero_lad : (Lad.at (readN (List.replicate 32 0)) (clampB (List.replicate 32 0)) 255).x2 = 0 := by decide +kernel
theorem zero_peel : multE (List.replicate 32 0) (List.replicate 32 0) = 5 := by
  have h : multQ (List.replicate 32 0) (List.replicate 32 0) = 0 := by rw [multQ, zero_lad, fmul, Nat.zero_mul, Nat.zero_mod]
  rw [multE, if_pos ⟨List.length_replicate, List.length_replicate⟩, if_pos h]
theorem take_z (k n : Nat) (h : k ≤ n) : (List.replicate n (0 : UInt8)).take k = List.replicate k 0 := by rw [List.take_replicate, Nat.min_eq_left h]
theorem unw_zero : unwE (List.replicate 32 0) z768 = 5 := by
  rw [unwE, z768, take_z 32 768 (by omega), zero_peel, if_neg (by decide)]
set_option maxRecDepth 100000 in
set_option maxHeartbeats 1000000 in
theorem awake15 (w : World) : Calls Tryz.prog 10 #[] w fun e w' => e = .returned (.bool true) ∧ Later w w' := by
  have hU := hid (fun (w : World) A h => unwrap_any A 32 32 (List.replicate 32 0) z768 w h (by omega) z768_length)
  rw [unw_zero] at hU
  have hp0 : Tryz.prog.built 40 [] = some (z768.map W8).toArray := built_pkt0
  have hl : (unwP (List.replicate 32 0) z768).length = 768 := by
    rw [unwP, z768, take_z 32 768 (by omega), zero_peel, if_neg (by decide), List.length_replicate]
  generalize unwP (List.replicate 32 0) z768 = P at *
  generalize unwC (List.replicate 32 0) z768 = C at *
  generalize unwB (List.replicate 32 0) z768 = B at *
  have HZ := hid zcPe
  have hzl : (PC cmd0 z768 nil8).length = 789 := PC_length _ z768_length _
  have hT := hid rtaken_any
  go_enter Tryz.func10, Tryz.ntmps10
  go_wp2_with (first
    | (refine wpList_make_n rfl _ _ _ rfl 5 _ 1 Tryz.underlying22 info8 rfl _ _ _ _ 32 rfl rfl rfl rfl (by omega) (by omega) ?_; intro w1 hb1 hl1)
    | (refine wpList_build_w rfl 40 _ rfl (z768.map W8) (by simp only [List.map_toArray, List.map_nil]; exact hp0) ?_)
    | fail)
  (refine (hU.out _ _ (show RdB _ (some ⟨w.heap.size, 0, none⟩) 32 (List.replicate 32 0) from hb1.rd rfl)).mono ?_); rintro e w2 ⟨A2, c2, rfl, _, l2⟩
  have L := hl1.trans l2
  clear hb1 hl1 l2 hU
  go_wp2_with (first
    | (refine store_PC rfl rfl _ _ rfl ((Blk.new w2 _ Tryz.zeroCells46.toList).cast HZ.out) rfl rfl hl rfl hzl ?_; intro w3 hb3 ho3)
    | (refine wpList_build_w rfl 71 _ rfl (NC ⟨⟨#[97]⟩, 7, zero32, zero32⟩) (by simp only [List.map_toArray, List.map_cons, List.map_nil]; exact built_nod2 _ 7) ?_)
    | (refine wpList_build_w rfl 76 _ rfl (NC ⟨⟨#[97]⟩, 7, zero32, zero32⟩) (by simp only [List.map_toArray, List.map_cons, List.map_nil]; exact built_dnode _) ?_)
    | fail)
  have L3 := (L.trans (later_alloc w2 (.cells Tryz.zeroCells46 46))).only ho3 (by have := L.size; simp at this ⊢; omega)
  (with_reducible refine (rnew_any _ _).mono ?_); rintro e w4 ⟨g4, rfl, hg4, hb4, l4⟩
  have c0 := hb4.cellD 0 (LC_nod _ _ _ (i := 0) rfl)
  have c1 := hb4.cellD 1 (LC_nod _ _ _ (i := 1) rfl)
  have hlt := hb4.lt
  go_wp2_with fail
  (refine (hT.out _ _ _ _ _ _ hb4).mono ?_); rintro e w5 ⟨rfl, l5⟩
  go_wp2
  go_ret
  exact ⟨rfl, (L3.trans l4).trans l5⟩
end Go.Proofs.YtdojjnbpidogfaaGreat

