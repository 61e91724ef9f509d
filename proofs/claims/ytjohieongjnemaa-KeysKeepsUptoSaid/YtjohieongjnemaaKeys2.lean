/-
  shallotref12.Of; steps: stepOf, Next, Peel, and the document's; shallotlaw12.is.
-/
import Derived.Test.YtjohieongjnemaaKeys1
import Derived.Test.YtjohieongjnemaaCurveAB
namespace Go.Proofs.Ytjohieongjnemaa
open Go.RowKit
open Go.BigFrame

set_option maxRecDepth 100000 in
set_option maxHeartbeats 4000000 in
theorem of_ref12 (A : Option Addr) (n c : Nat) (s : List UInt8) (w : World) (hx : RdB w A n s) (hn : n ≤ 35184372088832) :
    Calls Try.prog 34 #[.slice A n c] w fun e w' => e = .returned (.tuple #[.agg ((ofB s).map W8).toArray, .int .i64 (ofE s : Nat)]) ∧ Later w w' := by
  have hl := hx.len
  have B0 := bag_new w 49 Try.zeroCells49.toList
  have hz0 : Try.zeroCells49.toList.length = 128 := by kernel_rfl
  by_cases h32 : n = 32
  · subst h32
    have e1 : ofE s = 0 := by rw [ofE, if_pos hl]
    have e2 : ofB s = k4 s := by rw [ofB, if_pos hl]
    rw [e1, e2]
    clear e1 e2
    have d1 := hid (fun (w : World) h => refDerive_any A 32 c s sMac w h (by omega) (by decide))
    have d2 := hid (fun (w : World) h => refDerive_any A 32 c s sStream w h (by omega) (by decide))
    have d3 := hid (fun (w : World) h => refDerive_any A 32 c s sPay w h (by omega) (by decide))
    have d4 := hid (fun (w : World) h => refDerive_any A 32 c s sBlind w h (by omega) (by decide))
    rw [k4] at *
    have hp := derB_length s sMac
    have hq := derB_length s sStream
    have hr := derB_length s sPay
    have ht := derB_length s sBlind
    generalize derB s sMac = p at *
    generalize derB s sStream = q at *
    generalize derB s sPay = r at *
    generalize derB s sBlind = t at *
    have hbk := built_keys2 p q hp hq
    have f1 : (p ++ (q ++ (List.replicate 32 0 ++ List.replicate 32 (0 : UInt8)))).length = 128 := by simp [hp, hq]
    have p1 : putB (p ++ (q ++ (List.replicate 32 0 ++ List.replicate 32 (0 : UInt8)))) 64 r = p ++ (q ++ (r ++ List.replicate 32 (0 : UInt8))) := by
      rw [← List.append_assoc p q, putB_here _ _ _ _ 64 (by simp [hp, hq]) (by simp [hr]), List.append_assoc]
    have f2 : (p ++ (q ++ (r ++ List.replicate 32 (0 : UInt8)))).length = 128 := by simp [hp, hq, hr]
    have p2 : putB (p ++ (q ++ (r ++ List.replicate 32 (0 : UInt8)))) 96 t = p ++ (q ++ (r ++ t)) := by
      rw [← List.append_assoc q r, ← List.append_assoc p, putB_last _ _ _ 96 (by simp [hp, hq, hr]) (by simp [ht])]
      simp
    have f3 : (p ++ (q ++ (r ++ t))).length = 128 := by simp [hp, hq, hr, ht]
    generalize p ++ (q ++ (r ++ t)) = K3 at *
    generalize p ++ (q ++ (r ++ List.replicate 32 (0 : UInt8))) = K2 at *
    generalize p ++ (q ++ (List.replicate 32 0 ++ List.replicate 32 (0 : UInt8))) = K1 at *
    have P1 := hid p1
    have P2 := hid p2
    clear p1 p2
    go_enter Try.func34, Try.ntmps34
    go_wp2_with fail
    generalize hW : w.alloc _ = w1
    replace B0 : Bag w w1 [(w.heap.size, 49, Try.zeroCells49.toList)] := by rw [← hW]; exact B0
    clear hW
    (with_reducible refine (d1.out _ (hx.later B0.lat)).mono ?_); rintro e w2 ⟨rfl, j2⟩
    go_wp2_with fail
    (with_reducible refine (d2.out _ (hx.later (B0.lat.trans j2))).mono ?_); rintro e w3 ⟨rfl, j3⟩
    go_wp2_with (first
      | (refine wpList_build_is rfl 49 _ rfl (K1.map W8) ?hb ?_; (case hb => simp only [List.map_toArray, List.map_cons, List.map_nil]; exact hbk))
      | (refine store_K rfl rfl _ _ rfl (Blk.new w3 _ Try.zeroCells49.toList) rfl rfl f1 hz0 ?_; intro w4 hb4 ho4)
      | fail)
    have B1 := B0.push ((j2.trans j3).trans (later_alloc w3 _)) (j2.trans j3).size ho4 hb4
    clear j2 j3 hb4 ho4
    (with_reducible refine (d3.out _ (hx.later B1.lat)).mono ?_); rintro e w5 ⟨rfl, j5⟩
    go_wp2_with (first
      | (refine store_Y 64 32 rfl rfl _ _ rfl ((B1.later j5).nth 0 rfl) rfl rfl size32c hr (by omega) ?_; intro w6 hb6 ho6; rw [P1.out] at hb6
         have B2 := (B1.later j5).write 0 rfl ho6 hb6)
      | fail)
    clear j5 hb6 ho6 B1
    (with_reducible refine (d4.out _ (hx.later B2.lat)).mono ?_); rintro e w7 ⟨rfl, j7⟩
    go_wp2_with (first
      | (refine store_Y 96 32 rfl rfl _ _ rfl ((B2.later j7).nth 0 rfl) rfl rfl size32c ht (by omega) ?_; intro w8 hb8 ho8; rw [P2.out] at hb8
         have B3 := (B2.later j7).write 0 rfl ho8 hb8)
      | (refine load_K rfl _ rfl (B3.nth 0 rfl) f3 rfl ?_)
      | (refine store_K rfl rfl _ _ rfl (B3.nth 1 rfl) rfl rfl f3 hz0 ?_; intro w9 hb9 ho9)
      | fail)
    exact bodyPost_ret (results_blk_tmp rfl _ _ _ _ _ _ hb9 rfl Try.underlying49 rfl (by rw [List.length_map, f3]; exact size128)) rfl ⟨rfl, (B3.write 1 rfl ho9 hb9).lat⟩
  · have e1 : ofE s = 2 := by rw [ofE, if_neg (by omega)]
    have e2 : ofB s = List.replicate 128 0 := by rw [ofB, if_neg (by omega)]
    rw [e1, e2]
    clear e1 e2
    have hb0 := built_keys0
    have hzl : (List.replicate 128 (0 : UInt8)).length = 128 := by simp
    generalize List.replicate 128 (0 : UInt8) = Z at *
    have hne : ((n : Int) != 32) = true := by simp; omega
    go_enter Try.func34, Try.ntmps34
    go_wp2_with (first
      | (refine wpList_build_is rfl 49 _ rfl (Z.map W8) ?hb ?_; (case hb => simp only [List.map_toArray, List.map_nil]; exact hb0))
      | (refine store_K rfl rfl _ _ rfl (B0.nth 0 rfl) rfl rfl hzl hz0 ?_; intro w9 hb9 ho9)
      | fail)
    exact bodyPost_ret (results_blk_tmp rfl _ _ _ _ _ _ hb9 rfl Try.underlying49 rfl (by rw [List.length_map, hzl]; exact size128)) rfl ⟨rfl, (later_alloc _ _).only ho9 (Nat.le_refl _)⟩

/-! ### Equality -/
theorem eq_cut (x y : List UInt8) (off n : Nat) : (subB x off n == subB y off n && x.drop (off + n) == y.drop (off + n)) = (x.drop off == y.drop off) := by
  rw [Bool.eq_iff_iff]
  simp only [Bool.and_eq_true, beq_iff_eq, subB, ← List.drop_drop]
  constructor
  · rintro ⟨h1, h2⟩
    rw [← List.take_append_drop n (x.drop off), h1, h2, List.take_append_drop]
  · intro h
    rw [h]
    exact ⟨rfl, rfl⟩
theorem eq_last (x y : List UInt8) (off n : Nat) (hx : x.length = off + n) (hy : y.length = off + n) : (subB x off n == subB y off n) = (x.drop off == y.drop off) := by
  rw [subB, subB, List.take_of_length_le (by rw [List.length_drop]; omega), List.take_of_length_le (by rw [List.length_drop]; omega)]
theorem take_sub (x : List UInt8) (off n : Nat) : (((x.map W8).drop off).take n) = (subB x off n).map W8 := by rw [subB, List.map_take, List.map_drop]
abbrev Y128 := {l : List UInt8 // l.length = 128}
abbrev Y192 := {l : List UInt8 // l.length = 192}
theorem fields_of {P : Program} {t : TypeId} {fs : Array Field} (hu : P.underlying t = some (.struct fs)) : P.fieldsOf t = fs := by unfold Program.fieldsOf; rw [hu]
theorem run_eqk (d : Nat) (x y : List UInt8) (hx : x.length = 128) (hy : y.length = 128) (w : World) :
    (Op.eqFields (d + 2) (x.map W8).toArray (y.map W8).toArray (Try.prog.fieldsOf 49).toList).run Try.prog w = .ok (x == y) w := by
  rw [fields_of Try.underlying49]
  have l1 : ∀ off, off + 32 ≤ 128 → (subB x off 32).length = 32 := fun off h => subB_length (by omega)
  have l2 : ∀ off, off + 32 ≤ 128 → (subB y off 32).length = 32 := fun off h => subB_length (by omega)
  rw [run_eq32_cons (k := 0) rfl (by decide) rfl (take_sub x 0 32) (take_sub y 0 32) (l1 _ (by omega)) (l2 _ (by omega)), run_eq32_cons (k := 32) rfl (by decide) rfl (take_sub x 32 32) (take_sub y 32 32) (l1 _ (by omega)) (l2 _ (by omega)),
    run_eq32_cons (k := 64) rfl (by decide) rfl (take_sub x 64 32) (take_sub y 64 32) (l1 _ (by omega)) (l2 _ (by omega)), run_eq32_cons (k := 96) rfl (by decide) rfl (take_sub x 96 32) (take_sub y 96 32) (l1 _ (by omega)) (l2 _ (by omega)), run_eq32_nil]
  have h : (x == y) = (subB x 0 32 == subB y 0 32 && (subB x 32 32 == subB y 32 32 && (subB x 64 32 == subB y 64 32 && subB x 96 32 == subB y 96 32))) := by
    rw [eq_last x y 96 32 (by omega) (by omega), eq_cut x y 64 32, eq_cut x y 32 32, eq_cut x y 0 32]
    rfl
  rw [h]
  cases subB x 0 32 == subB y 0 32 <;> cases subB x 32 32 == subB y 32 32 <;> cases subB x 64 32 == subB y 64 32 <;> cases subB x 96 32 == subB y 96 32 <;> rfl
theorem eqg_keys : Try.prog.eqGuardType Try.prog.depth 49 = false := by kernel_rfl
theorem stood_keys : Try.prog.stoodInHeld 49 = false := by kernel_rfl
theorem fields_keys : Try.prog.underlying 49 = some (.struct (Try.prog.fieldsOf 49)) := by rw [fields_of Try.underlying49]; exact Try.underlying49
@[go_sem high] theorem eqGuard_keys (op : BinOp) (x y : Operand) (xs ys : Array Value) (w : World) : (eqGuard op 49 x y (.agg xs) (.agg ys)).run Try.prog w = .ok () w := run_eqGuard_agg w op _ x y xs ys eqg_keys
@[go_sem high] theorem run_eql_y128 (x y : Y128) (w : World) : (binOp .eql 49 (.agg (x.val.map W8).toArray) (.agg (y.val.map W8).toArray)).run Try.prog w = .ok (.bool (x.val == y.val)) w := by
  rw [run_eql_s fields_keys stood_keys, run_eqk 9997 _ _ x.2 y.2]
  rfl

/-! ### Steps -/
theorem size192 : (Try.prog.info? 63).map (·.size) = some 192 := by kernel_rfl
theorem size192r : (Try.prog.info? 66).map (·.size) = some 192 := by kernel_rfl
theorem zero192 : (Try.prog.info? 63).bind (·.zero) = some (.agg (List.replicate 192 (W8 0)).toArray) := by kernel_rfl
theorem zero192r : (Try.prog.info? 66).bind (·.zero) = some (.agg (List.replicate 192 (W8 0)).toArray) := by kernel_rfl
theorem put3 (k a s : List UInt8) (hk : k.length = 128) (ha : a.length = 32) (hs : s.length = 32) : putAll (List.replicate 192 0) [(0, k), (128, a), (160, s)] = k ++ (a ++ s) := by
  simp only [putAll]
  rw [show List.replicate 192 (0 : UInt8) = List.replicate 128 0 ++ (List.replicate 32 0 ++ List.replicate 32 0) by simp]
  rw [putB_first _ _ _ (by simp [hk]), putB_here _ _ _ _ 128 hk (by simp [ha]), ← List.append_assoc, putB_last _ _ _ 160 (by simp [hk, ha]) (by simp [hs]), List.append_assoc]
theorem built_step (k a s : List UInt8) (hk : k.length = 128) (ha : a.length = 32) (hs : s.length = 32) :
    Program.built Try.prog 63 [(0, .agg (k.map W8).toArray), (1, .agg (a.map W8).toArray), (2, .agg (s.map W8).toArray)] = some ((k ++ (a ++ s)).map W8).toArray := by
  have h := built_bytes (n := 192) (pl := [(0, 128), (128, 32), (160, 32)]) Try.underlying63 zero192 (by kernel_rfl) [(0, 0, k), (1, 128, a), (2, 160, s)] (by
    intro x hx
    simp only [List.mem_cons, List.not_mem_nil, or_false] at hx
    rcases hx with rfl | rfl | rfl <;> simp [hk, ha, hs])
  rw [show putAll (List.replicate 192 0) ([(0, 0, k), (1, 128, a), (2, 160, s)].map fun x => (x.2.1, x.2.2)) = k ++ (a ++ s) from put3 k a s hk ha hs] at h
  exact h
theorem built_stepR (k a s : List UInt8) (hk : k.length = 128) (ha : a.length = 32) (hs : s.length = 32) :
    Program.built Try.prog 66 [(0, .agg (k.map W8).toArray), (1, .agg (a.map W8).toArray), (2, .agg (s.map W8).toArray)] = some ((k ++ (a ++ s)).map W8).toArray := by
  have h := built_bytes (n := 192) (pl := [(0, 128), (128, 32), (160, 32)]) Try.underlying66 zero192r (by kernel_rfl) [(0, 0, k), (1, 128, a), (2, 160, s)] (by
    intro x hx
    simp only [List.mem_cons, List.not_mem_nil, or_false] at hx
    rcases hx with rfl | rfl | rfl <;> simp [hk, ha, hs])
  rw [show putAll (List.replicate 192 0) ([(0, 0, k), (1, 128, a), (2, 160, s)].map fun x => (x.2.1, x.2.2)) = k ++ (a ++ s) from put3 k a s hk ha hs] at h
  exact h
theorem built_step0 : Program.built Try.prog 63 [] = some ((List.replicate 192 (0 : UInt8)).map W8).toArray := by
  rw [List.map_replicate]
  kernel_rfl
theorem built_step0R : Program.built Try.prog 66 [] = some ((List.replicate 192 (0 : UInt8)).map W8).toArray := by
  rw [List.map_replicate]
  kernel_rfl
section
variable {ops : Array Oper} {rest : List Oper} {o : Oper} {a : Act} {w : World} {Q : Exit → Act → World → Prop}
theorem store_St (hgd : o.guard = none) (hd : o.dst = none) (x y : Operand) (ho : o.op = .store 63 x y) {g : Nat} {t : TypeId} {l : List Value} {bs : List UInt8} (hg : Blk w g t l) (hx : a.eval x = .pointer (some ⟨g, 0, none⟩)) (hy : a.eval y = .agg (bs.map W8).toArray) (hbl : bs.length = 192) (hl : l.length = 192)
    (h : ∀ w', Blk w' g t (bs.map W8) → Only g w w' → wpList Try.prog ops Q rest a w') : wpList Try.prog ops Q (o :: rest) a w :=
  store_Z 192 hgd hd x y ho hg hx hy size192 hbl hl h
theorem store_SR (hgd : o.guard = none) (hd : o.dst = none) (x y : Operand) (ho : o.op = .store 66 x y) {g : Nat} {t : TypeId} {l : List Value} {bs : List UInt8} (hg : Blk w g t l) (hx : a.eval x = .pointer (some ⟨g, 0, none⟩)) (hy : a.eval y = .agg (bs.map W8).toArray) (hbl : bs.length = 192) (hl : l.length = 192)
    (h : ∀ w', Blk w' g t (bs.map W8) → Only g w w' → wpList Try.prog ops Q rest a w') : wpList Try.prog ops Q (o :: rest) a w :=
  store_Z 192 hgd hd x y ho hg hx hy size192r hbl hl h
theorem load_St (hw : Region.wanted o (yielded ops a.tmps) = true) (x : Operand) (ho : o.op = .load 63 x) {g : Nat} {t : TypeId} {bs : List UInt8} (hb : Blk w g t (bs.map W8)) (hl : bs.length = 192) (hx : a.eval x = .pointer (some ⟨g, 0, none⟩))
    (h : wpList Try.prog ops Q rest (a.put o.dst (.agg (bs.map W8).toArray)) w) : wpList Try.prog ops Q (o :: rest) a w :=
  wpList_load_blk hw _ x ho g t _ hb hx _ Try.underlying63 rfl 192 size192 (by rw [List.length_map, hl]) h
theorem load_SR (hw : Region.wanted o (yielded ops a.tmps) = true) (x : Operand) (ho : o.op = .load 66 x) {g : Nat} {t : TypeId} {bs : List UInt8} (hb : Blk w g t (bs.map W8)) (hl : bs.length = 192) (hx : a.eval x = .pointer (some ⟨g, 0, none⟩))
    (h : wpList Try.prog ops Q rest (a.put o.dst (.agg (bs.map W8).toArray)) w) : wpList Try.prog ops Q (o :: rest) a w :=
  wpList_load_blk hw _ x ho g t _ hb hx _ Try.underlying66 rfl 192 size192r (by rw [List.length_map, hl]) h
end
set_option maxRecDepth 100000 in
set_option maxHeartbeats 4000000 in
theorem stepOf_any (al s : List UInt8) (hal : al.length = 32) (hs : s.length = 32) (w : World) :
    Calls Try.prog 58 #[.agg (al.map W8).toArray, .agg (s.map W8).toArray] w fun e w' => e = .returned (.tuple #[.agg ((k4 s ++ (al ++ s)).map W8).toArray, .int .i64 0]) ∧ Later w w' := by
  have hO := hid (fun (w : World) g h => of_keys (some ⟨g, 0, none⟩) 32 32 s w h (by omega) (by omega))
  rw [show ofB s = k4 s by rw [ofB, if_pos hs], show ofE s = 0 by rw [ofE, if_pos hs]] at hO
  have hkl := k4_length s
  generalize k4 s = K at *
  have hbs := built_step K al s hkl hal hs
  have hTl : (K ++ (al ++ s)).length = 192 := by simp [hkl, hal, hs]
  generalize K ++ (al ++ s) = T at *
  have hz1 : Try.zeroCells49.toList.length = 128 := by kernel_rfl
  have hz0 : Try.zeroCells63.toList.length = 192 := by kernel_rfl
  have C1 := bag_new w 47 (al.map W8)
  have C2 : Bag w ((w.alloc (.cells (al.map W8).toArray 47)).alloc (.cells (s.map W8).toArray 47)) [(w.heap.size + 1, 47, s.map W8), (w.heap.size, 47, al.map W8)] :=
    C1.add (later_alloc _ _) (by simp) (by omega) (Blk.new' _ _ _ (by simp))
  have C3 : Bag w (((w.alloc (.cells (al.map W8).toArray 47)).alloc (.cells (s.map W8).toArray 47)).alloc (.cells Try.zeroCells63 63)) [(w.heap.size + 2, 63, Try.zeroCells63.toList), (w.heap.size + 1, 47, s.map W8), (w.heap.size, 47, al.map W8)] :=
    C2.add (later_alloc _ _) (by simp) (by omega) (Blk.new' _ _ _ (by simp))
  clear C1 C2
  go_enter Try.func58, Try.ntmps58
  go_wp2_with fail
  generalize hW : ((w.alloc _).alloc _).alloc _ = w0
  replace C3 : Bag w w0 [(w.heap.size + 2, 63, Try.zeroCells63.toList), (w.heap.size + 1, 47, s.map W8), (w.heap.size, 47, al.map W8)] := by rw [← hW]; exact C3
  clear hW
  (with_reducible refine (hO.out _ _ (blk_rdB (C3.nth 1 rfl) hs)).mono ?_); rintro e w1 ⟨rfl, j1⟩
  go_wp2_with (first
    | (refine store_K rfl rfl _ _ rfl (Blk.new w1 _ Try.zeroCells49.toList) rfl rfl hkl hz1 ?_; intro w2 hb2 ho2
       have C4 := C3.push (j1.trans (later_alloc w1 _)) j1.size ho2 hb2)
    | (refine load_K rfl _ rfl (C4.nth 0 rfl) hkl rfl ?_)
    | (refine load_B rfl _ rfl (C4.nth 3 rfl) hal rfl ?_)
    | (refine load_B rfl _ rfl (C4.nth 2 rfl) hs rfl ?_)
    | (refine wpList_build_is rfl 63 _ rfl (T.map W8) ?hb ?_; (case hb => simp only [List.map_toArray, List.map_cons, List.map_nil]; exact hbs))
    | (refine store_St rfl rfl _ _ rfl (C4.nth 1 rfl) rfl rfl hTl hz0 ?_; intro w9 hb9 ho9)
    | fail)
  exact bodyPost_ret (results_blk_tmp rfl _ _ _ _ _ _ hb9 rfl Try.underlying63 rfl (by rw [List.length_map, hTl]; exact size192)) rfl ⟨rfl, (C4.write 1 rfl ho9 hb9).lat⟩
end Go.Proofs.Ytjohieongjnemaa
