/-
  keys.Of, and the document's.
  shallotref12.Of; steps: stepOf, Next, Peel, and the document's; shallotlaw12.is.
  Steps: Next, Peel, and the document's; shallotlaw12.is of two that are the same.
-/
import Derived.Test.YtdojjnbpidogfaaGreatStrP
import Derived.Test.YtdojjnbpidogfaaGreatMacP
import Derived.Test.YtdojjnbpidogfaaGreatCMult
import Derived.Test.YtdojjnbpidogfaaGreatBag
import Derived.Test.YtdojjnbpidogfaaGreatCurveAB
import Derived.Test.YtdojjnbpidogfaaGreatBagMore
namespace Go.Proofs.YtdojjnbpidogfaaGreat
open Go.RowKit
open Go.BigFrame

abbrev sMac : ByteArray := ⟨#[109, 97, 99]⟩
abbrev sStream : ByteArray := ⟨#[115, 116, 114, 101, 97, 109]⟩
abbrev sPay : ByteArray := ⟨#[112, 97, 121]⟩
abbrev sBlind : ByteArray := ⟨#[98, 108, 105, 110, 100]⟩
/-- The four keys of a secret, one behind the other. -/
def k4 (s : List UInt8) : List UInt8 := derB s sMac ++ (derB s sStream ++ (derB s sPay ++ derB s sBlind))
theorem k4_length (s : List UInt8) : (k4 s).length = 128 := by simp [k4, derB_length]
theorem k4_keys (s : List UInt8) : keysAt s [sMac, sStream, sPay, sBlind] 4 = k4 s := by
  rw [keysAt, k4]
  simp
def ofB (s : List UInt8) : List UInt8 := if s.length = 32 then k4 s else List.replicate 128 0
def ofE (s : List UInt8) : Nat := if s.length = 32 then 0 else 2
theorem ofB_length (s : List UInt8) : (ofB s).length = 128 := by
  unfold ofB
  split
  · exact k4_length s
  · simp
theorem size128 : (Tryz.prog.info? 51).map (·.size) = some 128 := by kernel_rfl
theorem zero128 : (Tryz.prog.info? 51).bind (·.zero) = some (.agg (List.replicate 128 (W8 0)).toArray) := by kernel_rfl
theorem built_keys (p q r s : List UInt8) (hp : p.length = 32) (hq : q.length = 32) (hr : r.length = 32) (hs : s.length = 32) :
    Program.built Tryz.prog 51 [(0, .agg (p.map W8).toArray), (1, .agg (q.map W8).toArray), (2, .agg (r.map W8).toArray), (3, .agg (s.map W8).toArray)] = some ((p ++ (q ++ (r ++ s))).map W8).toArray := by
  have h := built_bytes (n := 128) (pl := [(0, 32), (32, 32), (64, 32), (96, 32)]) Tryz.underlying51 zero128 (by kernel_rfl) [(0, 0, p), (1, 32, q), (2, 64, r), (3, 96, s)] (by
    intro x hx
    simp only [List.mem_cons, List.not_mem_nil, or_false] at hx
    rcases hx with rfl | rfl | rfl | rfl <;> simp [hp, hq, hr, hs])
  rw [show putAll (List.replicate 128 0) ([(0, 0, p), (1, 32, q), (2, 64, r), (3, 96, s)].map fun x => (x.2.1, x.2.2)) = p ++ (q ++ (r ++ s)) by
    simp only [List.map_cons, List.map_nil, putAll]
    rw [show List.replicate 128 (0 : UInt8) = List.replicate 32 0 ++ (List.replicate 32 0 ++ (List.replicate 32 0 ++ List.replicate 32 0)) by simp]
    rw [putB_first _ _ _ (by simp [hp]), putB_here _ _ _ _ 32 hp (by simp [hq])]
    rw [← List.append_assoc p q, putB_here _ _ _ _ 64 (by simp [hp, hq]) (by simp [hr]), ← List.append_assoc _ r, putB_last _ _ _ 96 (by simp [hp, hq, hr]) (by simp [hs])]
    simp] at h
  exact h
theorem built_keys0 : Program.built Tryz.prog 51 [] = some ((List.replicate 128 (0 : UInt8)).map W8).toArray := by
  rw [List.map_replicate]
  kernel_rfl
theorem built_keys2 (p q : List UInt8) (hp : p.length = 32) (hq : q.length = 32) :
    Program.built Tryz.prog 51 [(0, .agg (p.map W8).toArray), (1, .agg (q.map W8).toArray)] = some ((p ++ (q ++ (List.replicate 32 0 ++ List.replicate 32 0))).map W8).toArray := by
  have h := built_bytes (n := 128) (pl := [(0, 32), (32, 32), (64, 32), (96, 32)]) Tryz.underlying51 zero128 (by kernel_rfl) [(0, 0, p), (1, 32, q)] (by
    intro x hx
    simp only [List.mem_cons, List.not_mem_nil, or_false] at hx
    rcases hx with rfl | rfl <;> simp [hp, hq])
  rw [show putAll (List.replicate 128 0) ([(0, 0, p), (1, 32, q)].map fun x => (x.2.1, x.2.2)) = p ++ (q ++ (List.replicate 32 0 ++ List.replicate 32 0)) by
    simp only [List.map_cons, List.map_nil, putAll]
    rw [show List.replicate 128 (0 : UInt8) = List.replicate 32 0 ++ (List.replicate 32 0 ++ (List.replicate 32 0 ++ List.replicate 32 0)) by simp]
    rw [putB_first _ _ _ (by simp [hp]), putB_here _ _ _ _ 32 hp (by simp [hq])]] at h
  exact h
section
variable {ops : Array Oper} {rest : List Oper} {o : Oper} {a : Act} {w : World} {Q : Exit → Act → World → Prop}
theorem store_K (hgd : o.guard = none) (hd : o.dst = none) (x y : Operand) (ho : o.op = .store 51 x y) {g : Nat} {t : TypeId} {l : List Value} {bs : List UInt8} (hg : Blk w g t l) (hx : a.eval x = .pointer (some ⟨g, 0, none⟩)) (hy : a.eval y = .agg (bs.map W8).toArray) (hbl : bs.length = 128) (hl : l.length = 128)
    (h : ∀ w', Blk w' g t (bs.map W8) → Only g w w' → wpList Tryz.prog ops Q rest a w') : wpList Tryz.prog ops Q (o :: rest) a w :=
  store_Z 128 hgd hd x y ho hg hx hy size128 hbl hl h
theorem load_K (hw : Region.wanted o (yielded ops a.tmps) = true) (x : Operand) (ho : o.op = .load 51 x) {g : Nat} {t : TypeId} {bs : List UInt8} (hb : Blk w g t (bs.map W8)) (hl : bs.length = 128) (hx : a.eval x = .pointer (some ⟨g, 0, none⟩))
    (h : wpList Tryz.prog ops Q rest (a.put o.dst (.agg (bs.map W8).toArray)) w) : wpList Tryz.prog ops Q (o :: rest) a w :=
  wpList_load_blk hw _ x ho g t _ hb hx _ Tryz.underlying51 rfl 128 size128 (by rw [List.length_map, hl]) h
end
set_option maxRecDepth 100000 in
set_option maxHeartbeats 4000000 in
theorem of_keys (A : Option Addr) (n c : Nat) (s : List UInt8) (w : World) (hx : RdB w A n s) (hc : n ≤ c) (hn : n ≤ 35184372088832) :
    Calls Tryz.prog 97 #[.slice A n c] w fun e w' => e = .returned (.tuple #[.agg ((ofB s).map W8).toArray, .int .i64 (ofE s : Nat)]) ∧ Later w w' := by
  have hl := hx.len
  have B0 := bag_new w 51 Tryz.zeroCells51.toList
  have hz0 : Tryz.zeroCells51.toList.length = 128 := by kernel_rfl
  by_cases h32 : n = 32
  · subst h32
    have e1 : ofE s = 0 := by rw [ofE, if_pos hl]
    have e2 : ofB s = k4 s := by rw [ofB, if_pos hl]
    rw [e1, e2]
    clear e1 e2
    have hD := hid (fun (w : World) B d h1 h2 => derive_any A B 32 c 4 d s [sMac, sStream, sPay, sBlind] w h1 hc hn h2 (by omega) (by omega) (by intro x hx; simp only [List.mem_cons, List.not_mem_nil, or_false] at hx; rcases hx with rfl | rfl | rfl | rfl <;> decide))
    rw [k4_keys] at hD
    rw [k4] at *
    have hp := derB_length s sMac
    have hq := derB_length s sStream
    have hr := derB_length s sPay
    have ht := derB_length s sBlind
    generalize derB s sMac = p at *
    generalize derB s sStream = q at *
    generalize derB s sPay = r at *
    generalize derB s sBlind = t at *
    have hbk := built_keys p q r t hp hq hr ht
    obtain ⟨K, hK⟩ : ∃ K, K = p ++ (q ++ (r ++ t)) := ⟨_, rfl⟩
    rw [← hK] at hD hbk ⊢
    have s0 : subB K 0 32 = p := by rw [hK, subB_first _ _ _ hp]
    have s1 : subB K 32 32 = q := by rw [hK, subB_here _ _ _ _ _ hp hq]
    have s2 : subB K 64 32 = r := by rw [hK, ← List.append_assoc, subB_here _ _ _ _ _ (by simp [hp, hq]) hr]
    have s3 : subB K 96 32 = t := by rw [hK, ← List.append_assoc, ← List.append_assoc, subB_last _ _ _ _ (by simp [hp, hq, hr]) ht]
    have hKl : K.length = 128 := by rw [hK]; simp [hp, hq, hr, ht]
    clear hK
    go_enter Tryz.func97, Tryz.ntmps97
    go_wp2_with fail
    generalize hW : (w.alloc _).alloc _ = w1
    have B1 : Bag w w1 [(w.heap.size, 51, Tryz.zeroCells51.toList)] := by rw [← hW]; exact B0.later (later_alloc _ _)
    have hS : Strs w1 (some ⟨w.heap.size + 1, 0, none⟩) 4 [sMac, sStream, sPay, sBlind] := by
      rw [← hW]
      exact Blk.rd (Blk.new' (w.alloc (.cells Tryz.zeroCells51 51)) 9 [Value.string sMac, Value.string sStream, Value.string sPay, Value.string sBlind] (by simp)) rfl
    clear hW
    (with_reducible refine (hD.out _ _ 4 (hx.later B1.lat) hS).mono ?_); rintro e w2 ⟨g, rfl, hg, hb2, j2⟩
    have B2 := (B1.later j2).add (later_drew _) (k := g) (by have := (B1.nth 0 rfl).lt; simp; omega) (by have := B1.lat.size; omega) hb2.drew
    clear hS hb2 hg B0 j2 B1
    go_wp2_with fail
    refine wp_region_parts [] [0, 1, 2, 3, 4, 5, 6, 7, 8, 9, 10, 11, 12] [13, 14] (by as_aux_lemma => kernel_rfl) (by as_aux_lemma => kernel_rfl) (by intro _ _ d _ _ h; cases d <;> exact h) ?_
    simp only [wpParts, pick, List.getElem?_cons_succ, List.getElem?_cons_zero, Option.toList_some, List.cons_append, List.nil_append]
    repeat (first | go_big_quiet_skip | (go_big_quiet_want; (first | refine quiet_Y 0 32 _ rfl (B2.nth 0 rfl) rfl Tryz.underlying31 rfl size32c s0 hp ?_ | refine quiet_Y 32 32 _ rfl (B2.nth 0 rfl) rfl Tryz.underlying31 rfl size32c s1 hq ?_ | refine quiet_Y 64 32 _ rfl (B2.nth 0 rfl) rfl Tryz.underlying31 rfl size32c s2 hr ?_ | refine quiet_Y 96 32 _ rfl (B2.nth 0 rfl) rfl Tryz.underlying31 rfl size32c s3 ht ?_ | refine quiet_build _ _ rfl (K.map W8) (by simp only [List.map_toArray, List.map_cons, List.map_nil]; exact hbk) ?_); simp only [Act.put, List.setIfInBounds_toArray, List.set_cons_succ, List.set_cons_zero]; go_big_quiet_on) | (go_big_quiet_step (fail)))
    refine wpQuiet_nil ?_
    go_wp2_with (first
      | (refine store_K rfl rfl _ _ rfl (B2.nth 1 rfl) rfl rfl hKl hz0 ?_; intro w9 hb9 ho9)
      | fail)
    exact bodyPost_ret (results_blk_tmp rfl _ _ _ _ _ _ hb9 rfl Tryz.underlying51 rfl (by rw [List.length_map, hKl]; exact size128)) rfl ⟨rfl, (B2.write 1 rfl ho9 hb9).lat⟩
  · have e1 : ofE s = 2 := by rw [ofE, if_neg (by omega)]
    have e2 : ofB s = List.replicate 128 0 := by rw [ofB, if_neg (by omega)]
    rw [e1, e2]
    clear e1 e2
    have hb0 := built_keys0
    have hzl : (List.replicate 128 (0 : UInt8)).length = 128 := by simp
    generalize List.replicate 128 (0 : UInt8) = Z at *
    have hne : ((n : Int) != 32) = true := by simp; omega
    go_enter Tryz.func97, Tryz.ntmps97
    go_wp2_with (first
      | (refine wpList_build_is rfl 51 _ rfl (Z.map W8) ?hb ?_; (case hb => simp only [List.map_toArray, List.map_nil]; exact hb0))
      | (refine store_K rfl rfl _ _ rfl (B0.nth 0 rfl) rfl rfl hzl hz0 ?_; intro w9 hb9 ho9)
      | fail)
    exact bodyPost_ret (results_blk_tmp rfl _ _ _ _ _ _ hb9 rfl Tryz.underlying51 rfl (by rw [List.length_map, hzl]; exact size128)) rfl ⟨rfl, (later_alloc _ _).only ho9 (Nat.le_refl _)⟩
end Go.Proofs.YtdojjnbpidogfaaGreat
namespace Go.Proofs.YtdojjnbpidogfaaGreat
open Go.RowKit
open Go.BigFrame

set_option maxRecDepth 100000 in
set_option maxHeartbeats 4000000 in
theorem of_ref12 (A : Option Addr) (n c : Nat) (s : List UInt8) (w : World) (hx : RdB w A n s) (hn : n ≤ 35184372088832) :
    Calls Tryz.prog 44 #[.slice A n c] w fun e w' => e = .returned (.tuple #[.agg ((ofB s).map W8).toArray, .int .i64 (ofE s : Nat)]) ∧ Later w w' := by
  have hl := hx.len
  have B0 := bag_new w 51 Tryz.zeroCells51.toList
  have hz0 : Tryz.zeroCells51.toList.length = 128 := by kernel_rfl
  by_cases h32 : n = 32
  · subst h32
    have e1 : ofE s = 0 := by rw [ofE, if_pos hl]
    have e2 : ofB s = k4 s := by rw [ofB, if_pos hl]
    rw [e1, e2]
    clear e1 e2
    have d1 := hid (fun (w : World) h => refDerive_any A 32 c s sMac w h (by omega) (by decide))
    have d2 := hid (fun (w : World) h => refDerive_any A 32 c s sStream w h (by omega) (by decide))
    have d3 := hid (fun (w : World) h => refDerive_any A 32 c s sPay w h (by omega) (by decide))
    have d4 := hid (fun (w : World) h => refDerive_any A 32 c s sBlind w h (by omega) (by decide))
    rw [k4] at *
    have hp := derB_length s sMac
    have hq := derB_length s sStream
    have hr := derB_length s sPay
    have ht := derB_length s sBlind
    generalize derB s sMac = p at *
    generalize derB s sStream = q at *
    generalize derB s sPay = r at *
    generalize derB s sBlind = t at *
    have hbk := built_keys2 p q hp hq
    have f1 : (p ++ (q ++ (List.replicate 32 0 ++ List.replicate 32 (0 : UInt8)))).length = 128 := by simp [hp, hq]
    have p1 : putB (p ++ (q ++ (List.replicate 32 0 ++ List.replicate 32 (0 : UInt8)))) 64 r = p ++ (q ++ (r ++ List.replicate 32 (0 : UInt8))) := by
      rw [← List.append_assoc p q, putB_here _ _ _ _ 64 (by simp [hp, hq]) (by simp [hr]), List.append_assoc]
    have f2 : (p ++ (q ++ (r ++ List.replicate 32 (0 : UInt8)))).length = 128 := by simp [hp, hq, hr]
    have p2 : putB (p ++ (q ++ (r ++ List.replicate 32 (0 : UInt8)))) 96 t = p ++ (q ++ (r ++ t)) := by
      rw [← List.append_assoc q r, ← List.append_assoc p, putB_last _ _ _ 96 (by simp [hp, hq, hr]) (by simp [ht])]
      simp
    have f3 : (p ++ (q ++ (r ++ t))).length = 128 := by simp [hp, hq, hr, ht]
    generalize p ++ (q ++ (r ++ t)) = K3 at *
    generalize p ++ (q ++ (r ++ List.replicate 32 (0 : UInt8))) = K2 at *
    generalize p ++ (q ++ (List.replicate 32 0 ++ List.replicate 32 (0 : UInt8))) = K1 at *
    have P1 := hid p1
    have P2 := hid p2
    clear p1 p2
    go_enter Tryz.func44, Tryz.ntmps44
    go_wp2_with fail
    generalize hW : w.alloc _ = w1
    replace B0 : Bag w w1 [(w.heap.size, 51, Tryz.zeroCells51.toList)] := by rw [← hW]; exact B0
    clear hW
    (with_reducible refine (d1.out _ (hx.later B0.lat)).mono ?_); rintro e w2 ⟨rfl, j2⟩
    go_wp2_with fail
    (with_reducible refine (d2.out _ (hx.later (B0.lat.trans j2))).mono ?_); rintro e w3 ⟨rfl, j3⟩
    go_wp2_with (first
      | (refine wpList_build_is rfl 51 _ rfl (K1.map W8) ?hb ?_; (case hb => simp only [List.map_toArray, List.map_cons, List.map_nil]; exact hbk))
      | (refine store_K rfl rfl _ _ rfl (Blk.new w3 _ Tryz.zeroCells51.toList) rfl rfl f1 hz0 ?_; intro w4 hb4 ho4)
      | fail)
    have B1 := B0.push ((j2.trans j3).trans (later_alloc w3 _)) (j2.trans j3).size ho4 hb4
    clear j2 j3 hb4 ho4
    (with_reducible refine (d3.out _ (hx.later B1.lat)).mono ?_); rintro e w5 ⟨rfl, j5⟩
    go_wp2_with (first
      | (refine store_Y 64 32 rfl rfl _ _ rfl ((B1.later j5).nth 0 rfl) rfl rfl size32c hr (by omega) ?_; intro w6 hb6 ho6; rw [P1.out] at hb6
         have B2 := (B1.later j5).write 0 rfl ho6 hb6)
      | fail)
    clear j5 hb6 ho6 B1
    (with_reducible refine (d4.out _ (hx.later B2.lat)).mono ?_); rintro e w7 ⟨rfl, j7⟩
    go_wp2_with (first
      | (refine store_Y 96 32 rfl rfl _ _ rfl ((B2.later j7).nth 0 rfl) rfl rfl size32c ht (by omega) ?_; intro w8 hb8 ho8; rw [P2.out] at hb8
         have B3 := (B2.later j7).write 0 rfl ho8 hb8)
      | (refine load_K rfl _ rfl (B3.nth 0 rfl) f3 rfl ?_)
      | (refine store_K rfl rfl _ _ rfl (B3.nth 1 rfl) rfl rfl f3 hz0 ?_; intro w9 hb9 ho9)
      | fail)
    exact bodyPost_ret (results_blk_tmp rfl _ _ _ _ _ _ hb9 rfl Tryz.underlying51 rfl (by rw [List.length_map, f3]; exact size128)) rfl ⟨rfl, (B3.write 1 rfl ho9 hb9).lat⟩
  · have e1 : ofE s = 2 := by rw [ofE, if_neg (by omega)]
    have e2 : ofB s = List.replicate 128 0 := by rw [ofB, if_neg (by omega)]
    rw [e1, e2]
    clear e1 e2
    have hb0 := built_keys0
    have hzl : (List.replicate 128 (0 : UInt8)).length = 128 := by simp
    generalize List.replicate 128 (0 : UInt8) = Z at *
    have hne : ((n : Int) != 32) = true := by simp; omega
    go_enter Tryz.func44, Tryz.ntmps44
    go_wp2_with (first
      | (refine wpList_build_is rfl 51 _ rfl (Z.map W8) ?hb ?_; (case hb => simp only [List.map_toArray, List.map_nil]; exact hb0))
      | (refine store_K rfl rfl _ _ rfl (B0.nth 0 rfl) rfl rfl hzl hz0 ?_; intro w9 hb9 ho9)
      | fail)
    exact bodyPost_ret (results_blk_tmp rfl _ _ _ _ _ _ hb9 rfl Tryz.underlying51 rfl (by rw [List.length_map, hzl]; exact size128)) rfl ⟨rfl, (later_alloc _ _).only ho9 (Nat.le_refl _)⟩

/-! ### Equality -/
theorem eq_cut (x y : List UInt8) (off n : Nat) : (subB x off n == subB y off n && x.drop (off + n) == y.drop (off + n)) = (x.drop off == y.drop off) := by
  rw [Bool.eq_iff_iff]
  simp only [Bool.and_eq_true, beq_iff_eq, subB, ← List.drop_drop]
  constructor
  · rintro ⟨h1, h2⟩
    rw [← List.take_append_drop n (x.drop off), h1, h2, List.take_append_drop]
  · intro h
    rw [h]
    exact ⟨rfl, rfl⟩
theorem eq_last (x y : List UInt8) (off n : Nat) (hx : x.length = off + n) (hy : y.length = off + n) : (subB x off n == subB y off n) = (x.drop off == y.drop off) := by
  rw [subB, subB, List.take_of_length_le (by rw [List.length_drop]; omega), List.take_of_length_le (by rw [List.length_drop]; omega)]
theorem take_sub (x : List UInt8) (off n : Nat) : (((x.map W8).drop off).take n) = (subB x off n).map W8 := by rw [subB, List.map_take, List.map_drop]
abbrev Y128 := {l : List UInt8 // l.length = 128}
abbrev Y192 := {l : List UInt8 // l.length = 192}
theorem fields_of {P : Program} {t : TypeId} {fs : Array Field} (hu : P.underlying t = some (.struct fs)) : P.fieldsOf t = fs := by unfold Program.fieldsOf; rw [hu]
theorem run_eqk (d : Nat) (x y : List UInt8) (hx : x.length = 128) (hy : y.length = 128) (w : World) :
    (Op.eqFields (d + 2) (x.map W8).toArray (y.map W8).toArray (Tryz.prog.fieldsOf 51).toList).run Tryz.prog w = .ok (x == y) w := by
  rw [fields_of Tryz.underlying51]
  have l1 : ∀ off, off + 32 ≤ 128 → (subB x off 32).length = 32 := fun off h => subB_length (by omega)
  have l2 : ∀ off, off + 32 ≤ 128 → (subB y off 32).length = 32 := fun off h => subB_length (by omega)
  rw [run_eq32_cons (k := 0) rfl (by decide) rfl (take_sub x 0 32) (take_sub y 0 32) (l1 _ (by omega)) (l2 _ (by omega)), run_eq32_cons (k := 32) rfl (by decide) rfl (take_sub x 32 32) (take_sub y 32 32) (l1 _ (by omega)) (l2 _ (by omega)),
    run_eq32_cons (k := 64) rfl (by decide) rfl (take_sub x 64 32) (take_sub y 64 32) (l1 _ (by omega)) (l2 _ (by omega)), run_eq32_cons (k := 96) rfl (by decide) rfl (take_sub x 96 32) (take_sub y 96 32) (l1 _ (by omega)) (l2 _ (by omega)), run_eq32_nil]
  have h : (x == y) = (subB x 0 32 == subB y 0 32 && (subB x 32 32 == subB y 32 32 && (subB x 64 32 == subB y 64 32 && subB x 96 32 == subB y 96 32))) := by
    rw [eq_last x y 96 32 (by omega) (by omega), eq_cut x y 64 32, eq_cut x y 32 32, eq_cut x y 0 32]
    rfl
  rw [h]
  cases subB x 0 32 == subB y 0 32 <;> cases subB x 32 32 == subB y 32 32 <;> cases subB x 64 32 == subB y 64 32 <;> cases subB x 96 32 == subB y 96 32 <;> rfl
theorem eqg_keys : Tryz.prog.eqGuardType Tryz.prog.depth 51 = false := by kernel_rfl
theorem stood_keys : Tryz.prog.stoodInHeld 51 = false := by kernel_rfl
theorem fields_keys : Tryz.prog.underlying 51 = some (.struct (Tryz.prog.fieldsOf 51)) := by rw [fields_of Tryz.underlying51]; exact Tryz.underlying51
@[go_sem high] theorem eqGuard_keys (op : BinOp) (x y : Operand) (xs ys : Array Value) (w : World) : (eqGuard op 51 x y (.agg xs) (.agg ys)).run Tryz.prog w = .ok () w := run_eqGuard_agg w op _ x y xs ys eqg_keys
@[go_sem high] theorem run_eql_y128 (x y : Y128) (w : World) : (binOp .eql 51 (.agg (x.val.map W8).toArray) (.agg (y.val.map W8).toArray)).run Tryz.prog w = .ok (.bool (x.val == y.val)) w := by
  rw [run_eql_s fields_keys stood_keys, run_eqk 9997 _ _ x.2 y.2]
  rfl

/-! ### Steps -/
theorem size192 : (Tryz.prog.info? 109).map (·.size) = some 192 := by kernel_rfl
theorem size192r : (Tryz.prog.info? 53).map (·.size) = some 192 := by kernel_rfl
theorem zero192 : (Tryz.prog.info? 109).bind (·.zero) = some (.agg (List.replicate 192 (W8 0)).toArray) := by kernel_rfl
theorem zero192r : (Tryz.prog.info? 53).bind (·.zero) = some (.agg (List.replicate 192 (W8 0)).toArray) := by kernel_rfl
theorem put3 (k a s : List UInt8) (hk : k.length = 128) (ha : a.length = 32) (hs : s.length = 32) : putAll (List.replicate 192 0) [(0, k), (128, a), (160, s)] = k ++ (a ++ s) := by
  simp only [putAll]
  rw [show List.replicate 192 (0 : UInt8) = List.replicate 128 0 ++ (List.replicate 32 0 ++ List.replicate 32 0) by simp]
  rw [putB_first _ _ _ (by simp [hk]), putB_here _ _ _ _ 128 hk (by simp [ha]), ← List.append_assoc, putB_last _ _ _ 160 (by simp [hk, ha]) (by simp [hs]), List.append_assoc]
theorem built_step (k a s : List UInt8) (hk : k.length = 128) (ha : a.length = 32) (hs : s.length = 32) :
    Program.built Tryz.prog 109 [(0, .agg (k.map W8).toArray), (1, .agg (a.map W8).toArray), (2, .agg (s.map W8).toArray)] = some ((k ++ (a ++ s)).map W8).toArray := by
  have h := built_bytes (n := 192) (pl := [(0, 128), (128, 32), (160, 32)]) Tryz.underlying109 zero192 (by kernel_rfl) [(0, 0, k), (1, 128, a), (2, 160, s)] (by
    intro x hx
    simp only [List.mem_cons, List.not_mem_nil, or_false] at hx
    rcases hx with rfl | rfl | rfl <;> simp [hk, ha, hs])
  rw [show putAll (List.replicate 192 0) ([(0, 0, k), (1, 128, a), (2, 160, s)].map fun x => (x.2.1, x.2.2)) = k ++ (a ++ s) from put3 k a s hk ha hs] at h
  exact h
theorem built_stepR (k a s : List UInt8) (hk : k.length = 128) (ha : a.length = 32) (hs : s.length = 32) :
    Program.built Tryz.prog 53 [(0, .agg (k.map W8).toArray), (1, .agg (a.map W8).toArray), (2, .agg (s.map W8).toArray)] = some ((k ++ (a ++ s)).map W8).toArray := by
  have h := built_bytes (n := 192) (pl := [(0, 128), (128, 32), (160, 32)]) Tryz.underlying53 zero192r (by kernel_rfl) [(0, 0, k), (1, 128, a), (2, 160, s)] (by
    intro x hx
    simp only [List.mem_cons, List.not_mem_nil, or_false] at hx
    rcases hx with rfl | rfl | rfl <;> simp [hk, ha, hs])
  rw [show putAll (List.replicate 192 0) ([(0, 0, k), (1, 128, a), (2, 160, s)].map fun x => (x.2.1, x.2.2)) = k ++ (a ++ s) from put3 k a s hk ha hs] at h
  exact h
theorem built_step0 : Program.built Tryz.prog 109 [] = some ((List.replicate 192 (0 : UInt8)).map W8).toArray := by
  rw [List.map_replicate]
  kernel_rfl
theorem built_step0R : Program.built Tryz.prog 53 [] = some ((List.replicate 192 (0 : UInt8)).map W8).toArray := by
  rw [List.map_replicate]
  kernel_rfl
section
variable {ops : Array Oper} {rest : List Oper} {o : Oper} {a : Act} {w : World} {Q : Exit → Act → World → Prop}
theorem store_St (hgd : o.guard = none) (hd : o.dst = none) (x y : Operand) (ho : o.op = .store 109 x y) {g : Nat} {t : TypeId} {l : List Value} {bs : List UInt8} (hg : Blk w g t l) (hx : a.eval x = .pointer (some ⟨g, 0, none⟩)) (hy : a.eval y = .agg (bs.map W8).toArray) (hbl : bs.length = 192) (hl : l.length = 192)
    (h : ∀ w', Blk w' g t (bs.map W8) → Only g w w' → wpList Tryz.prog ops Q rest a w') : wpList Tryz.prog ops Q (o :: rest) a w :=
  store_Z 192 hgd hd x y ho hg hx hy size192 hbl hl h
theorem store_SR (hgd : o.guard = none) (hd : o.dst = none) (x y : Operand) (ho : o.op = .store 53 x y) {g : Nat} {t : TypeId} {l : List Value} {bs : List UInt8} (hg : Blk w g t l) (hx : a.eval x = .pointer (some ⟨g, 0, none⟩)) (hy : a.eval y = .agg (bs.map W8).toArray) (hbl : bs.length = 192) (hl : l.length = 192)
    (h : ∀ w', Blk w' g t (bs.map W8) → Only g w w' → wpList Tryz.prog ops Q rest a w') : wpList Tryz.prog ops Q (o :: rest) a w :=
  store_Z 192 hgd hd x y ho hg hx hy size192r hbl hl h
theorem load_St (hw : Region.wanted o (yielded ops a.tmps) = true) (x : Operand) (ho : o.op = .load 109 x) {g : Nat} {t : TypeId} {bs : List UInt8} (hb : Blk w g t (bs.map W8)) (hl : bs.length = 192) (hx : a.eval x = .pointer (some ⟨g, 0, none⟩))
    (h : wpList Tryz.prog ops Q rest (a.put o.dst (.agg (bs.map W8).toArray)) w) : wpList Tryz.prog ops Q (o :: rest) a w :=
  wpList_load_blk hw _ x ho g t _ hb hx _ Tryz.underlying109 rfl 192 size192 (by rw [List.length_map, hl]) h
theorem load_SR (hw : Region.wanted o (yielded ops a.tmps) = true) (x : Operand) (ho : o.op = .load 53 x) {g : Nat} {t : TypeId} {bs : List UInt8} (hb : Blk w g t (bs.map W8)) (hl : bs.length = 192) (hx : a.eval x = .pointer (some ⟨g, 0, none⟩))
    (h : wpList Tryz.prog ops Q rest (a.put o.dst (.agg (bs.map W8).toArray)) w) : wpList Tryz.prog ops Q (o :: rest) a w :=
  wpList_load_blk hw _ x ho g t _ hb hx _ Tryz.underlying53 rfl 192 size192r (by rw [List.length_map, hl]) h
end
set_option maxRecDepth 100000 in
set_option maxHeartbeats 4000000 in
theorem stepOf_any (al s : List UInt8) (hal : al.length = 32) (hs : s.length = 32) (w : World) :
    Calls Tryz.prog 64 #[.agg (al.map W8).toArray, .agg (s.map W8).toArray] w fun e w' => e = .returned (.tuple #[.agg ((k4 s ++ (al ++ s)).map W8).toArray, .int .i64 0]) ∧ Later w w' := by
  have hO := hid (fun (w : World) g h => of_keys (some ⟨g, 0, none⟩) 32 32 s w h (by omega) (by omega))
  rw [show ofB s = k4 s by rw [ofB, if_pos hs], show ofE s = 0 by rw [ofE, if_pos hs]] at hO
  have hkl := k4_length s
  generalize k4 s = K at *
  have hbs := built_step K al s hkl hal hs
  have hTl : (K ++ (al ++ s)).length = 192 := by simp [hkl, hal, hs]
  generalize K ++ (al ++ s) = T at *
  have hz1 : Tryz.zeroCells51.toList.length = 128 := by kernel_rfl
  have hz0 : Tryz.zeroCells109.toList.length = 192 := by kernel_rfl
  have C1 := bag_new w 31 (al.map W8)
  have C2 : Bag w ((w.alloc (.cells (al.map W8).toArray 31)).alloc (.cells (s.map W8).toArray 31)) [(w.heap.size + 1, 31, s.map W8), (w.heap.size, 31, al.map W8)] :=
    C1.add (later_alloc _ _) (by simp) (by omega) (Blk.new' _ _ _ (by simp))
  have C3 : Bag w (((w.alloc (.cells (al.map W8).toArray 31)).alloc (.cells (s.map W8).toArray 31)).alloc (.cells Tryz.zeroCells109 109)) [(w.heap.size + 2, 109, Tryz.zeroCells109.toList), (w.heap.size + 1, 31, s.map W8), (w.heap.size, 31, al.map W8)] :=
    C2.add (later_alloc _ _) (by simp) (by omega) (Blk.new' _ _ _ (by simp))
  clear C1 C2
  go_enter Tryz.func64, Tryz.ntmps64
  go_wp2_with fail
  generalize hW : ((w.alloc _).alloc _).alloc _ = w0
  replace C3 : Bag w w0 [(w.heap.size + 2, 109, Tryz.zeroCells109.toList), (w.heap.size + 1, 31, s.map W8), (w.heap.size, 31, al.map W8)] := by rw [← hW]; exact C3
  clear hW
  (with_reducible refine (hO.out _ _ (blk_rdB (C3.nth 1 rfl) hs)).mono ?_); rintro e w1 ⟨rfl, j1⟩
  go_wp2_with (first
    | (refine store_K rfl rfl _ _ rfl (Blk.new w1 _ Tryz.zeroCells51.toList) rfl rfl hkl hz1 ?_; intro w2 hb2 ho2
       have C4 := C3.push (j1.trans (later_alloc w1 _)) j1.size ho2 hb2)
    | (refine load_K rfl _ rfl (C4.nth 0 rfl) hkl rfl ?_)
    | (refine load_B rfl _ rfl (C4.nth 3 rfl) hal rfl ?_)
    | (refine load_B rfl _ rfl (C4.nth 2 rfl) hs rfl ?_)
    | (refine wpList_build_is rfl 109 _ rfl (T.map W8) ?hb ?_; (case hb => simp only [List.map_toArray, List.map_cons, List.map_nil]; exact hbs))
    | (refine store_St rfl rfl _ _ rfl (C4.nth 1 rfl) rfl rfl hTl hz0 ?_; intro w9 hb9 ho9)
    | fail)
  exact bodyPost_ret (results_blk_tmp rfl _ _ _ _ _ _ hb9 rfl Tryz.underlying109 rfl (by rw [List.length_map, hTl]; exact size192)) rfl ⟨rfl, (C4.write 1 rfl ho9 hb9).lat⟩
end Go.Proofs.YtdojjnbpidogfaaGreat
namespace Go.Proofs.YtdojjnbpidogfaaGreat
open Go.RowKit
open Go.BigFrame

set_option maxRecDepth 100000 in
set_option maxHeartbeats 4000000 in
theorem next_any (x b al : List UInt8) (hx : x.length = 192) (hb : subB x 96 32 = b) (hal : subB x 128 32 = al) (w : World) :
    Calls Tryz.prog 101 #[.agg (x.map W8).toArray] w fun e w' => e = .returned (.tuple #[.agg ((multB b al).map W8).toArray, .int .i64 (multE b al : Nat)]) ∧ Later w w' := by
  have hbl : b.length = 32 := by rw [← hb]; exact subB_length (by omega)
  have hall : al.length = 32 := by rw [← hal]; exact subB_length (by omega)
  have hM := hid (fun (w : World) g h1 h2 => mult_any (some ⟨g, 96, none⟩) (some ⟨g, 128, none⟩) 32 32 32 32 b al w h1 h2 (by omega) (by omega))
  have hml := multB_length b al
  generalize multB b al = M at *
  generalize multE b al = e9 at *
  have C1 := bag_new w 109 (x.map W8)
  have C2 : Bag w ((w.alloc (.cells (x.map W8).toArray 109)).alloc (.cells (List.replicate 32 (Value.int .u8 0)).toArray 31)) [(w.heap.size + 1, 31, List.replicate 32 (Value.int .u8 0)), (w.heap.size, 109, x.map W8)] :=
    C1.add (later_alloc _ _) (by simp) (by omega) (Blk.new' _ _ _ (by simp))
  clear C1
  go_enter Tryz.func101, Tryz.ntmps101
  go_wp2_with fail
  generalize hW : (w.alloc _).alloc _ = w0
  replace C2 : Bag w w0 [(w.heap.size + 1, 31, List.replicate 32 (Value.int .u8 0)), (w.heap.size, 109, x.map W8)] := by rw [← hW]; exact C2
  clear hW
  refine wp_region_parts [([0, 1, 2, 3, 4], 5)] [6, 7] [8, 9] (by as_aux_lemma => kernel_rfl) (by as_aux_lemma => kernel_rfl) (by intro _ _ d _ _ h; cases d <;> exact h) ?_
  simp only [wpParts, pick, List.getElem?_cons_succ, List.getElem?_cons_zero, Option.toList_some, List.cons_append, List.nil_append]
  repeat (go_big_quiet_step (fail))
  refine wpQuiet_nil ?_
  go_wp2_with fail
  (with_reducible refine (hM.out _ _ (rdB_sub (C2.drew.nth 1 rfl) hb hbl) (rdB_sub (C2.drew.nth 1 rfl) hal hall)).mono ?_); rintro e w2 ⟨rfl, j2⟩
  go_wp2_with fail
  try refine ⟨by first | assumption | exact later_drew _ | exact later_alloc _ _ | exact Later.refl _, ?_⟩
  try simp only [wpParts, pick, List.getElem?_cons_succ, List.getElem?_cons_zero, Option.toList_some, List.cons_append, List.nil_append]
  repeat (go_big_quiet_step (fail))
  refine wpQuiet_nil ?_
  go_wp2_with (first
    | (refine store_B rfl rfl _ _ rfl ((C2.drew.later j2).nth 0 rfl) rfl rfl hml rfl ?_; intro w9 hb9 ho9)
    | fail)
  exact bodyPost_ret (results_blk_tmp rfl _ _ _ _ _ _ hb9 rfl Tryz.underlying31 rfl (by rw [List.length_map, hml]; exact size32b)) rfl ⟨rfl, ((C2.drew.later j2).write 0 rfl ho9 hb9).lat⟩
set_option maxRecDepth 100000 in
set_option maxHeartbeats 4000000 in
theorem next_ref (x b al : List UInt8) (hx : x.length = 192) (hb : subB x 96 32 = b) (hal : subB x 128 32 = al) (w : World) :
    Calls Tryz.prog 60 #[.agg (x.map W8).toArray] w fun e w' => e = .returned (.tuple #[.agg ((multB b al).map W8).toArray, .int .i64 (multE b al : Nat)]) ∧ Later w w' := by
  have hbl : b.length = 32 := by rw [← hb]; exact subB_length (by omega)
  have hall : al.length = 32 := by rw [← hal]; exact subB_length (by omega)
  have hM := hid (fun (w : World) g h1 h2 => mult_ref (some ⟨g, 96, none⟩) (some ⟨g, 128, none⟩) 32 32 32 32 b al w h1 h2 (by omega) (by omega))
  have hml := multB_length b al
  generalize multB b al = M at *
  generalize multE b al = e9 at *
  have C1 := bag_new w 53 (x.map W8)
  have C2 : Bag w ((w.alloc (.cells (x.map W8).toArray 53)).alloc (.cells (List.replicate 32 (Value.int .u8 0)).toArray 31)) [(w.heap.size + 1, 31, List.replicate 32 (Value.int .u8 0)), (w.heap.size, 53, x.map W8)] :=
    C1.add (later_alloc _ _) (by simp) (by omega) (Blk.new' _ _ _ (by simp))
  clear C1
  go_enter Tryz.func60, Tryz.ntmps60
  go_wp2_with fail
  generalize hW : (w.alloc _).alloc _ = w0
  replace C2 : Bag w w0 [(w.heap.size + 1, 31, List.replicate 32 (Value.int .u8 0)), (w.heap.size, 53, x.map W8)] := by rw [← hW]; exact C2
  clear hW
  refine wp_region_parts [([0, 1, 2, 3, 4], 5)] [6, 7] [8, 9] (by as_aux_lemma => kernel_rfl) (by as_aux_lemma => kernel_rfl) (by intro _ _ d _ _ h; cases d <;> exact h) ?_
  simp only [wpParts, pick, List.getElem?_cons_succ, List.getElem?_cons_zero, Option.toList_some, List.cons_append, List.nil_append]
  repeat (go_big_quiet_step (fail))
  refine wpQuiet_nil ?_
  go_wp2_with fail
  (with_reducible refine (hM.out _ _ (rdB_sub (C2.drew.nth 1 rfl) hb hbl) (rdB_sub (C2.drew.nth 1 rfl) hal hall)).mono ?_); rintro e w2 ⟨rfl, j2⟩
  go_wp2_with fail
  try refine ⟨by first | assumption | exact later_drew _ | exact later_alloc _ _ | exact Later.refl _, ?_⟩
  try simp only [wpParts, pick, List.getElem?_cons_succ, List.getElem?_cons_zero, Option.toList_some, List.cons_append, List.nil_append]
  repeat (go_big_quiet_step (fail))
  refine wpQuiet_nil ?_
  go_wp2_with (first
    | (refine store_B rfl rfl _ _ rfl ((C2.drew.later j2).nth 0 rfl) rfl rfl hml rfl ?_; intro w9 hb9 ho9)
    | fail)
  exact bodyPost_ret (results_blk_tmp rfl _ _ _ _ _ _ hb9 rfl Tryz.underlying31 rfl (by rw [List.length_map, hml]; exact size32b)) rfl ⟨rfl, ((C2.drew.later j2).write 0 rfl ho9 hb9).lat⟩
/-- The step of a secret behind this public value. -/
def stepL (al s : List UInt8) : List UInt8 := k4 s ++ (al ++ s)
theorem stepL_length (al s : List UInt8) (h : al.length = 32) (hs : s.length = 32) : (stepL al s).length = 192 := by simp [stepL, k4_length, h, hs]
theorem stepL_alpha (al s : List UInt8) (h : al.length = 32) : subB (stepL al s) 128 32 = al := by rw [stepL, subB_here _ _ _ _ _ (k4_length s) h]
theorem stepL_blind (al s : List UInt8) : subB (stepL al s) 96 32 = derB s sBlind := by
  rw [stepL, k4, show derB s sMac ++ (derB s sStream ++ (derB s sPay ++ derB s sBlind)) ++ (al ++ s) = (derB s sMac ++ (derB s sStream ++ derB s sPay)) ++ (derB s sBlind ++ (al ++ s)) by simp only [List.append_assoc],
    subB_here _ _ _ _ _ (by simp [derB_length]) (derB_length _ _)]
theorem stepL_pay (al s : List UInt8) : subB (stepL al s) 64 32 = derB s sPay := by
  rw [stepL, k4, show derB s sMac ++ (derB s sStream ++ (derB s sPay ++ derB s sBlind)) ++ (al ++ s) = (derB s sMac ++ derB s sStream) ++ (derB s sPay ++ (derB s sBlind ++ (al ++ s))) by simp only [List.append_assoc],
    subB_here _ _ _ _ _ (by simp [derB_length]) (derB_length _ _)]
def peelB (ks us : List UInt8) : List UInt8 := if multE ks us = 0 then stepL us (multB ks us) else List.replicate 192 0
theorem peelB_length (ks us : List UInt8) : (peelB ks us).length = 192 := by
  unfold peelB
  split
  · rename_i h
    exact stepL_length _ _ (multE_len h).2 (multB_length _ _)
  · exact List.length_replicate
theorem zc192 : Tryz.zeroCells109.toList.length = 192 := by kernel_rfl
theorem zc192R : Tryz.zeroCells53.toList = (List.replicate 192 (0 : UInt8)).map W8 := by kernel_rfl
set_option maxRecDepth 100000 in
set_option maxHeartbeats 4000000 in
theorem peel_any (A B : Option Addr) (n c m d : Nat) (ks us : List UInt8) (w : World) (hk : RdB w A n ks) (hu : RdB w B m us) (hn : n ≤ 140737488355328) (hm : m ≤ 140737488355328) :
    Calls Tryz.prog 41 #[.slice A n c, .slice B m d] w fun e w' => e = .returned (.tuple #[.agg ((peelB ks us).map W8).toArray, .int .i64 (multE ks us : Nat)]) ∧ Later w w' := by
  have hkl := hk.len
  have hul := hu.len
  have B0 := bag_new w 109 Tryz.zeroCells109.toList
  have hz0 := zc192
  have hM := hid (fun (w : World) A B c d h1 h2 => mult_any A B n c m d ks us w h1 h2 hn hm)
  have hml := multB_length ks us
  have hP1 := hid (fun (h : multE ks us = 0) => show peelB ks us = stepL us (multB ks us) by rw [peelB, if_pos h])
  have hP2 := hid (fun (h : ¬ multE ks us = 0) => show peelB ks us = List.replicate 192 0 by rw [peelB, if_neg h])
  have hlen := hid (fun (h : multE ks us = 0) => (multE_len h).2)
  have hPl := peelB_length ks us
  generalize peelB ks us = PL at *
  generalize multB ks us = M at *
  generalize multE ks us = e9 at *
  by_cases he : e9 = 0
  · have hP := hP1.out he
    have hul2 := hlen.out he
    have hS := hid (fun w => stepOf_any us M hul2 hml w)
    rw [show k4 M ++ (us ++ M) = PL from hP.symm] at hS
    obtain rfl : m = 32 := by omega
    subst he
    clear hP1 hP2 hlen hP
    have hput : putB (List.replicate 32 (0 : UInt8)) 0 us = us := putB_all _ _ (by simp [hul2])
    have hz32 : (List.replicate 32 (0 : UInt8)).length = 32 := by simp
    have hzm : (List.replicate 32 (Value.int .u8 0)) = (List.replicate 32 (0 : UInt8)).map W8 := by rw [List.map_replicate]; rfl
    generalize List.replicate 32 (0 : UInt8) = Z at *
    have HP := hid hput
    have HZ := hid hzm
    clear hput hzm
    go_enter Tryz.func41, Tryz.ntmps41
    go_wp2_with fail
    generalize hW : w.alloc _ = w0
    replace B0 : Bag w w0 [(w.heap.size, 109, Tryz.zeroCells109.toList)] := by rw [← hW]; exact B0
    clear hW
    (with_reducible refine (hM.out _ _ _ _ _ (hk.later B0.lat) (hu.later B0.lat)).mono ?_); rintro e w1 ⟨rfl, j1⟩
    go_wp2_with (first
      | (refine store_B rfl rfl _ _ rfl (Blk.new w1 _ (List.replicate 32 (.int .u8 0))) rfl rfl hml rfl ?_; intro w2 hb2 ho2
         have B1 := B0.push (j1.trans (later_alloc w1 _)) j1.size ho2 hb2
         have B2 := B1.add (later_alloc w2 (.cells (List.replicate 32 (Value.int .u8 0)).toArray 31)) (k := w2.heap.size) (by have h1 := (B1.nth 0 rfl).lt; have h2 := (B1.nth 1 rfl).lt; simp; omega) B1.lat.size ((Blk.new w2 _ (List.replicate 32 (.int .u8 0))).cast HZ.out))
      | (refine copy_Y 0 32 rfl _ _ _ _ rfl 5 Tryz.underlying22 size8 (B2.nth 0 rfl) (hu.later B2.lat) rfl rfl (by omega) ?_; intro w3 hb3 ho3
         rw [HP.out] at hb3
         have B3 := B2.write 0 rfl ho3 hb3)
      | (refine load_B rfl _ rfl (B3.nth 0 rfl) hul2 rfl ?_)
      | (refine load_B rfl _ rfl (B3.nth 1 rfl) hml rfl ?_)
      | fail)
    (with_reducible refine (hS.out _).mono ?_); rintro e w4 ⟨rfl, j4⟩
    go_wp2_with (first
      | (refine store_St rfl rfl _ _ rfl ((B3.later j4).nth 2 rfl) rfl rfl hPl hz0 ?_; intro w9 hb9 ho9)
      | fail)
    exact bodyPost_ret (results_blk_tmp rfl _ _ _ _ _ _ hb9 rfl Tryz.underlying109 rfl (by rw [List.length_map, hPl]; exact size192)) rfl ⟨rfl, ((B3.later j4).write 2 rfl ho9 hb9).lat⟩
  · have hP := hP2.out he
    have hb0 := built_step0
    rw [← hP] at hb0
    have hne : ((e9 : Int) != 0) = true := by simp; omega
    clear hP1 hP2 hlen hP
    go_enter Tryz.func41, Tryz.ntmps41
    go_wp2_with fail
    generalize hW : w.alloc _ = w0
    replace B0 : Bag w w0 [(w.heap.size, 109, Tryz.zeroCells109.toList)] := by rw [← hW]; exact B0
    clear hW
    (with_reducible refine (hM.out _ _ _ _ _ (hk.later B0.lat) (hu.later B0.lat)).mono ?_); rintro e w1 ⟨rfl, j1⟩
    go_wp2_with (first
      | (refine store_B rfl rfl _ _ rfl (Blk.new w1 _ (List.replicate 32 (.int .u8 0))) rfl rfl hml rfl ?_; intro w2 hb2 ho2
         have B1 := B0.push (j1.trans (later_alloc w1 _)) j1.size ho2 hb2)
      | (refine wpList_build_is rfl 109 _ rfl (PL.map W8) ?hb ?_; (case hb => simp only [List.map_toArray, List.map_nil]; exact hb0))
      | (refine store_St rfl rfl _ _ rfl (B1.nth 1 rfl) rfl rfl hPl hz0 ?_; intro w9 hb9 ho9)
      | fail)
    exact bodyPost_ret (results_blk_tmp rfl _ _ _ _ _ _ hb9 rfl Tryz.underlying109 rfl (by rw [List.length_map, hPl]; exact size192)) rfl ⟨rfl, (B1.write 1 rfl ho9 hb9).lat⟩
theorem put_peel (us M : List UInt8) (hu : us.length = 32) (hM : M.length = 32) (K : List UInt8) (hK : K.length = 128) :
    putB (putB (putB (List.replicate 192 (0 : UInt8)) 128 us) 160 M) 0 K = K ++ (us ++ M) := by
  rw [show List.replicate 192 (0 : UInt8) = List.replicate 128 0 ++ (List.replicate 32 0 ++ List.replicate 32 0) by simp]
  rw [putB_here _ _ _ _ 128 (by simp) (by simp [hu]), ← List.append_assoc, putB_last _ _ _ 160 (by simp [hu]) (by simp [hM]), List.append_assoc, putB_first _ _ _ (by simp [hK])]
set_option maxRecDepth 100000 in
set_option maxHeartbeats 4000000 in
theorem peel_ref (A B : Option Addr) (n c m d : Nat) (ks us : List UInt8) (w : World) (hk : RdB w A n ks) (hu : RdB w B m us) (hn : n ≤ 140737488355328) (hm : m ≤ 140737488355328) :
    Calls Tryz.prog 15 #[.slice A n c, .slice B m d] w fun e w' => e = .returned (.tuple #[.agg ((peelB ks us).map W8).toArray, .int .i64 (multE ks us : Nat)]) ∧ Later w w' := by
  have hkl := hk.len
  have hul := hu.len
  have hzz := zc192R
  have B0 : Bag w (w.alloc (.cells Tryz.zeroCells53 53)) [(w.heap.size, 53, (List.replicate 192 (0 : UInt8)).map W8)] := (Bag.none w).add (later_alloc _ _) (by simp) (Nat.le_refl _) ((Blk.new w _ Tryz.zeroCells53.toList).cast hzz)
  have hM := hid (fun (w : World) A B c d h1 h2 => mult_ref A B n c m d ks us w h1 h2 hn hm)
  have hml := multB_length ks us
  have hP1 := hid (fun (h : multE ks us = 0) => show peelB ks us = stepL us (multB ks us) by rw [peelB, if_pos h])
  have hP2 := hid (fun (h : ¬ multE ks us = 0) => show peelB ks us = List.replicate 192 0 by rw [peelB, if_neg h])
  have hlen := hid (fun (h : multE ks us = 0) => (multE_len h).2)
  have hPl := peelB_length ks us
  have hzl : (List.replicate 192 (0 : UInt8)).length = 192 := by simp
  generalize peelB ks us = PL at *
  generalize multB ks us = M at *
  generalize multE ks us = e9 at *
  by_cases he : e9 = 0
  · have hP := hP1.out he
    have hul2 := hlen.out he
    have hO := hid (fun (w : World) g h => of_ref12 (some ⟨g, 0, none⟩) 32 32 M w h (by omega))
    rw [show ofB M = k4 M by rw [ofB, if_pos hml], show ofE M = 0 by rw [ofE, if_pos hml]] at hO
    have hput := put_peel us M hul2 hml (k4 M) (k4_length M)
    have hkl4 := k4_length M
    rw [stepL] at hP
    rw [← hP] at hput
    generalize k4 M = K at *
    obtain rfl : m = 32 := by omega
    subst he
    clear hP1 hP2 hlen hP
    generalize hZ0 : List.replicate 192 (0 : UInt8) = Z at *
    have l1 : (putB Z 128 us).length = 192 := by rw [putB_length (by omega)]; exact hzl
    have l2 : (putB (putB Z 128 us) 160 M).length = 192 := by rw [putB_length (by omega)]; exact l1
    generalize hP1' : putB Z 128 us = Z1 at *
    generalize hP2' : putB Z1 160 M = Z2 at *
    have P1 := hid hP1'
    have P2 := hid hP2'
    have P3 := hid hput
    have HZ := hid hzz
    have hZl : (Z.map W8).length = 192 := by rw [List.length_map, hzl]
    clear hP1' hP2' hput hzz hZ0
    go_enter Tryz.func15, Tryz.ntmps15
    go_wp2_with fail
    generalize hW : w.alloc _ = w0
    replace B0 : Bag w w0 [(w.heap.size, 53, Z.map W8)] := by rw [← hW]; exact B0
    clear hW
    (with_reducible refine (hM.out _ _ _ _ _ (hk.later B0.lat) (hu.later B0.lat)).mono ?_); rintro e w1 ⟨rfl, j1⟩
    go_wp2_with (first
      | (refine store_B rfl rfl _ _ rfl (Blk.new w1 _ (List.replicate 32 (.int .u8 0))) rfl rfl hml rfl ?_; intro w2 hb2 ho2
         have B1 := B0.push (j1.trans (later_alloc w1 _)) j1.size ho2 hb2
         have B2 := B1.add (later_alloc w2 (.cells Tryz.zeroCells53 53)) (k := w2.heap.size) (by have h1 := (B1.nth 0 rfl).lt; have h2 := (B1.nth 1 rfl).lt; simp; omega) B1.lat.size ((Blk.new w2 _ Tryz.zeroCells53.toList).cast HZ.out))
      | (refine copy_Y 128 32 rfl _ _ _ _ rfl 5 Tryz.underlying22 size8 (B2.nth 0 rfl) (hu.later B2.lat) rfl rfl (by omega) ?_; intro w3 hb3 ho3
         rw [P1.out] at hb3
         have B3 := B2.write 0 rfl ho3 hb3)
      | (refine load_B rfl _ rfl (B3.nth 1 rfl) hml rfl ?_)
      | (refine store_Y 160 32 rfl rfl _ _ rfl (B3.nth 0 rfl) rfl rfl size32c hml (by omega) ?_; intro w4 hb4 ho4; rw [P2.out] at hb4
         have B4 := B3.write 0 rfl ho4 hb4)
      | fail)
    (with_reducible refine (hO.out _ _ (blk_rdB (B4.nth 1 rfl) hml)).mono ?_); rintro e w5 ⟨rfl, j5⟩
    go_wp2_with (first
      | (refine store_Y 0 128 rfl rfl _ _ rfl ((B4.later j5).nth 0 rfl) rfl rfl size128 hkl4 (by omega) ?_; intro w6 hb6 ho6; rw [P3.out] at hb6
         have B5 := (B4.later j5).write 0 rfl ho6 hb6)
      | (refine load_SR rfl _ rfl (B5.nth 0 rfl) hPl rfl ?_)
      | (refine store_SR rfl rfl _ _ rfl (B5.nth 2 rfl) rfl rfl hPl hZl ?_; intro w9 hb9 ho9)
      | fail)
    exact bodyPost_ret (results_blk_tmp rfl _ _ _ _ _ _ hb9 rfl Tryz.underlying53 rfl (by rw [List.length_map, hPl]; exact size192r)) rfl ⟨rfl, (B5.write 2 rfl ho9 hb9).lat⟩
  · have hP := hP2.out he
    have hb0 := built_step0R
    rw [← hP] at hb0
    have hne : ((e9 : Int) != 0) = true := by simp; omega
    have hz0 : ((List.replicate 192 (0 : UInt8)).map W8).length = 192 := by rw [List.length_map]; exact hzl
    clear hP1 hP2 hlen hP hzl hzz
    generalize List.replicate 192 (0 : UInt8) = Z at *
    go_enter Tryz.func15, Tryz.ntmps15
    go_wp2_with fail
    generalize hW : w.alloc _ = w0
    replace B0 : Bag w w0 [(w.heap.size, 53, Z.map W8)] := by rw [← hW]; exact B0
    clear hW
    (with_reducible refine (hM.out _ _ _ _ _ (hk.later B0.lat) (hu.later B0.lat)).mono ?_); rintro e w1 ⟨rfl, j1⟩
    go_wp2_with (first
      | (refine store_B rfl rfl _ _ rfl (Blk.new w1 _ (List.replicate 32 (.int .u8 0))) rfl rfl hml rfl ?_; intro w2 hb2 ho2
         have B1 := B0.push (j1.trans (later_alloc w1 _)) j1.size ho2 hb2)
      | (refine wpList_build_is rfl 53 _ rfl (PL.map W8) ?hb ?_; (case hb => simp only [List.map_toArray, List.map_nil]; exact hb0))
      | (refine store_SR rfl rfl _ _ rfl (B1.nth 1 rfl) rfl rfl hPl hz0 ?_; intro w9 hb9 ho9)
      | fail)
    exact bodyPost_ret (results_blk_tmp rfl _ _ _ _ _ _ hb9 rfl Tryz.underlying53 rfl (by rw [List.length_map, hPl]; exact size192r)) rfl ⟨rfl, (B1.write 1 rfl ho9 hb9).lat⟩
end Go.Proofs.YtdojjnbpidogfaaGreat

