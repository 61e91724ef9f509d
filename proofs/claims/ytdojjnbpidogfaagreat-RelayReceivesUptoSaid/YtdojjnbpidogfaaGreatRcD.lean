/-
  packet.Parse, Bytes; command.Told.Last, Wait.
  relay.open, Unwrap.
  relay.open, Unwrap.
-/
import Derived.Test.YtdojjnbpidogfaaGreatRcC
namespace Go.Proofs.YtdojjnbpidogfaaGreat
open Go.RowKit
open Go.BigFrame

theorem put_body (b : List UInt8) (h : b.length = 768) : putB (b.take 288 ++ List.replicate 480 0) 288 ((b.drop 288).take 480) = b := by
  rw [putB_last _ _ _ 288 (by rw [List.length_take]; omega) (by rw [List.length_replicate, List.length_take, List.length_drop]; omega), List.take_of_length_le (l := b.drop 288) (by rw [List.length_drop]; omega), List.take_append_drop]
set_option maxRecDepth 100000 in
set_option maxHeartbeats 4000000 in
theorem pparse_any (A : Option Addr) (c : Nat) (b : List UInt8) (w : World) (hb : RdB w A 768 b) (hc : 768 ≤ c) :
    Calls Tryz.prog 40 #[.slice A 768 c] w fun e w' => e = .returned (.tuple #[.agg (b.map W8).toArray, .int .i64 0]) ∧ Later w w' := by
  have hbl := hb.len
  obtain ⟨b0, p, rfl, hb00, _⟩ := hb.2 (by omega)
  have HZ := hid zcP
  have HH := hid zcH
  have B0 : Bag w (w.alloc (.cells Tryz.zeroCells40 40)) [(w.heap.size, 40, (List.replicate 768 (0 : UInt8)).map W8)] := (Bag.none w).add (later_alloc _ _) (by simp) (Nat.le_refl _) ((Blk.new w _ Tryz.zeroCells40.toList).cast zcP)
  have l0 : ((List.replicate 768 (0 : UInt8)).map W8).length = 768 := by rw [List.length_map, List.length_replicate]
  have lh : ((List.replicate 288 (0 : UInt8)).map W8).length = 288 := by rw [List.length_map, List.length_replicate]
  have hhl : (b.take 288).length = 288 := by rw [List.length_take]; omega
  have hH := hid (fun (w : World) h => hparse_any (some ⟨b0, p, none⟩) c (b.take 288) w h (by omega))
  have hp1 := built_pkt1 (b.take 288) hhl
  have hp1l : (b.take 288 ++ List.replicate 480 (0 : UInt8)).length = 768 := by rw [List.length_append, hhl, List.length_replicate]
  have hput := hid (put_body b hbl)
  have h288 : Hid (∀ w, RdB w (some ⟨b0, p, none⟩) 768 b → RdB w (some ⟨b0, p + 288, none⟩) 480 (b.drop 288)) := hid (fun w h => by
    have := RdB.cut h (k := 288) (c := 769) (by omega) (by omega)
    rw [show cutA (some ⟨b0, p, none⟩) 288 769 = some ⟨b0, p + 288, none⟩ by rw [cutA, if_neg (by omega)]; rfl] at this
    exact this)
  have hcc : cutA (some ⟨b0, p, none⟩) 288 c = some ⟨b0, p + 288, none⟩ := by rw [cutA, if_neg (by omega)]; rfl
  have HT : Hid (∀ w, RdB w (some ⟨b0, p, none⟩) 768 b → RdB w (some ⟨b0, p, none⟩) 288 (b.take 288)) := hid (fun w h => RdB.take h (by omega))
  generalize List.replicate 768 (0 : UInt8) = Z at *
  generalize List.replicate 288 (0 : UInt8) = ZH at *
  generalize b.take 288 ++ List.replicate 480 (0 : UInt8) = P1 at *
  generalize b.take 288 = hd at *
  go_enter Tryz.func40, Tryz.ntmps40
  go_wp2_with fail
  generalize hW : w.alloc _ = w1
  replace B0 : Bag w w1 [(w.heap.size, 40, Z.map W8)] := by rw [← hW]; exact B0
  clear hW
  (with_reducible refine (hH.out _ (HT.out _ (hb.later B0.lat))).mono ?_); rintro e w2 ⟨rfl, l2⟩
  replace B0 := B0.later l2
  go_wp2_with (first
    | (refine store_H rfl rfl _ _ rfl ((Blk.new w2 _ Tryz.zeroCells37.toList).cast HH.out) rfl rfl hhl lh ?_; intro w3 hb3 ho3
       have B1 := B0.push (later_alloc _ _) (Nat.le_refl _) ho3 hb3)
    | (refine load_H rfl _ rfl (B1.nth 0 rfl) hhl rfl ?_)
    | (refine wpList_build_w rfl 40 _ rfl (P1.map W8) (by simp only [List.map_toArray, List.map_cons, List.map_nil]; exact hp1) ?_)
    | (refine store_Pk rfl rfl _ _ rfl ((Blk.new w3 _ Tryz.zeroCells40.toList).cast HZ.out) rfl rfl hp1l l0 ?_; intro w4 hb4 ho4
       have B2 := B1.push (later_alloc _ _) (Nat.le_refl _) ho4 hb4)
    | fail)
  have B3 := B2.drew
  have hlb : b0 < w4.drew.heap.size := Nat.lt_of_lt_of_le hb00 B3.lat.size
  refine wp_region_parts [] [0, 1, 2, 3] [4] (by as_aux_lemma => kernel_rfl) (by as_aux_lemma => kernel_rfl) (by intro _ _ d _ _ h; cases d <;> exact h) ?_
  simp only [wpParts, pick, List.getElem?_cons_succ, List.getElem?_cons_zero, Option.toList_some, List.cons_append, List.nil_append]
  repeat (go_big_quiet_step (fail))
  refine wpQuiet_nil ?_
  go_wp2_with (first
    | (refine wpList_copy_rd rfl _ _ _ _ rfl 5 Tryz.underlying22 size8 w3.heap.size 288 480 480 _ _ (B3.nth 0 rfl) (some ⟨b0, p + 288, none⟩) 480 (c - 288) ((b.drop 288).map W8) (h288.out _ (hb.later B3.lat)) (w8_one _) rfl rfl (by rw [List.length_map]; omega) ?_; intro w5 hb5 ho5; rw [← List.map_take, putB_map, hput.out] at hb5
       have B4 := B3.write 0 rfl ho5 hb5)
    | (refine load_Pk rfl _ rfl (B4.nth 0 rfl) hbl rfl ?_)
    | (refine store_Pk rfl rfl _ _ rfl (B4.nth 2 rfl) rfl rfl hbl l0 ?_; intro w6 hb6 ho6)
    | fail)
  exact bodyPost_ret (results_blk_tmp rfl _ _ _ _ _ _ hb6 rfl Tryz.underlying40 rfl (by rw [List.length_map, hbl]; exact size768)) rfl ⟨rfl, (B4.write 2 rfl ho6 hb6).lat⟩
set_option maxRecDepth 100000 in
set_option maxHeartbeats 2000000 in
theorem pbytes_any (b : List UInt8) (hl : b.length = 768) (w : World) :
    Calls Tryz.prog 32 #[.agg (b.map W8).toArray] w fun e w' => ∃ A' c', e = .returned (.slice A' 768 c') ∧ OwnB w' w.heap.size A' 768 c' b ∧ Later w w' := by
  have hb : Blk (w.alloc (.cells (b.map W8).toArray 40)) w.heap.size 40 (b.map W8) := Blk.new _ _ _
  have s0 : (subB b 0 288).length = 288 := subB_length (by omega)
  have s1 : (subB b 288 480).length = 480 := subB_length (by omega)
  have hfl : [subB b 0 288, subB b 288 480].flatten = b := by
    rw [subB, subB, List.flatten_cons, List.flatten_cons, List.flatten_nil, List.append_nil, List.drop_zero, List.take_of_length_le (l := b.drop 288) (by rw [List.length_drop]; omega), List.take_append_drop]
  have hJ := hid (fun B d (w : World) hp => cjoin_any B 2 d [subB b 0 288, subB b 288 480] w hp (by omega) (by rw [hfl]; omega))
  rw [hfl, hl] at hJ
  have hB := hid (fun (w : World) => hbytes_any (subB b 0 288) s0 w)
  have L := later_alloc w (.cells (b.map W8).toArray 40)
  have Rs : Hid (subB b 0 288 = subB b 0 288) := hid rfl
  generalize hS : subB b 0 288 = S0 at *
  replace hS := hid hS
  go_enter Tryz.func32, Tryz.ntmps32
  go_wp2_with fail
  generalize hW : w.alloc _ = w1 at *
  clear hW
  refine wp_region_parts [([0, 1, 3, 4], 2), ([], 5), ([], 6)] [7] [] (by as_aux_lemma => kernel_rfl) (by as_aux_lemma => kernel_rfl) (by intro _ _ d _ _ h; cases d <;> exact h) ?_
  simp only [wpParts, pick, List.getElem?_cons_succ, List.getElem?_cons_zero, Option.toList_some, List.cons_append, List.nil_append]
  repeat (first | go_big_quiet_skip | (go_big_quiet_want; (refine quiet_Y 0 288 _ rfl hb.drew rfl Tryz.underlying37 rfl size288 hS.out s0 ?_); simp only [Act.put, List.setIfInBounds_toArray, List.set_cons_succ, List.set_cons_zero]; go_big_quiet_on) | (go_big_quiet_step (fail)))
  refine wpQuiet_nil ?_
  go_wp2_with fail
  (with_reducible refine (hB.out _).mono ?_); rintro e w2 ⟨A2, c2, rfl, o2, l2⟩
  go_wp2_with fail
  try refine ⟨by first | assumption | exact later_drew _ | exact later_alloc _ _ | exact Later.refl _, ?_⟩
  try simp only [wpParts, pick, List.getElem?_cons_succ, List.getElem?_cons_zero, Option.toList_some, List.cons_append, List.nil_append]
  repeat (go_big_quiet_step (fail))
  refine wpQuiet_nil ?_
  have l3 := later_alloc w2 (.cells #[.slice A2 288 c2, .slice (some ⟨w.heap.size, 288, none⟩) 480 480] 22)
  have hb3 := ((hb.later (later_drew _)).later l2).later l3
  have P3 := parts_bad (bad := fun _ => False) (ps := [S0, subB b 288 480]) ((Blk.new w2 22 [.slice A2 288 c2, .slice (some ⟨w.heap.size, 288, none⟩) 480 480]).rd rfl) (avoid_false _ _) ⟨part_rd (o2.later l3).rd o2.cap, part_rd (rdB_sub hb3 rfl s1) (Nat.le_refl _), trivial⟩
  go_wp2_with fail
  try refine ⟨by first | assumption | exact later_drew _ | exact later_alloc _ _ | exact Later.refl _, ?_⟩
  try simp only [wpParts, pick, List.getElem?_cons_succ, List.getElem?_cons_zero, Option.toList_some, List.cons_append, List.nil_append]
  repeat (go_big_quiet_step (fail))
  refine wpQuiet_nil ?_
  go_wp2_with fail
  (refine (hJ.out _ _ _ P3).mono ?_); rintro e w4 ⟨A4, c4, rfl, o4, l4⟩
  go_wp2_with fail
  try refine ⟨by first | assumption | exact later_drew _ | exact later_alloc _ _ | exact Later.refl _, ?_⟩
  try simp only [wpParts, pick, List.getElem?_cons_succ, List.getElem?_cons_zero, Option.toList_some, List.cons_append, List.nil_append]
  repeat (go_big_quiet_step (fail))
  refine wpQuiet_nil ?_
  go_wp2_with fail
  go_ret
  exact ⟨_, _, rfl, o4.mono (((L.trans (later_drew _)).trans l2).trans l3).size, (((L.trans (later_drew _)).trans l2).trans l3).trans l4⟩
end Go.Proofs.YtdojjnbpidogfaaGreat
namespace Go.Proofs.YtdojjnbpidogfaaGreat
open Go.RowKit
open Go.BigFrame

/-! ### What is told and what was peeled, in memory -/
theorem size20t : (Tryz.prog.info? 44).map (·.size) = some 20 := by kernel_rfl
theorem zeroT : (Tryz.prog.info? 44).bind (·.zero) = some (.agg (CC cmd0).toArray) := by kernel_rfl
theorem built_told (c : Cmd) : Tryz.prog.built 44 [(0, .agg (CC c).toArray)] = some (CC c).toArray := by
  rw [built_struct (pl := [(0, 20)]) Tryz.underlying44 zeroT (by kernel_rfl), fill_cons (vs := CC c) (off := 0) rfl (by rw [CC_length]; rfl) (by rw [CC_length, CC_length]; omega), fill_nil, spliced_all _ _ (by rw [CC_length, CC_length])]
/-- A Peeled's cells: command, packet, body. -/
def PC (c : Cmd) (P : List UInt8) (v : Value) : List Value := CC c ++ (P.map W8 ++ [v])
def nil8 : Value := .slice none 0 0
def z768 : List UInt8 := List.replicate 768 0
theorem z768_length : z768.length = 768 := List.length_replicate
theorem PC_length (c : Cmd) {P : List UInt8} (h : P.length = 768) (v : Value) : (PC c P v).length = 789 := by
  rw [PC, List.length_append, List.length_append, CC_length, List.length_map, h]
  rfl
theorem PC_one (c : Cmd) (P : List UInt8) {v : Value} (h : v.oneCell' = true) : ∀ u ∈ PC c P v, u.oneCell' = true := by
  intro u hu
  rw [PC] at hu
  rcases List.mem_append.1 hu with hu | hu
  · exact CC_one c u hu
  · rcases List.mem_append.1 hu with hu | hu
    · exact w8_one P u hu
    · rw [List.mem_singleton.1 hu]; exact h
theorem size789 : (Tryz.prog.info? 46).map (·.size) = some 789 := by kernel_rfl
theorem zeroPe : (Tryz.prog.info? 46).bind (·.zero) = some (.agg (PC cmd0 z768 nil8).toArray) := by
  rw [PC, z768, List.map_replicate]
  kernel_rfl
theorem zcPe : Tryz.zeroCells46.toList = PC cmd0 z768 nil8 := by
  rw [PC, z768, List.map_replicate]
  kernel_rfl
theorem built_pe0 : Tryz.prog.built 46 [] = some (PC cmd0 z768 nil8).toArray := by
  rw [built_struct (pl := [(0, 20), (20, 768), (788, 1)]) Tryz.underlying46 zeroPe (by kernel_rfl), fill_nil]
theorem spl_first {A B vs : List Value} (h : vs.length = A.length) : spliced (A ++ B) 0 vs = vs ++ B := by
  rw [spliced, List.take_zero, List.nil_append, Nat.zero_add, h, List.drop_left]
theorem built_pe1 (c : Cmd) : Tryz.prog.built 46 [(0, .agg (CC c).toArray)] = some (PC c z768 nil8).toArray := by
  rw [built_struct (pl := [(0, 20), (20, 768), (788, 1)]) Tryz.underlying46 zeroPe (by kernel_rfl), fill_cons (vs := CC c) (off := 0) rfl (by rw [CC_length]; rfl) (by rw [CC_length, PC_length _ z768_length]; omega), fill_nil, PC, PC, spl_first (by rw [CC_length, CC_length])]
theorem PC_cmd (c : Cmd) (P : List UInt8) (v : Value) : ∀ j u, (CC c)[j]? = some u → (PC c P v)[0 + j]? = some u := fun j u h => by
  rw [Nat.zero_add, PC, List.getElem?_append_left (List.getElem?_eq_some_iff.1 h).1]
  exact h
theorem PC_pkt (c : Cmd) (P : List UInt8) (v : Value) : ∀ j u, (P.map W8)[j]? = some u → (PC c P v)[20 + j]? = some u := fun j u h => by
  rw [PC, List.getElem?_append_right (by rw [CC_length]; omega), CC_length, Nat.add_sub_cancel_left, List.getElem?_append_left (List.getElem?_eq_some_iff.1 h).1]
  exact h
theorem PC_body (c : Cmd) {P : List UInt8} (h : P.length = 768) (v : Value) : (PC c P v)[788]? = some v := by
  rw [PC, List.getElem?_append_right (by rw [CC_length]; omega), CC_length, List.getElem?_append_right (by rw [List.length_map, h]; omega), List.length_map, h]
  rfl
theorem PC_setv (c : Cmd) {P : List UInt8} (h : P.length = 768) (v v' : Value) : (PC c P v).set 788 v' = PC c P v' := by
  rw [PC, List.set_append_right _ _ (by rw [CC_length]; omega), CC_length, List.set_append_right _ _ (by rw [List.length_map, h]; omega), List.length_map, h]
  rfl
theorem PC_setP (c : Cmd) {P vs : List UInt8} (v : Value) (k : Nat) (h : k + vs.length ≤ P.length) : spliced (PC c P v) (20 + k) (vs.map W8) = PC c (putB P k vs) v := by
  have hc := CC_length c
  rw [PC, PC, ← putB_map, spliced, spliced, List.take_append, hc, List.take_of_length_le (by omega), Nat.add_sub_cancel_left, List.take_append_of_le_length (by rw [List.length_map]; omega), List.drop_append, hc, List.drop_eq_nil_of_le (by omega), List.nil_append, List.length_map, show 20 + k + vs.length - 20 = k + vs.length by omega, List.drop_append_of_le_length (by rw [List.length_map]; omega)]
  simp only [List.append_assoc]
section
variable {ops : Array Oper} {rest : List Oper} {o : Oper} {a : Act} {w : World} {Q : Exit → Act → World → Prop}
theorem store_PC (hgd : o.guard = none) (hd : o.dst = none) (x y : Operand) (ho : o.op = .store 46 x y) {g : Nat} {t : TypeId} {l : List Value} {c : Cmd} {P : List UInt8} {v : Value} (hg : Blk w g t l) (hx : a.eval x = .pointer (some ⟨g, 0, none⟩)) (hy : a.eval y = .agg (PC c P v).toArray) (hP : P.length = 768) (hv : v.oneCell' = true) (hl : l.length = 789)
    (h : ∀ w', Blk w' g t (PC c P v) → Only g w w' → wpList Tryz.prog ops Q rest a w') : wpList Tryz.prog ops Q (o :: rest) a w :=
  wpList_store_blk hgd hd _ x y ho g t l _ hg hx hy 789 size789 (PC_length c hP v) hl (PC_one c P hv) h
theorem load_PC (hw : Region.wanted o (yielded ops a.tmps) = true) (x : Operand) (ho : o.op = .load 46 x) {g : Nat} {t : TypeId} {c : Cmd} {P : List UInt8} {v : Value} (hb : Blk w g t (PC c P v)) (hP : P.length = 768) (hx : a.eval x = .pointer (some ⟨g, 0, none⟩))
    (h : wpList Tryz.prog ops Q rest (a.put o.dst (.agg (PC c P v).toArray)) w) : wpList Tryz.prog ops Q (o :: rest) a w :=
  wpList_load_at hw _ x ho g 0 _ (fun j v hv => by rw [Nat.zero_add]; exact hb.cellD j hv) hx _ Tryz.underlying46 rfl (by rw [PC_length c hP]; exact size789) h
theorem load_told (hw : Region.wanted o (yielded ops a.tmps) = true) (x : Operand) (ho : o.op = .load 44 x) {g : Nat} {t : TypeId} {c : Cmd} {P : List UInt8} {v : Value} (hb : Blk w g t (PC c P v)) (hx : a.eval x = .pointer (some ⟨g, 0, none⟩))
    (h : wpList Tryz.prog ops Q rest (a.put o.dst (.agg (CC c).toArray)) w) : wpList Tryz.prog ops Q (o :: rest) a w :=
  wpList_load_at hw _ x ho g 0 _ (fun j v hv => hb.cellD _ (PC_cmd _ _ _ j v hv)) hx _ Tryz.underlying44 rfl (by rw [CC_length]; exact size20t) h
end
set_option maxRecDepth 100000 in
theorem last_any (c : Cmd) (w : World) : Calls Tryz.prog 36 #[.agg (CC c).toArray] w fun e w' => e = .returned (.bool (!(c.kd == 1))) ∧ Later w w' := by
  have hb : Blk (w.alloc (.cells (CC c).toArray 44)) w.heap.size 44 (CC c) := Blk.new _ _ _
  have c0 := (cmd_at hb).1
  have n1 : (c.kd != 1) = !(c.kd == 1) := rfl
  go_enter Tryz.func36, Tryz.ntmps36
  go_wp2
  go_ret
  exact ⟨rfl, later_alloc _ _⟩
set_option maxRecDepth 100000 in
theorem wait_any (c : Cmd) (w : World) : Calls Tryz.prog 37 #[.agg (CC c).toArray] w fun e w' => e = .returned (.int .i64 (c.dl.toNat : Nat)) ∧ Later w w' := by
  have hb : Blk (w.alloc (.cells (CC c).toArray 44)) w.heap.size 44 (CC c) := Blk.new _ _ _
  have c0 := (cmd_at hb).2.2.1
  have hw : IntKind.i64.wrap (c.dl.toNat : Int) = (c.dl.toNat : Int) := by
    have := c.dl.toNat_lt
    simp only [IntKind.wrap, IntKind.bits, IntKind.signed]
    simp
    omega
  go_enter Tryz.func37, Tryz.ntmps37
  go_wp2
  go_ret
  exact ⟨rfl, later_alloc _ _⟩
end Go.Proofs.YtdojjnbpidogfaaGreat
namespace Go.Proofs.YtdojjnbpidogfaaGreat
open Go.RowKit
open Go.BigFrame

theorem relP_length (s p : List UInt8) (hp : p.length = 768) (hs : s.length = 192) : (relP s p).length = 768 := by
  have h1 : (p.take 288).length = 288 := by rw [List.length_take]; omega
  have hf : fitW (kPay s) (p.drop 288) := ⟨subB_length (by omega), by rw [List.length_drop]; omega, by rw [List.length_drop]; omega⟩
  unfold relP
  split
  · rw [List.length_append, openN_length _ _ h1, relBody, wideB_fit okO hf, foldW_length _ _ _ hf.2.1, List.length_drop, hp]
  · exact List.length_replicate
theorem relBody_length (s p : List UInt8) (hp : p.length = 768) (hs : s.length = 192) : (relBody s p).length = 480 := by
  have hf : fitW (kPay s) (p.drop 288) := ⟨subB_length (by omega), by rw [List.length_drop]; omega, by rw [List.length_drop]; omega⟩
  rw [relBody, wideB_fit okO hf, foldW_length _ _ _ hf.2.1, List.length_drop, hp]
theorem sub_tail (p : List UInt8) (k n : Nat) (h : p.length = k + n) : subB p k n = p.drop k := by rw [subB, List.take_of_length_le (by rw [List.length_drop]; omega)]
theorem put_pkt (hd bd : List UInt8) (h1 : hd.length = 288) (h2 : bd.length = 480) : putB (putB z768 0 hd) 288 (bd.take 480) = hd ++ bd := by
  rw [List.take_of_length_le (by omega), z768, show List.replicate 768 (0 : UInt8) = List.replicate 288 0 ++ List.replicate 480 0 by rw [List.replicate_append_replicate], putB_first _ _ _ (by rw [List.length_replicate, h1]), putB_last _ _ _ 288 h1 (by rw [List.length_replicate, h2])]
theorem own_cap' {w : World} {base g n c : Nat} {bs : List UInt8} {rest : List Value} (h : Blk w g 5 (bs.map W8 ++ rest)) (hb : base ≤ g) (hn : bs.length = n) (hc : c = (bs.map W8 ++ rest).length) (hm : (bs.map W8 ++ rest).length ≤ maxLen) : OwnB w base (some ⟨g, 0, none⟩) n c bs := by
  subst hc
  have := own_mk h hb hm
  rw [List.length_map, hn] at this
  exact this
theorem own_max {w : World} {base n c : Nat} {A : Option Addr} {bs : List UInt8} {l : List Value} (h : OwnB w base A n c bs) (hc : c = l.length) : l.length ≤ maxLen := by
  subst hc
  rcases h.2 with ⟨hv, _⟩ | ⟨g, cap, cur, hv, _, _, _, hm, _⟩
  · injection hv with _ _ h3
    omega
  · injection hv with _ _ h3
    omega
set_option maxRecDepth 100000 in
set_option maxHeartbeats 8000000 in
theorem ropen_any (s p : List UInt8) (hp : p.length = 768) (hs : s.length = 192) (w : World) :
    Calls Tryz.prog 42 #[.agg (s.map W8).toArray, .agg (p.map W8).toArray] w fun e w' => ∃ A' c', e = .returned (.tuple #[.agg (PC (relC s p) (relP s p) (.slice A' (relB s p).length c')).toArray, .int .i64 (relE s p : Nat)]) ∧ OwnB w' w.heap.size A' (relB s p).length c' (relB s p) ∧ Later w w' := by
  have HZ := hid zcPe
  have HH := hid zcH
  have C1 := bag_new w 109 (s.map W8)
  have C2 := C1.add (later_alloc _ (.cells (p.map W8).toArray 40)) (k := w.heap.size + 1) (by simp) (by omega) (Blk.new' _ _ _ (by simp))
  have C3 := C2.add (later_alloc _ (.cells Tryz.zeroCells46 46)) (k := w.heap.size + 2) (by simp) (by omega) ((Blk.new' _ _ Tryz.zeroCells46.toList (by simp)).cast HZ.out)
  clear C1 C2
  have hdl : (p.take 288).length = 288 := by rw [List.length_take]; omega
  have k2 : (kPay s).length = 32 := subB_length (by omega)
  have bl : (p.drop 288).length = 480 := by rw [List.length_drop]; omega
  have hO := hid (hopen_any (p.take 288) s hdl hs)
  have hf : fitW (kPay s) (p.drop 288) := ⟨k2, by omega, by omega⟩
  have hWi := hid (fun A B c d (w : World) h1 hc h2 hd => open_wide A B 32 c 480 d (kPay s) (p.drop 288) w h1 hc h2 hd (by omega) (by omega))
  rw [wideE_fit okO hf] at hWi
  have hBl := relBody_length s p hp hs
  have hst := hid (sub_tail p 288 480 hp)
  have hE : Hid (relE s p = openE (p.take 288) s) := hid rfl
  have hC : Hid (relC s p = openC (p.take 288) s) := hid rfl
  have hP : Hid (relP s p = if relE s p = 0 ∧ (relC s p).kd = 1 then openN (p.take 288) s ++ relBody s p else z768) := hid rfl
  have hB : Hid (relB s p = if relE s p = 0 ∧ (relC s p).kd ≠ 1 then relBody s p else []) := hid rfl
  have hON := openN_length (p.take 288) s hdl
  have hput := hid (put_pkt (openN (p.take 288) s) (relBody s p) hON hBl)
  rw [show wideB (kPay s) (p.drop 288) rsO = relBody s p from rfl, hBl] at hWi
  have hcz : Hid (openE (p.take 288) s ≠ 0 → openC (p.take 288) s = cmd0) := hid (fun h => by rw [openC, if_neg h])
  rw [← hE.out] at hcz hO
  have hsh : Hid (subB p 0 288 = p.take 288) := hid rfl
  generalize relP s p = RP at *
  generalize relB s p = RB at *
  generalize relBody s p = BD at *
  generalize openN (p.take 288) s = ON at *
  generalize relE s p = RE at *
  generalize hRC : relC s p = RC at *
  have HC := hC.out
  rw [← HC] at hO hcz
  clear HC hC hE hRC
  generalize p.take 288 = PH at *
  generalize p.drop 288 = PD at *
  have hb0 := built_pe0
  have hb1 := built_told RC
  have hb2 := built_pe1 RC
  have hzl : (PC cmd0 z768 nil8).length = 789 := PC_length _ z768_length _
  have lh : ((List.replicate 288 (0 : UInt8)).map W8).length = 288 := by rw [List.length_map, List.length_replicate]
  generalize List.replicate 288 (0 : UInt8) = ZH at *
  go_enter Tryz.func42, Tryz.ntmps42
  go_wp2_with (first
    | (refine load_Y 0 288 rfl _ rfl (C3.nth 1 rfl) rfl Tryz.underlying37 rfl size288 hsh.out hdl ?_)
    | (refine load_St rfl _ rfl (C3.nth 2 rfl) hs rfl ?_)
    | fail)
  (with_reducible refine (hO.out _).mono ?_); rintro e w5 ⟨rfl, l5⟩
  replace C3 := C3.later l5
  clear l5 hO
  have Ca := C3.fresh (later_alloc _ (.cells cz0.toArray 28)) (Nat.le_refl _) (Blk.new w5 28 cz0)
  have Cb := Ca.add (later_alloc _ (.cells Tryz.zeroCells37 37)) (k := w5.heap.size + 1) (fun q hq e => by
    have := (Ca.blk q hq).lt
    simp at this
    omega) (by have := C3.lat.size; omega) ((Blk.new' _ 37 Tryz.zeroCells37.toList (by simp)).cast HH.out)
  clear Ca C3
  by_cases hr : RE = 0
  · subst hr
    replace hP : Hid (RP = if RC.kd = 1 then ON ++ BD else z768) := hid (by rw [hP.out]; simp)
    replace hB : Hid (RB = if RC.kd ≠ 1 then BD else []) := hid (by rw [hB.out]; simp)
    clear hcz
    go_wp2_with (first
      | (refine store_C rfl rfl _ _ rfl (Cb.nth 1 rfl) rfl rfl rfl ?_; intro w6 hb6 ho6
         have Cc := Cb.write 1 rfl ho6 hb6)
      | (refine store_H rfl rfl _ _ rfl (Cc.nth 0 rfl) rfl rfl hON lh ?_; intro w7 hb7 ho7
         have Cd := Cc.write 0 rfl ho7 hb7)
      | fail)
    have Ce := Cd.drew
    clear Cb Cc Cd hb6 ho6 hb7 ho7
    refine wp_region_parts [([0, 1, 2, 3, 4], 5)] [6, 7, 8, 9, 10] [] (by as_aux_lemma => kernel_rfl) (by as_aux_lemma => kernel_rfl) (by intro _ _ d _ _ h; cases d <;> exact h) ?_
    simp only [wpParts, pick, List.getElem?_cons_succ, List.getElem?_cons_zero, Option.toList_some, List.cons_append, List.nil_append]
    repeat (go_big_quiet_step (fail))
    refine wpQuiet_nil ?_
    go_wp2_with fail
    (refine (hWi.out _ _ _ _ _ (rdB_sub (Ce.nth 4 rfl) rfl k2) (by omega) (rdB_sub (Ce.nth 3 rfl) hst.out bl) (Nat.le_refl _)).mono ?_); rintro e w8 ⟨l8, A8, c8, rfl, o8⟩
    go_wp2_with fail
    try refine ⟨by first | assumption | exact later_drew _ | exact later_alloc _ _ | exact Later.refl _, ?_⟩
    try simp only [wpParts, pick, List.getElem?_cons_succ, List.getElem?_cons_zero, Option.toList_some, List.cons_append, List.nil_append]
    repeat (go_big_quiet_step (fail))
    refine wpQuiet_nil ?_
    obtain ⟨g8, r8, rfl, hg8, hb8, hc8, hcc8⟩ := own_some o8 (by omega)
    have hm8 : (BD.map W8 ++ r8).length ≤ maxLen := own_max o8 hc8
    have Cf := Ce.fresh l8 hg8 hb8
    replace hc8 := hid hc8
    clear o8 Ce hWi hb8 hg8
    go_wp2_with (first
      | (refine load_C rfl _ rfl (Cf.nth 2 rfl) rfl ?_)
      | (refine wpList_build_w rfl 44 _ rfl (CC RC) (by simp only [List.map_toArray, List.map_cons, List.map_nil]; exact hb1) ?_)
      | (refine wpList_build_w rfl 46 _ rfl (PC RC z768 nil8) (by simp only [List.map_toArray, List.map_cons, List.map_nil]; exact hb2) ?_)
      | (refine store_PC rfl rfl _ _ rfl ((Blk.new w8 _ Tryz.zeroCells46.toList).cast HZ.out) rfl rfl z768_length rfl hzl ?_; intro w9 hb9 ho9
         have Cg := Cf.push (later_alloc _ _) (Nat.le_refl _) ho9 hb9)
      | (refine load_told rfl _ rfl (Cg.nth 0 rfl) rfl ?_)
      | fail)
    (with_reducible refine (last_any RC _).mono ?_); rintro e w10 ⟨rfl, l10⟩
    have Ch := Cg.later l10
    clear hb9 ho9 Cg Cf
    cases hk : (RC.kd == 1)
    · have hkn : RC.kd ≠ 1 := by simpa using hk
      have HP : RP = z768 := by rw [hP.out, if_neg hkn]
      have HB : RB = BD := by rw [hB.out, if_pos hkn]
      replace HP := hid HP
      replace HB := hid HB
      go_wp2_with (first
        | (refine wpList_store_in rfl rfl _ _ _ rfl w8.heap.size 788 _ _ (Ch.nth 0 rfl) rfl (by rw [PC_length _ z768_length]; omega) rfl (by kernel_rfl) ?_; intro v11 w11 hv11 hb11 ho11; simp [go_sem] at hv11; subst hv11; rw [PC_setv _ z768_length] at hb11
           have Ci := Ch.write 0 rfl ho11 hb11)
        | (refine load_PC rfl _ rfl (Ci.nth 0 rfl) z768_length rfl ?_)
        | (refine store_PC rfl rfl _ _ rfl (Ci.nth 4 rfl) rfl rfl z768_length rfl hzl ?_; intro w12 hb12 ho12
           have Cj := Ci.write 4 rfl ho12 hb12)
        | fail)
      refine bodyPost_ret (results_blk_tmp rfl _ _ _ _ _ _ hb12 rfl Tryz.underlying46 rfl (by rw [PC_length _ z768_length]; exact size789)) rfl ⟨some ⟨g8, 0, none⟩, c8, by rw [HP.out, HB.out, hBl]; rfl, ?_, Cj.lat⟩
      rw [HB.out, hBl]
      exact own_cap' (Cj.nth 1 rfl) (Cj.at_low 1 rfl) hBl hc8.out hm8
    · have hky : RC.kd = 1 := by simpa using hk
      have HP : RP = ON ++ BD := by rw [hP.out, if_pos hky]
      have HB : RB = [] := by rw [hB.out, if_neg (by simp [hky])]
      have hPl : (ON ++ BD).length = 768 := by rw [List.length_append]; omega
      have l1 : (putB z768 0 ON).length = 768 := by rw [putB_length (by rw [z768_length]; omega)]; exact z768_length
      replace HP := hid HP
      replace HB := hid HB
      have r8 := hid (fun w (h : Blk w g8 5 (BD.map W8 ++ r8)) => (show Rd w (some ⟨g8, 0, none⟩) 480 (BD.map W8) from blk_head h hBl))
      generalize ON ++ BD = PK at *
      have hs1 := hid (PC_setP RC (P := z768) (vs := ON) nil8 0 (by rw [z768_length]; omega))
      have hs2 := hid (PC_setP RC (P := putB z768 0 ON) (vs := BD.take 480) nil8 288 (by rw [l1, List.length_take]; omega))
      rw [hput.out] at hs2
      generalize putB z768 0 ON = P1 at *
      go_wp2_with (first
        | (refine load_H rfl _ rfl (Ch.nth 2 rfl) hON rfl ?_)
        | (refine wpList_store_agg rfl rfl 37 _ _ rfl w8.heap.size 20 _ _ (ON.map W8) (Ch.nth 0 rfl) rfl rfl (by rw [List.length_map, hON]; exact size288) (by rw [PC_length _ z768_length, List.length_map]; omega) (w8_one _) ?_; intro w11 hb11 ho11; rw [hs1.out] at hb11
           have Ci := Ch.write 0 rfl ho11 hb11)
        | (refine wpList_copy_rd rfl _ _ _ _ rfl 5 Tryz.underlying22 size8 w8.heap.size 308 480 480 _ _ (Ci.nth 0 rfl) (some ⟨g8, 0, none⟩) 480 c8 (BD.map W8) (r8.out _ (Ci.nth 1 rfl)) (w8_one _) rfl rfl (by rw [PC_length _ l1]; omega) ?_; intro w13 hb13 ho13; rw [← List.map_take, hs2.out] at hb13
           have Ck := Ci.write 0 rfl ho13 hb13)
        | (refine load_PC rfl _ rfl (Ck.nth 0 rfl) hPl rfl ?_)
        | (refine store_PC rfl rfl _ _ rfl (Ck.nth 4 rfl) rfl rfl hPl rfl hzl ?_; intro w12 hb12 ho12
           have Cj := Ck.write 4 rfl ho12 hb12)
        | fail)
      refine bodyPost_ret (results_blk_tmp rfl _ _ _ _ _ _ hb12 rfl Tryz.underlying46 rfl (by rw [PC_length _ hPl]; exact size789)) rfl ⟨none, 0, by rw [HP.out, HB.out]; rfl, ?_, Cj.lat⟩
      rw [HB.out]
      exact own_nil _ _ _
  · have hne : ((RE : Int) != 0) = true := by simp; omega
    have HC := hcz.out hr
    subst HC
    have HP : RP = z768 := by rw [hP.out, if_neg (fun h => hr h.1)]
    have HB : RB = [] := by rw [hB.out, if_neg (fun h => hr h.1)]
    replace HP := hid HP
    replace HB := hid HB
    clear hP hB
    go_wp2_with (first
      | (refine store_C rfl rfl _ _ rfl (Cb.nth 1 rfl) rfl rfl rfl ?_; intro w6 hb6 ho6
         have Cc := Cb.write 1 rfl ho6 hb6)
      | (refine store_H rfl rfl _ _ rfl (Cc.nth 0 rfl) rfl rfl hON lh ?_; intro w7 hb7 ho7
         have Cd := Cc.write 0 rfl ho7 hb7)
      | (refine wpList_build_w rfl 46 _ rfl (PC cmd0 z768 nil8) (by simp only [List.map_toArray, List.map_nil]; exact hb0) ?_)
      | (refine store_PC rfl rfl _ _ rfl (Cd.nth 2 rfl) rfl rfl z768_length rfl hzl ?_; intro w12 hb12 ho12
         have Cj := Cd.write 2 rfl ho12 hb12)
      | fail)
    refine bodyPost_ret (results_blk_tmp rfl _ _ _ _ _ _ hb12 rfl Tryz.underlying46 rfl (by rw [PC_length _ z768_length]; exact size789)) rfl ⟨none, 0, by rw [HP.out, HB.out]; rfl, ?_, Cj.lat⟩
    rw [HB.out]
    exact own_nil _ _ _
set_option maxRecDepth 100000 in
set_option maxHeartbeats 4000000 in
theorem unwrap_any (A : Option Addr) (n c : Nat) (k p : List UInt8) (w : World) (hk : RdB w A n k) (hn : n ≤ 140737488355328) (hp : p.length = 768) :
    Calls Tryz.prog 14 #[.slice A n c, .agg (p.map W8).toArray] w fun e w' => ∃ A' c', e = .returned (.tuple #[.agg (PC (unwC k p) (unwP k p) (.slice A' (unwB k p).length c')).toArray, .int .i64 (unwE k p : Nat)]) ∧ OwnB w' w.heap.size A' (unwB k p).length c' (unwB k p) ∧ Later w w' := by
  have HZ := hid zcPe
  have C1 := bag_new w 40 (p.map W8)
  have C2 := C1.add (later_alloc _ (.cells Tryz.zeroCells46 46)) (k := w.heap.size + 1) (by simp) (by omega) ((Blk.new' _ _ Tryz.zeroCells46.toList (by simp)).cast HZ.out)
  clear C1
  have hal : (p.take 32).length = 32 := by rw [List.length_take]; omega
  have hPe := hid (fun (w : World) B d hk' hu => peel_any A B n c 32 d k (p.take 32) w hk' hu hn (by omega))
  have hsl := peelB_length k (p.take 32)
  have hO := hid (ropen_any (peelB k (p.take 32)) p hp hsl)
  have hE : Hid (unwE k p = if multE k (p.take 32) = 0 then relE (peelB k (p.take 32)) p else multE k (p.take 32)) := hid rfl
  have hC : Hid (unwC k p = if multE k (p.take 32) = 0 then relC (peelB k (p.take 32)) p else cmd0) := hid rfl
  have hP : Hid (unwP k p = if multE k (p.take 32) = 0 then relP (peelB k (p.take 32)) p else z768) := hid rfl
  have hB : Hid (unwB k p = if multE k (p.take 32) = 0 then relB (peelB k (p.take 32)) p else []) := hid rfl
  have hRPl := relP_length (peelB k (p.take 32)) p hp hsl
  have hsh : Hid (subB p 0 32 = p.take 32) := hid rfl
  generalize unwE k p = UE at *
  generalize unwC k p = UC at *
  generalize unwP k p = UP at *
  generalize unwB k p = UB at *
  generalize multE k (p.take 32) = ME at *
  generalize relP (peelB k (p.take 32)) p = RP at *
  generalize relC (peelB k (p.take 32)) p = RC at *
  generalize relB (peelB k (p.take 32)) p = RB at *
  generalize relE (peelB k (p.take 32)) p = RE at *
  generalize peelB k (p.take 32) = S at *
  generalize p.take 32 = al at *
  have hb0 := built_pe0
  have hzl : (PC cmd0 z768 nil8).length = 789 := PC_length _ z768_length _
  have hz1 := zc192
  go_enter Tryz.func14, Tryz.ntmps14
  go_wp2_with fail
  (refine (hPe.out _ _ _ (hk.later C2.lat) (rdB_sub (C2.nth 1 rfl) hsh.out hal)).mono ?_); rintro e w3 ⟨rfl, l3⟩
  replace C2 := C2.later l3
  clear hPe l3
  by_cases h0 : ME = 0
  · subst h0
    replace hE := hid (hE.out.trans (if_pos rfl))
    replace hC := hid (hC.out.trans (if_pos rfl))
    replace hP := hid (hP.out.trans (if_pos rfl))
    replace hB := hid (hB.out.trans (if_pos rfl))
    go_wp2_with (first
      | (refine store_St rfl rfl _ _ rfl (Blk.new w3 _ Tryz.zeroCells109.toList) rfl rfl hsl hz1 ?_; intro w4 hb4 ho4
         have C3 := C2.push (later_alloc _ _) (Nat.le_refl _) ho4 hb4)
      | (refine load_St rfl _ rfl (C3.nth 0 rfl) hsl rfl ?_)
      | (refine load_Pk rfl _ rfl (C3.nth 2 rfl) hp rfl ?_)
      | fail)
    (with_reducible refine (hO.out _).mono ?_); rintro e w5 ⟨A5, c5, rfl, o5, l5⟩
    have hone : (Value.slice A5 RB.length c5).oneCell' = true := rfl
    have C4 := C3.later l5
    have hlow : ∀ b, (Value.slice A5 RB.length c5).ownBlock = some b → b ≠ w.heap.size + 1 := fun b hb e => by
      have h1 := (World.ownsRow.lt o5 b hb).1
      have h2 := (C3.nth 1 rfl).lt
      omega
    go_wp2_with (first
      | (refine store_PC rfl rfl _ _ rfl (C4.nth 1 rfl) rfl rfl hRPl hone hzl ?_; intro w6 hb6 ho6
         have C5 := C4.write 1 rfl ho6 hb6
         have o6 := own_only o5 ho6 hlow)
      | fail)
    refine bodyPost_ret (results_blk_tmp rfl _ _ _ _ _ _ hb6 rfl Tryz.underlying46 rfl (by rw [PC_length _ hRPl]; exact size789)) rfl ⟨A5, c5, by rw [hE.out, hC.out, hP.out, hB.out]; rfl, ?_, C5.lat⟩
    rw [hB.out]
    exact own_mono o6 C3.lat.size
  · have hne : ((ME : Int) != 0) = true := by simp; omega
    replace hE := hid (hE.out.trans (if_neg h0))
    replace hC := hid (hC.out.trans (if_neg h0))
    replace hP := hid (hP.out.trans (if_neg h0))
    replace hB := hid (hB.out.trans (if_neg h0))
    go_wp2_with (first
      | (refine store_St rfl rfl _ _ rfl (Blk.new w3 _ Tryz.zeroCells109.toList) rfl rfl hsl hz1 ?_; intro w4 hb4 ho4
         have C3 := C2.push (later_alloc _ _) (Nat.le_refl _) ho4 hb4)
      | (refine wpList_build_w rfl 46 _ rfl (PC cmd0 z768 nil8) (by simp only [List.map_toArray, List.map_nil]; exact hb0) ?_)
      | (refine store_PC rfl rfl _ _ rfl (C3.nth 1 rfl) rfl rfl z768_length rfl hzl ?_; intro w6 hb6 ho6
         have C5 := C3.write 1 rfl ho6 hb6)
      | fail)
    refine bodyPost_ret (results_blk_tmp rfl _ _ _ _ _ _ hb6 rfl Tryz.underlying46 rfl (by rw [PC_length _ z768_length]; exact size789)) rfl ⟨none, 0, by rw [hE.out, hC.out, hP.out, hB.out]; rfl, ?_, C5.lat⟩
    rw [hB.out]
    exact own_nil _ _ _
end Go.Proofs.YtdojjnbpidogfaaGreat

