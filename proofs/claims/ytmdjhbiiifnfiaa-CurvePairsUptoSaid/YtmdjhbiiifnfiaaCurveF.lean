/-
  curve.NewPair, Pair.Shared; shallotlaw06: CurveCommutes.
-/
import Derived.Test.YtmdjhbiiifnfiaaCurveD
import Derived.Test.YtmdjhbiiifnfiaaCurveC
import Derived.Test.YtmdjhbiiifnfiaaBuilt
import Derived.Test.YtmdjhbiiifnfiaaEd2
namespace Go.Proofs.Ytmdjhbiiifnfiaa
open Go.RowKit
open Go.BigFrame

theorem size64p : (Try.prog.info? 80).map (·.size) = some 64 := by kernel_rfl
theorem zero64p : (Try.prog.info? 80).bind (·.zero) = some (.agg (List.replicate 64 (W8 0)).toArray) := by kernel_rfl
theorem built_pair (M : List UInt8) (h : M.length = 32) : Program.built Try.prog 80 [(1, .agg (M.map W8).toArray)] = some ((List.replicate 32 (0 : UInt8) ++ M).map W8).toArray := by
  rw [built_one (fs := _) (zs := List.replicate 64 (W8 0)) (vs := M.map W8) (off := 32) (i := 1) (pl := [(0, 32), (32, 32)]) Try.underlying80 zero64p (by kernel_rfl) (by rw [List.length_map, h]; rfl) (by simp [h])]
  congr 2
  rw [spliced, List.length_map, h, List.map_append, List.map_replicate, List.take_replicate, List.drop_replicate]
  simp
theorem built_pair0 : Program.built Try.prog 80 [] = some ((List.replicate 64 (0 : UInt8)).map W8).toArray := by kernel_rfl
/-- The pair of a private key. -/
def pairL (ks : List UInt8) : List UInt8 := if multE ks (nb 9) = 0 then ks ++ multB ks (nb 9) else List.replicate 64 0
theorem multE_len {ks us : List UInt8} (h : multE ks us = 0) : ks.length = 32 ∧ us.length = 32 := by
  unfold multE at h
  split at h
  · assumption
  · cases h
theorem pairL_length (ks : List UInt8) : (pairL ks).length = 64 := by
  unfold pairL
  split
  · rename_i h
    rw [List.length_append, multB_length, (multE_len h).1]
  · simp
section
variable {ops : Array Oper} {rest : List Oper} {o : Oper} {a : Act} {w : World} {Q : Exit → Act → World → Prop}
theorem load_P (hgd : o.guard = none) (x : Operand) (ho : o.op = .load 80 x) {g : Nat} {t : TypeId} {bs : List UInt8} (hb : Blk w g t (bs.map W8)) (hl : bs.length = 64) (hx : a.eval x = .pointer (some ⟨g, 0, none⟩))
    (h : wpList Try.prog ops Q rest (a.put o.dst (.agg (bs.map W8).toArray)) w) : wpList Try.prog ops Q (o :: rest) a w :=
  wpList_load_agg hgd _ x ho g 0 (bs.map W8) (fun j v hv => by rw [Nat.zero_add]; exact hb.cellD j hv) hx _ Try.underlying80 rfl (by rw [List.length_map, hl]; exact size64p) h
theorem store_P (hgd : o.guard = none) (hd : o.dst = none) (x y : Operand) (ho : o.op = .store 80 x y) {g : Nat} {t : TypeId} {l : List Value} {bs : List UInt8} (hg : Blk w g t l) (hx : a.eval x = .pointer (some ⟨g, 0, none⟩)) (hy : a.eval y = .agg (bs.map W8).toArray) (hbl : bs.length = 64) (hl : l.length = 64)
    (h : ∀ w', Blk w' g t (bs.map W8) → Only g w w' → wpList Try.prog ops Q rest a w') : wpList Try.prog ops Q (o :: rest) a w :=
  wpList_store_agg hgd hd _ x y ho g 0 t l (bs.map W8) hg hx hy (by rw [List.length_map, hbl]; exact size64p) (by rw [List.length_map]; omega) (w8_one _) (fun w' hb ho => h w' (by rw [spliced_all _ _ (by rw [List.length_map]; omega)] at hb; exact hb) ho)
theorem quiet_P {K : Act → Prop} (x : Operand) (ho : o.op = .load 80 x) {w0 : World} {g : Nat} {t : TypeId} {bs : List UInt8} (hb : Blk w0 g t (bs.map W8)) (hl : bs.length = 64) (hx : a.eval x = .pointer (some ⟨g, 0, none⟩)) (h : K (a.put o.dst (.agg (bs.map W8).toArray))) :
    o.quiet Try.prog a (fun w' => ∃ x, w' = grow w0 x) K :=
  quiet_load_agg _ x ho g 0 (bs.map W8) (fun w' hw j v hv => by obtain ⟨y, rfl⟩ := hw; rw [Nat.zero_add]; exact (hb.later ⟨y, rfl⟩).cellD j hv) hx _ Try.underlying80 rfl (by rw [List.length_map, hl]; exact size64p) h
end
theorem spliced_low (ks M : List UInt8) (h : ks.length = 32) : spliced ((List.replicate 32 (0 : UInt8) ++ M).map W8) 0 ((ks.map W8).take 32) = (ks ++ M).map W8 := by
  rw [List.take_of_length_le (by rw [List.length_map]; omega), spliced, List.length_map, h, List.map_append, List.map_append, List.take_zero, List.nil_append, Nat.zero_add, List.drop_left' (by simp)]
set_option maxRecDepth 100000 in
set_option maxHeartbeats 4000000 in
theorem newpair_any (A : Option Addr) (n c : Nat) (ks : List UInt8) (w : World) (hk : RdB w A n ks) (hn : n ≤ 140737488355328) :
    Calls Try.prog 50 #[.slice A n c] w fun e w' => e = .returned (.tuple #[.agg ((pairL ks).map W8).toArray, .int .i64 (multE ks (nb 9) : Nat)]) ∧ Later w w' := by
  have hkl := hk.len
  have B0 := bag_new w 80 (List.replicate 64 (Value.int .u8 0))
  have cP := hid (fun (w : World) h => public_any A n c ks w h hn)
  have hml := multB_length ks (nb 9)
  have hp1 := hid (fun (h : multE ks (nb 9) = 0) => show pairL ks = ks ++ multB ks (nb 9) by rw [pairL, if_pos h])
  have hp2 := hid (fun (h : ¬ multE ks (nb 9) = 0) => show pairL ks = List.replicate 64 0 by rw [pairL, if_neg h])
  have hlen := hid (fun (h : multE ks (nb 9) = 0) => (multE_len h).1)
  have hPl := pairL_length ks
  generalize pairL ks = PL at *
  generalize multB ks (nb 9) = M at *
  generalize multE ks (nb 9) = e9 at *
  have hbp := built_pair M hml
  have hzl : (List.replicate 32 (0 : UInt8) ++ M).length = 64 := by simp [hml]
  have hsp0 := hid (fun (h : ks.length = 32) => spliced_low ks M h)
  generalize List.replicate 32 (0 : UInt8) ++ M = Z at *
  obtain ⟨Z0, hZ0⟩ : ∃ Z0, Z0 = List.replicate 64 (0 : UInt8) := ⟨_, rfl⟩
  have hb0 := built_pair0
  rw [← hZ0] at hb0 hp2
  have hz0l : Z0.length = 64 := by rw [hZ0]; simp
  clear hZ0
  go_enter Try.func50, Try.ntmps50
  go_wp2_with fail
  generalize hW : w.alloc _ = w0
  replace B0 : Bag w w0 [(w.heap.size, 80, List.replicate 64 (Value.int .u8 0))] := by rw [← hW]; exact bag_new w 80 (List.replicate 64 (Value.int .u8 0))
  clear hW
  (with_reducible refine (cP.out _ (hk.later B0.lat)).mono ?_); rintro e w1 ⟨rfl, j1⟩
  by_cases he : e9 = 0
  · have hP := hid (hp1.out he)
    have hkl2 := hlen.out he
    have hsp := hid (hsp0.out hkl2)
    have hal : (ks ++ M).length = 64 := by rw [List.length_append]; omega
    generalize ks ++ M = KM at *
    obtain rfl : n = 32 := by omega
    subst he
    clear hp1 hp2 hlen
    go_wp2_with (first
      | (refine store_B rfl rfl _ _ rfl (Blk.new w1 _ (List.replicate 32 (.int .u8 0))) rfl rfl hml rfl ?_; intro w2 hb2 ho2
         have B1 := B0.push (j1.trans (later_alloc w1 _)) j1.size ho2 hb2)
      | (refine load_B rfl _ rfl (B1.nth 0 rfl) hml rfl ?_)
      | (refine wpList_build_is rfl 80 _ rfl (Z.map W8) ?hb ?_; (case hb => simp only [List.map_toArray, List.map_cons, List.map_nil]; exact hbp))
      | (refine store_P rfl rfl _ _ rfl (Blk.new w2 _ (List.replicate 64 (.int .u8 0))) rfl rfl hzl (by simp) ?_; intro w3 hb3 ho3
         have B2 := B1.push (later_alloc w2 _) (Nat.le_refl _) ho3 hb3)
      | (refine wpList_copy_rd rfl _ _ _ _ rfl 5 Try.underlying25 size8 w2.heap.size 0 32 32 80 _ (B2.nth 0 rfl) A 32 c (ks.map W8) (hk.later B2.lat) (w8_one _) rfl rfl (by simp; omega) ?_; intro w4 hb4 ho4
         rw [hsp.out] at hb4
         have B3 := B2.write 0 rfl ho4 hb4)
      | (refine load_P rfl _ rfl (B3.nth 0 rfl) hal rfl ?_)
      | (refine store_P rfl rfl _ _ rfl (B3.nth 2 rfl) rfl rfl hal (by simp) ?_; intro w9 hb9 ho9)
      | fail)
    refine bodyPost_ret (results_blk_tmp rfl _ _ _ _ _ _ hb9 rfl Try.underlying80 rfl (by rw [List.length_map, hal]; exact size64p)) rfl ⟨by rw [hP.out]; rfl, (B3.write 2 rfl ho9 hb9).lat⟩
  · have hP := hid (hp2.out he)
    have hne : ((e9 : Int) != 0) = true := by simp; omega
    clear hp1 hp2 hlen
    go_wp2_with (first
      | (refine store_B rfl rfl _ _ rfl (Blk.new w1 _ (List.replicate 32 (.int .u8 0))) rfl rfl hml rfl ?_; intro w2 hb2 ho2
         have B1 := B0.push (j1.trans (later_alloc w1 _)) j1.size ho2 hb2)
      | (refine wpList_build_is rfl 80 _ rfl (Z0.map W8) ?hb ?_; (case hb => simp only [List.map_toArray, List.map_nil]; exact hb0))
      | (refine store_P rfl rfl _ _ rfl (B1.nth 1 rfl) rfl rfl hz0l (by simp) ?_; intro w9 hb9 ho9)
      | fail)
    exact bodyPost_ret (results_blk_tmp rfl _ _ _ _ _ _ hb9 rfl Try.underlying80 rfl (by rw [List.length_map, hz0l]; exact size64p)) rfl ⟨by rw [hP.out]; rfl, (B1.write 1 rfl ho9 hb9).lat⟩
set_option maxRecDepth 100000 in
set_option maxHeartbeats 2000000 in
theorem shared_any (B : Option Addr) (m d : Nat) (ks qs us : List UInt8) (w : World) (hkl : ks.length = 32) (hql : qs.length = 32) (hu : RdB w B m us) (hm : m ≤ 140737488355328) :
    Calls Try.prog 52 #[.agg ((ks ++ qs).map W8).toArray, .slice B m d] w fun e w' => e = .returned (.tuple #[.agg ((multB ks us).map W8).toArray, .int .i64 (multE ks us : Nat)]) ∧ Later w w' := by
  have hml := multB_length ks us
  have cM := hid (fun (w : World) g h1 h2 => mult_any (some ⟨g, 0, none⟩) B 32 32 m d ks us w h1 h2 (by omega) hm)
  generalize multB ks us = M at *
  generalize multE ks us = e9 at *
  have hcells : ((ks ++ qs).map W8) = ks.map W8 ++ qs.map W8 := List.map_append
  generalize (ks ++ qs).map W8 = PC at *
  have hpl : PC.length = 64 := by rw [hcells]; simp; omega
  have C1 : Bag w (w.alloc (.cells PC.toArray 80)) [(w.heap.size, 80, PC)] := bag_new w 80 PC
  have C2 : Bag w ((w.alloc (.cells PC.toArray 80)).alloc (.cells (List.replicate 32 (Value.int .u8 0)).toArray 42)) [(w.heap.size + 1, 42, List.replicate 32 (Value.int .u8 0)), (w.heap.size, 80, PC)] := by
    refine C1.add (later_alloc _ _) (by simp) (by omega) ?_
    have := Blk.new (w.alloc (.cells PC.toArray 80)) 42 (List.replicate 32 (Value.int .u8 0))
    simpa using this
  have HC := hid hcells
  clear hcells
  go_enter Try.func52, Try.ntmps52
  go_wp2_with fail
  generalize hW : (w.alloc _).alloc _ = w0
  replace C2 : Bag w w0 [(w.heap.size + 1, 42, List.replicate 32 (Value.int .u8 0)), (w.heap.size, 80, PC)] := by rw [← hW]; exact C2
  clear hW C1
  have hrd : RdB w0 (some ⟨w.heap.size, 0, none⟩) 32 ks := by
    have := C2.nth 1 rfl
    rw [HC.out] at this
    exact blk_rd_app this (by rw [List.length_map, hkl])
  (with_reducible refine (cM.out _ _ hrd (hu.later C2.lat)).mono ?_); rintro e w1 ⟨rfl, j1⟩
  go_wp2_with (first
    | (refine store_B rfl rfl _ _ rfl ((C2.later j1).nth 0 rfl) rfl rfl hml rfl ?_; intro w5 hb5 ho5)
    | fail)
  exact bodyPost_ret (results_blk_tmp rfl _ _ _ _ _ _ hb5 rfl Try.underlying42 rfl (by rw [List.length_map, hml]; exact size32b)) rfl ⟨rfl, ((C2.later j1).write 0 rfl ho5 hb5).lat⟩
theorem multQ_nb (ks : List UInt8) (q : Nat) (h : q < P25) : multQ ks (nb q) = Ed.multN q (clampB ks) := by
  rw [multQ, readN_nb q h]
  rfl
theorem multB_nb (ks : List UInt8) (q : Nat) (hk : ks.length = 32) (h : q < P25) : multB ks (nb q) = nb (Ed.multN q (clampB ks)) ∧ multE ks (nb q) = if Ed.multN q (clampB ks) = 0 then 5 else 0 := by
  unfold multB multE
  rw [multQ_nb ks q h, if_pos ⟨hk, nb_length q⟩, if_pos ⟨hk, nb_length q⟩]
  exact ⟨rfl, rfl⟩
theorem chain_two (us a b : List UInt8) (hu : us.length = 32) (ha : a.length = 32) (hb : b.length = 32) :
    chainR us [a, b] = if Ed.multN (Ed.multN (readN us) (clampB a)) (clampB b) = 0 then (List.replicate 32 0, 5) else (nb (Ed.multN (Ed.multN (readN us) (clampB a)) (clampB b)), 0) := by
  have h1 := multB_nb a (readN us) ha (readN_P us)
  have hlt := Ed.multN_lt (readN us) (clampB a)
  rw [chainR, if_pos ⟨hu, by simp [ha, hb]⟩, chainAt, h1.2]
  generalize hq : Ed.multN (readN us) (clampB a) = q at *
  by_cases h0 : q = 0
  · have h3 : Ed.multN q (clampB b) = 0 := Ed.multN_nought (by rw [h0]; exact Ed.toF_zero) _
    simp only [h0, if_true] at h3 ⊢
    rw [if_neg (by decide), if_pos h3]
  · have h2 := multB_nb b q hb hlt
    simp only [h0, if_false, if_true]
    rw [h1.1, chainAt, h2.1, h2.2, chainAt]
    generalize Ed.multN q (clampB b) = q2
    by_cases h3 : q2 = 0
    · simp [h3]
    · simp [h3]
theorem chain_comm (us a b : List UInt8) (hu : us.length = 32) (ha : a.length = 32) (hb : b.length = 32) : chainR us [a, b] = chainR us [b, a] := by
  rw [chain_two us a b hu ha hb, chain_two us b a hu hb ha, Ed.multN_comm]
theorem chain_errs (us a b : List UInt8) (hu : us.length = 32) (ha : a.length = 32) (hb : b.length = 32) : (chainR us [a, b]).2 = 0 ∨ (chainR us [a, b]).2 = 5 := by
  rw [chain_two us a b hu ha hb]
  split
  · exact .inr rfl
  · exact .inl rfl
theorem nine_P : 9 < P25 := by decide
theorem pub_ok (ks : List UInt8) (hk : ks.length = 32) : multE ks (nb 9) = 0 := by
  rw [(multB_nb ks 9 hk nine_P).2, if_neg (Ed.from9_ne (Ed.from9_step Ed.from9_nine ks hk))]
theorem shared_ok (a b : List UInt8) (ha : a.length = 32) (hb : b.length = 32) :
    multE a (multB b (nb 9)) = 0 ∧ multB a (multB b (nb 9)) = multB b (multB a (nb 9)) := by
  have h1 := multB_nb b 9 hb nine_P
  have h2 := multB_nb a 9 ha nine_P
  have h3 := multB_nb a _ ha (Ed.multN_lt 9 (clampB b))
  have h4 := multB_nb b _ hb (Ed.multN_lt 9 (clampB a))
  rw [h1.1, h2.1, h3.1, h3.2, h4.1, Ed.multN_comm, if_neg (Ed.from9_ne (Ed.from9_step (Ed.from9_step Ed.from9_nine a ha) b hb))]
  exact ⟨rfl, rfl⟩
theorem parts_two {w : World} {g : Nat} {t : TypeId} {v1 v2 : Value} {p1 p2 : List UInt8} (hb : Blk w g t [v1, v2]) (h1 : Part w (fun _ => False) v1 p1) (h2 : Part w (fun _ => False) v2 p2) : Parts w (fun _ => False) (some ⟨g, 0, none⟩) 2 [p1, p2] := by
  refine ⟨[v1, v2], ⟨rfl, fun _ => ⟨g, 0, rfl, hb.lt, fun j u hu => by rw [Nat.zero_add]; exact hb.cellD j hu⟩⟩, fun _ _ _ h => h, rfl, ?_⟩
  intro j v p hv hp
  match j with
  | 0 => cases hv; cases hp; exact h1
  | 1 => cases hv; cases hp; exact h2
  | j + 2 => simp at hv
theorem part_rd {w : World} {A : Option Addr} {n c : Nat} {p : List UInt8} (h : RdB w A n p) (hc : n ≤ c) : Part w (fun _ => False) (.slice A n c) p := ⟨A, n, c, rfl, hc, h, fun _ _ _ h => h⟩
theorem makes_cell32 {ops : Array Oper} {o : Oper} {a : Act} (hw : Region.wanted o (yielded ops a.tmps) = true) (ho : o.op = .alloc 42) :
    Makes Try.prog ops o (fun g => .pointer (some ⟨g, 0, none⟩)) (.cells (List.replicate 32 (.int .u8 0)).toArray 42) a :=
  ⟨hw, fun w => by
    unfold execOp
    rw [ho]
    simp [go_sem]⟩
theorem blk_rdB_high {w : World} {g : Nat} {t : TypeId} {K ks qs : List UInt8} {n : Nat} (h : Blk w g t (K.map W8)) (e : K = ks ++ qs) (hk : ks.length = 32) (hn : qs.length = n) : RdB w (some ⟨g, 32, none⟩) n qs := by
  subst e
  rw [List.map_append] at h
  refine ⟨by rw [List.length_map, hn], fun _ => ⟨g, 32, rfl, h.lt, fun j u hu => h.cellD _ ?_⟩⟩
  rw [List.getElem?_append_right (by rw [List.length_map]; omega), List.length_map, hk, show 32 + j - 32 = j by omega]
  exact hu
set_option maxRecDepth 100000 in
set_option maxHeartbeats 8000000 in
theorem curveCommutes_walk (A B D : Option Addr) (n m l c d f : Nat) (ka kb us : List UInt8) (w : World) (ha : RdB w A n ka) (hb : RdB w B m kb) (hu : RdB w D l us) (hn : n ≤ 140737488355328) (hm : m ≤ 140737488355328) (hl : l ≤ 140737488355328) :
    Calls Try.prog 15 #[.slice A n c, .slice B m d, .slice D l f] w fun e w' => e = .returned (.bool true) ∧ Later w w' := by
  have hal := ha.len
  have hbl := hb.len
  have hul := hu.len
  by_cases h32 : n = 32 ∧ m = 32 ∧ l = 32
  · obtain ⟨rfl, rfl, rfl⟩ := h32
    have hC1 := hid (fun (w : World) A B c d h1 h2 => chain_any A B 32 c 2 d us [ka, kb] w h1 h2 (by omega) (by omega))
    have hC2 := hid (fun (w : World) A B c d h1 h2 => chain_any A B 32 c 2 d us [kb, ka] w h1 h2 (by omega) (by omega))
    rw [← chain_comm us ka kb hul hal hbl] at hC2
    have hne := chain_errs us ka kb hul hal hbl
    obtain ⟨x, hx⟩ := sub32 (chainR_length us [ka, kb])
    rw [← hx] at hC1 hC2
    clear hx
    generalize (chainR us [ka, kb]).2 = e1 at *
    have hN1 := hid (fun (w : World) A c h => newpair_any A 32 c ka w h (by omega))
    have hN2 := hid (fun (w : World) A c h => newpair_any A 32 c kb w h (by omega))
    have hP1 : pairL ka = ka ++ multB ka (nb 9) := by rw [pairL, if_pos (pub_ok ka hal)]
    have hP2 : pairL kb = kb ++ multB kb (nb 9) := by rw [pairL, if_pos (pub_ok kb hbl)]
    rw [hP1, pub_ok ka hal] at hN1
    rw [hP2, pub_ok kb hbl] at hN2
    have hS1 := hid (fun (w : World) A d h => shared_any A 32 d ka (multB ka (nb 9)) (multB kb (nb 9)) w hal (multB_length _ _) h (by omega))
    have hS2 := hid (fun (w : World) A d h => shared_any A 32 d kb (multB kb (nb 9)) (multB ka (nb 9)) w hbl (multB_length _ _) h (by omega))
    rw [(shared_ok ka kb hal hbl).1] at hS1
    rw [(shared_ok kb ka hbl hal).1, ← (shared_ok ka kb hal hbl).2] at hS2
    obtain ⟨y, hy⟩ := sub32 (multB_length ka (multB kb (nb 9)))
    rw [← hy] at hS1 hS2
    clear hy hP1 hP2
    have q1l := multB_length ka (nb 9)
    have q2l := multB_length kb (nb 9)
    generalize multB ka (nb 9) = q1 at *
    generalize multB kb (nb 9) = q2 at *
    have hxl := x.2
    have hyl := y.2
    have p1l : (ka ++ q1).length = 64 := by rw [List.length_append]; omega
    have p2l : (kb ++ q2).length = 64 := by rw [List.length_append]; omega
    obtain ⟨K1, hK1⟩ : ∃ K1, K1 = ka ++ q1 := ⟨_, rfl⟩
    obtain ⟨K2, hK2⟩ : ∃ K2, K2 = kb ++ q2 := ⟨_, rfl⟩
    rw [← hK1] at hN1 hS1 p1l
    rw [← hK2] at hN2 hS2 p2l
    have H1 := hid hK1
    have H2 := hid hK2
    clear hK1 hK2
    rcases hne with rfl | rfl
    all_goals
      go_enter Try.func15, Try.ntmps15
      go_wp2_with fail
      (with_reducible refine (awake06 _).mono ?_); rintro e w1 ⟨rfl, j1⟩
      go_wp2_with fail
      (with_reducible refine (copy_any D 32 f us _ (hu.later j1) (by omega)).mono ?_); rintro e s2 ⟨A2, c2, rfl, o2, j2⟩
      go_wp2_with fail
      (with_reducible refine (copy_any A 32 c ka _ (ha.later (j1.trans j2)) (by omega)).mono ?_); rintro e s3 ⟨A3, c3, rfl, o3, j3⟩
      go_wp2_with fail
      (with_reducible refine (copy_any B 32 d kb _ (hb.later ((j1.trans j2).trans j3)) (by omega)).mono ?_); rintro e s4 ⟨A4, c4, rfl, o4, j4⟩
      go_wp2_with fail
      have a4 := later_alloc s4 (.cells #[.slice A3 32 c3, .slice A4 32 c4] 25)
      have hP := parts_two (Blk.new s4 25 [.slice A3 32 c3, .slice A4 32 c4]) (part_rd ((o3.rd.later j4).later a4) o3.cap) (part_rd (o4.rd.later a4) o4.cap)
      (with_reducible refine (hC1.out _ A2 _ c2 2 ((o2.rd.later (j3.trans j4)).later a4) hP).mono ?_); rintro e s5 ⟨rfl, j5⟩
      have jj := (j2.trans (j3.trans j4)).trans (a4.trans j5)
      clear hP a4 o2 o3 o4 j2 j3 j4 j5
      go_wp2_with (first
        | (refine store_B rfl rfl _ _ rfl (Blk.new s5 _ (List.replicate 32 (.int .u8 0))) rfl rfl hxl rfl ?_; intro s6 hb6 ho6)
        | fail)
      have B1 := (Bag.none w).push ((j1.trans jj).trans (later_alloc s5 _)) (j1.trans jj).size ho6 hb6
      clear j1 jj hb6 ho6
      (with_reducible refine (copy_any D 32 f us _ (hu.later B1.lat) (by omega)).mono ?_); rintro e t2 ⟨A2, c2, rfl, o2, j2⟩
      go_wp2_with fail
      (with_reducible refine (copy_any B 32 d kb _ (hb.later (B1.lat.trans j2)) (by omega)).mono ?_); rintro e t3 ⟨A3, c3, rfl, o3, j3⟩
      go_wp2_with fail
      (with_reducible refine (copy_any A 32 c ka _ (ha.later ((B1.lat.trans j2).trans j3)) (by omega)).mono ?_); rintro e t4 ⟨A4, c4, rfl, o4, j4⟩
      go_wp2_with fail
      have a4 := later_alloc t4 (.cells #[.slice A3 32 c3, .slice A4 32 c4] 25)
      have hP := parts_two (Blk.new t4 25 [.slice A3 32 c3, .slice A4 32 c4]) (part_rd ((o3.rd.later j4).later a4) o3.cap) (part_rd (o4.rd.later a4) o4.cap)
      (with_reducible refine (hC2.out _ A2 _ c2 2 ((o2.rd.later (j3.trans j4)).later a4) hP).mono ?_); rintro e t5 ⟨rfl, j5⟩
      have jj := (j2.trans (j3.trans j4)).trans (a4.trans j5)
      clear hP a4 o2 o3 o4 j2 j3 j4 j5
      go_wp2_with (first
        | (refine store_B rfl rfl _ _ rfl (Blk.new t5 _ (List.replicate 32 (.int .u8 0))) rfl rfl hxl rfl ?_; intro t6 hb6 ho6
           have B2 := B1.push (jj.trans (later_alloc t5 _)) jj.size ho6 hb6)
        | (refine load_B rfl _ rfl (B2.nth 1 rfl) hxl rfl ?_)
        | (refine load_B rfl _ rfl (B2.nth 0 rfl) hxl rfl ?_)
        | fail)
      clear jj hb6 ho6 B1
      (with_reducible refine (copy_any A 32 c ka _ (ha.later B2.lat) (by omega)).mono ?_); rintro e p1 ⟨A2, c2, rfl, o2, j2⟩
      go_wp2_with fail
      (with_reducible refine (hN1.out _ A2 c2 o2.rd).mono ?_); rintro e p2 ⟨rfl, j3⟩
      go_wp2_with (first
        | (refine store_P rfl rfl _ _ rfl (Blk.new p2 _ (List.replicate 64 (.int .u8 0))) rfl rfl p1l (by simp) ?_; intro p3 hb3 ho3)
        | fail)
      have B3 := B2.push ((j2.trans j3).trans (later_alloc p2 _)) (j2.trans j3).size ho3 hb3
      clear j2 j3 o2 hb3 ho3
      (with_reducible refine (copy_any B 32 d kb _ (hb.later B3.lat) (by omega)).mono ?_); rintro e r1 ⟨A2, c2, rfl, o2, j2⟩
      go_wp2_with fail
      (with_reducible refine (hN2.out _ A2 c2 o2.rd).mono ?_); rintro e r2 ⟨rfl, j3⟩
      go_wp2_with (first
        | (refine store_P rfl rfl _ _ rfl (Blk.new r2 _ (List.replicate 64 (.int .u8 0))) rfl rfl p2l (by simp) ?_; intro r3 hb3 ho3)
        | fail)
      have B4 := B3.push ((j2.trans j3).trans (later_alloc r2 _)) (j2.trans j3).size ho3 hb3
      clear j2 j3 o2 hb3 ho3
      refine wp_region_makers [0, 1, 2] [([], 1, 3), ([], 1, 4), ([5, 6, 7], 2, 8)] [] [9, 10] [8] (fun _ => (fun g => .pointer (some ⟨g, 0, none⟩), .cells (List.replicate 32 (Value.int .u8 0)).toArray 42)) (by as_aux_lemma => kernel_rfl) (by as_aux_lemma => kernel_rfl) (by intro _ _ d _ _ h; cases d <;> exact h) (by intro _ _ d _ _ h; cases d <;> exact h) ?_
      simp only [pick, List.getElem?_cons_succ, List.getElem?_cons_zero, Option.toList_some, List.cons_append, List.nil_append]
      repeat (first | go_big_quiet_skip | (go_big_quiet_want; (first | refine quiet_P _ rfl (B4.drew.nth 1 rfl) p1l rfl ?_); simp only [Act.put, List.setIfInBounds_toArray, List.set_cons_succ, List.set_cons_zero]; go_big_quiet_on) | (go_big_quiet_step (fail)))
      refine wpQuiet_nil ?_
      refine ⟨?mk, ?_⟩
      case mk =>
        refine ⟨fun o ho => ?_, trivial⟩
        simp only [List.getElem?_cons_succ, List.getElem?_cons_zero, Option.some.injEq] at ho
        subst ho
        exact makes_cell32 rfl rfl
      simp only [wpPartsM, pick, List.getElem?_cons_succ, List.getElem?_cons_zero, Option.toList_some, List.cons_append, List.nil_append]
      refine wpQuiet_nil ?_
      intro m1 j1
      go_wp2_with fail
      (with_reducible refine (copy_any _ 32 32 _ _ (blk_rdB_high (B4.drew.later j1 |>.nth 0 rfl) H2.out hbl q2l) (by omega)).mono ?_); rintro e m2 ⟨A2, c2, rfl, o2, j2⟩
      go_wp2_with fail
      try refine ⟨by first | assumption | exact later_drew _ | exact later_alloc _ _ | exact Later.refl _, ?_⟩
      try simp only [wpParts, pick, List.getElem?_cons_succ, List.getElem?_cons_zero, Option.toList_some, List.cons_append, List.nil_append]
      repeat (go_big_quiet_step (fail))
      refine wpQuiet_nil ?_
      intro m3 j3
      go_wp2_with fail
      (with_reducible refine (hS1.out _ A2 c2 (o2.rd.later j3)).mono ?_); rintro e m4 ⟨rfl, j4⟩
      go_wp2_with fail
      try refine ⟨by first | assumption | exact later_drew _ | exact later_alloc _ _ | exact Later.refl _, ?_⟩
      try simp only [wpParts, pick, List.getElem?_cons_succ, List.getElem?_cons_zero, Option.toList_some, List.cons_append, List.nil_append]
      repeat (go_big_quiet_step (fail))
      refine wpQuiet_nil ?_
      intro m5 gq j5 hgq _ hbq
      refine wpQuiet_nil ?_
      intro m6 j6
      simp only [Option.bind_some, Act.put, List.setIfInBounds_toArray, List.set_cons_succ, List.set_cons_zero]
      have hB6 : Blk m6 gq 42 (List.replicate 32 (Value.int .u8 0)) := Blk.later (show Blk m5 gq _ _ from hbq) j6
      have jj := ((later_drew _).trans j1).trans ((j2.trans j3).trans (j4.trans (j5.trans j6)))
      clear j1 j2 j3 j4 j5 j6 hbq o2
      refine store_B rfl rfl _ _ rfl hB6 rfl rfl hyl rfl ?_
      intro m7 hb7 ho7
      have B5 := B4.push jj hgq ho7 hb7
      clear jj hB6 hgq ho7 hb7
      go_wp2_with fail
      refine wp_region_makers [0, 1, 2] [([], 1, 3), ([], 1, 4), ([5, 6, 7], 2, 8)] [] [9, 10] [8] (fun _ => (fun g => .pointer (some ⟨g, 0, none⟩), .cells (List.replicate 32 (Value.int .u8 0)).toArray 42)) (by as_aux_lemma => kernel_rfl) (by as_aux_lemma => kernel_rfl) (by intro _ _ d _ _ h; cases d <;> exact h) (by intro _ _ d _ _ h; cases d <;> exact h) ?_
      simp only [pick, List.getElem?_cons_succ, List.getElem?_cons_zero, Option.toList_some, List.cons_append, List.nil_append]
      repeat (first | go_big_quiet_skip | (go_big_quiet_want; (first | refine quiet_P _ rfl (B5.drew.nth 1 rfl) p2l rfl ?_); simp only [Act.put, List.setIfInBounds_toArray, List.set_cons_succ, List.set_cons_zero]; go_big_quiet_on) | (go_big_quiet_step (fail)))
      refine wpQuiet_nil ?_
      refine ⟨?mk, ?_⟩
      case mk =>
        refine ⟨fun o ho => ?_, trivial⟩
        simp only [List.getElem?_cons_succ, List.getElem?_cons_zero, Option.some.injEq] at ho
        subst ho
        exact makes_cell32 rfl rfl
      simp only [wpPartsM, pick, List.getElem?_cons_succ, List.getElem?_cons_zero, Option.toList_some, List.cons_append, List.nil_append]
      refine wpQuiet_nil ?_
      intro k1 j1
      go_wp2_with fail
      (with_reducible refine (copy_any _ 32 32 _ _ (blk_rdB_high (B5.drew.later j1 |>.nth 2 rfl) H1.out hal q1l) (by omega)).mono ?_); rintro e k2 ⟨A2, c2, rfl, o2, j2⟩
      go_wp2_with fail
      try refine ⟨by first | assumption | exact later_drew _ | exact later_alloc _ _ | exact Later.refl _, ?_⟩
      try simp only [wpParts, pick, List.getElem?_cons_succ, List.getElem?_cons_zero, Option.toList_some, List.cons_append, List.nil_append]
      repeat (go_big_quiet_step (fail))
      refine wpQuiet_nil ?_
      intro k3 j3
      go_wp2_with fail
      (with_reducible refine (hS2.out _ A2 c2 (o2.rd.later j3)).mono ?_); rintro e k4 ⟨rfl, j4⟩
      go_wp2_with fail
      try refine ⟨by first | assumption | exact later_drew _ | exact later_alloc _ _ | exact Later.refl _, ?_⟩
      try simp only [wpParts, pick, List.getElem?_cons_succ, List.getElem?_cons_zero, Option.toList_some, List.cons_append, List.nil_append]
      repeat (go_big_quiet_step (fail))
      refine wpQuiet_nil ?_
      intro k5 gq j5 hgq _ hbq
      refine wpQuiet_nil ?_
      intro k6 j6
      simp only [Option.bind_some, Act.put, List.setIfInBounds_toArray, List.set_cons_succ, List.set_cons_zero]
      have hB6 : Blk k6 gq 42 (List.replicate 32 (Value.int .u8 0)) := Blk.later (show Blk k5 gq _ _ from hbq) j6
      have jj := ((later_drew _).trans j1).trans ((j2.trans j3).trans (j4.trans (j5.trans j6)))
      clear j1 j2 j3 j4 j5 j6 hbq o2
      refine store_B rfl rfl _ _ rfl hB6 rfl rfl hyl rfl ?_
      intro k7 hb7 ho7
      have B6 := B5.push jj hgq ho7 hb7
      clear jj hB6 hgq ho7 hb7
      go_wp2_with (first
        | (refine load_B rfl _ rfl (B6.nth 1 rfl) hyl rfl ?_)
        | (refine load_B rfl _ rfl (B6.nth 0 rfl) hyl rfl ?_)
        | fail)
      go_ret
      exact ⟨rfl, B6.lat⟩
  · go_enter Try.func15, Try.ntmps15
    go_wp2_with fail
    (with_reducible refine (awake06 _).mono ?_); rintro e w1 ⟨rfl, j1⟩
    have key : ((n : Int) != 32) = true ∨ ((n : Int) != 32) = false ∧ ((m : Int) != 32) = true ∨ ((n : Int) != 32) = false ∧ ((m : Int) != 32) = false ∧ ((l : Int) != 32) = true := by
      simp only [bne_iff_ne, bne_eq_false_iff_eq, ne_eq]
      omega
    rcases key with h1 | ⟨h1, h2⟩ | ⟨h1, h2, h3⟩
    all_goals
      go_wp2_with fail
      go_ret
      exact ⟨rfl, j1⟩
end Go.Proofs.Ytmdjhbiiifnfiaa
