/-
  curve.NewPair, Pair.Shared; shallotlaw06: CurveCommutes.
-/
import Derived.Test.YtpijjldkehimfaaCurveD
import Derived.Test.YtpijjldkehimfaaCurveC
import Derived.Test.YtpijjldkehimfaaBuilt
import Derived.Test.YtpijjldkehimfaaEd2
namespace Go.Proofs.Ytpijjldkehimfaa
open Go.RowKit
open Go.BigFrame

theorem size64p : (Try.prog.info? 79).map (·.size) = some 64 := by kernel_rfl
theorem zero64p : (Try.prog.info? 79).bind (·.zero) = some (.agg (List.replicate 64 (W8 0)).toArray) := by kernel_rfl
theorem built_pair (M : List UInt8) (h : M.length = 32) : Program.built Try.prog 79 [(1, .agg (M.map W8).toArray)] = some ((List.replicate 32 (0 : UInt8) ++ M).map W8).toArray := by
  rw [built_one (fs := _) (zs := List.replicate 64 (W8 0)) (vs := M.map W8) (off := 32) (i := 1) (pl := [(0, 32), (32, 32)]) Try.underlying79 zero64p (by kernel_rfl) (by rw [List.length_map, h]; rfl) (by simp [h])]
  congr 2
  rw [spliced, List.length_map, h, List.map_append, List.map_replicate, List.take_replicate, List.drop_replicate]
  simp
theorem built_pair0 : Program.built Try.prog 79 [] = some ((List.replicate 64 (0 : UInt8)).map W8).toArray := by kernel_rfl
/-- The pair of a private key. -/
def pairL (ks : List UInt8) : List UInt8 := if multE ks (nb 9) = 0 then ks ++ multB ks (nb 9) else List.replicate 64 0
theorem multE_len {ks us : List UInt8} (h : multE ks us = 0) : ks.length = 32 ∧ us.length = 32 := by
  unfold multE at h
  split at h
  · assumption
  · cases h
theorem pairL_length (ks : List UInt8) : (pairL ks).length = 64 := by
  unfold pairL
  split
  · rename_i h
    rw [List.length_append, multB_length, (multE_len h).1]
  · simp
section
variable {ops : Array Oper} {rest : List Oper} {o : Oper} {a : Act} {w : World} {Q : Exit → Act → World → Prop}
theorem load_P (hgd : o.guard = none) (x : Operand) (ho : o.op = .load 79 x) {g : Nat} {t : TypeId} {bs : List UInt8} (hb : Blk w g t (bs.map W8)) (hl : bs.length = 64) (hx : a.eval x = .pointer (some ⟨g, 0, none⟩))
    (h : wpList Try.prog ops Q rest (a.put o.dst (.agg (bs.map W8).toArray)) w) : wpList Try.prog ops Q (o :: rest) a w :=
  wpList_load_agg hgd _ x ho g 0 (bs.map W8) (fun j v hv => by rw [Nat.zero_add]; exact hb.cellD j hv) hx _ Try.underlying79 rfl (by rw [List.length_map, hl]; exact size64p) h
theorem store_P (hgd : o.guard = none) (hd : o.dst = none) (x y : Operand) (ho : o.op = .store 79 x y) {g : Nat} {t : TypeId} {l : List Value} {bs : List UInt8} (hg : Blk w g t l) (hx : a.eval x = .pointer (some ⟨g, 0, none⟩)) (hy : a.eval y = .agg (bs.map W8).toArray) (hbl : bs.length = 64) (hl : l.length = 64)
    (h : ∀ w', Blk w' g t (bs.map W8) → Only g w w' → wpList Try.prog ops Q rest a w') : wpList Try.prog ops Q (o :: rest) a w :=
  wpList_store_agg hgd hd _ x y ho g 0 t l (bs.map W8) hg hx hy (by rw [List.length_map, hbl]; exact size64p) (by rw [List.length_map]; omega) (w8_one _) (fun w' hb ho => h w' (by rw [spliced_all _ _ (by rw [List.length_map]; omega)] at hb; exact hb) ho)
theorem quiet_P {K : Act → Prop} (x : Operand) (ho : o.op = .load 79 x) {w0 : World} {g : Nat} {t : TypeId} {bs : List UInt8} (hb : Blk w0 g t (bs.map W8)) (hl : bs.length = 64) (hx : a.eval x = .pointer (some ⟨g, 0, none⟩)) (h : K (a.put o.dst (.agg (bs.map W8).toArray))) :
    o.quiet Try.prog a (fun w' => ∃ x, w' = grow w0 x) K :=
  quiet_load_agg _ x ho g 0 (bs.map W8) (fun w' hw j v hv => by obtain ⟨y, rfl⟩ := hw; rw [Nat.zero_add]; exact (hb.later ⟨y, rfl⟩).cellD j hv) hx _ Try.underlying79 rfl (by rw [List.length_map, hl]; exact size64p) h
end
theorem spliced_low (ks M : List UInt8) (h : ks.length = 32) : spliced ((List.replicate 32 (0 : UInt8) ++ M).map W8) 0 ((ks.map W8).take 32) = (ks ++ M).map W8 := by
  rw [List.take_of_length_le (by rw [List.length_map]; omega), spliced, List.length_map, h, List.map_append, List.map_append, List.take_zero, List.nil_append, Nat.zero_add, List.drop_left' (by simp)]
set_option maxRecDepth 100000 in
set_option maxHeartbeats 4000000 in
theorem newpair_any (A : Option Addr) (n c : Nat) (ks : List UInt8) (w : World) (hk : RdB w A n ks) (hn : n ≤ 140737488355328) :
    Calls Try.prog 47 #[.slice A n c] w fun e w' => e = .returned (.tuple #[.agg ((pairL ks).map W8).toArray, .int .i64 (multE ks (nb 9) : Nat)]) ∧ Later w w' := by
  have hkl := hk.len
  have B0 := bag_new w 79 (List.replicate 64 (Value.int .u8 0))
  have cP := hid (fun (w : World) h => public_any A n c ks w h hn)
  have hml := multB_length ks (nb 9)
  have hp1 := hid (fun (h : multE ks (nb 9) = 0) => show pairL ks = ks ++ multB ks (nb 9) by rw [pairL, if_pos h])
  have hp2 := hid (fun (h : ¬ multE ks (nb 9) = 0) => show pairL ks = List.replicate 64 0 by rw [pairL, if_neg h])
  have hlen := hid (fun (h : multE ks (nb 9) = 0) => (multE_len h).1)
  have hPl := pairL_length ks
  generalize pairL ks = PL at *
  generalize multB ks (nb 9) = M at *
  generalize multE ks (nb 9) = e9 at *
  have hbp := built_pair M hml
  have hzl : (List.replicate 32 (0 : UInt8) ++ M).length = 64 := by simp [hml]
  have hsp0 := hid (fun (h : ks.length = 32) => spliced_low ks M h)
  generalize List.replicate 32 (0 : UInt8) ++ M = Z at *
  obtain ⟨Z0, hZ0⟩ : ∃ Z0, Z0 = List.replicate 64 (0 : UInt8) := ⟨_, rfl⟩
  have hb0 := built_pair0
  rw [← hZ0] at hb0 hp2
  have hz0l : Z0.length = 64 := by rw [hZ0]; simp
  clear hZ0
  go_enter Try.func47, Try.ntmps47
  go_wp2_with fail
  generalize hW : w.alloc _ = w0
  replace B0 : Bag w w0 [(w.heap.size, 79, List.replicate 64 (Value.int .u8 0))] := by rw [← hW]; exact bag_new w 79 (List.replicate 64 (Value.int .u8 0))
  clear hW
  (with_reducible refine (cP.out _ (hk.later B0.lat)).mono ?_); rintro e w1 ⟨rfl, j1⟩
  by_cases he : e9 = 0
  · have hP := hid (hp1.out he)
    have hkl2 := hlen.out he
    have hsp := hid (hsp0.out hkl2)
    have hal : (ks ++ M).length = 64 := by rw [List.length_append]; omega
    generalize ks ++ M = KM at *
    obtain rfl : n = 32 := by omega
    subst he
    clear hp1 hp2 hlen
    go_wp2_with (first
      | (refine store_B rfl rfl _ _ rfl (Blk.new w1 _ (List.replicate 32 (.int .u8 0))) rfl rfl hml rfl ?_; intro w2 hb2 ho2
         have B1 := B0.push (j1.trans (later_alloc w1 _)) j1.size ho2 hb2)
      | (refine load_B rfl _ rfl (B1.nth 0 rfl) hml rfl ?_)
      | (refine wpList_build_is rfl 79 _ rfl (Z.map W8) ?hb ?_; (case hb => simp only [List.map_toArray, List.map_cons, List.map_nil]; exact hbp))
      | (refine store_P rfl rfl _ _ rfl (Blk.new w2 _ (List.replicate 64 (.int .u8 0))) rfl rfl hzl (by simp) ?_; intro w3 hb3 ho3
         have B2 := B1.push (later_alloc w2 _) (Nat.le_refl _) ho3 hb3)
      | (refine wpList_copy_rd rfl _ _ _ _ rfl 5 Try.underlying22 size8 w2.heap.size 0 32 32 79 _ (B2.nth 0 rfl) A 32 c (ks.map W8) (hk.later B2.lat) (w8_one _) rfl rfl (by simp; omega) ?_; intro w4 hb4 ho4
         rw [hsp.out] at hb4
         have B3 := B2.write 0 rfl ho4 hb4)
      | (refine load_P rfl _ rfl (B3.nth 0 rfl) hal rfl ?_)
      | (refine store_P rfl rfl _ _ rfl (B3.nth 2 rfl) rfl rfl hal (by simp) ?_; intro w9 hb9 ho9)
      | fail)
    refine bodyPost_ret (results_blk_tmp rfl _ _ _ _ _ _ hb9 rfl Try.underlying79 rfl (by rw [List.length_map, hal]; exact size64p)) rfl ⟨by rw [hP.out]; rfl, (B3.write 2 rfl ho9 hb9).lat⟩
  · have hP := hid (hp2.out he)
    have hne : ((e9 : Int) != 0) = true := by simp; omega
    clear hp1 hp2 hlen
    go_wp2_with (first
      | (refine store_B rfl rfl _ _ rfl (Blk.new w1 _ (List.replicate 32 (.int .u8 0))) rfl rfl hml rfl ?_; intro w2 hb2 ho2
         have B1 := B0.push (j1.trans (later_alloc w1 _)) j1.size ho2 hb2)
      | (refine wpList_build_is rfl 79 _ rfl (Z0.map W8) ?hb ?_; (case hb => simp only [List.map_toArray, List.map_nil]; exact hb0))
      | (refine store_P rfl rfl _ _ rfl (B1.nth 1 rfl) rfl rfl hz0l (by simp) ?_; intro w9 hb9 ho9)
      | fail)
    exact bodyPost_ret (results_blk_tmp rfl _ _ _ _ _ _ hb9 rfl Try.underlying79 rfl (by rw [List.length_map, hz0l]; exact size64p)) rfl ⟨by rw [hP.out]; rfl, (B1.write 1 rfl ho9 hb9).lat⟩
theorem multQ_nb (ks : List UInt8) (q : Nat) (h : q < P25) : multQ ks (nb q) = Ed.multN q (clampB ks) := by
  rw [multQ, readN_nb q h]
  rfl
theorem multB_nb (ks : List UInt8) (q : Nat) (hk : ks.length = 32) (h : q < P25) : multB ks (nb q) = nb (Ed.multN q (clampB ks)) ∧ multE ks (nb q) = if Ed.multN q (clampB ks) = 0 then 5 else 0 := by
  unfold multB multE
  rw [multQ_nb ks q h, if_pos ⟨hk, nb_length q⟩, if_pos ⟨hk, nb_length q⟩]
  exact ⟨rfl, rfl⟩
theorem chain_two (us a b : List UInt8) (hu : us.length = 32) (ha : a.length = 32) (hb : b.length = 32) :
    chainR us [a, b] = if Ed.multN (Ed.multN (readN us) (clampB a)) (clampB b) = 0 then (List.replicate 32 0, 5) else (nb (Ed.multN (Ed.multN (readN us) (clampB a)) (clampB b)), 0) := by
  have h1 := multB_nb a (readN us) ha (readN_P us)
  have hlt := Ed.multN_lt (readN us) (clampB a)
  rw [chainR, if_pos ⟨hu, by simp [ha, hb]⟩, chainAt, h1.2]
  generalize hq : Ed.multN (readN us) (clampB a) = q at *
  by_cases h0 : q = 0
  · have h3 : Ed.multN q (clampB b) = 0 := Ed.multN_nought (by rw [h0]; exact Ed.toF_zero) _
    simp only [h0, if_true] at h3 ⊢
    rw [if_neg (by decide), if_pos h3]
  · have h2 := multB_nb b q hb hlt
    simp only [h0, if_false, if_true]
    rw [h1.1, chainAt, h2.1, h2.2, chainAt]
    generalize Ed.multN q (clampB b) = q2
    by_cases h3 : q2 = 0
    · simp [h3]
    · simp [h3]
theorem chain_comm (us a b : List UInt8) (hu : us.length = 32) (ha : a.length = 32) (hb : b.length = 32) : chainR us [a, b] = chainR us [b, a] := by
  rw [chain_two us a b hu ha hb, chain_two us b a hu hb ha, Ed.multN_comm]
theorem chain_errs (us a b : List UInt8) (hu : us.length = 32) (ha : a.length = 32) (hb : b.length = 32) : (chainR us [a, b]).2 = 0 ∨ (chainR us [a, b]).2 = 5 := by
  rw [chain_two us a b hu ha hb]
  split
  · exact .inr rfl
  · exact .inl rfl
theorem nine_P : 9 < P25 := by decide
theorem pub_ok (ks : List UInt8) (hk : ks.length = 32) : multE ks (nb 9) = 0 := by
  rw [(multB_nb ks 9 hk nine_P).2, if_neg (Ed.from9_ne (Ed.from9_step Ed.from9_nine ks hk))]
theorem shared_ok (a b : List UInt8) (ha : a.length = 32) (hb : b.length = 32) :
    multE a (multB b (nb 9)) = 0 ∧ multB a (multB b (nb 9)) = multB b (multB a (nb 9)) := by
  have h1 := multB_nb b 9 hb nine_P
  have h2 := multB_nb a 9 ha nine_P
  have h3 := multB_nb a _ ha (Ed.multN_lt 9 (clampB b))
  have h4 := multB_nb b _ hb (Ed.multN_lt 9 (clampB a))
  rw [h1.1, h2.1, h3.1, h3.2, h4.1, Ed.multN_comm, if_neg (Ed.from9_ne (Ed.from9_step (Ed.from9_step Ed.from9_nine a ha) b hb))]
  exact ⟨rfl, rfl⟩
theorem parts_two {w : World} {g : Nat} {t : TypeId} {v1 v2 : Value} {p1 p2 : List UInt8} (hb : Blk w g t [v1, v2]) (h1 : Part w (fun _ => False) v1 p1) (h2 : Part w (fun _ => False) v2 p2) : Parts w (fun _ => False) (some ⟨g, 0, none⟩) 2 [p1, p2] := by
  refine ⟨[v1, v2], ⟨rfl, fun _ => ⟨g, 0, rfl, hb.lt, fun j u hu => by rw [Nat.zero_add]; exact hb.cellD j hu⟩⟩, fun _ _ _ h => h, rfl, ?_⟩
  intro j v p hv hp
  match j with
  | 0 => cases hv; cases hp; exact h1
  | 1 => cases hv; cases hp; exact h2
  | j + 2 => simp at hv
theorem part_rd {w : World} {A : Option Addr} {n c : Nat} {p : List UInt8} (h : RdB w A n p) (hc : n ≤ c) : Part w (fun _ => False) (.slice A n c) p := ⟨A, n, c, rfl, hc, h, fun _ _ _ h => h⟩
theorem makes_cell32 {ops : Array Oper} {o : Oper} {a : Act} (hw : Region.wanted o (yielded ops a.tmps) = true) (ho : o.op = .alloc 47) :
    Makes Try.prog ops o (fun g => .pointer (some ⟨g, 0, none⟩)) (.cells (List.replicate 32 (.int .u8 0)).toArray 47) a :=
  ⟨hw, fun w => by
    unfold execOp
    rw [ho]
    simp [go_sem]⟩
theorem blk_rdB_high {w : World} {g : Nat} {t : TypeId} {K ks qs : List UInt8} {n : Nat} (h : Blk w g t (K.map W8)) (e : K = ks ++ qs) (hk : ks.length = 32) (hn : qs.length = n) : RdB w (some ⟨g, 32, none⟩) n qs := by
  subst e
  rw [List.map_append] at h
  refine ⟨by rw [List.length_map, hn], fun _ => ⟨g, 32, rfl, h.lt, fun j u hu => h.cellD _ ?_⟩⟩
  rw [List.getElem?_append_right (by rw [List.length_map]; omega), List.length_map, hk, show 32 + j - 32 = j by omega]
  exact hu
end Go.Proofs.Ytpijjldkehimfaa
