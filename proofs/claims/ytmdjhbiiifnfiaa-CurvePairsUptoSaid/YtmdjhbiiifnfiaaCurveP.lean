/-
  shallotlaw06: CurvePairs.
-/
import Derived.Test.YtmdjhbiiifnfiaaCurveF
import Derived.Test.YtmdjhbiiifnfiaaStructs
namespace Go.Proofs.Ytmdjhbiiifnfiaa
open Go.RowKit
open Go.BigFrame

theorem size65n : (Try.prog.info? 84).map (·.size) = some 65 := by kernel_rfl
theorem zero65n : (Try.prog.info? 84).bind (·.zero) = some (.agg (List.replicate 64 (W8 0) ++ [Value.string .empty]).toArray) := by kernel_rfl
theorem spliced_head (a b c : List Value) (h : a.length = b.length) : spliced (a ++ c) 0 b = b ++ c := by
  rw [spliced, List.take_zero, List.nil_append, Nat.zero_add, List.drop_left' h]
theorem spliced_tail (a b c : List Value) (h : c.length = b.length) : spliced (a ++ c) a.length b = a ++ b := by
  rw [spliced, List.take_left' rfl, List.drop_of_length_le (by rw [List.length_append]; omega), List.append_nil]
theorem built_named (K : List UInt8) (hK : K.length = 64) (s : ByteArray) : Program.built Try.prog 84 [(0, .agg (K.map W8).toArray), (1, .string s)] = some (K.map W8 ++ [Value.string s]).toArray := by
  have hl : (K.map W8).length = 64 := by rw [List.length_map, hK]
  rw [built_struct (pl := [(0, 64), (64, 1)]) Try.underlying84 zero65n (by kernel_rfl), fill_cons (vs := K.map W8) (off := 0) rfl (by rw [hl]; rfl) (by simp [hl]), spliced_head _ _ _ (by rw [hl]; rfl),
    fill_cons (vs := [.string s]) (off := 64) rfl rfl (by simp [hl]), fill_nil]
  have := spliced_tail (K.map W8) [Value.string s] [Value.string .empty] rfl
  rw [hl] at this
  rw [this]
theorem one_named (K : List UInt8) (s : ByteArray) : ∀ v ∈ K.map W8 ++ [Value.string s], v.oneCell' = true := by
  intro v hv
  rcases List.mem_append.1 hv with h | h
  · exact w8_one K v h
  · rw [List.mem_singleton.1 h]; rfl
section
variable {ops : Array Oper} {rest : List Oper} {o : Oper} {a : Act} {w : World} {Q : Exit → Act → World → Prop}
theorem cells_hi {g : Nat} {t : TypeId} {l r : List Value} {ks q : List UInt8} (hb : Blk w g t l) (hl : l = (ks ++ q).map W8 ++ r) (hk : ks.length = 32) : ∀ j v, (q.map W8)[j]? = some v → w.cell? ⟨g, 32 + j, none⟩ = some v := by
  intro j v hv
  refine hb.cellD _ ?_
  rw [hl, List.map_append, List.append_assoc, List.getElem?_append_right (by rw [List.length_map]; omega), List.length_map, hk, show 32 + j - 32 = j by omega]
  rw [List.getElem?_append_left (List.getElem?_eq_some_iff.1 hv).1]
  exact hv
/-- The second half of a pair is loaded. -/
theorem load_hi (hgd : Region.wanted o (yielded ops a.tmps) = true) (x : Operand) (ho : o.op = .load 42 x) {g : Nat} {t : TypeId} {l r : List Value} {ks q : List UInt8} (hb : Blk w g t l) (hl : l = (ks ++ q).map W8 ++ r) (hk : ks.length = 32) (hq : q.length = 32) (hx : a.eval x = .pointer (some ⟨g, 32, none⟩))
    (h : wpList Try.prog ops Q rest (a.put o.dst (.agg (q.map W8).toArray)) w) : wpList Try.prog ops Q (o :: rest) a w :=
  wpList_load_at hgd _ x ho g 32 (q.map W8) (cells_hi hb hl hk) hx _ Try.underlying42 rfl (by rw [List.length_map, hq]; exact size32b) h
theorem quiet_Pn {K : Act → Prop} (x : Operand) (ho : o.op = .load 80 x) {w0 : World} {g : Nat} {t : TypeId} {bs : List UInt8} {r : List Value} (hb : Blk w0 g t (bs.map W8 ++ r)) (hl : bs.length = 64) (hx : a.eval x = .pointer (some ⟨g, 0, none⟩)) (h : K (a.put o.dst (.agg (bs.map W8).toArray))) :
    o.quiet Try.prog a (fun w' => ∃ x, w' = grow w0 x) K :=
  quiet_load_agg _ x ho g 0 (bs.map W8) (fun w' hw j v hv => by obtain ⟨y, rfl⟩ := hw; rw [Nat.zero_add]; exact (hb.later ⟨y, rfl⟩).cellD j (by rw [List.getElem?_append_left (List.getElem?_eq_some_iff.1 hv).1]; exact hv)) hx _ Try.underlying80 rfl (by rw [List.length_map, hl]; exact size64p) h
end
set_option maxRecDepth 100000 in
set_option maxHeartbeats 8000000 in
theorem curvePairs_walk (A B : Option Addr) (n m c d : Nat) (ks us : List UInt8) (s : ByteArray) (w : World) (hk : RdB w A n ks) (hu : RdB w B m us) (hn : n ≤ 140737488355328) (hm : m ≤ 140737488355328) :
    Calls Try.prog 13 #[.slice A n c, .slice B m d, .string s] w fun e w' => e = .returned (.bool true) ∧ Later w w' := by
  have hkl := hk.len
  have hul := hu.len
  have hN := hid (fun (w : World) A c h => newpair_any A n c ks w h hn)
  have hPr := hid (fun (w : World) A c h => public_ref A n c ks w h hn)
  by_cases h32 : n = 32
  · subst h32
    have hP1 : pairL ks = ks ++ multB ks (nb 9) := by rw [pairL, if_pos (pub_ok ks hkl)]
    have hS := hid (fun (q : List UInt8) (w : World) A d h hq => shared_any A m d ks q us w hkl hq h hm)
    have hMr := hid (fun (w : World) A B c d h1 h2 => mult_ref A B 32 c m d ks us w h1 h2 (by omega) hm)
    rw [hP1, pub_ok ks hkl] at hN
    rw [pub_ok ks hkl] at hPr
    obtain ⟨y, hy⟩ := sub32 (multB_length ks (nb 9))
    rw [← hy] at hN hPr
    clear hy hP1
    obtain ⟨z, hz⟩ := sub32 (multB_length ks us)
    rw [← hz] at hS hMr
    clear hz
    generalize multE ks us = e1 at *
    have hyl := y.2
    have hzl := z.2
    have hKl : (ks ++ y.val).length = 64 := by rw [List.length_append]; omega
    have hbn := hid (fun (K : List UInt8) hK => built_named K hK s)
    have hS' := hid (fun (w : World) A d h => hS.out y.val w A d h hyl)
    clear hS
    obtain ⟨K, hK⟩ : ∃ K, K = ks ++ y.val := ⟨_, rfl⟩
    rw [← hK] at hN hKl hS'
    have HK := hid hK
    clear hK
    go_enter Try.func13, Try.ntmps13
    go_wp2_with fail
    (with_reducible refine (awake06 _).mono ?_); rintro e w1 ⟨rfl, j1⟩
    go_wp2_with fail
    (with_reducible refine (copy_any A 32 c ks _ (hk.later j1) (by omega)).mono ?_); rintro e w2 ⟨A2, c2, rfl, o2, j2⟩
    go_wp2_with fail
    (with_reducible refine (hN.out _ A2 c2 o2.rd).mono ?_); rintro e w3 ⟨rfl, j3⟩
    go_wp2_with (first
      | (refine store_P rfl rfl _ _ rfl (Blk.new w3 _ (List.replicate 64 (.int .u8 0))) rfl rfl hKl (by simp) ?_; intro w4 hb4 ho4)
      | fail)
    have B1 := (Bag.none w).push (((j1.trans j2).trans j3).trans (later_alloc w3 _)) ((j1.trans j2).trans j3).size ho4 hb4
    clear j1 j2 j3 o2 hb4 ho4
    (with_reducible refine (hPr.out _ A c (hk.later B1.lat)).mono ?_); rintro e w5 ⟨rfl, j5⟩
    go_wp2_with (first
      | (refine store_B rfl rfl _ _ rfl (Blk.new w5 _ (List.replicate 32 (.int .u8 0))) rfl rfl hyl rfl ?_; intro w6 hb6 ho6
         have B2 := B1.push (j5.trans (later_alloc w5 _)) j5.size ho6 hb6)
      | (refine load_hi (r := []) rfl _ rfl (B2.nth 1 rfl) (by rw [HK.out, List.append_nil]) hkl hyl rfl ?_)
      | (refine load_B rfl _ rfl (B2.nth 0 rfl) hyl rfl ?_)
      | (refine load_P rfl _ rfl (B2.nth 1 rfl) hKl rfl ?_)
      | (refine wpList_build_is rfl 84 _ rfl (K.map W8 ++ [Value.string s]) ?hb ?_; (case hb => simp only [List.map_toArray, List.map_cons, List.map_nil]; exact hbn.out K hKl))
      | (refine wpList_store_blk rfl rfl 84 _ _ rfl w6.heap.size 84 Try.zeroCells84.toList (K.map W8 ++ [Value.string s]) (Blk.new w6 _ _) rfl rfl 65 size65n (by rw [List.length_append, List.length_map, hKl]; rfl) (by kernel_rfl) (one_named K s) ?_; intro w7 hb7 ho7
         have B3 := B2.push (later_alloc w6 _) (Nat.le_refl _) ho7 hb7)
      | fail)
    clear j5 hb6 ho6 hb7 ho7 B1 B2
    refine wp_region_makers [0, 1, 2] [([], 1, 3), ([], 1, 4), ([5, 6, 7], 2, 8)] [] [9, 10] [8] (fun _ => (fun g => .pointer (some ⟨g, 0, none⟩), .cells (List.replicate 32 (Value.int .u8 0)).toArray 42)) (by as_aux_lemma => kernel_rfl) (by as_aux_lemma => kernel_rfl) (by intro _ _ d _ _ h; cases d <;> exact h) (by intro _ _ d _ _ h; cases d <;> exact h) ?_
    simp only [pick, List.getElem?_cons_succ, List.getElem?_cons_zero, Option.toList_some, List.cons_append, List.nil_append]
    repeat (first | go_big_quiet_skip | (go_big_quiet_want; (first | refine quiet_Pn _ rfl (B3.drew.nth 0 rfl) hKl rfl ?_); simp only [Act.put, List.setIfInBounds_toArray, List.set_cons_succ, List.set_cons_zero]; go_big_quiet_on) | (go_big_quiet_step (fail)))
    refine wpQuiet_nil ?_
    refine ⟨?mk, ?_⟩
    case mk =>
      refine ⟨fun o ho => ?_, trivial⟩
      simp only [List.getElem?_cons_succ, List.getElem?_cons_zero, Option.some.injEq] at ho
      subst ho
      exact makes_cell32 rfl rfl
    simp only [wpPartsM, pick, List.getElem?_cons_succ, List.getElem?_cons_zero, Option.toList_some, List.cons_append, List.nil_append]
    refine wpQuiet_nil ?_
    intro m1 j1
    go_wp2_with fail
    (with_reducible refine (copy_any B m d us _ (hu.later (B3.drew.later j1).lat) (by omega)).mono ?_); rintro e m2 ⟨A2, c2, rfl, o2, j2⟩
    go_wp2_with fail
    try refine ⟨by first | assumption | exact later_drew _ | exact later_alloc _ _ | exact Later.refl _, ?_⟩
    try simp only [wpParts, pick, List.getElem?_cons_succ, List.getElem?_cons_zero, Option.toList_some, List.cons_append, List.nil_append]
    repeat (go_big_quiet_step (fail))
    refine wpQuiet_nil ?_
    intro m3 j3
    go_wp2_with fail
    (with_reducible refine (hS'.out _ A2 c2 (o2.rd.later j3)).mono ?_); rintro e m4 ⟨rfl, j4⟩
    go_wp2_with fail
    try refine ⟨by first | assumption | exact later_drew _ | exact later_alloc _ _ | exact Later.refl _, ?_⟩
    try simp only [wpParts, pick, List.getElem?_cons_succ, List.getElem?_cons_zero, Option.toList_some, List.cons_append, List.nil_append]
    repeat (go_big_quiet_step (fail))
    refine wpQuiet_nil ?_
    intro m5 gq j5 hgq _ hbq
    refine wpQuiet_nil ?_
    intro m6 j6
    simp only [Option.bind_some, Act.put, List.setIfInBounds_toArray, List.set_cons_succ, List.set_cons_zero]
    have hB6 : Blk m6 gq 42 (List.replicate 32 (Value.int .u8 0)) := Blk.later (show Blk m5 gq _ _ from hbq) j6
    have jj := ((later_drew _).trans j1).trans ((j2.trans j3).trans (j4.trans (j5.trans j6)))
    clear j1 j2 j3 j4 j5 j6 hbq o2
    refine store_B rfl rfl _ _ rfl hB6 rfl rfl hzl rfl ?_
    intro m7 hb7 ho7
    have B5 := B3.push jj hgq ho7 hb7
    clear jj hB6 hgq ho7 hb7
    go_wp2_with fail
    (with_reducible refine (hMr.out _ A B c d (hk.later B5.lat) (hu.later B5.lat)).mono ?_); rintro e k1 ⟨rfl, j1⟩
    go_wp2_with (first
      | (refine store_B rfl rfl _ _ rfl (Blk.new k1 _ (List.replicate 32 (.int .u8 0))) rfl rfl hzl rfl ?_; intro k2 hb2 ho2)
      | fail)
    have B6 := B5.push (j1.trans (later_alloc k1 _)) j1.size ho2 hb2
    clear j1 hb2 ho2 B5
    have hP32 : RdB k2 (some ⟨w6.heap.size, 0, none⟩) 32 ks := blk_rdB_app (rest := y.val.map W8 ++ [Value.string s]) (by rw [← List.append_assoc, ← List.map_append, ← HK.out]; exact B6.nth 2 rfl) hkl
    (with_reducible refine (equal_any _ A 32 32 32 c ks ks _ hP32 (hk.later B6.lat) (by omega) (by omega)).mono ?_); rintro e k3 ⟨rfl, j3⟩
    rw [decide_eq_true rfl]
    have B7 := B6.later j3
    have hstr : k3.cell? ⟨w6.heap.size, 64, none⟩ = some (.string s) := (B7.nth 2 rfl).cellD 64 (by rw [List.getElem?_append_right (by rw [List.length_map]; omega), List.length_map, hKl]; rfl)
    go_wp2_with (first
      | (refine load_hi rfl _ rfl (B7.nth 2 rfl) (by rw [HK.out]) hkl hyl rfl ?_)
      | (refine load_B rfl _ rfl (B7.nth 3 rfl) hyl rfl ?_)
      | (refine load_B rfl _ rfl (B7.nth 1 rfl) hzl rfl ?_)
      | (refine load_B rfl _ rfl (B7.nth 0 rfl) hzl rfl ?_)
      | fail)
    go_ret
    exact ⟨rfl, B7.lat⟩
  · have he : multE ks (nb 9) ≠ 0 := by
      rw [multE, if_neg (by omega)]
      decide
    have hP1 : pairL ks = List.replicate 32 0 ++ List.replicate 32 0 := by rw [pairL, if_neg he]; rfl
    have hM1 : multB ks (nb 9) = List.replicate 32 0 := by rw [multB, if_neg (by omega)]
    rw [hM1] at hPr
    obtain ⟨y, hy⟩ : ∃ y : Y32, y.val = List.replicate 32 0 := sub32 (by simp)
    rw [← hy] at hPr hP1
    obtain ⟨z, hz⟩ : ∃ z : Y64, z.val = y.val ++ y.val := ⟨⟨y.val ++ y.val, by rw [List.length_append, y.2]⟩, rfl⟩
    rw [hP1, ← hz] at hN
    have hbz : Program.built Try.prog 80 [] = some (z.val.map W8).toArray := by rw [hz, hy]; exact built_pair0
    generalize multE ks (nb 9) = e9 at *
    have hne : ((e9 : Int) != 0) = true := by simp; omega
    have hyl := y.2
    have hzl := z.2
    have HZ := hid hz
    clear hP1 hM1 hy hz
    go_enter Try.func13, Try.ntmps13
    go_wp2_with fail
    (with_reducible refine (awake06 _).mono ?_); rintro e w1 ⟨rfl, j1⟩
    go_wp2_with fail
    (with_reducible refine (copy_any A n c ks _ (hk.later j1) (by omega)).mono ?_); rintro e w2 ⟨A2, c2, rfl, o2, j2⟩
    go_wp2_with fail
    (with_reducible refine (hN.out _ A2 c2 o2.rd).mono ?_); rintro e w3 ⟨rfl, j3⟩
    go_wp2_with (first
      | (refine store_P rfl rfl _ _ rfl (Blk.new w3 _ (List.replicate 64 (.int .u8 0))) rfl rfl hzl (by simp) ?_; intro w4 hb4 ho4)
      | fail)
    have B1 := (Bag.none w).push (((j1.trans j2).trans j3).trans (later_alloc w3 _)) ((j1.trans j2).trans j3).size ho4 hb4
    clear j1 j2 j3 o2 hb4 ho4
    (with_reducible refine (hPr.out _ A c (hk.later B1.lat)).mono ?_); rintro e w5 ⟨rfl, j5⟩
    go_wp2_with (first
      | (refine store_B rfl rfl _ _ rfl (Blk.new w5 _ (List.replicate 32 (.int .u8 0))) rfl rfl hyl rfl ?_; intro w6 hb6 ho6
         have B2 := B1.push (j5.trans (later_alloc w5 _)) j5.size ho6 hb6)
      | (refine load_hi (r := []) rfl _ rfl (B2.nth 1 rfl) (by rw [HZ.out, List.append_nil]) hyl hyl rfl ?_)
      | (refine load_B rfl _ rfl (B2.nth 0 rfl) hyl rfl ?_)
      | (refine load_P rfl _ rfl (B2.nth 1 rfl) hzl rfl ?_)
      | (refine wpList_build_is rfl 80 _ rfl (z.val.map W8) ?hb ?_; (case hb => simp only [List.map_toArray, List.map_nil]; exact hbz))
      | fail)
    go_ret
    exact ⟨rfl, B2.lat⟩
end Go.Proofs.Ytmdjhbiiifnfiaa
