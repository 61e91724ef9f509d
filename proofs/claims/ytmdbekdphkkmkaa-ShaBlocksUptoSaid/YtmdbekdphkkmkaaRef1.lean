/-
  shallotref02: First, Table, Compress.
-/
import Derived.Test.YtmdbekdphkkmkaaSha2
namespace Go.Proofs.Ytmdbekdphkkmkaa
open Go.RowKit

set_option maxRecDepth 100000 in
set_option maxHeartbeats 1000000 in
theorem table_any (w : World) : Calls Try.prog 65 #[] w fun e w' => e = .returned (.agg (shaK.map W32).toArray) ∧ Later w w' := by
  go_enter Try.func65, Try.ntmps65
  go_wp2_with (first
    | (refine wpList_build_is rfl 33 _ rfl (shaK.map W32) ?hb ?_; (case hb => kernel_rfl))
    | (refine wpList_store_agg rfl rfl 33 _ _ rfl w.heap.size 0 33 (List.replicate 64 (W32 0)) (shaK.map W32) ?b rfl rfl (by kernel_rfl) (by simp; decide) (w32_one _) ?_; (case b => exact Blk.new _ _ _); intro w2 hb ho))
  refine bodyPost_ret (results_blk rfl _ _ _ _ (shaK.map W32) _ (by rwa [spliced_all _ _ (by rfl)] at hb) rfl Try.underlying33 rfl (by kernel_rfl)) rfl ⟨rfl, ((Later.refl w).alloc _).only ho (Nat.le_refl _)⟩
set_option maxHeartbeats 1000000 in
theorem first_any (w : World) : Calls Try.prog 62 #[] w fun e w' => e = .returned (.agg shaInit.list.toArray) ∧ Later w w' := by
  go_enter Try.func62, Try.ntmps62
  go_wp2
  generalize hC : Obj.cells _ _ = C
  have hC' : C = .cells shaInit.list.toArray 31 := by rw [← hC]; kernel_rfl
  clear hC
  refine bodyPost_ret (results_blk rfl _ _ w.heap.size 31 shaInit.list _ (by rw [hC']; exact Blk.new _ _ _) rfl Try.underlying31 rfl (by kernel_rfl)) rfl ⟨rfl, later_alloc _ _⟩

theorem right_refI (x : UInt32) (n : Int) (h0 : 0 ≤ n) (h1 : n ≤ 32) (w : World) :
    Calls Try.prog 66 #[W32 x, .int .i64 n] w fun e w' => e = .returned (W32 (rotr x n.toNat)) ∧ w.drew = w' := by
  obtain ⟨n, rfl⟩ := Int.eq_ofNat_of_zero_le h0
  exact right_ref x n (by omega) w
/-! ### Words -/
theorem sched_stable (bs : List UInt8) (j t : Nat) (h : j < t) : wAt (sched bs t) j = wAt (sched bs (j + 1)) j := by
  induction t with
  | zero => omega
  | succ t ih =>
    by_cases hj : j = t
    · rw [hj]
    · rw [← ih (by omega), sched, wAt, wAt, List.getD_eq_getElem?_getD, List.getElem?_append_left (by rw [sched_length]; omega), ← List.getD_eq_getElem?_getD]
theorem sched_last (bs : List UInt8) (t : Nat) : wAt (sched bs (t + 1)) t = nextW bs (sched bs t) t := by
  rw [sched, wAt, List.getD_eq_getElem?_getD, List.getElem?_append_right (by rw [sched_length]; omega), sched_length, Nat.sub_self]
  rfl
/-- A word, byte by byte. -/
def partW (bs : List UInt8) (t : Nat) : Nat → UInt32
  | 0 => 0
  | i + 1 => partW bs t i * 256 + (byteAt bs (4 * t + i)).toUInt32
theorem partW_4 (bs : List UInt8) (t : Nat) : partW bs t 4 = wordAt bs t := by
  apply UInt32.toNat_inj.1
  have ha := (byteAt bs (4 * t)).toNat_lt
  have hb := (byteAt bs (4 * t + 1)).toNat_lt
  have hc := (byteAt bs (4 * t + 2)).toNat_lt
  have hd := (byteAt bs (4 * t + 3)).toNat_lt
  simp only [partW, wordAt, Nat.add_zero]
  generalize byteAt bs (4 * t) = a at *
  generalize byteAt bs (4 * t + 1) = b at *
  generalize byteAt bs (4 * t + 2) = c at *
  generalize byteAt bs (4 * t + 3) = d at *
  have e : ∀ (x : UInt32) (n : Nat), (shl32 x n).toNat = x.toNat * 2 ^ n % 4294967296 := by
    intro x n
    show (x.toBitVec <<< n).toNat = _
    rw [BitVec.toNat_shiftLeft, Nat.shiftLeft_eq]
    rfl
  have o1 : ∀ (x y i : Nat), y < 2 ^ i → (x * 2 ^ i) ||| y = x * 2 ^ i + y := fun x y i h => by
    rw [← Nat.shiftLeft_eq, Nat.shiftLeft_add_eq_or_of_lt h]
  simp only [UInt32.toNat_or, UInt32.toNat_add, UInt32.toNat_mul, e, UInt8.toNat_toUInt32]
  have p1 : a.toNat * 2 ^ 24 % 4294967296 = a.toNat * 2 ^ 24 := Nat.mod_eq_of_lt (by omega)
  have p2 : b.toNat * 2 ^ 16 % 4294967296 = b.toNat * 2 ^ 16 := Nat.mod_eq_of_lt (by omega)
  have p3 : c.toNat * 2 ^ 8 % 4294967296 = c.toNat * 2 ^ 8 := Nat.mod_eq_of_lt (by omega)
  rw [p1, p2, p3, o1 a.toNat (b.toNat * 2 ^ 16) 24 (by omega)]
  rw [show a.toNat * 2 ^ 24 + b.toNat * 2 ^ 16 = (a.toNat * 2 ^ 8 + b.toNat) * 2 ^ 16 by omega, o1 _ (c.toNat * 2 ^ 8) 16 (by omega)]
  rw [show (a.toNat * 2 ^ 8 + b.toNat) * 2 ^ 16 + c.toNat * 2 ^ 8 = ((a.toNat * 2 ^ 8 + b.toNat) * 2 ^ 8 + c.toNat) * 2 ^ 8 by omega, o1 _ d.toNat 8 (by omega)]
  simp
  omega
/-! ### The eight values, moved on -/
def vAt (s : S8) (i : Nat) : List Value := s.list.take (i + 1) ++ (s.list.drop i).take (7 - i)
theorem vAt_7 (s : S8) : vAt s 7 = s.list := rfl
theorem vAt_step (s : S8) (i : Nat) (h : i < 7) : (vAt s (i + 1)).set (i + 1) (W32 ([s.a, s.b, s.c, s.d, s.e, s.f, s.g, s.h].getD i 0)) = vAt s i ∧ (vAt s (i + 1))[i]? = some (W32 ([s.a, s.b, s.c, s.d, s.e, s.f, s.g, s.h].getD i 0)) := by
  have : i = 0 ∨ i = 1 ∨ i = 2 ∨ i = 3 ∨ i = 4 ∨ i = 5 ∨ i = 6 := by omega
  rcases this with rfl | rfl | rfl | rfl | rfl | rfl | rfl <;> exact ⟨rfl, rfl⟩
theorem vAt_length (s : S8) (i : Nat) (h : i ≤ 7) : (vAt s i).length = 8 := by
  have hs : s.list.length = 8 := rfl
  simp [vAt, hs]
  omega
theorem vAt_0 (s : S8) (t1 t2 : UInt32) : ((vAt s 0).set 4 (W32 (s.d + t1))).set 0 (W32 (t1 + t2)) = [W32 (t1 + t2), W32 s.a, W32 s.b, W32 s.c, W32 (s.d + t1), W32 s.e, W32 s.f, W32 s.g] := rfl

/-- What ref Compress keeps in memory. -/
structure RB (w wr : World) (g6 g7 : Nat) (s2 w5 v7 : List Value) : Prop where
  later : Later w wr
  b2 : Blk wr w.heap.size 31 s2
  b4 : Blk wr (w.heap.size + 1) 31 (List.replicate 8 (W32 0))
  b5 : Blk wr (w.heap.size + 1 + 1) 33 w5
  b6 : Blk wr g6 33 (shaK.map W32)
  b7 : Blk wr g7 31 v7
  lt6 : w.heap.size + 3 ≤ g6
  lt7 : g6 + 1 ≤ g7
section
variable {w wr w' : World} {g6 g7 : Nat} {s2 w5 v7 : List Value}
theorem RB.go (h : RB w wr g6 g7 s2 w5 v7) (hl : Later wr w') : RB w w' g6 g7 s2 w5 v7 :=
  ⟨h.later.trans hl, h.b2.later hl, h.b4.later hl, h.b5.later hl, h.b6.later hl, h.b7.later hl, h.lt6, h.lt7⟩
theorem RB.on2 {l : List Value} (h : RB w wr g6 g7 s2 w5 v7) (ho : Only w.heap.size wr w') (hb : Blk w' w.heap.size 31 l) : RB w w' g6 g7 l w5 v7 :=
  have := h.lt6
  have := h.lt7
  ⟨h.later.only ho (by omega), hb, h.b4.only ho (by omega), h.b5.only ho (by omega), h.b6.only ho (by omega), h.b7.only ho (by omega), h.lt6, h.lt7⟩
theorem RB.on5 {l : List Value} (h : RB w wr g6 g7 s2 w5 v7) (ho : Only (w.heap.size + 1 + 1) wr w') (hb : Blk w' (w.heap.size + 1 + 1) 33 l) : RB w w' g6 g7 s2 l v7 :=
  have := h.lt6
  have := h.lt7
  ⟨h.later.only ho (by omega), h.b2.only ho (by omega), h.b4.only ho (by omega), hb, h.b6.only ho (by omega), h.b7.only ho (by omega), h.lt6, h.lt7⟩
theorem RB.on7 {l : List Value} (h : RB w wr g6 g7 s2 w5 v7) (ho : Only g7 wr w') (hb : Blk w' g7 31 l) : RB w w' g6 g7 s2 w5 l :=
  have := h.lt6
  have := h.lt7
  ⟨h.later.only ho (by omega), h.b2.only ho (by omega), h.b4.only ho (by omega), h.b5.only ho (by omega), h.b6.only ho (by omega), hb, h.lt6, h.lt7⟩
end
def addAt (s v : S8) (j : Nat) : List Value := (S8.add s v).list.take j ++ s.list.drop j
def S8.wds (s : S8) : List UInt32 := [s.a, s.b, s.c, s.d, s.e, s.f, s.g, s.h]
theorem addAt_step (s v : S8) (j : Nat) (h : j < 8) : (addAt s v j).set j (W32 (s.wds.getD j 0 + v.wds.getD j 0)) = addAt s v (j + 1) ∧ (addAt s v j)[j]? = some (W32 (s.wds.getD j 0)) ∧ v.list[j]? = some (W32 (v.wds.getD j 0)) := by
  have : j = 0 ∨ j = 1 ∨ j = 2 ∨ j = 3 ∨ j = 4 ∨ j = 5 ∨ j = 6 ∨ j = 7 := by omega
  rcases this with rfl | rfl | rfl | rfl | rfl | rfl | rfl | rfl <;> exact ⟨rfl, rfl, rfl⟩
theorem addAt_length (s v : S8) (j : Nat) (h : j ≤ 8) : (addAt s v j).length = 8 := by
  have h1 : s.list.length = 8 := rfl
  have h2 : (S8.add s v).list.length = 8 := rfl
  simp [addAt, h1, h2]
  omega
theorem schedArr_set (bs : List UInt8) (k : Nat) (h : k < 64) : (schedArr bs k).set k (W32 0) = schedArr bs k := by
  have := schedArr_old bs k h
  obtain ⟨hlt, he⟩ := List.getElem?_eq_some_iff.1 this
  rw [← he, List.set_getElem_self]
set_option maxRecDepth 100000 in
set_option maxHeartbeats 4000000 in
theorem ref_compress (s : S8) (A : Option Addr) (c : Nat) (bs : List UInt8) (w : World) (hr : RdB w A 64 bs) :
    Calls Try.prog 30 #[.agg s.list.toArray, .slice A 64 c] w fun e w' => e = .returned (.agg (shaComp s bs).list.toArray) ∧ Later w w' := by
  obtain ⟨b, o, rfl, hb, hc⟩ := hr.at_ (by omega)
  generalize hF : shaComp s bs = F
  have HF := hid hF
  clear hF hr
  have hS0 := Blk.new w 31 s.list
  have hsl : s.list.length = 8 := rfl
  have hs1 := s8_one s
  generalize hSl : s.list = sl at *
  have HSl := hid hSl
  clear hSl
  go_enter Try.func30, Try.ntmps30
  go_wp2_with (first
    | (go_at_call 65; refine (table_any _).mono ?_; rintro e w1 ⟨rfl, hl1⟩)
    | (refine wpList_store_agg rfl rfl 33 _ _ rfl w1.heap.size 0 33 (List.replicate 64 (W32 0)) (shaK.map W32) ?b ?hx ?hy ?hi ?hf ?h1 ?_; (case hx => rfl); (case hy => rfl); (case hi => kernel_rfl); (case hf => decide); (case h1 => exact w32_one _); (case b => exact Blk.new _ _ _); intro w2 hb2 ho2
       rw [spliced_all _ _ (by rfl)] at hb2
       have hS2 : Blk w2 w.heap.size 31 sl := ((((hS0.later (later_alloc _ _)).later (later_alloc _ _)).later hl1).later (later_alloc _ _)).only ho2 (by have := hl1.size; simp at this; omega))
    | (refine wpList_load_agg rfl 31 _ rfl w.heap.size 0 sl ?hc ?hx _ Try.underlying31 rfl ?hi ?_; (case hx => rfl); (case hi => rw [hsl]; kernel_rfl); (case hc => intro j v hv; rw [Nat.zero_add]; exact hS2.cellD j hv))
    | (refine wpList_store_agg rfl rfl 31 _ _ rfl w2.heap.size 0 31 (List.replicate 8 (W32 0)) sl ?b ?hx ?hy ?hi ?hf ?h1 ?_; (case hx => rfl); (case hy => rfl); (case hi => rw [hsl]; kernel_rfl); (case hf => rw [hsl]; decide); (case h1 => exact hs1); (case b => exact Blk.new _ _ _); intro w3 hb3 ho3))
  rw [spliced_all _ _ (by rw [hsl]; rfl)] at hb3
  have z1 : w.heap.size + 3 ≤ w1.heap.size := by have := hl1.size; simp at this; omega
  have z2 : w1.heap.size + 1 ≤ w2.heap.size := by have := ho2.size; simpa using this
  have hR : Blk w3 (w.heap.size + 1) 31 (List.replicate 8 (W32 0)) :=
    (((((Blk.new' _ _ (List.replicate 8 (W32 0)) (by simp)).later (later_alloc _ _)).later hl1).later (later_alloc _ _)).only ho2 (by omega) |>.later (later_alloc _ _)).only ho3 (by omega)
  have hW : Blk w3 (w.heap.size + 1 + 1) 33 (schedArr bs 0) :=
    ((((Blk.new' _ _ (schedArr bs 0) (by simp)).later hl1).later (later_alloc _ _)).only ho2 (by omega) |>.later (later_alloc _ _)).only ho3 (by omega)
  have hS3 := (hS2.later (later_alloc _ _)).only ho3 (by omega)
  have hT3 := (hb2.later (later_alloc _ _)).only ho3 (by omega)
  have hl3 : Later w w3 := (((((((Later.refl w).alloc _).alloc _).alloc _).trans hl1).alloc _).only ho2 (by omega) |>.alloc _).only ho3 (by omega)
  have hRB : RB w w3 w1.heap.size w2.heap.size sl (schedArr bs 0) sl := ⟨hl3, hS3, hR, hW, hT3, hb3, z1, z2⟩
  clear hS0 hl1 hb2 ho2 hS2 ho3 hR hW hS3 hT3 hl3 hb3
  generalize hg6 : w1.heap.size = g6 at *
  generalize hg7 : w2.heap.size = g7 at *
  clear hg6 hg7
  go_loopw [8] (fun i wr => ∃ (k : Nat) (v : S8), k ≤ 64 ∧ i = .int .i64 k ∧ Hid (shaRounds (sched bs 64) k s = v) ∧ RB w wr g6 g7 sl (schedArr bs k) v.list) (fun i _ => 64 - (intOf i).toNat)
  case atStart => exact ⟨0, s, by omega, rfl, hid rfl, by rw [HSl.out]; exact hRB⟩
  case round =>
    clear hRB
    obtain ⟨k, v, hk, rfl, hv, hm⟩ := hrel
    by_cases hlt : k < 64
    · by_cases h16 : k < 16
      · have hset := schedArr_set bs k hlt
        go_wp2
        go_loopw [9] (fun i wr' => ∃ j : Nat, j ≤ 4 ∧ i = .int .i64 j ∧ RB w wr' g6 g7 sl ((schedArr bs k).set k (W32 (partW bs k j))) v.list) (fun i _ => 4 - (intOf i).toNat)
        case atStart => exact ⟨0, by omega, rfl, by rw [partW, hset]; exact hm⟩
        case round =>
          clear hm
          obtain ⟨j, hj, rfl, hm⟩ := hrel
          by_cases hj4 : j < 4
          · have d0 := hm.b5.cellD k (u := W32 (partW bs k j)) (by rw [List.getElem?_set_self (by rw [schedArr_length bs k hk]; exact hlt)])
            have hlen := schedArr_length bs k hk
            have c0 : wr.cell? ⟨b, o + (4 * k + j), none⟩ = some (W8 (byteAt bs (4 * k + j))) := (hm.later.below.cell (p := ⟨b, o + (4 * k + j), none⟩) hb).trans (hc _ (by omega))
            go_wp2
            refine wp_region_parts [] [0, 1, 2, 3, 4, 5, 6, 7, 8, 9, 10, 11, 12, 13, 14] [15] (by as_aux_lemma => kernel_rfl) (by as_aux_lemma => kernel_rfl) (by intro _ _ d _ _ h; cases d <;> exact h) ?_
            simp only [wpParts, pick, List.getElem?_cons_succ, List.getElem?_cons_zero, Option.toList_some, List.cons_append, List.nil_append]
            repeat (go_big_quiet_step (fail))
            refine wpQuiet_nil ?_
            have hm1 := hm.go (later_drew _)
            go_wp2_with (first
              | (refine wpList_store_in rfl rfl _ _ _ rfl _ _ _ _ hm1.b5 rfl ?hl rfl (by kernel_rfl) ?_; (case hl => simp [hlen]; omega); intro v' w5 hv' hb5 ho5; simp [go_sem] at hv'; subst hv'))
            have hm2 := hm1.on5 ho5 hb5
            rw [List.set_set] at hm2
            go_roundw
            case rel => exact ⟨j + 1, by omega, by go_num, hm2⟩
            case measure => simp [intOf]; omega
          · as_aux_lemma =>
              have hj4' : j = 4 := by omega
              rw [hj4', partW_4, show wordAt bs k = nextW bs (sched bs k) k by rw [nextW, if_pos h16], schedArr_step bs k hlt] at hm
              clear hset
              have hwk := sched_stable bs k 64 hlt
              have hget := schedArr_get bs (k + 1) k (by omega)
              rw [← hwk] at hget
              have d5 := hm.b5.cellD k hget
              have d6 := hm.b6.cellD k (shaK_get k hlt)
              generalize hWK : wAt (sched bs 64) k = wk at *
              generalize hKK : wAt shaK k = kk at *
              have HWK := hid hWK
              have HKK := hid hKK
              clear hWK hKK hwk hget
              obtain ⟨v0, v1, v2, v3, v4, v5, v6, v7⟩ := v
              have c0 := hm.b7.cellD 0 rfl
              have c1 := hm.b7.cellD 1 rfl
              have c2 := hm.b7.cellD 2 rfl
              have c3 := hm.b7.cellD 3 rfl
              have c4 := hm.b7.cellD 4 rfl
              have c5 := hm.b7.cellD 5 rfl
              have c6 := hm.b7.cellD 6 rfl
              have c7 := hm.b7.cellD 7 rfl
              go_wp2
              refine wp_region_parts [([0, 1, 2, 3, 5, 6, 9, 10, 14, 16, 17, 18, 20, 21, 22], 4), ([], 7), ([8], 11)] [12, 13, 15, 19, 23, 24] [] (by as_aux_lemma => kernel_rfl) (by as_aux_lemma => kernel_rfl) (by intro _ _ d _ _ h; cases d <;> exact h) ?_
              simp only [wpParts, pick, List.getElem?_cons_succ, List.getElem?_cons_zero, Option.toList_some, List.cons_append, List.nil_append]
              repeat (go_big_quiet_step (fail))
              refine wpQuiet_nil ?_
              go_wp2_with (go_at_call 66; refine (right_refI _ _ (by omega) (by omega) _).mono ?_; rintro e w' ⟨rfl, rfl⟩)
              try refine ⟨by first | assumption | exact later_drew _ | exact later_alloc _ _ | exact Later.refl _, ?_⟩
              try simp only [wpParts, pick, List.getElem?_cons_succ, List.getElem?_cons_zero, Option.toList_some, List.cons_append, List.nil_append]
              repeat (go_big_quiet_step (fail))
              refine wpQuiet_nil ?_
              go_wp2_with (go_at_call 66; refine (right_refI _ _ (by omega) (by omega) _).mono ?_; rintro e w' ⟨rfl, rfl⟩)
              try refine ⟨by first | assumption | exact later_drew _ | exact later_alloc _ _ | exact Later.refl _, ?_⟩
              try simp only [wpParts, pick, List.getElem?_cons_succ, List.getElem?_cons_zero, Option.toList_some, List.cons_append, List.nil_append]
              repeat (go_big_quiet_step (fail))
              refine wpQuiet_nil ?_
              go_wp2_with (go_at_call 66; refine (right_refI _ _ (by omega) (by omega) _).mono ?_; rintro e w' ⟨rfl, rfl⟩)
              try refine ⟨by first | assumption | exact later_drew _ | exact later_alloc _ _ | exact Later.refl _, ?_⟩
              try simp only [wpParts, pick, List.getElem?_cons_succ, List.getElem?_cons_zero, Option.toList_some, List.cons_append, List.nil_append]
              repeat (go_big_quiet_step (fail))
              refine wpQuiet_nil ?_
              go_wp2
              refine wp_region_parts [([0, 1, 3, 4, 7, 8, 11], 2), ([], 5), ([6], 9)] [10, 12, 13] [] (by as_aux_lemma => kernel_rfl) (by as_aux_lemma => kernel_rfl) (by intro _ _ d _ _ h; cases d <;> exact h) ?_
              simp only [wpParts, pick, List.getElem?_cons_succ, List.getElem?_cons_zero, Option.toList_some, List.cons_append, List.nil_append]
              repeat (go_big_quiet_step (fail))
              refine wpQuiet_nil ?_
              go_wp2_with (go_at_call 66; refine (right_refI _ _ (by omega) (by omega) _).mono ?_; rintro e w' ⟨rfl, rfl⟩)
              try refine ⟨by first | assumption | exact later_drew _ | exact later_alloc _ _ | exact Later.refl _, ?_⟩
              try simp only [wpParts, pick, List.getElem?_cons_succ, List.getElem?_cons_zero, Option.toList_some, List.cons_append, List.nil_append]
              repeat (go_big_quiet_step (fail))
              refine wpQuiet_nil ?_
              go_wp2_with (go_at_call 66; refine (right_refI _ _ (by omega) (by omega) _).mono ?_; rintro e w' ⟨rfl, rfl⟩)
              try refine ⟨by first | assumption | exact later_drew _ | exact later_alloc _ _ | exact Later.refl _, ?_⟩
              try simp only [wpParts, pick, List.getElem?_cons_succ, List.getElem?_cons_zero, Option.toList_some, List.cons_append, List.nil_append]
              repeat (go_big_quiet_step (fail))
              refine wpQuiet_nil ?_
              go_wp2_with (go_at_call 66; refine (right_refI _ _ (by omega) (by omega) _).mono ?_; rintro e w' ⟨rfl, rfl⟩)
              try refine ⟨by first | assumption | exact later_drew _ | exact later_alloc _ _ | exact Later.refl _, ?_⟩
              try simp only [wpParts, pick, List.getElem?_cons_succ, List.getElem?_cons_zero, Option.toList_some, List.cons_append, List.nil_append]
              repeat (go_big_quiet_step (fail))
              refine wpQuiet_nil ?_
              go_wp2
              have hmr : RB w _ g6 g7 sl (schedArr bs (k + 1)) (vAt ⟨v0, v1, v2, v3, v4, v5, v6, v7⟩ 7) := hm.go (w' := wr.drew.drew.drew.drew.drew.drew.drew.drew) ((Later.refl wr).drewN 8)
              clear c0 c1 c2 c3 c4 c5 c6 c7 d5 d6 hm
              generalize hT1 : v7 + (rotr v4 6 ^^^ rotr v4 11 ^^^ rotr v4 25) + (v4 &&& v5 ^^^ ~~~v4 &&& v6) + kk + wk = t1
              generalize hT2 : (rotr v0 2 ^^^ rotr v0 13 ^^^ rotr v0 22) + (v0 &&& v1 ^^^ v0 &&& v2 ^^^ v1 &&& v2) = t2
              have HT1 := hid hT1
              have HT2 := hid hT2
              clear hT1 hT2
              generalize hSV : (⟨v0, v1, v2, v3, v4, v5, v6, v7⟩ : S8) = sv at *
              go_loopw [16] (fun i wr => ∃ j : Nat, j ≤ 7 ∧ i = .int .i64 j ∧ RB w wr g6 g7 sl (schedArr bs (k + 1)) (vAt sv j)) (fun i _ => (intOf i).toNat)
              case atStart => exact ⟨7, by omega, rfl, hmr⟩
              case round =>
                clear hmr
                obtain ⟨j, hj, rfl, hm⟩ := hrel
                by_cases hj0 : 0 < j
                · obtain ⟨i, rfl⟩ : ∃ i, j = i + 1 := ⟨j - 1, by omega⟩
                  have hstep := vAt_step sv i (by omega)
                  have hvl := vAt_length sv (i + 1) hj
                  have e0 := hm.b7.cellD i hstep.2
                  have HST := hid hstep.1
                  clear hstep
                  generalize hXX : [sv.a, sv.b, sv.c, sv.d, sv.e, sv.f, sv.g, sv.h].getD i 0 = xx at *
                  clear hXX
                  go_wp2_with (first
                    | (refine wpList_store_in rfl rfl _ _ _ rfl _ _ _ _ hm.b7 rfl ?hl rfl (by kernel_rfl) ?_; (case hl => omega); intro v' w5 hv' hb5 ho5; simp [go_sem] at hv'; subst hv'))
                  rw [HST.out] at hb5
                  have hm2 := hm.on7 ho5 hb5
                  go_roundw
                  case rel => exact ⟨i, by omega, by go_num, hm2⟩
                  case measure => simp only [intOf]; omega
                · obtain rfl : j = 0 := by omega
                  have e3 := hm.b7.cellD 4 (u := W32 v3) (by rw [← hSV]; rfl)
                  have hvl := vAt_length sv 0 (by omega)
                  go_wp2_with (first
                    | (refine wpList_store_in rfl rfl _ _ _ rfl _ _ _ _ hm.b7 rfl ?hl rfl (by kernel_rfl) ?_; (case hl => omega); intro v' w5 hv' hb5 ho5; simp [go_sem] at hv'; subst hv')
                    | (refine wpList_store_in rfl rfl _ _ _ rfl _ _ _ _ hb5 rfl ?hl rfl (by kernel_rfl) ?_; (case hl => simp [hvl]); intro v' w6 hv' hb6 ho6; simp [go_sem] at hv'; subst hv'))
                  have hm2 := hm.on7 (ho5.trans ho6) hb6
                  go_roundw
                  case rel =>
                    refine ⟨k + 1, shaRound (wAt shaK k) (wAt (sched bs 64) k) sv, by omega, by go_num, hid (by rw [shaRounds, hv.out]), ?_⟩
                    rw [← hSV] at hm2
                    rw [vAt_0 ⟨v0, v1, v2, v3, v4, v5, v6, v7⟩ t1 t2, ← HT1.out, ← HT2.out, ← HWK.out, ← HKK.out] at hm2
                    rw [← hSV]
                    exact hm2
                  case measure => simp [intOf]; omega
      · as_aux_lemma =>
          have c15 := hm.b5.cellD (k - 15) (schedArr_get bs k (k - 15) (by omega))
          have c2 := hm.b5.cellD (k - 2) (schedArr_get bs k (k - 2) (by omega))
          have c7 := hm.b5.cellD (k - 7) (schedArr_get bs k (k - 7) (by omega))
          have c16 := hm.b5.cellD (k - 16) (schedArr_get bs k (k - 16) (by omega))
          have hlen := schedArr_length bs k hk
          have hstep := schedArr_step bs k hlt
          rw [nextW, if_neg h16, ssig0, ssig1] at hstep
          have HS5 := hid hstep
          clear hstep
          generalize wAt (sched bs k) (k - 15) = x15 at *
          generalize wAt (sched bs k) (k - 2) = x2 at *
          generalize wAt (sched bs k) (k - 7) = x7 at *
          generalize wAt (sched bs k) (k - 16) = x16 at *
          go_wp2
          refine wp_region_parts [] [0, 1, 2, 3, 4, 5, 6, 7, 8, 9] [] (by as_aux_lemma => kernel_rfl) (by as_aux_lemma => kernel_rfl) (by intro _ _ d _ _ h; cases d <;> exact h) ?_
          simp only [wpParts, pick, List.getElem?_cons_succ, List.getElem?_cons_zero, Option.toList_some, List.cons_append, List.nil_append]
          repeat (go_big_quiet_step (fail))
          refine wpQuiet_nil ?_
          go_wp2
          refine wp_region_parts [([0, 1, 3, 6, 7, 9, 10, 11, 12, 14, 16, 19, 20, 23, 24, 25, 26], 2), ([], 4), ([5, 8, 13], 15), ([], 17)] [18, 21, 22, 27, 28] [29] (by as_aux_lemma => kernel_rfl) (by as_aux_lemma => kernel_rfl) (by intro _ _ d _ _ h; cases d <;> exact h) ?_
          simp only [wpParts, pick, List.getElem?_cons_succ, List.getElem?_cons_zero, Option.toList_some, List.cons_append, List.nil_append]
          repeat (go_big_quiet_step (fail))
          refine wpQuiet_nil ?_
          go_wp2_with (go_at_call 66; refine (right_refI _ _ (by omega) (by omega) _).mono ?_; rintro e w' ⟨rfl, rfl⟩)
          try refine ⟨by first | assumption | exact later_drew _ | exact later_alloc _ _ | exact Later.refl _, ?_⟩
          try simp only [wpParts, pick, List.getElem?_cons_succ, List.getElem?_cons_zero, Option.toList_some, List.cons_append, List.nil_append]
          repeat (go_big_quiet_step (fail))
          refine wpQuiet_nil ?_
          go_wp2_with (go_at_call 66; refine (right_refI _ _ (by omega) (by omega) _).mono ?_; rintro e w' ⟨rfl, rfl⟩)
          try refine ⟨by first | assumption | exact later_drew _ | exact later_alloc _ _ | exact Later.refl _, ?_⟩
          try simp only [wpParts, pick, List.getElem?_cons_succ, List.getElem?_cons_zero, Option.toList_some, List.cons_append, List.nil_append]
          repeat (go_big_quiet_step (fail))
          refine wpQuiet_nil ?_
          go_wp2_with (go_at_call 66; refine (right_refI _ _ (by omega) (by omega) _).mono ?_; rintro e w' ⟨rfl, rfl⟩)
          try refine ⟨by first | assumption | exact later_drew _ | exact later_alloc _ _ | exact Later.refl _, ?_⟩
          try simp only [wpParts, pick, List.getElem?_cons_succ, List.getElem?_cons_zero, Option.toList_some, List.cons_append, List.nil_append]
          repeat (go_big_quiet_step (fail))
          refine wpQuiet_nil ?_
          go_wp2_with (go_at_call 66; refine (right_refI _ _ (by omega) (by omega) _).mono ?_; rintro e w' ⟨rfl, rfl⟩)
          try refine ⟨by first | assumption | exact later_drew _ | exact later_alloc _ _ | exact Later.refl _, ?_⟩
          try simp only [wpParts, pick, List.getElem?_cons_succ, List.getElem?_cons_zero, Option.toList_some, List.cons_append, List.nil_append]
          repeat (go_big_quiet_step (fail))
          refine wpQuiet_nil ?_
          clear c15 c2 c7 c16
          have hm1 : RB w _ g6 g7 sl (schedArr bs k) v.list := hm.go (w' := wr.drew.drew.drew.drew.drew.drew) ((Later.refl wr).drewN 6)
          obtain ⟨v0, v1, v2, v3, v4, v5, v6, v7⟩ := v
          go_wp2_with (first
            | (refine wpList_store_in rfl rfl _ _ _ rfl _ _ _ _ hm1.b5 rfl ?hl rfl (by kernel_rfl) ?_; (case hl => omega); intro v' w5 hv' hb5 ho5; simp [go_sem] at hv'; subst hv'
               have hm := hm1.on5 ho5 hb5
               rw [HS5.out] at hm
               have hwk := sched_stable bs k 64 hlt
               have hget := schedArr_get bs (k + 1) k (by omega)
               rw [← hwk] at hget
               have d5 := hm.b5.cellD k hget
               have d6 := hm.b6.cellD k (shaK_get k hlt)
               generalize hWK : wAt (sched bs 64) k = wk at *
               generalize hKK : wAt shaK k = kk at *
               have HWK := hid hWK
               have HKK := hid hKK
               clear hWK hKK hwk hget
               have c0 := hm.b7.cellD 0 rfl
               have c1 := hm.b7.cellD 1 rfl
               have c2 := hm.b7.cellD 2 rfl
               have c3 := hm.b7.cellD 3 rfl
               have c4 := hm.b7.cellD 4 rfl
               have c5 := hm.b7.cellD 5 rfl
               have c6 := hm.b7.cellD 6 rfl
               have c7 := hm.b7.cellD 7 rfl
               skip))
          refine wp_region_parts [([0, 1, 2, 3, 5, 6, 9, 10, 14, 16, 17, 18, 20, 21, 22], 4), ([], 7), ([8], 11)] [12, 13, 15, 19, 23, 24] [] (by as_aux_lemma => kernel_rfl) (by as_aux_lemma => kernel_rfl) (by intro _ _ d _ _ h; cases d <;> exact h) ?_
          simp only [wpParts, pick, List.getElem?_cons_succ, List.getElem?_cons_zero, Option.toList_some, List.cons_append, List.nil_append]
          repeat (go_big_quiet_step (fail))
          refine wpQuiet_nil ?_
          go_wp2_with (go_at_call 66; refine (right_refI _ _ (by omega) (by omega) _).mono ?_; rintro e w' ⟨rfl, rfl⟩)
          try refine ⟨by first | assumption | exact later_drew _ | exact later_alloc _ _ | exact Later.refl _, ?_⟩
          try simp only [wpParts, pick, List.getElem?_cons_succ, List.getElem?_cons_zero, Option.toList_some, List.cons_append, List.nil_append]
          repeat (go_big_quiet_step (fail))
          refine wpQuiet_nil ?_
          go_wp2_with (go_at_call 66; refine (right_refI _ _ (by omega) (by omega) _).mono ?_; rintro e w' ⟨rfl, rfl⟩)
          try refine ⟨by first | assumption | exact later_drew _ | exact later_alloc _ _ | exact Later.refl _, ?_⟩
          try simp only [wpParts, pick, List.getElem?_cons_succ, List.getElem?_cons_zero, Option.toList_some, List.cons_append, List.nil_append]
          repeat (go_big_quiet_step (fail))
          refine wpQuiet_nil ?_
          go_wp2_with (go_at_call 66; refine (right_refI _ _ (by omega) (by omega) _).mono ?_; rintro e w' ⟨rfl, rfl⟩)
          try refine ⟨by first | assumption | exact later_drew _ | exact later_alloc _ _ | exact Later.refl _, ?_⟩
          try simp only [wpParts, pick, List.getElem?_cons_succ, List.getElem?_cons_zero, Option.toList_some, List.cons_append, List.nil_append]
          repeat (go_big_quiet_step (fail))
          refine wpQuiet_nil ?_
          go_wp2
          refine wp_region_parts [([0, 1, 3, 4, 7, 8, 11], 2), ([], 5), ([6], 9)] [10, 12, 13] [] (by as_aux_lemma => kernel_rfl) (by as_aux_lemma => kernel_rfl) (by intro _ _ d _ _ h; cases d <;> exact h) ?_
          simp only [wpParts, pick, List.getElem?_cons_succ, List.getElem?_cons_zero, Option.toList_some, List.cons_append, List.nil_append]
          repeat (go_big_quiet_step (fail))
          refine wpQuiet_nil ?_
          go_wp2_with (go_at_call 66; refine (right_refI _ _ (by omega) (by omega) _).mono ?_; rintro e w' ⟨rfl, rfl⟩)
          try refine ⟨by first | assumption | exact later_drew _ | exact later_alloc _ _ | exact Later.refl _, ?_⟩
          try simp only [wpParts, pick, List.getElem?_cons_succ, List.getElem?_cons_zero, Option.toList_some, List.cons_append, List.nil_append]
          repeat (go_big_quiet_step (fail))
          refine wpQuiet_nil ?_
          go_wp2_with (go_at_call 66; refine (right_refI _ _ (by omega) (by omega) _).mono ?_; rintro e w' ⟨rfl, rfl⟩)
          try refine ⟨by first | assumption | exact later_drew _ | exact later_alloc _ _ | exact Later.refl _, ?_⟩
          try simp only [wpParts, pick, List.getElem?_cons_succ, List.getElem?_cons_zero, Option.toList_some, List.cons_append, List.nil_append]
          repeat (go_big_quiet_step (fail))
          refine wpQuiet_nil ?_
          go_wp2_with (go_at_call 66; refine (right_refI _ _ (by omega) (by omega) _).mono ?_; rintro e w' ⟨rfl, rfl⟩)
          try refine ⟨by first | assumption | exact later_drew _ | exact later_alloc _ _ | exact Later.refl _, ?_⟩
          try simp only [wpParts, pick, List.getElem?_cons_succ, List.getElem?_cons_zero, Option.toList_some, List.cons_append, List.nil_append]
          repeat (go_big_quiet_step (fail))
          refine wpQuiet_nil ?_
          go_wp2
          have hmr : RB w _ g6 g7 sl (schedArr bs (k + 1)) (vAt ⟨v0, v1, v2, v3, v4, v5, v6, v7⟩ 7) := hm.go (w' := w5.drew.drew.drew.drew.drew.drew.drew.drew) ((Later.refl w5).drewN 8)
          clear c0 c1 c2 c3 c4 c5 c6 c7 d5 d6 hm
          generalize hT1 : v7 + (rotr v4 6 ^^^ rotr v4 11 ^^^ rotr v4 25) + (v4 &&& v5 ^^^ ~~~v4 &&& v6) + kk + wk = t1
          generalize hT2 : (rotr v0 2 ^^^ rotr v0 13 ^^^ rotr v0 22) + (v0 &&& v1 ^^^ v0 &&& v2 ^^^ v1 &&& v2) = t2
          have HT1 := hid hT1
          have HT2 := hid hT2
          clear hT1 hT2
          generalize hSV : (⟨v0, v1, v2, v3, v4, v5, v6, v7⟩ : S8) = sv at *
          go_loopw [16] (fun i wr => ∃ j : Nat, j ≤ 7 ∧ i = .int .i64 j ∧ RB w wr g6 g7 sl (schedArr bs (k + 1)) (vAt sv j)) (fun i _ => (intOf i).toNat)
          case atStart => exact ⟨7, by omega, rfl, hmr⟩
          case round =>
            clear hmr
            obtain ⟨j, hj, rfl, hm⟩ := hrel
            by_cases hj0 : 0 < j
            · obtain ⟨i, rfl⟩ : ∃ i, j = i + 1 := ⟨j - 1, by omega⟩
              have hstep := vAt_step sv i (by omega)
              have hvl := vAt_length sv (i + 1) hj
              have e0 := hm.b7.cellD i hstep.2
              have HST := hid hstep.1
              clear hstep
              generalize hXX : [sv.a, sv.b, sv.c, sv.d, sv.e, sv.f, sv.g, sv.h].getD i 0 = xx at *
              clear hXX
              go_wp2_with (first
                | (refine wpList_store_in rfl rfl _ _ _ rfl _ _ _ _ hm.b7 rfl ?hl rfl (by kernel_rfl) ?_; (case hl => omega); intro v' w5 hv' hb5 ho5; simp [go_sem] at hv'; subst hv'))
              rw [HST.out] at hb5
              have hm2 := hm.on7 ho5 hb5
              go_roundw
              case rel => exact ⟨i, by omega, by go_num, hm2⟩
              case measure => simp only [intOf]; omega
            · obtain rfl : j = 0 := by omega
              have e3 := hm.b7.cellD 4 (u := W32 v3) (by rw [← hSV]; rfl)
              have hvl := vAt_length sv 0 (by omega)
              go_wp2_with (first
                | (refine wpList_store_in rfl rfl _ _ _ rfl _ _ _ _ hm.b7 rfl ?hl rfl (by kernel_rfl) ?_; (case hl => omega); intro v' w5 hv' hb5 ho5; simp [go_sem] at hv'; subst hv')
                | (refine wpList_store_in rfl rfl _ _ _ rfl _ _ _ _ hb5 rfl ?hl rfl (by kernel_rfl) ?_; (case hl => simp [hvl]); intro v' w6 hv' hb6 ho6; simp [go_sem] at hv'; subst hv'))
              have hm2 := hm.on7 (ho5.trans ho6) hb6
              go_roundw
              case rel =>
                refine ⟨k + 1, shaRound (wAt shaK k) (wAt (sched bs 64) k) sv, by omega, by go_num, hid (by rw [shaRounds, hv.out]), ?_⟩
                rw [← hSV] at hm2
                rw [vAt_0 ⟨v0, v1, v2, v3, v4, v5, v6, v7⟩ t1 t2, ← HT1.out, ← HT2.out, ← HWK.out, ← HKK.out] at hm2
                rw [← hSV]
                exact hm2
              case measure => simp [intOf]; omega
    · as_aux_lemma =>
        have hk64 : k = 64 := by omega
        rw [hk64] at hv hm
        clear hk64
        have hsa : sl = addAt s v 0 := by rw [← HSl.out]; rfl
        rw [hsa] at hm
        go_wp2
        go_loopw [17] (fun i wr => ∃ j : Nat, j ≤ 8 ∧ i = .int .i64 j ∧ RB w wr g6 g7 (addAt s v j) (schedArr bs 64) v.list) (fun i _ => 8 - (intOf i).toNat)
        case atStart => exact ⟨0, by omega, rfl, hm⟩
        case round =>
          clear hm
          obtain ⟨j, hj, rfl, hm⟩ := hrel
          by_cases hj8 : j < 8
          · have hstep := addAt_step s v j hj8
            have hal := addAt_length s v j hj
            have d2 := hm.b2.cellD j hstep.2.1
            have d7 := hm.b7.cellD j hstep.2.2
            have HST := hid hstep.1
            clear hstep
            generalize s.wds.getD j 0 = xs at *
            generalize v.wds.getD j 0 = xv at *
            go_wp2
            refine wp_region_parts [] [0, 1, 2, 3, 4, 5, 6, 7, 8] [9] (by as_aux_lemma => kernel_rfl) (by as_aux_lemma => kernel_rfl) (by intro _ _ d _ _ h; cases d <;> exact h) ?_
            simp only [wpParts, pick, List.getElem?_cons_succ, List.getElem?_cons_zero, Option.toList_some, List.cons_append, List.nil_append]
            repeat (go_big_quiet_step (fail))
            refine wpQuiet_nil ?_
            have hm1 := hm.go (later_drew _)
            go_wp2_with (first
              | (refine wpList_store_in rfl rfl _ _ _ rfl _ _ _ _ hm1.b2 rfl ?hl rfl (by kernel_rfl) ?_; (case hl => omega); intro v' w5 hv' hb5 ho5; simp [go_sem] at hv'; subst hv'))
            have hm2 := hm1.on2 ho5 hb5
            rw [HST.out] at hm2
            go_roundw
            case rel => exact ⟨j + 1, by omega, by go_num, hm2⟩
            case measure => simp only [intOf]; omega
          · have hj8' : j = 8 := by omega
            rw [hj8'] at hm
            have hfin : addAt s v 8 = F.list := by rw [← HF.out, shaComp, hv.out]; rfl
            rw [hfin] at hm
            have hfl : F.list.length = 8 := rfl
            have hf1 := s8_one F
            go_wp2_with (first
              | (refine wpList_load_agg rfl 31 _ rfl w.heap.size 0 F.list ?hc ?hx _ Try.underlying31 rfl ?hi ?_; (case hx => rfl); (case hi => kernel_rfl); (case hc => intro j v hv; rw [Nat.zero_add]; exact hm.b2.cellD j hv); refine Hid.out ?_))
            refine hid ?_
            refine wpList_store_agg rfl rfl 31 _ _ rfl (w.heap.size + 1) 0 31 (List.replicate 8 (W32 0)) F.list hm.b4 ?hx ?hy ?hi ?hf hf1 ?_
            case hx => rfl
            case hy => rfl
            case hi => rw [hfl]; kernel_rfl
            case hf => rw [hfl]; decide
            intro w9 hb9 ho9
            go_wp2
            rw [spliced_all _ _ (by rfl)] at hb9
            exact bodyPost_ret (results_blk rfl _ _ _ _ F.list _ hb9 rfl Try.underlying31 rfl (by kernel_rfl)) rfl ⟨rfl, hm.later.only ho9 (by omega)⟩
end Go.Proofs.Ytmdbekdphkkmkaa
