/-
  sha.Compress: the state behind a block.
-/
import Derived.Test.YtmdbekdphkkmkaaSha1
namespace Go.Proofs.Ytmdbekdphkkmkaa
open Go.RowKit

structure S8 where
  (a b c d e f g h : UInt32)
def S8.list (s : S8) : List Value := [W32 s.a, W32 s.b, W32 s.c, W32 s.d, W32 s.e, W32 s.f, W32 s.g, W32 s.h]
def shaK : List UInt32 := [
  0x428a2f98, 0x71374491, 0xb5c0fbcf, 0xe9b5dba5, 0x3956c25b, 0x59f111f1, 0x923f82a4, 0xab1c5ed5,
  0xd807aa98, 0x12835b01, 0x243185be, 0x550c7dc3, 0x72be5d74, 0x80deb1fe, 0x9bdc06a7, 0xc19bf174,
  0xe49b69c1, 0xefbe4786, 0x0fc19dc6, 0x240ca1cc, 0x2de92c6f, 0x4a7484aa, 0x5cb0a9dc, 0x76f988da,
  0x983e5152, 0xa831c66d, 0xb00327c8, 0xbf597fc7, 0xc6e00bf3, 0xd5a79147, 0x06ca6351, 0x14292967,
  0x27b70a85, 0x2e1b2138, 0x4d2c6dfc, 0x53380d13, 0x650a7354, 0x766a0abb, 0x81c2c92e, 0x92722c85,
  0xa2bfe8a1, 0xa81a664b, 0xc24b8b70, 0xc76c51a3, 0xd192e819, 0xd6990624, 0xf40e3585, 0x106aa070,
  0x19a4c116, 0x1e376c08, 0x2748774c, 0x34b0bcb5, 0x391c0cb3, 0x4ed8aa4a, 0x5b9cca4f, 0x682e6ff3,
  0x748f82ee, 0x78a5636f, 0x84c87814, 0x8cc70208, 0x90befffa, 0xa4506ceb, 0xbef9a3f7, 0xc67178f2]
def shaInit : S8 := ⟨0x6a09e667, 0xbb67ae85, 0x3c6ef372, 0xa54ff53a, 0x510e527f, 0x9b05688c, 0x1f83d9ab, 0x5be0cd19⟩
def bsig1 (e : UInt32) : UInt32 := rotr e 6 ^^^ rotr e 11 ^^^ rotr e 25
def bsig0 (a : UInt32) : UInt32 := rotr a 2 ^^^ rotr a 13 ^^^ rotr a 22
def shaT1 (k w : UInt32) (s : S8) : UInt32 := s.h + bsig1 s.e + ((s.e &&& s.f) ^^^ (~~~s.e &&& s.g)) + k + w
def shaT2 (s : S8) : UInt32 := bsig0 s.a + ((s.a &&& s.b) ^^^ (s.a &&& s.c) ^^^ (s.b &&& s.c))
def shaRound (k w : UInt32) (s : S8) : S8 := ⟨shaT1 k w s + shaT2 s, s.a, s.b, s.c, s.d + shaT1 k w s, s.e, s.f, s.g⟩
def shaRounds (ws : List UInt32) : Nat → S8 → S8
  | 0, s => s
  | t + 1, s => shaRound (wAt shaK t) (wAt ws t) (shaRounds ws t s)
def S8.add (s t : S8) : S8 := ⟨s.a + t.a, s.b + t.b, s.c + t.c, s.d + t.d, s.e + t.e, s.f + t.f, s.g + t.g, s.h + t.h⟩
def shaComp (s : S8) (bs : List UInt8) : S8 := s.add (shaRounds (sched bs 64) 64 s)
theorem shaK_get (j : Nat) (h : j < 64) : (shaK.map W32)[j]? = some (W32 (wAt shaK j)) := by
  have hl : shaK.length = 64 := rfl
  rw [List.getElem?_map, List.getElem?_eq_getElem (by omega)]
  simp [wAt, hl, h]

set_option maxRecDepth 100000 in
set_option maxHeartbeats 1000000 in
theorem constants_any (w : World) : Calls Try.prog 20 #[] w fun e w' => e = .returned (.agg (shaK.map W32).toArray) ∧ Later w w' := by
  go_enter Try.func20, Try.ntmps20
  go_wp2_with (first
    | (refine wpList_build_is rfl 33 _ rfl (shaK.map W32) ?hb ?_; (case hb => kernel_rfl))
    | (refine wpList_store_agg rfl rfl 33 _ _ rfl w.heap.size 0 33 (List.replicate 64 (W32 0)) (shaK.map W32) ?b rfl rfl (by kernel_rfl) (by simp; decide) (w32_one _) ?_; (case b => exact Blk.new _ _ _); intro w2 hb ho))
  refine bodyPost_ret (results_blk rfl _ _ _ _ (shaK.map W32) _ (by rwa [spliced_all _ _ (by rfl)] at hb) rfl Try.underlying33 rfl (by kernel_rfl)) rfl ⟨rfl, ((Later.refl w).alloc _).only ho (Nat.le_refl _)⟩
theorem s8_one (s : S8) : ∀ v ∈ s.list, v.oneCell' = true := by
  intro v hv
  simp only [S8.list, List.mem_cons, List.not_mem_nil, or_false] at hv
  rcases hv with rfl | rfl | rfl | rfl | rfl | rfl | rfl | rfl <;> rfl
set_option maxHeartbeats 1000000 in
theorem start_any (w : World) : Calls Try.prog 19 #[] w fun e w' => e = .returned (.agg shaInit.list.toArray) ∧ Later w w' := by
  go_enter Try.func19, Try.ntmps19
  go_wp2
  generalize hC : Obj.cells _ _ = C
  have hC' : C = .cells shaInit.list.toArray 31 := by rw [← hC]; kernel_rfl
  clear hC
  refine bodyPost_ret (results_blk rfl _ _ w.heap.size 31 shaInit.list _ (by rw [hC']; exact Blk.new _ _ _) rfl Try.underlying31 rfl (by kernel_rfl)) rfl ⟨rfl, later_alloc _ _⟩

theorem schedArr_full (bs : List UInt8) (j : Nat) (h : j < 64) : (schedArr bs 64)[j]? = some (W32 (wAt (sched bs 64) j)) := schedArr_get bs 64 j h
theorem schedArr_full_length (bs : List UInt8) : (schedArr bs 64).length = 64 := schedArr_length bs 64 (by omega)
theorem schedArr_one (bs : List UInt8) (t : Nat) : ∀ v ∈ schedArr bs t, v.oneCell' = true := by
  intro v hv
  simp only [schedArr, List.mem_append, List.mem_map] at hv
  rcases hv with ⟨x, _, rfl⟩ | hv
  · rfl
  · rw [List.eq_of_mem_replicate hv]
    rfl
set_option maxRecDepth 100000 in
set_option maxHeartbeats 2000000 in
theorem compress_any (s : S8) (A : Option Addr) (c : Nat) (bs : List UInt8) (w : World) (hr : RdB w A 64 bs) :
    Calls Try.prog 28 #[.agg s.list.toArray, .slice A 64 c] w fun e w' => e = .returned (.tuple #[.agg (shaComp s bs).list.toArray, .int .i64 0]) ∧ Later w w' := by
  obtain ⟨sa, sb, sc, sd, se, sf, sg, sh⟩ := s
  generalize hF : (shaComp ⟨sa, sb, sc, sd, se, sf, sg, sh⟩ bs) = F
  have HF := hid hF
  clear hF
  show Calls _ _ #[.agg #[W32 sa, W32 sb, W32 sc, W32 sd, W32 se, W32 sf, W32 sg, W32 sh], .slice A 64 c] w _
  go_enter Try.func28, Try.ntmps28
  go_wp2_with (first
    | (go_at_call 63; refine (schedule_any _ _ bs _ (hr.later (((Later.refl w).alloc _).alloc _))).mono ?_; rintro e w1 ⟨rfl, hl1⟩)
    | (go_at_call 20; refine (constants_any _).mono ?_; rintro e w2 ⟨rfl, hl2⟩)
    | (refine wpList_store_agg rfl rfl 33 _ _ rfl w2.heap.size 0 33 (List.replicate 64 (W32 0)) (schedArr bs 64) ?b ?hx ?hy ?hi ?hf ?h1 ?_; (case hx => rfl); (case hy => rfl); (case hi => rw [schedArr_full_length]; kernel_rfl); (case hf => rw [schedArr_full_length]; decide); (case h1 => exact schedArr_one _ _); (case b => exact (Blk.new w2 _ _).later (later_alloc _ _)); intro w3 hb3 ho3)
    | (refine wpList_store_agg rfl rfl 33 _ _ rfl (w2.heap.size + 1) 0 33 (List.replicate 64 (W32 0)) (shaK.map W32) ?b ?hx ?hy ?hi ?hf ?h1 ?_; (case hx => rfl); (case hy => rfl); (case hi => kernel_rfl); (case hf => decide); (case h1 => exact w32_one _); (case b => exact (Blk.new' _ _ (List.replicate 64 (W32 0)) (by simp)).only ho3 (by simp)); intro w4 hb4 ho4))
  have e1 : w.heap.size + 2 ≤ w1.heap.size := by have := hl1.size; simp at this; omega
  have e2 := hl2.size
  have hS : Blk w4 w.heap.size 31 [W32 sa, W32 sb, W32 sc, W32 sd, W32 se, W32 sf, W32 sg, W32 sh] :=
    (((((Blk.new w _ [W32 sa, W32 sb, W32 sc, W32 sd, W32 se, W32 sf, W32 sg, W32 sh]).later (later_alloc _ _)).later (hl1.trans hl2)).later ((later_alloc _ _).trans (later_alloc _ _))).only ho3 (by omega)).only ho4 (by omega)
  have hZ : Blk w4 (w.heap.size + 1) 31 (List.replicate 8 (W32 0)) :=
    ((((Blk.new' _ _ (List.replicate 8 (W32 0)) (by simp)).later (hl1.trans hl2)).later ((later_alloc _ _).trans (later_alloc _ _))).only ho3 (by omega)).only ho4 (by omega)
  have hl : Later w w4 := ((((((Later.refl w).alloc _).alloc _).trans (hl1.trans hl2)).trans ((later_alloc _ _).trans (later_alloc _ _))).only ho3 (by omega)).only ho4 (by omega)
  have hW := hb3.only ho4 (by omega)
  rw [spliced_all _ _ (by simp [schedArr_full_length])] at hW
  rw [spliced_all _ _ (by rfl)] at hb4
  clear ho3 ho4 hl1 hl2 hb3 hr
  have c0 := hS.cellD 0 rfl
  have c1 := hS.cellD 1 rfl
  have c2 := hS.cellD 2 rfl
  have c3 := hS.cellD 3 rfl
  have c4 := hS.cellD 4 rfl
  have c5 := hS.cellD 5 rfl
  have c6 := hS.cellD 6 rfl
  have c7 := hS.cellD 7 rfl
  refine wp_region_parts [] [0, 1, 2, 3, 4, 5, 6, 7, 8, 9, 10, 11] [] (by as_aux_lemma => kernel_rfl) (by as_aux_lemma => kernel_rfl) (by intro _ _ d _ _ h; cases d <;> exact h) ?_
  simp only [wpParts, pick, List.getElem?_cons_succ, List.getElem?_cons_zero, Option.toList_some, List.cons_append, List.nil_append]
  repeat (go_big_quiet_step (fail))
  refine wpQuiet_nil ?_
  go_wp2
  refine wp_region_parts [] [0, 1, 2, 3, 4, 5, 6, 7, 8, 9, 10, 11] [] (by as_aux_lemma => kernel_rfl) (by as_aux_lemma => kernel_rfl) (by intro _ _ d _ _ h; cases d <;> exact h) ?_
  simp only [wpParts, pick, List.getElem?_cons_succ, List.getElem?_cons_zero, Option.toList_some, List.cons_append, List.nil_append]
  repeat (go_big_quiet_step (fail))
  refine wpQuiet_nil ?_
  go_wp2
  clear c0 c1 c2 c3 c4 c5 c6 c7
  go_loopw [8, 9, 10, 11, 12, 13, 14, 15, 16] (fun a b c d e f g h i wr => ∃ (k : Nat) (s : S8), k ≤ 64 ∧ i = .int .i64 k ∧ a = W32 s.a ∧ b = W32 s.b ∧ c = W32 s.c ∧ d = W32 s.d ∧ e = W32 s.e ∧ f = W32 s.f ∧ g = W32 s.g ∧ h = W32 s.h ∧
    Hid (shaRounds (sched bs 64) k ⟨sa, sb, sc, sd, se, sf, sg, sh⟩ = s) ∧ Later w4 wr) (fun _ _ _ _ _ _ _ _ i _ => 64 - (intOf i).toNat)
  case atStart => exact ⟨0, ⟨sa, sb, sc, sd, se, sf, sg, sh⟩, by omega, rfl, rfl, rfl, rfl, rfl, rfl, rfl, rfl, rfl, hid rfl, (later_drew _).drew⟩
  case round =>
    obtain ⟨k, s, hk, rfl, rfl, rfl, rfl, rfl, rfl, rfl, rfl, rfl, hs, x, rfl⟩ := hrel
    by_cases hlt : k < 64
    · have d1 := hW.cellD k (schedArr_full bs k hlt)
      have d2 := hb4.cellD k (shaK_get k hlt)
      go_wp2_with (go_at_call 64; refine (right_any _ _ (by omega) (by omega) _).mono ?_; rintro e w' ⟨rfl, rfl⟩)
      refine wp_region_parts [] [0, 1, 2, 3, 4, 5, 6, 7, 8, 9, 10, 11, 12, 13, 14, 15, 16, 17, 18, 19, 20] [] (by as_aux_lemma => kernel_rfl) (by as_aux_lemma => kernel_rfl) (by intro _ _ d _ _ h; cases d <;> exact h) ?_
      simp only [wpParts, pick, List.getElem?_cons_succ, List.getElem?_cons_zero, Option.toList_some, List.cons_append, List.nil_append]
      repeat (go_big_quiet_step (fail))
      refine wpQuiet_nil ?_
      go_wp2_with (go_at_call 64; refine (right_any _ _ (by omega) (by omega) _).mono ?_; rintro e w' ⟨rfl, rfl⟩)
      go_roundw
      case rel => exact ⟨k + 1, shaRound (wAt shaK k) (wAt (sched bs 64) k) s, by omega, by go_num, rfl, rfl, rfl, rfl, rfl, rfl, rfl, rfl, hid (by rw [shaRounds, hs.out]), _, rfl⟩
      case measure => simp [intOf]; omega
    · rw [show k = 64 by omega] at hs
      have c0 := hS.cellD 0 rfl
      have c1 := hS.cellD 1 rfl
      have c2 := hS.cellD 2 rfl
      have c3 := hS.cellD 3 rfl
      have c4 := hS.cellD 4 rfl
      have c5 := hS.cellD 5 rfl
      have c6 := hS.cellD 6 rfl
      have c7 := hS.cellD 7 rfl
      go_wp2_with (first
        | (refine wpList_store_agg rfl rfl 31 _ _ rfl (w.heap.size + 1) 0 31 (List.replicate 8 (W32 0)) (S8.add ⟨sa, sb, sc, sd, se, sf, sg, sh⟩ s).list ?b ?hx ?hy ?hi ?hf ?h1 ?_; (case hx => rfl); (case hy => rfl); (case hi => kernel_rfl); (case hf => simp [S8.list]); (case h1 => exact s8_one _); (case b => exact hZ.later ⟨_, rfl⟩); intro w5 hb5 ho5))
      rw [spliced_all _ _ (by rfl)] at hb5
      refine bodyPost_ret (results_blk_tmp rfl _ _ (w.heap.size + 1) 31 _ _ hb5 rfl Try.underlying31 rfl (by kernel_rfl)) rfl ⟨?_, (hl.trans ⟨_, rfl⟩).only ho5 (by omega)⟩
      rw [← HF.out, shaComp, hs.out]
      rfl
end Go.Proofs.Ytmdbekdphkkmkaa
