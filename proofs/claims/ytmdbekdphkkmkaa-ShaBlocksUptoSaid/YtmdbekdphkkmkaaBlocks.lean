/-
  shallotlaw02: ShaBlocks.
-/
import Derived.Test.YtmdbekdphkkmkaaLaw1
import Derived.Test.YtmdbekdphkkmkaaOpen4
import Derived.Test.YtmdbekdphkkmkaaMakers
namespace Go.Proofs.Ytmdbekdphkkmkaa
open Go.RowKit Go.ChangeShapes Go.WideShapes Go.ChangeAt

def S8.none : S8 := ⟨0, 0, 0, 0, 0, 0, 0, 0⟩
set_option maxRecDepth 100000 in
set_option maxHeartbeats 2000000 in
theorem compress_bad (s : S8) (A : Option Addr) (n c : Nat) (w : World) (hn : n ≠ 64) (hm : n ≤ 140737488355328) :
    Calls Try.prog 28 #[.agg s.list.toArray, .slice A n c] w fun e w' => e = .returned (.tuple #[.agg S8.none.list.toArray, .int .i64 2]) ∧ Later w w' := by
  obtain ⟨sa, sb, sc, sd, se, sf, sg, sh⟩ := s
  show Calls _ _ #[.agg #[W32 sa, W32 sb, W32 sc, W32 sd, W32 se, W32 sf, W32 sg, W32 sh], .slice A n c] w _
  have hb : (decide ((n : Int) = 64)) = false := by simp; omega
  go_enter Try.func28, Try.ntmps28
  go_wp2_with (first
    | (refine wpList_build_is rfl 31 _ rfl S8.none.list ?hb ?_; (case hb => kernel_rfl))
    | (refine wpList_store_agg rfl rfl 31 _ _ rfl (w.heap.size + 1) 0 31 (List.replicate 8 (W32 0)) S8.none.list ?b ?hx ?hy ?hi ?hf ?h1 ?_; (case hx => rfl); (case hy => rfl); (case hi => kernel_rfl); (case hf => simp [S8.list]); (case h1 => exact s8_one _); (case b => exact Blk.new' _ _ (List.replicate 8 (W32 0)) (by simp)); intro w5 hb5 ho5))
  rw [spliced_all _ _ (by rfl)] at hb5
  refine bodyPost_ret (results_blk_tmp rfl _ _ (w.heap.size + 1) 31 _ _ hb5 rfl Try.underlying31 rfl (by kernel_rfl)) rfl ⟨rfl, (((Later.refl w).alloc _).alloc _).only ho5 (by omega)⟩
/-- Both answers in one. -/
def compNext (s : S8) (bs : List UInt8) : S8 := if bs.length = 64 then shaComp s bs else S8.none
def compErr (bs : List UInt8) : Nat := if bs.length = 64 then 0 else 2
theorem compress_two (s : S8) (A : Option Addr) (n c : Nat) (bs : List UInt8) (w : World) (hr : RdB w A n bs) (hm : n ≤ 140737488355328) :
    Calls Try.prog 28 #[.agg s.list.toArray, .slice A n c] w fun e w' => e = .returned (.tuple #[.agg (compNext s bs).list.toArray, .int .i64 (compErr bs : Nat)]) ∧ Later w w' := by
  have hl := hr.len
  by_cases h : bs.length = 64
  · rw [compNext, compErr, if_pos h, if_pos h]
    obtain rfl : n = 64 := by omega
    exact compress_any s A c bs w hr
  · rw [compNext, compErr, if_neg h, if_neg h]
    exact compress_bad s A n c w (by omega) hm
theorem eqg_s8 : Try.prog.eqGuardType Try.prog.depth 31 = false := by kernel_rfl
theorem size_w32 : (Try.prog.info? 30).map (·.size) = some 1 := by kernel_rfl
theorem run_eql_s8 (s t : S8) (w : World) : (binOp .eql 31 (.agg s.list.toArray) (.agg t.list.toArray)).run Try.prog w = .ok (.bool (s.wds == t.wds)) w := by
  show (binOp .eql 31 (.agg (s.wds.map W32).toArray) (.agg (t.wds.map W32).toArray)).run Try.prog w = _
  rw [run_eql_struct, run_equalIn_arr w 0 W32 9998 31 30 8 Try.underlying31 size_w32 Try.underlying30 rfl (heq_w32 _ _ Try.underlying30) s.wds t.wds rfl rfl]
  rfl
theorem run_neq_s8 (s t : S8) (w : World) : (binOp .neq 31 (.agg s.list.toArray) (.agg t.list.toArray)).run Try.prog w = .ok (.bool (s.wds != t.wds)) w := by
  show (binOp .neq 31 (.agg (s.wds.map W32).toArray) (.agg (t.wds.map W32).toArray)).run Try.prog w = _
  rw [run_neq_struct, run_equalIn_arr w 0 W32 9998 31 30 8 Try.underlying31 size_w32 Try.underlying30 rfl (heq_w32 _ _ Try.underlying30) s.wds t.wds rfl rfl]
  rfl
@[go_sem high] theorem eqGuard_s8 (op : BinOp) (x y : Operand) (xs ys : Array Value) (w : World) : (eqGuard op 31 x y (.agg xs) (.agg ys)).run Try.prog w = .ok () w := run_eqGuard_agg w op _ x y xs ys eqg_s8
theorem run_neq_s8' (a0 a1 a2 a3 a4 a5 a6 a7 b0 b1 b2 b3 b4 b5 b6 b7 : UInt32) (w : World) : (binOp .neq 31 (.agg #[W32 a0, W32 a1, W32 a2, W32 a3, W32 a4, W32 a5, W32 a6, W32 a7]) (.agg #[W32 b0, W32 b1, W32 b2, W32 b3, W32 b4, W32 b5, W32 b6, W32 b7])).run Try.prog w = .ok (.bool ([a0, a1, a2, a3, a4, a5, a6, a7] != [b0, b1, b2, b3, b4, b5, b6, b7])) w :=
  run_neq_s8 ⟨a0, a1, a2, a3, a4, a5, a6, a7⟩ ⟨b0, b1, b2, b3, b4, b5, b6, b7⟩ w
set_option maxRecDepth 100000 in
theorem run_neq_zero (w : World) : (binOp .neq 31 (.agg #[W32 0, W32 0, W32 0, W32 0, W32 0, W32 0, W32 0, W32 0]) (.agg #[.int .u32 0, .int .u32 0, .int .u32 0, .int .u32 0, .int .u32 0, .int .u32 0, .int .u32 0, .int .u32 0])).run Try.prog w = .ok (.bool false) w :=
  run_neq_s8 ⟨0, 0, 0, 0, 0, 0, 0, 0⟩ ⟨0, 0, 0, 0, 0, 0, 0, 0⟩ w
attribute [go_sem high] run_eql_s8 run_neq_s8 run_neq_s8' run_neq_zero
set_option maxRecDepth 100000 in
set_option maxHeartbeats 4000000 in
theorem shaBlocks_walk (s : S8) (A : Option Addr) (n c : Nat) (ps : List (List UInt8)) (w : World) (hp : Parts w (fun _ => False) A n ps) (hm : ps.flatten.length + n ≤ 1048576) (hq : ∀ p ∈ ps, p.length ≤ 1048576) :
    Calls Try.prog 6 #[.agg s.list.toArray, .slice A n c] w fun e w' => e = .returned (.bool true) ∧ Later w w' := by
  have hpl := hp.len
  obtain ⟨sa, sb, sc, sd, se, sf, sg, sh⟩ := s
  show Calls _ _ #[.agg #[W32 sa, W32 sb, W32 sc, W32 sd, W32 se, W32 sf, W32 sg, W32 sh], .slice A n c] w _
  go_enter Try.func6, Try.ntmps6
  go_wp2_with fail
  have hS : Blk (w.alloc (.cells (S8.list ⟨sa, sb, sc, sd, se, sf, sg, sh⟩).toArray 31)) w.heap.size 31 (S8.list ⟨sa, sb, sc, sd, se, sf, sg, sh⟩) := Blk.new _ _ _
  refine (awake02 _).mono ?_
  rintro e w1 ⟨rfl, hl1⟩
  replace hS := hS.later hl1
  have L : Later w w1 := (later_alloc _ _).trans hl1
  generalize (⟨sa, sb, sc, sd, se, sf, sg, sh⟩ : S8) = s0 at hS
  go_wp2_with fail
  go_loopw [14] (fun i wr => ∃ (k : Nat) (s : S8), k ≤ n ∧ i = .int .i64 k ∧ Blk wr w.heap.size 31 s.list ∧ Later w wr) (fun i _ => n - (intOf i).toNat)
  case atStart => exact ⟨0, s0, by omega, rfl, hS, L⟩
  case round =>
    clear hS L
    obtain ⟨k, s, hk, rfl, hS, L⟩ := hrel
    by_cases hlt : k < n
    · obtain ⟨b, o, A', n', c', rfl, hbl, hcl, hnc, hrd, _⟩ := (hp.later L).at_ hlt
      have hrl := hrd.len
      have hn' : n' ≤ 1048576 := by rw [← hrl]; exact hq _ (getD_mem' ps k (by omega))
      generalize ps.getD k [] = bs at *
      go_wp2_with fail
      have hSl : ∀ x : More, ∀ j v, s.list[j]? = some v → (grow wr.drew x).cell? ⟨w.heap.size, 0 + j, none⟩ = some v := fun x j v hv => by rw [Nat.zero_add]; exact (hS.later ((later_drew wr).grow x)).cellD j hv
      refine wp_region_makers [0, 1] [([], 1, 2), ([], 1, 3), ([4, 5, 6], 2, 7)] [] [8, 9] [7] (fun _ => (fun g => .pointer (some ⟨g, 0, none⟩), .cells (List.replicate 8 (W32 0)).toArray 31)) (by as_aux_lemma => kernel_rfl) (by as_aux_lemma => kernel_rfl) (by intro _ _ d _ _ h; cases d <;> exact h) (by intro _ _ d _ _ h; cases d <;> exact h) ?_
      simp only [pick, List.getElem?_cons_succ, List.getElem?_cons_zero, Option.toList_some, List.cons_append, List.nil_append]
      repeat (first | go_big_quiet_skip | (go_big_quiet_want; refine quiet_load_agg 31 _ rfl w.heap.size 0 s.list ?hc ?hx _ Try.underlying31 rfl ?hi ?_; (case hx => rfl); (case hi => kernel_rfl); (case hc => rintro w' ⟨x, rfl⟩ j v hv; exact hSl x j v hv); simp only [Act.put, List.setIfInBounds_toArray, List.set_cons_succ, List.set_cons_zero]; go_big_quiet_on) | (go_big_quiet_step (fail)))
      refine wpQuiet_nil ?_
      refine ⟨?mk, ?_⟩
      case mk =>
        refine ⟨fun o ho => ?_, trivial⟩
        simp only [List.getElem?_cons_succ, List.getElem?_cons_zero, Option.some.injEq] at ho
        subst ho
        refine ⟨rfl, fun W => ?_⟩
        unfold execOp
        simp [go_sem]
        rfl
      simp only [wpPartsM, pick, List.getElem?_cons_succ, List.getElem?_cons_zero, Option.toList_some, List.cons_append, List.nil_append]
      refine wpQuiet_nil ?_
      intro w2 hl2
      go_wp2_with fail
      have L2 : Later w w2 := L.trans ((later_drew _).trans hl2)
      refine (copy_any A' n' c' bs _ (hrd.later ((later_drew _).trans hl2)) (by omega)).mono ?_
      rintro e w3 ⟨A3, c3, rfl, hown3, hl3⟩
      go_wp2_with fail
      refine ⟨hl3, ?_⟩
      refine wpQuiet_nil ?_
      intro w4 hl4
      go_wp2_with fail
      refine (compress_two s A3 n' c3 bs _ (hown3.later hl4).rd (by omega)).mono ?_
      rintro e w5 ⟨rfl, hl5⟩
      have L5t : Later wr w5 := ((((later_drew _).trans hl2).trans hl3).trans hl4).trans hl5
      generalize hN : compNext s bs = N
      generalize hE : compErr bs = E
      go_wp2_with fail
      refine ⟨hl5, ?_⟩
      repeat (go_big_quiet_step (fail))
      refine wpQuiet_nil ?_
      intro w6 g6 hl6 hg6 hb6
      refine wpQuiet_nil ?_
      intro w7 hl7
      have hB : Blk w7 g6 31 (List.replicate 8 (W32 0)) := Blk.later hb6 hl7
      have hS7 : Blk w7 w.heap.size 31 s.list := hS.later (((L5t).trans hl6).trans hl7)
      have L7 : Later w w7 := L.trans (((L5t).trans hl6).trans hl7)
      have hg7 : w.heap.size < g6 := by have := (L.trans L5t).size; have := hS.lt; have := L5t.size; omega
      obtain ⟨n0, n1, n2, n3, n4, n5, n6, n7⟩ := N
      by_cases h64 : bs.length = 64
      · rw [compErr, if_pos h64] at hE
        rw [compNext, if_pos h64] at hN
        subst hE
        obtain rfl : n' = 64 := by omega
        have hb64 : (decide ((64 : Int) = 64)) = true := rfl
        go_wp2_with (first
          | (refine wpList_store_agg rfl rfl 31 _ _ rfl g6 0 31 (List.replicate 8 (W32 0)) (S8.list ⟨n0, n1, n2, n3, n4, n5, n6, n7⟩) ?b ?hx ?hy ?hi ?hf ?h1 ?_; (case hx => rfl); (case hy => rfl); (case hi => kernel_rfl); (case hf => simp [S8.list]); (case h1 => exact s8_one _); (case b => exact hB); intro w8 hb8 ho8
             rw [spliced_all _ _ (by rfl)] at hb8
             have hS8 := hS7.only ho8 (by omega)
             have L8 := L7.only ho8 (by omega)
             have hlw8 : Later wr w8 := (((L5t).trans hl6).trans hl7).only ho8 (by have := L.size; have := hg6; omega))
          | (refine wpList_load_agg rfl 31 _ rfl w.heap.size 0 s.list ?hc ?hx _ Try.underlying31 rfl ?hi ?_; (case hx => rfl); (case hi => kernel_rfl); (case hc => intro j v hv; rw [Nat.zero_add]; exact hS8.cellD j hv))
          | fail)
        refine (ref_compress s A' c' bs _ (hrd.later (hlw8))).mono ?_
        rintro e w9 ⟨rfl, hl9⟩
        rw [hN]
        have hS9 := hS8.later hl9
        have hb9 := hb8.later hl9
        go_wp2_with (first
          | (refine wpList_store_agg rfl rfl 31 _ _ rfl w9.heap.size 0 31 (List.replicate 8 (W32 0)) (S8.list ⟨n0, n1, n2, n3, n4, n5, n6, n7⟩) ?b ?hx ?hy ?hi ?hf ?h1 ?_; (case hx => rfl); (case hy => rfl); (case hi => kernel_rfl); (case hf => simp [S8.list]); (case h1 => exact s8_one _); (case b => exact Blk.new _ _ _); intro w10 hb10 ho10
             rw [spliced_all _ _ (by rfl)] at hb10
             have hS10 := (hS9.later (later_alloc _ _)).only ho10 (Nat.ne_of_lt hS9.lt)
             have hbb := (hb9.later (later_alloc _ _)).only ho10 (Nat.ne_of_lt hb9.lt)
             have c0 : w10.cell? ⟨g6, 0, none⟩ = some (W32 n0) := hbb.cellD 0 rfl
             have c1 : w10.cell? ⟨g6, 1, none⟩ = some (W32 n1) := hbb.cellD 1 rfl
             have c2 : w10.cell? ⟨g6, 2, none⟩ = some (W32 n2) := hbb.cellD 2 rfl
             have c3 : w10.cell? ⟨g6, 3, none⟩ = some (W32 n3) := hbb.cellD 3 rfl
             have c4 : w10.cell? ⟨g6, 4, none⟩ = some (W32 n4) := hbb.cellD 4 rfl
             have c5 : w10.cell? ⟨g6, 5, none⟩ = some (W32 n5) := hbb.cellD 5 rfl
             have c6 : w10.cell? ⟨g6, 6, none⟩ = some (W32 n6) := hbb.cellD 6 rfl
             have c7 : w10.cell? ⟨g6, 7, none⟩ = some (W32 n7) := hbb.cellD 7 rfl
             have e0 : w10.cell? ⟨w9.heap.size, 0, none⟩ = some (W32 n0) := hb10.cellD 0 rfl
             have e1 : w10.cell? ⟨w9.heap.size, 1, none⟩ = some (W32 n1) := hb10.cellD 1 rfl
             have e2 : w10.cell? ⟨w9.heap.size, 2, none⟩ = some (W32 n2) := hb10.cellD 2 rfl
             have e3 : w10.cell? ⟨w9.heap.size, 3, none⟩ = some (W32 n3) := hb10.cellD 3 rfl
             have e4 : w10.cell? ⟨w9.heap.size, 4, none⟩ = some (W32 n4) := hb10.cellD 4 rfl
             have e5 : w10.cell? ⟨w9.heap.size, 5, none⟩ = some (W32 n5) := hb10.cellD 5 rfl
             have e6 : w10.cell? ⟨w9.heap.size, 6, none⟩ = some (W32 n6) := hb10.cellD 6 rfl
             have e7 : w10.cell? ⟨w9.heap.size, 7, none⟩ = some (W32 n7) := hb10.cellD 7 rfl)
          | (refine wpList_store_agg rfl rfl 31 _ _ rfl w.heap.size 0 31 s.list (S8.list ⟨n0, n1, n2, n3, n4, n5, n6, n7⟩) ?b ?hx ?hy ?hi ?hf ?h1 ?_; (case hx => rfl); (case hy => rfl); (case hi => kernel_rfl); (case hf => simp [S8.list]); (case h1 => exact s8_one _); (case b => exact hS10); intro w11 hb11 ho11
             rw [spliced_all _ _ (by rfl)] at hb11))
        go_roundw
        case rel => exact ⟨k + 1, ⟨n0, n1, n2, n3, n4, n5, n6, n7⟩, by omega, by go_num, hb11, ((((L8.trans hl9).alloc _).only ho10 (by have := (L8.trans hl9).size; omega)).only ho11 (Nat.le_refl _))⟩
        case measure => simp [intOf]; omega
      · rw [compErr, if_neg h64] at hE
        rw [compNext, if_neg h64] at hN
        subst hE
        cases hN
        go_wp2_with (first
          | (refine wpList_store_agg rfl rfl 31 _ _ rfl g6 0 31 (List.replicate 8 (W32 0)) (S8.list ⟨0, 0, 0, 0, 0, 0, 0, 0⟩) ?b ?hx ?hy ?hi ?hf ?h1 ?_; (case hx => rfl); (case hy => rfl); (case hi => kernel_rfl); (case hf => simp [S8.list]); (case h1 => exact s8_one _); (case b => exact hB); intro w8 hb8 ho8
             rw [spliced_all _ _ (by rfl)] at hb8
             have c0 : w8.cell? ⟨g6, 0, none⟩ = some (W32 0) := hb8.cellD 0 rfl; have c1 : w8.cell? ⟨g6, 1, none⟩ = some (W32 0) := hb8.cellD 1 rfl; have c2 : w8.cell? ⟨g6, 2, none⟩ = some (W32 0) := hb8.cellD 2 rfl; have c3 : w8.cell? ⟨g6, 3, none⟩ = some (W32 0) := hb8.cellD 3 rfl; have c4 : w8.cell? ⟨g6, 4, none⟩ = some (W32 0) := hb8.cellD 4 rfl; have c5 : w8.cell? ⟨g6, 5, none⟩ = some (W32 0) := hb8.cellD 5 rfl; have c6 : w8.cell? ⟨g6, 6, none⟩ = some (W32 0) := hb8.cellD 6 rfl; have c7 : w8.cell? ⟨g6, 7, none⟩ = some (W32 0) := hb8.cellD 7 rfl)
          | fail)
        go_roundw
        case rel => exact ⟨k + 1, s, by omega, by go_num, hS7.only ho8 (by omega), L7.only ho8 (by omega)⟩
        case measure => simp [intOf]; omega
    · go_wp2
      go_ret
      exact ⟨rfl, L⟩
theorem s8_of : ∀ (xs : List UInt32), xs.length = 8 → ∃ s : S8, xs.map W32 = s.list
  | [a, b, c, d, e, f, g, h], _ => ⟨⟨a, b, c, d, e, f, g, h⟩, rfl⟩
section
variable {H : Type} {enc : TypeId × Value → H} {w : World} {base b0 : Nat} {sp : Nat → Bool} {held : Bool} {r : Reach}
set_option maxRecDepth 100000 in
theorem open_st8 {v : Value} {d : DataW H} {ps : List MemPlace} (ht : Try.prog.underlying 31 = some (.array 8 30)) (hval : Value.okWide Try.prog w r b0 31 v) (h : DataW.Trod enc Try.prog w base sp held 31 v d ps) :
    ∃ s : S8, v = .agg s.list.toArray := by
  obtain ⟨xs, rfl, hl⟩ := open_arr32 ht Try.underlying30 (by kernel_rfl) (by kernel_rfl) hval h
  obtain ⟨s, hs⟩ := s8_of xs hl
  exact ⟨s, by rw [hs]⟩
end
end Go.Proofs.Ytmdbekdphkkmkaa
