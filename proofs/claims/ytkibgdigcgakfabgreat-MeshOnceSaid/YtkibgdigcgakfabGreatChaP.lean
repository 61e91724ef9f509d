/-
  chacha: Quarter, word, round.
  chacha: initial, Block.
  chacha: Block, piece, Stream.
  chacha: piece, Stream.
-/
import Derived.Test.YtkibgdigcgakfabGreatShaA
import Derived.Test.YtkibgdigcgakfabGreatBag
import Derived.Test.YtkibgdigcgakfabGreatStrP
import Derived.Test.YtkibgdigcgakfabGreatCanP
import Derived.Test.YtkibgdigcgakfabGreatHelp
import Derived.Test.YtkibgdigcgakfabGreatBagMore
namespace Go.Proofs.YtkibgdigcgakfabGreat
open Go.RowKit
open Go.BigFrame

def rotl (x : UInt32) (n : Nat) : UInt32 := shl32 x n ||| shr32 x (32 - n)
theorem rotl_count (n : Nat) (h1 : n < 32) : cnt (UInt64.ofInt (n : Int) &&& 31) = n ∧ cnt (32 - (UInt64.ofInt (n : Int) &&& 31)) = 32 - n := by
  have : ∀ k : Fin 32, cnt (UInt64.ofInt (k.val : Int) &&& 31) = k.val ∧ cnt (32 - (UInt64.ofInt (k.val : Int) &&& 31)) = 32 - k.val := by decide
  exact this ⟨n, h1⟩
theorem rotlp_any (x : UInt32) (n : Nat) (i : Int) (hi : i = (n : Int)) (h1 : n < 32) (w : World) :
    Calls Tryz.prog 116 #[W32 x, .int .i64 i] w fun e w' => e = .returned (W32 (rotl x n)) ∧ w' = w := by
  subst hi
  have hc := hid (rotl_count n h1)
  go_enter Tryz.func116, Tryz.ntmps116
  go_wp2
  go_ret
  exact ⟨ret_w32 (by rw [hc.out.1, hc.out.2, rotl]), rfl⟩
theorem results_tmp4 {fn : Func} {t u v x : Tmp} (h : fn.results = #[.tmp t, .tmp u, .tmp v, .tmp x]) (tmps : Array Value) (P : Program) (w : World) :
    (results fn tmps).run P w = .ok (.tuple #[tmps.getD t undef, tmps.getD u undef, tmps.getD v undef, tmps.getD x undef]) w := by
  simp [results, h]
/-- A quarter's words, half a round at a time. -/
def halfE (v : UInt32 × UInt32 × UInt32 × UInt32) (n : Nat) : UInt32 × UInt32 × UInt32 × UInt32 := (v.1 + v.2.1, v.2.1, v.2.2.1, rotl (v.2.2.2 ^^^ (v.1 + v.2.1)) n)
def halfO (v : UInt32 × UInt32 × UInt32 × UInt32) (n : Nat) : UInt32 × UInt32 × UInt32 × UInt32 := (v.1, rotl (v.2.1 ^^^ (v.2.2.1 + v.2.2.2)) n, v.2.2.1 + v.2.2.2, v.2.2.2)
def quart (a b c d : UInt32) : UInt32 × UInt32 × UInt32 × UInt32 := halfO (halfE (halfO (halfE (a, b, c, d) 16) 12) 8) 7
set_option maxHeartbeats 1000000 in
theorem quarter_any (a b c d : UInt32) (w : World) : Calls Tryz.prog 111 #[W32 a, W32 b, W32 c, W32 d] w fun e w' =>
    e = .returned (.tuple #[W32 (quart a b c d).1, W32 (quart a b c d).2.1, W32 (quart a b c d).2.2.1, W32 (quart a b c d).2.2.2]) ∧ w' = w := by
  have hr := hid rotlp_any
  go_enter Tryz.func111, Tryz.ntmps111
  go_wp2_with fail
  refine (hr.out _ 16 _ rfl (by omega) _).mono ?_; rintro e w1 ⟨rfl, rfl⟩
  go_wp2_with fail
  refine (hr.out _ 12 _ rfl (by omega) _).mono ?_; rintro e w1 ⟨rfl, rfl⟩
  go_wp2_with fail
  refine (hr.out _ 8 _ rfl (by omega) _).mono ?_; rintro e w1 ⟨rfl, rfl⟩
  go_wp2_with fail
  refine (hr.out _ 7 _ rfl (by omega) _).mono ?_; rintro e w1 ⟨rfl, rfl⟩
  go_wp2_with fail
  (try simp only [Exit.inBlock, Exit.then]); refine bodyPost_ret (results_tmp4 rfl _ _ _) rfl ?_
  exact ⟨rfl, rfl⟩
/-- The word at place 4k of a list of bytes, the least byte first. -/
def leW (bs : List UInt8) (k : Nat) : UInt32 := (byteAt bs (4 * k)).toUInt32 ||| shl32 (byteAt bs (4 * k + 1)).toUInt32 8 ||| shl32 (byteAt bs (4 * k + 2)).toUInt32 16 ||| shl32 (byteAt bs (4 * k + 3)).toUInt32 24
theorem ret_w32' {x y : UInt32} {w : World} (h : x = y) (w' : World) (hl : Later w w') : Ending.returned (W32 x) = .returned (W32 y) ∧ Later w w' := ⟨by rw [h], hl⟩
set_option maxHeartbeats 1000000 in
theorem word_at (A : Option Addr) (n c : Nat) (bs : List UInt8) (p : Nat) (w : World) (hr : RdB w A n bs) (hk : p + 4 ≤ n) (hn : n ≤ 140737488355328) :
    Calls Tryz.prog 110 #[.slice A n c, .int .i64 (p : Int)] w fun e w' => e = .returned (W32 ((byteAt bs p).toUInt32 ||| shl32 (byteAt bs (p + 1)).toUInt32 8 ||| shl32 (byteAt bs (p + 2)).toUInt32 16 ||| shl32 (byteAt bs (p + 3)).toUInt32 24)) ∧ Later w w' := by
  have hl := hr.len
  obtain ⟨b, o, rfl, hb, hc⟩ := hr.at_ (by omega)
  have c0 := hc p (by omega)
  have c1 := hc (p + 1) (by omega)
  have c2 := hc (p + 2) (by omega)
  have c3 := hc (p + 3) (by omega)
  unfold byteAt
  generalize bs.getD p 0 = x0 at *
  generalize bs.getD (p + 1) 0 = x1 at *
  generalize bs.getD (p + 2) 0 = x2 at *
  generalize bs.getD (p + 3) 0 = x3 at *
  clear hc hr
  go_enter Tryz.func110, Tryz.ntmps110
  go_wp2_with fail
  refine wp_region_parts [] [0, 1, 2, 3, 4, 5, 6, 7, 8, 9, 10, 11, 12, 13, 14, 15, 16, 17, 18, 19, 20, 21, 22, 23, 24, 25, 26, 27, 28, 29] [] (by as_aux_lemma => kernel_rfl) (by as_aux_lemma => kernel_rfl) (by intro _ _ d _ _ h; cases d <;> exact h) ?_
  simp only [wpParts, pick, List.getElem?_cons_succ, List.getElem?_cons_zero, Option.toList_some, List.cons_append, List.nil_append]
  repeat (go_big_quiet_step (fail))
  refine wpQuiet_nil ?_
  go_wp2_with fail
  go_ret
  exact ret_w32' rfl _ (later_drew _)
theorem word_any (A : Option Addr) (n c : Nat) (bs : List UInt8) (k : Nat) (i : Int) (hi : i = 4 * (k : Int)) (w : World) (hr : RdB w A n bs) (hk : 4 * k + 4 ≤ n) (hn : n ≤ 140737488355328) :
    Calls Tryz.prog 110 #[.slice A n c, .int .i64 i] w fun e w' => e = .returned (W32 (leW bs k)) ∧ Later w w' := by
  obtain rfl : i = ((4 * k : Nat) : Int) := by omega
  exact word_at A n c bs (4 * k) w hr hk hn
def putQ (s : List UInt32) (a b c d : Nat) (q : UInt32 × UInt32 × UInt32 × UInt32) : List UInt32 := (((s.set a q.1).set b q.2.1).set c q.2.2.1).set d q.2.2.2
def roundL (s : List UInt32) (a b c d : Nat) : List UInt32 := putQ s a b c d (quart (wAt s a) (wAt s b) (wAt s c) (wAt s d))
theorem roundL_length (s : List UInt32) (a b c d : Nat) : (roundL s a b c d).length = s.length := by simp [roundL, putQ]
theorem w32_get {s : List UInt32} {i : Nat} (h : i < s.length) : (s.map W32)[i]? = some (W32 (wAt s i)) := by
  rw [List.getElem?_map, List.getElem?_eq_getElem h, wAt, List.getD_eq_getElem?_getD, List.getElem?_eq_getElem h]
  rfl
theorem set_w32 (s : List UInt32) (i : Nat) (x : UInt32) : (s.map W32).set i (W32 x) = (s.set i x).map W32 := by rw [List.map_set]
theorem size_u32 : (Tryz.prog.info? 76).map (·.size) = some 1 := by kernel_rfl
set_option maxRecDepth 100000 in
set_option maxHeartbeats 2000000 in
theorem round_any (g : Nat) (t : TypeId) (s : List UInt32) (a b c d : Nat) (ia ib ic id : Int) (ha : ia = (a : Int)) (hb : ib = (b : Int)) (hc : ic = (c : Int)) (hd : id = (d : Int)) (w : World) (hs : Blk w g t (s.map W32)) (hl : s.length = 16) (h1 : a < 16) (h2 : b < 16) (h3 : c < 16) (h4 : d < 16) :
    Calls Tryz.prog 106 #[.pointer (some ⟨g, 0, none⟩), .int .i64 ia, .int .i64 ib, .int .i64 ic, .int .i64 id] w fun e w' => e = .returned (.tuple #[]) ∧ Blk w' g t ((roundL s a b c d).map W32) ∧ Only g w w' := by
  subst ha hb hc hd
  have d1 := hs.cellD a (w32_get (s := s) (by omega))
  have d2 := hs.cellD b (w32_get (s := s) (by omega))
  have d3 := hs.cellD c (w32_get (s := s) (by omega))
  have d4 := hs.cellD d (w32_get (s := s) (by omega))
  have hq := hid quarter_any
  have hR := hid (show roundL s a b c d = putQ s a b c d (quart (wAt s a) (wAt s b) (wAt s c) (wAt s d)) from rfl)
  generalize roundL s a b c d = R at *
  generalize wAt s a = xa at *
  generalize wAt s b = xb at *
  generalize wAt s c = xc at *
  generalize wAt s d = xd at *
  go_enter Tryz.func106, Tryz.ntmps106
  go_wp2_with fail
  refine wp_region_partsE [([0, 1, 2, 3, 4, 5, 6, 7, 34, 37, 40, 43], [8, 9, 10, 11, 12, 13, 14, 15, 16, 17, 18, 19, 20, 21, 22, 23, 24, 25, 26, 27], 28)] [29, 30, 31, 32, 33] [35] [36, 38, 39, 41, 42, 44, 45] (by as_aux_lemma => kernel_rfl) (by as_aux_lemma => kernel_rfl) (by intro _ _ d _ _ h; cases d <;> exact h) ?_
  simp only [wpPartsE, pick, List.getElem?_cons_succ, List.getElem?_cons_zero, Option.toList_some, List.cons_append, List.nil_append]
  repeat (go_big_quiet_step (fail))
  refine wpQuiet_nil ?_
  repeat (go_big_quiet_step (fail))
  refine wpQuiet_nil ?_
  go_wp2_with fail
  refine (hq.out _ _ _ _ _).mono ?_; rintro e w1 ⟨rfl, rfl⟩
  generalize quart xa xb xc xd = q at *
  obtain ⟨qa, qb, qc, qd⟩ := q
  go_wp2_with fail
  try refine ⟨by first | assumption | exact later_drew _ | exact later_alloc _ _ | exact Later.refl _, ?_⟩
  try simp only [wpPartsE, pick, List.getElem?_cons_succ, List.getElem?_cons_zero, Option.toList_some, List.cons_append, List.nil_append]
  repeat (go_big_quiet_step (fail))
  refine wpQuiet_nil ?_
  repeat (go_big_quiet_step (fail))
  refine wpQuiet_nil ?_
  have hs' := hs.drew
  go_wp2_with (first
    | (refine wpList_store_in rfl rfl _ _ _ rfl g a t _ hs' rfl (by rw [List.length_map]; omega) rfl size_u32 ?_; intro v' w5 hv' hb5 ho5; simp [go_sem] at hv'; subst hv'; rw [set_w32] at hb5)
    | (refine wpList_store_in rfl rfl _ _ _ rfl g b t _ hb5 rfl (by rw [List.length_map, List.length_set]; omega) rfl size_u32 ?_; intro v' w6 hv' hb6 ho6; simp [go_sem] at hv'; subst hv'; rw [set_w32] at hb6)
    | (refine wpList_store_in rfl rfl _ _ _ rfl g c t _ hb6 rfl (by rw [List.length_map, List.length_set, List.length_set]; omega) rfl size_u32 ?_; intro v' w7 hv' hb7 ho7; simp [go_sem] at hv'; subst hv'; rw [set_w32] at hb7)
    | (refine wpList_store_in rfl rfl _ _ _ rfl g d t _ hb7 rfl (by rw [List.length_map, List.length_set, List.length_set, List.length_set]; omega) rfl size_u32 ?_; intro v' w8 hv' hb8 ho8; simp [go_sem] at hv'; subst hv'; rw [set_w32] at hb8)
    | fail)
  exact bodyPost_end (results_none rfl _ _ _) rfl ⟨rfl, by rw [hR.out]; exact hb8, (later_drew _).thenOnly (((ho5.trans ho6).trans ho7).trans ho8)⟩
end Go.Proofs.YtkibgdigcgakfabGreat
namespace Go.Proofs.YtkibgdigcgakfabGreat
open Go.RowKit
open Go.BigFrame

def chaC : List UInt32 := [1634760805, 857760878, 2036477234, 1797285236]
/-- Behind k rounds of the first loop. -/
def initA (key : List UInt8) (k : Nat) : List UInt32 := chaC ++ (List.range k).map (leW key) ++ List.replicate (12 - k) 0
/-- Behind k rounds of the second. -/
def initB (key nonce : List UInt8) (ctr : UInt32) (k : Nat) : List UInt32 := chaC ++ (List.range 8).map (leW key) ++ [ctr] ++ (List.range k).map (leW nonce) ++ List.replicate (3 - k) 0
def initL (key nonce : List UInt8) (ctr : UInt32) : List UInt32 := chaC ++ (List.range 8).map (leW key) ++ [ctr] ++ (List.range 3).map (leW nonce)
theorem initA_length (key : List UInt8) (k : Nat) (h : k ≤ 12) : (initA key k).length = 16 := by
  simp [initA, chaC]
  omega
theorem initB_length (key nonce : List UInt8) (ctr : UInt32) (k : Nat) (h : k ≤ 3) : (initB key nonce ctr k).length = 16 := by
  simp [initB, chaC]
  omega
theorem initL_length (key nonce : List UInt8) (ctr : UInt32) : (initL key nonce ctr).length = 16 := by simp [initL, chaC]
theorem fill_step {α : Type} (z : α) (pre : List α) (f : Nat → α) (k n : Nat) (h : k < n) : (pre ++ (List.range k).map f ++ List.replicate (n - k) z).set (pre.length + k) (f k) = pre ++ (List.range (k + 1)).map f ++ List.replicate (n - (k + 1)) z := by
  have e : n - k = (n - (k + 1)) + 1 := by omega
  rw [e, List.replicate_succ, List.set_append_right _ _ (by simp), List.range_succ, List.map_append]
  simp
theorem initA_step (key : List UInt8) (k : Nat) (h : k < 8) : (initA key k).set (4 + k) (leW key k) = initA key (k + 1) := fill_step 0 chaC (leW key) k 12 (by omega)
theorem initB_step (key nonce : List UInt8) (ctr : UInt32) (k : Nat) (h : k < 3) : (initB key nonce ctr k).set (13 + k) (leW nonce k) = initB key nonce ctr (k + 1) := by
  have := fill_step 0 (chaC ++ (List.range 8).map (leW key) ++ [ctr]) (leW nonce) k 3 h
  rw [show (chaC ++ (List.range 8).map (leW key) ++ [ctr]).length = 13 by simp [chaC]] at this
  exact this
theorem initAB (key nonce : List UInt8) (ctr : UInt32) : (initA key 8).set 12 ctr = initB key nonce ctr 0 := by
  rw [initA, initB, List.set_append_right _ _ (by simp [chaC])]
  simp [chaC]
theorem initB_all (key nonce : List UInt8) (ctr : UInt32) : initB key nonce ctr 3 = initL key nonce ctr := by simp [initB, initL]
theorem size_16 : (Tryz.prog.info? 214).map (·.size) = some 16 := by kernel_rfl
section
variable {ops : Array Oper} {rest : List Oper} {o : Oper} {a : Act} {w : World} {Q : Exit → Act → World → Prop}
theorem store_W (hgd : o.guard = none) (hd : o.dst = none) (x y : Operand) (ho : o.op = .store 214 x y) {g : Nat} {t : TypeId} {l : List Value} {vs : List UInt32} (hg : Blk w g t l) (hx : a.eval x = .pointer (some ⟨g, 0, none⟩)) (hy : a.eval y = .agg (vs.map W32).toArray)
    (hn : vs.length = 16) (hl : l.length = 16) (h : ∀ w', Blk w' g t (vs.map W32) → Only g w w' → wpList Tryz.prog ops Q rest a w') : wpList Tryz.prog ops Q (o :: rest) a w :=
  wpList_store_agg hgd hd _ x y ho g 0 t l (vs.map W32) hg hx hy (by rw [List.length_map, hn]; exact size_16) (by rw [List.length_map]; omega) (w32_one _) (fun w' hb => h w' (by rwa [spliced_all _ _ (by rw [List.length_map]; omega)] at hb))
theorem load_W (hgd : o.guard = none) (x : Operand) (ho : o.op = .load 214 x) {g : Nat} {t : TypeId} {vs : List UInt32} (hb : Blk w g t (vs.map W32)) (hl : vs.length = 16) (hx : a.eval x = .pointer (some ⟨g, 0, none⟩))
    (h : wpList Tryz.prog ops Q rest (a.put o.dst (.agg (vs.map W32).toArray)) w) : wpList Tryz.prog ops Q (o :: rest) a w :=
  wpList_load_agg hgd _ x ho g 0 (vs.map W32) (fun j v hv => by rw [Nat.zero_add]; exact hb.cellD j hv) hx _ Tryz.underlying214 rfl (by rw [List.length_map, hl]; exact size_16) h
end
set_option maxRecDepth 100000 in
set_option maxHeartbeats 4000000 in
theorem initial_any (A B : Option Addr) (c d : Nat) (key nonce : List UInt8) (ctr : UInt32) (w : World) (hk : RdB w A 32 key) (hn : RdB w B 12 nonce) :
    Calls Tryz.prog 105 #[.slice A 32 c, .slice B 12 d, W32 ctr] w fun e w' => e = .returned (.agg ((initL key nonce ctr).map W32).toArray) ∧ Later w w' := by
  have hA := hid (initA_length key)
  have hB := hid (initB_length key nonce ctr)
  have sA := hid (initA_step key)
  have sB := hid (initB_step key nonce ctr)
  have hAB := hid (initAB key nonce ctr)
  have hBA := hid (initB_all key nonce ctr)
  have hL := initL_length key nonce ctr
  have h0 := hid (show initA key 0 = [1634760805, 857760878, 2036477234, 1797285236, 0, 0, 0, 0, 0, 0, 0, 0, 0, 0, 0, 0] from rfl)
  have hw := hid (fun k i w hi h hk => word_any A 32 c key k i hi w h hk (by omega))
  have hw2 := hid (fun k i w hi h hk => word_any B 12 d nonce k i hi w h hk (by omega))
  generalize initL key nonce ctr = L0 at *
  go_enter Tryz.func105, Tryz.ntmps105
  go_wp2_with (first
    | (refine wpList_build_is rfl 214 _ rfl (([1634760805, 857760878, 2036477234, 1797285236, 0, 0, 0, 0, 0, 0, 0, 0, 0, 0, 0, 0] : List UInt32).map W32) ?hb ?_; (case hb => kernel_rfl))
    | fail)
  have hR := (Blk.new w 214 (List.replicate 16 (Value.int .u32 0))).later (later_alloc _ (.cells #[W32 1634760805, W32 857760878, W32 2036477234, W32 1797285236, W32 0, W32 0, W32 0, W32 0, W32 0, W32 0, W32 0, W32 0, W32 0, W32 0, W32 0, W32 0] 214))
  have hS : Blk ((w.alloc (.cells (List.replicate 16 (Value.int .u32 0)).toArray 214)).alloc (.cells #[W32 1634760805, W32 857760878, W32 2036477234, W32 1797285236, W32 0, W32 0, W32 0, W32 0, W32 0, W32 0, W32 0, W32 0, W32 0, W32 0, W32 0, W32 0] 214)) (w.heap.size + 1) 214 ((initA key 0).map W32) := by
    rw [h0.out]
    exact Blk.new' (w.alloc _) _ _ (by simp)
  have L0 := (later_alloc w (.cells (List.replicate 16 (Value.int .u32 0)).toArray 214)).trans (later_alloc _ (.cells #[W32 1634760805, W32 857760878, W32 2036477234, W32 1797285236, W32 0, W32 0, W32 0, W32 0, W32 0, W32 0, W32 0, W32 0, W32 0, W32 0, W32 0, W32 0] 214))
  go_loopw [8] (fun i wr => ∃ k : Nat, k ≤ 8 ∧ i = .int .i64 k ∧ Later w wr ∧ Blk wr w.heap.size 214 (List.replicate 16 (Value.int .u32 0)) ∧ Blk wr (w.heap.size + 1) 214 ((initA key k).map W32)) (fun i _ => 8 - (intOf i).toNat)
  case atStart => exact ⟨0, by omega, rfl, L0, hR, hS⟩
  case round =>
    clear L0 hR hS
    obtain ⟨k, hk', rfl, L, hR, hS⟩ := hrel
    by_cases hlt : k < 8
    · have hl := hA.out k (by omega)
      have HST := hid (sA.out k hlt)
      have t4 : ((4 : Int) + (k : Int)).toNat = 4 + k := by omega
      go_wp2_with fail
      (refine (hw.out k _ _ rfl (hk.later L) (by omega)).mono ?_); rintro e w3 ⟨rfl, j3⟩
      go_wp2_with (first
        | (refine wpList_store_in rfl rfl _ _ _ rfl (w.heap.size + 1) (4 + k) _ _ (hS.later j3) rfl (by rw [List.length_map]; omega) rfl size_u32 ?_; intro v' w5 hv' hb5 ho5; simp [go_sem] at hv'; subst hv'; rw [set_w32, HST.out] at hb5)
        | fail)
      go_roundw
      case rel => exact ⟨k + 1, by omega, by go_num, (L.trans j3).only ho5 (by omega), (hR.later j3).only ho5 (by omega), hb5⟩
      case measure => simp [intOf]; omega
    · obtain rfl : 8 = k := by omega
      have hl := hA.out 8 (by omega)
      go_wp2_with (first
        | (refine wpList_store_in rfl rfl _ _ _ rfl (w.heap.size + 1) 12 _ _ hS rfl (by rw [List.length_map]; omega) rfl size_u32 ?_; intro v' w5 hv' hb5 ho5; simp [go_sem] at hv'; subst hv'; rw [set_w32, hAB.out] at hb5)
        | fail)
      have L5 := L.only ho5 (by omega)
      have hR5 := hR.only ho5 (by omega)
      clear L hR hS ho5
      go_loopw [9] (fun i wr => ∃ k : Nat, k ≤ 3 ∧ i = .int .i64 k ∧ Later w wr ∧ Blk wr w.heap.size 214 (List.replicate 16 (Value.int .u32 0)) ∧ Blk wr (w.heap.size + 1) 214 ((initB key nonce ctr k).map W32)) (fun i _ => 3 - (intOf i).toNat)
      case atStart => exact ⟨0, by omega, rfl, L5, hR5, hb5⟩
      case round =>
        clear L5 hR5 hb5
        obtain ⟨k, hk', rfl, L, hR, hS⟩ := hrel
        by_cases hlt : k < 3
        · have hl := hB.out k (by omega)
          have HST := hid (sB.out k hlt)
          have t4 : ((13 : Int) + (k : Int)).toNat = 13 + k := by omega
          go_wp2_with fail
          (refine (hw2.out k _ _ rfl (hn.later L) (by omega)).mono ?_); rintro e w3 ⟨rfl, j3⟩
          go_wp2_with (first
            | (refine wpList_store_in rfl rfl _ _ _ rfl (w.heap.size + 1) (13 + k) _ _ (hS.later j3) rfl (by rw [List.length_map]; omega) rfl size_u32 ?_; intro v' w5 hv' hb5 ho5; simp [go_sem] at hv'; subst hv'; rw [set_w32, HST.out] at hb5)
            | fail)
          go_roundw
          case rel => (repeat apply Exists.intro); exact ⟨⟨k + 1, by omega, by go_num, (L.trans j3).only ho5 (by omega), (hR.later j3).only ho5 (by omega), hb5⟩, rfl⟩
          case measure => simp [intOf]; omega
        · obtain rfl : 3 = k := by omega
          rw [hBA.out] at hS
          go_wp2_with (first
            | (refine load_W rfl _ rfl hS hL rfl ?_)
            | (refine store_W rfl rfl _ _ rfl hR rfl rfl hL rfl ?_; intro w9 hb9 ho9)
            | fail)
          exact bodyPost_ret (results_blk rfl _ _ _ _ _ _ hb9 rfl Tryz.underlying214 rfl (by rw [List.length_map, hL]; exact size_16)) rfl ⟨rfl, L.only ho9 (Nat.le_refl _)⟩
end Go.Proofs.YtkibgdigcgakfabGreat
namespace Go.Proofs.YtkibgdigcgakfabGreat
open Go.RowKit
open Go.BigFrame

def dbl (s : List UInt32) : List UInt32 :=
  roundL (roundL (roundL (roundL (roundL (roundL (roundL (roundL s 0 4 8 12) 1 5 9 13) 2 6 10 14) 3 7 11 15) 0 5 10 15) 1 6 11 12) 2 7 8 13) 3 4 9 14
def dblN (s : List UInt32) : Nat → List UInt32
  | 0 => s
  | k + 1 => dbl (dblN s k)
theorem dbl_length (s : List UInt32) : (dbl s).length = s.length := by simp [dbl, roundL_length]
theorem dblN_length (s : List UInt32) : ∀ k, (dblN s k).length = s.length
  | 0 => rfl
  | k + 1 => by rw [dblN, dbl_length, dblN_length s k]
/-- A word's bytes, the least first. -/
def le4 (x : UInt32) : List UInt8 := [x.toUInt8, (shr32 x 8).toUInt8, (shr32 x 16).toUInt8, (shr32 x 24).toUInt8]
def chaOut (f s : List UInt32) (k : Nat) : List UInt8 := (List.range k).flatMap fun i => le4 (wAt f i + wAt s i)
theorem chaOut_succ (f s : List UInt32) (k : Nat) : chaOut f s (k + 1) = chaOut f s k ++ le4 (wAt f k + wAt s k) := by
  simp [chaOut, List.range_succ]
theorem chaOut_length (f s : List UInt32) : ∀ k, (chaOut f s k).length = 4 * k
  | 0 => rfl
  | k + 1 => by rw [chaOut_succ, List.length_append, chaOut_length f s k, le4]; simp; omega
/-- The 64 bytes of a block. -/
def chaB (key nonce : List UInt8) (ctr : UInt32) : List UInt8 := chaOut (dblN (initL key nonce ctr) 10) (initL key nonce ctr) 16
theorem chaB_length (key nonce : List UInt8) (ctr : UInt32) : (chaB key nonce ctr).length = 64 := chaOut_length _ _ 16
theorem own_glue {w : World} {base : Nat} {A : Option Addr} {n c : Nat} {xs ys : List UInt8} (h : w.ownsRow base 5 1 (.slice A n c) n (xs.map W8 ++ ys.map W8)) : OwnB w base A n c (xs ++ ys) := by
  rw [← List.map_append] at h
  exact h
theorem round_ex (g : Nat) (t : TypeId) (s : List UInt32) (a b c d : Nat) (ia ib ic id : Int) (ha : ia = (a : Int)) (hb : ib = (b : Int)) (hc : ic = (c : Int)) (hd : id = (d : Int)) (w : World) (hs : Blk w g t (s.map W32)) (hl : s.length = 16) (h1 : a < 16) (h2 : b < 16) (h3 : c < 16) (h4 : d < 16) :
    Calls Tryz.prog 106 #[.pointer (some ⟨g, 0, none⟩), .int .i64 ia, .int .i64 ib, .int .i64 ic, .int .i64 id] w fun e w' => e = .returned (.tuple #[]) ∧ ∃ s', Hid (s' = roundL s a b c d) ∧ s'.length = 16 ∧ Blk w' g t (s'.map W32) ∧ Only g w w' :=
  (round_any g t s a b c d ia ib ic id ha hb hc hd w hs hl h1 h2 h3 h4).mono fun _ _ ⟨he, hb, ho⟩ => ⟨he, _, hid rfl, (roundL_length s a b c d).trans hl, hb, ho⟩
set_option maxRecDepth 100000 in
set_option maxHeartbeats 8000000 in
theorem block_cha (A B : Option Addr) (c d : Nat) (key nonce : List UInt8) (ctr : UInt32) (w : World) (hk : RdB w A 32 key) (hn : RdB w B 12 nonce) :
    Calls Tryz.prog 99 #[.slice A 32 c, .slice B 12 d, W32 ctr] w fun e w' => ∃ A' c', e = .returned (.tuple #[.slice A' 64 c', .int .i64 0]) ∧ OwnB w' w.heap.size A' 64 c' (chaB key nonce ctr) ∧ Later w w' := by
  have hI := hid (initial_any A B c d key nonce ctr w hk hn)
  have hsl := initL_length key nonce ctr
  have hC := hid (show chaB key nonce ctr = chaOut (dblN (initL key nonce ctr) 10) (initL key nonce ctr) 16 from rfl)
  generalize initL key nonce ctr = S at *
  generalize chaB key nonce ctr = CB at *
  have hr := hid round_ex
  have hdl := hid (fun k => (dblN_length S k).trans hsl)
  have hrl := hid roundL_length
  have hd1 := hid (fun k => show dblN S (k + 1) = dbl (dblN S k) from rfl)
  go_enter Tryz.func99, Tryz.ntmps99
  go_wp2_with fail
  (with_reducible refine (hI.out).mono ?_); rintro e w1 ⟨rfl, j1⟩
  go_wp2_with (first
    | (refine store_W rfl rfl _ _ rfl (Blk.new w1 _ (List.replicate 16 (.int .u32 0))) rfl rfl hsl rfl ?_; intro w2 hb2 ho2
       have B2 := (Bag.none w).push (j1.trans (later_alloc w1 _)) j1.size ho2 hb2)
    | (refine load_W rfl _ rfl (B2.nth 0 rfl) hsl rfl ?_)
    | (refine store_W rfl rfl _ _ rfl (Blk.new w2 _ (List.replicate 16 (.int .u32 0))) rfl rfl hsl rfl ?_; intro w3 hb3 ho3
       have B3 := B2.push (later_alloc w2 _) (Nat.le_refl _) ho3 hb3)
    | fail)
  clear B2 hb2 hb3 ho2 ho3 j1
  generalize w1.heap.size = g8 at *
  generalize w2.heap.size = g9 at *
  go_loopw [26] (fun i wr => ∃ k : Nat, k ≤ 10 ∧ i = .int .i64 k ∧ Bag w wr [(g9, 214, (dblN S k).map W32), (g8, 214, S.map W32)]) (fun i _ => 10 - (intOf i).toNat)
  case atStart => exact ⟨0, by omega, rfl, B3⟩
  case round =>
    clear B3
    obtain ⟨k, hk', rfl, B3⟩ := hrel
    by_cases hlt : k < 10
    · have hl := hdl.out k
      have hd2 := hid (hd1.out k)
      generalize dblN S k = T at *
      obtain ⟨T0, hT0⟩ : ∃ T0, T0 = dblN S (k + 1) := ⟨_, rfl⟩
      rw [← hT0] at hd2
      replace hT0 := hid hT0
      go_wp2_with fail
      have b0 := B3.nth 0 rfl
      (refine (hr.out g9 _ T 0 4 8 12 _ _ _ _ rfl rfl rfl rfl _ b0 hl (by omega) (by omega) (by omega) (by omega)).mono ?_); rintro e w4 ⟨rfl, T1, e1, l1, b1, o1⟩
      go_wp2_with fail
      (refine (hr.out g9 _ T1 1 5 9 13 _ _ _ _ rfl rfl rfl rfl _ b1 l1 (by omega) (by omega) (by omega) (by omega)).mono ?_); rintro e w5 ⟨rfl, T2, e2, l2, b2, o2⟩
      clear b1
      go_wp2_with fail
      (refine (hr.out g9 _ T2 2 6 10 14 _ _ _ _ rfl rfl rfl rfl _ b2 l2 (by omega) (by omega) (by omega) (by omega)).mono ?_); rintro e w6 ⟨rfl, T3, e3, l3, b3, o3⟩
      clear b2
      go_wp2_with fail
      (refine (hr.out g9 _ T3 3 7 11 15 _ _ _ _ rfl rfl rfl rfl _ b3 l3 (by omega) (by omega) (by omega) (by omega)).mono ?_); rintro e w7 ⟨rfl, T4, e4, l4, b4, o4⟩
      clear b3
      go_wp2_with fail
      (refine (hr.out g9 _ T4 0 5 10 15 _ _ _ _ rfl rfl rfl rfl _ b4 l4 (by omega) (by omega) (by omega) (by omega)).mono ?_); rintro e w8 ⟨rfl, T5, e5, l5, b5, o5⟩
      clear b4
      go_wp2_with fail
      (refine (hr.out g9 _ T5 1 6 11 12 _ _ _ _ rfl rfl rfl rfl _ b5 l5 (by omega) (by omega) (by omega) (by omega)).mono ?_); rintro e w9 ⟨rfl, T6, e6, l6, b6, o6⟩
      clear b5
      go_wp2_with fail
      (refine (hr.out g9 _ T6 2 7 8 13 _ _ _ _ rfl rfl rfl rfl _ b6 l6 (by omega) (by omega) (by omega) (by omega)).mono ?_); rintro e w10 ⟨rfl, T7, e7, l7, b7, o7⟩
      clear b6
      go_wp2_with fail
      (refine (hr.out g9 _ T7 3 4 9 14 _ _ _ _ rfl rfl rfl rfl _ b7 l7 (by omega) (by omega) (by omega) (by omega)).mono ?_); rintro e w11 ⟨rfl, T8, e8, l8, b8, o8⟩
      clear b7
      go_wp2_with fail
      go_roundw
      case rel =>
        refine ⟨k + 1, by omega, by go_num, ?_⟩
        rw [← hT0.out, hd2.out, dbl, ← e1.out, ← e2.out, ← e3.out, ← e4.out, ← e5.out, ← e6.out, ← e7.out, ← e8.out]
        exact B3.write 0 rfl (((((((o1.trans o2).trans o3).trans o4).trans o5).trans o6).trans o7).trans o8) b8
      case measure => simp [intOf]; omega
    · obtain rfl : 10 = k := by omega
      have hl := hdl.out 10
      generalize dblN S 10 = F at *
      have hCs := hid (chaOut_succ F S)
      have hCl := hid (chaOut_length F S)
      have hC0 := hid (show chaOut F S 0 = [] from rfl)
      go_wp2_with (first
        | (refine wpList_make_cap rfl _ _ _ rfl 5 _ 1 Tryz.underlying23 info8 rfl _ _ _ _ 0 64 rfl rfl rfl rfl (by omega) (by omega) (by omega) ?_; intro w4 hown4 hl4)
        | (refine load_W rfl _ rfl ((B3.nth 0 rfl).later hl4) hl rfl ?_)
        | fail)
      have hgr := B3.lat.size
      have B4 := B3.later hl4
      have hown5 : OwnB w4 w.heap.size (some ⟨wr.heap.size, 0, none⟩) 0 64 (chaOut F S 0) := by
        rw [hC0.out]
        exact own_mono hown4 hgr
      clear B3 hown4 hl4
      generalize wr.heap.size = g10 at *
      go_loopw [10, 39] (fun v i wr => ∃ (k : Nat) (A' : Option Addr) (c' : Nat), k ≤ 16 ∧ i = .int .i64 k ∧ v = .slice A' (4 * k) c' ∧ OwnB wr w.heap.size A' (4 * k) c' (chaOut F S k) ∧ Later w wr ∧ Blk wr g8 214 (S.map W32)) (fun _ i _ => 16 - (intOf i).toNat)
      case atStart => exact ⟨0, _, _, by omega, rfl, rfl, hown5, B4.lat, B4.nth 1 rfl⟩
      case round =>
        clear hown5 B4 hgr
        obtain ⟨k, A6, c6, hk6, rfl, rfl, hown, L, h8⟩ := hrel
        by_cases hlt : k < 16
        · have HCS := hid (hCs.out k)
          have c8 := h8.cellD k (w32_get (s := S) (by omega))
          have hix : ∀ W', (Instr.index 214 (.agg (F.map W32).toArray) (.int .i64 (k : Int))).run Tryz.prog W' = .ok (W32 (wAt F k)) W' := fun W' => run_index_one Tryz.underlying214 size_u32 Tryz.underlying76 rfl (F.map W32) .i64 k (W32 (wAt F k)) hlt (w32_get (by omega)) W'
          generalize wAt F k = xf at *
          generalize wAt S k = xs at *
          generalize chaOut F S k = O at *
          have hle : Hid ([xf.toUInt8 + xs.toUInt8, (shr32 (xf + xs) 8).toUInt8, (shr32 (xf + xs) 16).toUInt8, (shr32 (xf + xs) 24).toUInt8] = le4 (xf + xs)) := hid (by rw [le4, UInt32.toUInt8_add])
          have J := later_alloc wr (.cells #[W8 (xf.toUInt8 + xs.toUInt8), W8 (shr32 (xf + xs) 8).toUInt8, W8 (shr32 (xf + xs) 16).toUInt8, W8 (shr32 (xf + xs) 24).toUInt8] 5)
          go_wp2_with (first
            | (refine wpList_append_rd rfl _ _ _ rfl 5 _ 1 Tryz.underlying23 info8 rfl w _ (4 * k) _ (hown.later J) (L.trans J) _ 4 4 _ ((Blk.new wr 5 [W8 (xf.toUInt8 + xs.toUInt8), W8 (shr32 (xf + xs) 8).toUInt8, W8 (shr32 (xf + xs) 16).toUInt8, W8 (shr32 (xf + xs) 24).toUInt8]).rd rfl) (w8_one [xf.toUInt8 + xs.toUInt8, (shr32 (xf + xs) 8).toUInt8, (shr32 (xf + xs) 16).toUInt8, (shr32 (xf + xs) 24).toUInt8]) rfl rfl (by omega) (by omega) ?_; intro A7 c7 w7 hown7 hl7 hg7 _)
            | fail)
          have hown8 : OwnB w7 w.heap.size A7 (4 * k + 4) c7 (O ++ le4 (xf + xs)) := by
            rw [← hle.out]
            exact own_glue hown7
          rw [← HCS.out] at hown8
          have h9 := blk_grown (h8.later J) (hown.later J) (by decide) hg7
          go_roundw
          case rel => exact ⟨k + 1, A7, c7, by omega, by go_num, rfl, hown8, hl7, h9⟩
          case measure => simp [intOf]; omega
        · obtain rfl : 16 = k := by omega
          rw [← hC.out] at hown
          go_wp2_with fail
          go_ret2
          exact ⟨_, _, rfl, hown, L⟩
end Go.Proofs.YtkibgdigcgakfabGreat
namespace Go.Proofs.YtkibgdigcgakfabGreat
open Go.RowKit
open Go.BigFrame

/-- The first k blocks of a key's stream. -/
def chaF (key : List UInt8) (k : Nat) : List UInt8 := (List.range k).flatMap fun i => chaB key (List.replicate 12 0) (UInt32.ofNat i)
theorem chaF_succ (key : List UInt8) (k : Nat) : chaF key (k + 1) = chaF key k ++ chaB key (List.replicate 12 0) (UInt32.ofNat k) := by simp [chaF, List.range_succ]
theorem chaF_length (key : List UInt8) : ∀ k, (chaF key k).length = 64 * k
  | 0 => rfl
  | k + 1 => by rw [chaF_succ, List.length_append, chaF_length key k, chaB_length]; omega
/-- The first n bytes. -/
def chaS (key : List UInt8) (n : Nat) : List UInt8 := (chaF key ((n + 63) / 64)).take n
theorem chaS_length (key : List UInt8) (n : Nat) : (chaS key n).length = n := by
  rw [chaS, List.length_take, chaF_length]
  omega
theorem chaF_more (key : List UInt8) (k : Nat) : ∀ j, ∃ r, chaF key (k + j) = chaF key k ++ r
  | 0 => ⟨[], by simp⟩
  | j + 1 => by
    obtain ⟨r, h⟩ := chaF_more key k j
    exact ⟨r ++ chaB key (List.replicate 12 0) (UInt32.ofNat (k + j)), by rw [← Nat.add_assoc, chaF_succ, h, List.append_assoc]⟩
theorem chaS_take (key : List UInt8) (n k : Nat) (h : n ≤ 64 * k) : chaS key n = (chaF key k).take n := by
  obtain ⟨r, hr⟩ := chaF_more key ((n + 63) / 64) (k - (n + 63) / 64)
  rw [Nat.add_sub_cancel' (by omega)] at hr
  rw [hr, chaS, List.take_append_of_le_length (by rw [chaF_length]; omega)]
theorem take_more {α : Type} (l r : List α) (m n : Nat) (h : l.length = m) (hm : m ≤ n) : (l ++ r).take n = l ++ r.take (n - m) := by
  rw [List.take_append, h, List.take_of_length_le (by omega)]
theorem convert_quo (k : Nat) (w : World) : (convert 3 76 (.int .i64 (k : Int))).run Tryz.prog w = .ok (W32 (UInt32.ofNat k)) w := by
  have h := run_convert_int (P := Tryz.prog) (w := w) 3 76 .i64 (k : Int) (by rw [Tryz.underlying3]; rfl) (by unfold Program.intKind; rw [Tryz.underlying76])
  have e : Tryz.prog.intKind 76 = .u32 := by unfold Program.intKind; rw [Tryz.underlying76]
  rw [e] at h
  refine h.trans ?_
  congr 1
set_option maxRecDepth 100000 in
set_option maxHeartbeats 4000000 in
theorem piece_any (A : Option Addr) (c n : Nat) (key : List UInt8) (w : World) (hk : RdB w A 32 key) (hn : n ≤ 65536) :
    Calls Tryz.prog 95 #[.slice A 32 c, .int .i64 0, .int .i64 n] w fun e w' => ∃ A' c', e = .returned (.slice A' n c') ∧ OwnB w' w.heap.size A' n c' (chaS key n) ∧ Later w w' := by
  have hB := hid (fun B d ctr (w' : World) (hl : Later w w') hn => block_cha A B c d key (List.replicate 12 0) ctr w' (hk.later hl) hn)
  have hs1 := hid (chaF_succ key)
  have hl1 := hid (chaF_length key)
  have hS := hid (chaS_take key n)
  have hbl := hid (fun ctr => chaB_length key (List.replicate 12 0) ctr)
  have h0 := hid (show (chaF key 0).take 0 = [] from rfl)
  go_enter Tryz.func95, Tryz.ntmps95
  go_wp2_with (first
    | (refine wpList_make_n rfl _ _ _ rfl 5 _ 1 Tryz.underlying23 info8 rfl _ _ _ _ 12 rfl rfl rfl rfl (by omega) (by omega) ?_; intro w1 hb1 hl1')
    | (refine wpList_make_cap rfl _ _ _ rfl 5 _ 1 Tryz.underlying23 info8 rfl _ _ _ _ 0 n rfl rfl rfl rfl (by omega) (by omega) (by omega) ?_; intro w2 hown2 hl2)
    | fail)
  have hz1 := hl1'.size
  have hlt1 := hb1.lt
  have L2 := hl1'.trans hl2
  have hbase : w.heap.size < w1.heap.size := hlt1
  have hown3 : OwnB w2 w1.heap.size (some ⟨w1.heap.size, 0, none⟩) 0 n ((chaF key 0).take 0) := by
    rw [h0.out]
    exact hown2
  have hno : RdB w1 (some ⟨w.heap.size, 0, none⟩) 12 (List.replicate 12 0) := hb1.rd rfl
  clear hb1 hown2 L2 hz1
  have hL1 := hl2
  go_loopw [1, 8] (fun at_ v wr => ∃ (k m : Nat) (A' : Option Addr) (c' : Nat), at_ = .int .i64 m ∧ v = .slice A' m c' ∧ m ≤ n ∧ m ≤ 64 * k ∧ (m < n → m = 64 * k) ∧ OwnB wr w1.heap.size A' m c' ((chaF key k).take m) ∧ Later w1 wr) (fun _ v _ => n - lenOf v)
  case atStart => exact ⟨0, 0, _, _, rfl, rfl, by omega, by omega, fun _ => rfl, hown3, hL1⟩
  case round =>
    clear hown3 hL1 hl2
    obtain ⟨k, m, A6, c6, rfl, rfl, hmn, hmk, hm64, hown, L⟩ := hrel
    by_cases hlt : m < n
    · have hm := hm64 hlt
      have hq : (m : Int) / 64 = (k : Int) := by omega
      have hr : (m : Int) % 64 = 0 := by omega
      have hcv := convert_quo k
      have hb := hid (hs1.out k)
      have hBl := hid (hbl.out (UInt32.ofNat k))
      have HM := hid hm
      have HFl := hid (hl1.out k)
      clear hm hm64
      go_wp2_with fail
      (with_reducible refine (hB.out _ _ _ _ (hl1'.trans L) (hno.later L)).mono ?_); rintro e w4 ⟨A9, c9, rfl, hown9, j9⟩
      have hrd9 := hown9.rd
      have hcap := hown9.cap
      have hcut : ∀ W, (Instr.sliceAt 23 (.slice A9 64 c9) (some (.int .i64 0)) none none).run Tryz.prog W = .ok (.slice A9 64 c9) W := fun W => by
        have h := cut8_from A9 64 c9 .i64 0 (by omega) W
        simpa [cutA_zero] using h
      generalize chaB key (List.replicate 12 0) (UInt32.ofNat k) = Bk at *
      generalize chaF key k = Fk at *
      by_cases hbig : n - m < 64
      · obtain ⟨q, hqn⟩ : ∃ q, n = m + q := ⟨n - m, by omega⟩
        have hb1 : ((n : Int) - (m : Int)) < 64 := by omega
        have hcut2 : ∀ W, (Instr.sliceAt 23 (.slice A9 64 c9) none (some (.int .i64 ((n : Int) - (m : Int)))) none).run Tryz.prog W = .ok (.slice A9 q c9) W := fun W => by
          rw [show (n : Int) - (m : Int) = (q : Int) by omega]
          exact cut8_to A9 64 c9 .i64 q (by omega) W
        have hq64 : q < 64 := by omega
        have hrq := hrd9.take (m := q) (by omega)
        have hmq : m + q ≤ 65536 := by omega
        replace hqn := hid hqn
        go_wp2_with (first
          | (refine wpList_append_rd rfl _ _ _ rfl 5 _ 1 Tryz.underlying23 info8 rfl w1 _ m _ (hown.later j9) (L.trans j9) A9 q c9 _ hrq (w8_one _) rfl rfl (by omega) (by omega) ?_; intro A7 c7 w7 hown7 hl7 hg7 _)
          | fail)
        have hown8 := own_glue hown7
        go_roundw
        case rel =>
          refine ⟨k + 1, m + q, A7, c7, by go_num, rfl, by have := hqn.out; omega, by have := HM.out; omega, fun h => by have := hqn.out; omega, ?_, hl7⟩
          rw [hb.out, take_more _ _ _ _ HFl.out (by have := HM.out; omega), show m + q - 64 * k = q by have := HM.out; omega]
          rw [List.take_of_length_le (by rw [HFl.out, HM.out]; omega)] at hown8
          exact hown8
        case measure => have := hqn.out; simp [lenOf]; omega
      · have hb1 : ¬ ((n : Int) - (m : Int)) < 64 := by omega
        go_wp2_with (first
          | (refine wpList_append_rd rfl _ _ _ rfl 5 _ 1 Tryz.underlying23 info8 rfl w1 _ m _ (hown.later j9) (L.trans j9) A9 64 c9 _ hrd9 (w8_one _) rfl rfl (by omega) (by omega) ?_; intro A7 c7 w7 hown7 hl7 hg7 _)
          | fail)
        have hown8 := own_glue hown7
        go_roundw
        case rel =>
          refine ⟨k + 1, m + 64, A7, c7, by go_num, rfl, by omega, by have := HM.out; omega, fun h => by have := HM.out; omega, ?_, hl7⟩
          rw [hb.out, take_more _ _ _ _ HFl.out (by have := HM.out; omega), show m + 64 - 64 * k = 64 by have := HM.out; omega, List.take_of_length_le (by rw [hBl.out]; omega)]
          rw [List.take_of_length_le (by rw [HFl.out, HM.out]; omega)] at hown8
          exact hown8
        case measure => simp [lenOf]; omega
    · obtain rfl : n = m := by omega
      have hE := hid (hS.out k hmk)
      rw [← hE.out] at hown
      go_wp2_with fail
      go_ret
      exact ⟨_, _, rfl, hown.mono (Nat.le_of_lt hbase), hl1'.trans L⟩
theorem stream_any (A : Option Addr) (c n : Nat) (key : List UInt8) (w : World) (hk : RdB w A 32 key) (hn : n ≤ 65536) :
    Calls Tryz.prog 90 #[.slice A 32 c, .int .i64 n] w fun e w' => ∃ A' c', e = .returned (.tuple #[.slice A' n c', .int .i64 0]) ∧ OwnB w' w.heap.size A' n c' (chaS key n) ∧ Later w w' := by
  have hp := hid (fun c (w : World) h => piece_any A c n key w h hn)
  go_enter Tryz.func90, Tryz.ntmps90
  go_wp2_with fail
  (with_reducible refine (hp.out _ _ hk).mono ?_); rintro e w1 ⟨A1, c1, rfl, ho1, j1⟩
  go_wp2_with fail
  go_ret2
  exact ⟨_, _, rfl, ho1, j1⟩
end Go.Proofs.YtkibgdigcgakfabGreat
