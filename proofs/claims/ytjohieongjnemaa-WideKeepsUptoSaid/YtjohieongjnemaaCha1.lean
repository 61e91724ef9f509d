/-
  chacha: Quarter, word, round.
-/
import Derived.Test.YtjohieongjnemaaShaA
import Derived.Test.YtjohieongjnemaaBag
import Derived.Test.YtjohieongjnemaaByteStr
import Derived.Test.YtjohieongjnemaaCanonE
namespace Go.Proofs.Ytjohieongjnemaa
open Go.RowKit
open Go.BigFrame

def rotl (x : UInt32) (n : Nat) : UInt32 := shl32 x n ||| shr32 x (32 - n)
theorem rotl_count (n : Nat) (h1 : n < 32) : cnt (UInt64.ofInt (n : Int) &&& 31) = n ∧ cnt (32 - (UInt64.ofInt (n : Int) &&& 31)) = 32 - n := by
  have : ∀ k : Fin 32, cnt (UInt64.ofInt (k.val : Int) &&& 31) = k.val ∧ cnt (32 - (UInt64.ofInt (k.val : Int) &&& 31)) = 32 - k.val := by decide
  exact this ⟨n, h1⟩
theorem rotlp_any (x : UInt32) (n : Nat) (i : Int) (hi : i = (n : Int)) (h1 : n < 32) (w : World) :
    Calls Try.prog 139 #[W32 x, .int .i64 i] w fun e w' => e = .returned (W32 (rotl x n)) ∧ w' = w := by
  subst hi
  have hc := hid (rotl_count n h1)
  go_enter Try.func139, Try.ntmps139
  go_wp2
  go_ret
  exact ⟨ret_w32 (by rw [hc.out.1, hc.out.2, rotl]), rfl⟩
theorem results_tmp4 {fn : Func} {t u v x : Tmp} (h : fn.results = #[.tmp t, .tmp u, .tmp v, .tmp x]) (tmps : Array Value) (P : Program) (w : World) :
    (results fn tmps).run P w = .ok (.tuple #[tmps.getD t undef, tmps.getD u undef, tmps.getD v undef, tmps.getD x undef]) w := by
  simp [results, h]
/-- A quarter's words, half a round at a time. -/
def halfE (v : UInt32 × UInt32 × UInt32 × UInt32) (n : Nat) : UInt32 × UInt32 × UInt32 × UInt32 := (v.1 + v.2.1, v.2.1, v.2.2.1, rotl (v.2.2.2 ^^^ (v.1 + v.2.1)) n)
def halfO (v : UInt32 × UInt32 × UInt32 × UInt32) (n : Nat) : UInt32 × UInt32 × UInt32 × UInt32 := (v.1, rotl (v.2.1 ^^^ (v.2.2.1 + v.2.2.2)) n, v.2.2.1 + v.2.2.2, v.2.2.2)
def quart (a b c d : UInt32) : UInt32 × UInt32 × UInt32 × UInt32 := halfO (halfE (halfO (halfE (a, b, c, d) 16) 12) 8) 7
set_option maxHeartbeats 1000000 in
theorem quarter_any (a b c d : UInt32) (w : World) : Calls Try.prog 138 #[W32 a, W32 b, W32 c, W32 d] w fun e w' =>
    e = .returned (.tuple #[W32 (quart a b c d).1, W32 (quart a b c d).2.1, W32 (quart a b c d).2.2.1, W32 (quart a b c d).2.2.2]) ∧ w' = w := by
  have hr := hid rotlp_any
  go_enter Try.func138, Try.ntmps138
  go_wp2_with fail
  refine (hr.out _ 16 _ rfl (by omega) _).mono ?_; rintro e w1 ⟨rfl, rfl⟩
  go_wp2_with fail
  refine (hr.out _ 12 _ rfl (by omega) _).mono ?_; rintro e w1 ⟨rfl, rfl⟩
  go_wp2_with fail
  refine (hr.out _ 8 _ rfl (by omega) _).mono ?_; rintro e w1 ⟨rfl, rfl⟩
  go_wp2_with fail
  refine (hr.out _ 7 _ rfl (by omega) _).mono ?_; rintro e w1 ⟨rfl, rfl⟩
  go_wp2_with fail
  (try simp only [Exit.inBlock, Exit.then]); refine bodyPost_ret (results_tmp4 rfl _ _ _) rfl ?_
  exact ⟨rfl, rfl⟩
/-- The word at place 4k of a list of bytes, the least byte first. -/
def leW (bs : List UInt8) (k : Nat) : UInt32 := (byteAt bs (4 * k)).toUInt32 ||| shl32 (byteAt bs (4 * k + 1)).toUInt32 8 ||| shl32 (byteAt bs (4 * k + 2)).toUInt32 16 ||| shl32 (byteAt bs (4 * k + 3)).toUInt32 24
theorem ret_w32' {x y : UInt32} {w : World} (h : x = y) (w' : World) (hl : Later w w') : Ending.returned (W32 x) = .returned (W32 y) ∧ Later w w' := ⟨by rw [h], hl⟩
set_option maxHeartbeats 1000000 in
theorem word_at (A : Option Addr) (n c : Nat) (bs : List UInt8) (p : Nat) (w : World) (hr : RdB w A n bs) (hk : p + 4 ≤ n) (hn : n ≤ 140737488355328) :
    Calls Try.prog 137 #[.slice A n c, .int .i64 (p : Int)] w fun e w' => e = .returned (W32 ((byteAt bs p).toUInt32 ||| shl32 (byteAt bs (p + 1)).toUInt32 8 ||| shl32 (byteAt bs (p + 2)).toUInt32 16 ||| shl32 (byteAt bs (p + 3)).toUInt32 24)) ∧ Later w w' := by
  have hl := hr.len
  obtain ⟨b, o, rfl, hb, hc⟩ := hr.at_ (by omega)
  have c0 := hc p (by omega)
  have c1 := hc (p + 1) (by omega)
  have c2 := hc (p + 2) (by omega)
  have c3 := hc (p + 3) (by omega)
  unfold byteAt
  generalize bs.getD p 0 = x0 at *
  generalize bs.getD (p + 1) 0 = x1 at *
  generalize bs.getD (p + 2) 0 = x2 at *
  generalize bs.getD (p + 3) 0 = x3 at *
  clear hc hr
  go_enter Try.func137, Try.ntmps137
  go_wp2_with fail
  refine wp_region_parts [] [0, 1, 2, 3, 4, 5, 6, 7, 8, 9, 10, 11, 12, 13, 14, 15, 16, 17, 18, 19, 20, 21, 22, 23, 24, 25, 26, 27, 28, 29] [] (by as_aux_lemma => kernel_rfl) (by as_aux_lemma => kernel_rfl) (by intro _ _ d _ _ h; cases d <;> exact h) ?_
  simp only [wpParts, pick, List.getElem?_cons_succ, List.getElem?_cons_zero, Option.toList_some, List.cons_append, List.nil_append]
  repeat (go_big_quiet_step (fail))
  refine wpQuiet_nil ?_
  go_wp2_with fail
  go_ret
  exact ret_w32' rfl _ (later_drew _)
theorem word_any (A : Option Addr) (n c : Nat) (bs : List UInt8) (k : Nat) (i : Int) (hi : i = 4 * (k : Int)) (w : World) (hr : RdB w A n bs) (hk : 4 * k + 4 ≤ n) (hn : n ≤ 140737488355328) :
    Calls Try.prog 137 #[.slice A n c, .int .i64 i] w fun e w' => e = .returned (W32 (leW bs k)) ∧ Later w w' := by
  obtain rfl : i = ((4 * k : Nat) : Int) := by omega
  exact word_at A n c bs (4 * k) w hr hk hn
def putQ (s : List UInt32) (a b c d : Nat) (q : UInt32 × UInt32 × UInt32 × UInt32) : List UInt32 := (((s.set a q.1).set b q.2.1).set c q.2.2.1).set d q.2.2.2
def roundL (s : List UInt32) (a b c d : Nat) : List UInt32 := putQ s a b c d (quart (wAt s a) (wAt s b) (wAt s c) (wAt s d))
theorem roundL_length (s : List UInt32) (a b c d : Nat) : (roundL s a b c d).length = s.length := by simp [roundL, putQ]
theorem w32_get {s : List UInt32} {i : Nat} (h : i < s.length) : (s.map W32)[i]? = some (W32 (wAt s i)) := by
  rw [List.getElem?_map, List.getElem?_eq_getElem h, wAt, List.getD_eq_getElem?_getD, List.getElem?_eq_getElem h]
  rfl
theorem set_w32 (s : List UInt32) (i : Nat) (x : UInt32) : (s.map W32).set i (W32 x) = (s.set i x).map W32 := by rw [List.map_set]
theorem size_u32 : (Try.prog.info? 94).map (·.size) = some 1 := by kernel_rfl
set_option maxRecDepth 100000 in
set_option maxHeartbeats 2000000 in
theorem round_any (g : Nat) (t : TypeId) (s : List UInt32) (a b c d : Nat) (ia ib ic id : Int) (ha : ia = (a : Int)) (hb : ib = (b : Int)) (hc : ic = (c : Int)) (hd : id = (d : Int)) (w : World) (hs : Blk w g t (s.map W32)) (hl : s.length = 16) (h1 : a < 16) (h2 : b < 16) (h3 : c < 16) (h4 : d < 16) :
    Calls Try.prog 130 #[.pointer (some ⟨g, 0, none⟩), .int .i64 ia, .int .i64 ib, .int .i64 ic, .int .i64 id] w fun e w' => e = .returned (.tuple #[]) ∧ Blk w' g t ((roundL s a b c d).map W32) ∧ Only g w w' := by
  subst ha hb hc hd
  have d1 := hs.cellD a (w32_get (s := s) (by omega))
  have d2 := hs.cellD b (w32_get (s := s) (by omega))
  have d3 := hs.cellD c (w32_get (s := s) (by omega))
  have d4 := hs.cellD d (w32_get (s := s) (by omega))
  have hq := hid quarter_any
  have hR := hid (show roundL s a b c d = putQ s a b c d (quart (wAt s a) (wAt s b) (wAt s c) (wAt s d)) from rfl)
  generalize roundL s a b c d = R at *
  generalize wAt s a = xa at *
  generalize wAt s b = xb at *
  generalize wAt s c = xc at *
  generalize wAt s d = xd at *
  go_enter Try.func130, Try.ntmps130
  go_wp2_with fail
  refine wp_region_partsE [([0, 1, 2, 3, 4, 5, 6, 7, 34, 37, 40, 43], [8, 9, 10, 11, 12, 13, 14, 15, 16, 17, 18, 19, 20, 21, 22, 23, 24, 25, 26, 27], 28)] [29, 30, 31, 32, 33] [35] [36, 38, 39, 41, 42, 44, 45] (by as_aux_lemma => kernel_rfl) (by as_aux_lemma => kernel_rfl) (by intro _ _ d _ _ h; cases d <;> exact h) ?_
  simp only [wpPartsE, pick, List.getElem?_cons_succ, List.getElem?_cons_zero, Option.toList_some, List.cons_append, List.nil_append]
  repeat (go_big_quiet_step (fail))
  refine wpQuiet_nil ?_
  repeat (go_big_quiet_step (fail))
  refine wpQuiet_nil ?_
  go_wp2_with fail
  refine (hq.out _ _ _ _ _).mono ?_; rintro e w1 ⟨rfl, rfl⟩
  generalize quart xa xb xc xd = q at *
  obtain ⟨qa, qb, qc, qd⟩ := q
  go_wp2_with fail
  try refine ⟨by first | assumption | exact later_drew _ | exact later_alloc _ _ | exact Later.refl _, ?_⟩
  try simp only [wpPartsE, pick, List.getElem?_cons_succ, List.getElem?_cons_zero, Option.toList_some, List.cons_append, List.nil_append]
  repeat (go_big_quiet_step (fail))
  refine wpQuiet_nil ?_
  repeat (go_big_quiet_step (fail))
  refine wpQuiet_nil ?_
  have hs' := hs.drew
  go_wp2_with (first
    | (refine wpList_store_in rfl rfl _ _ _ rfl g a t _ hs' rfl (by rw [List.length_map]; omega) rfl size_u32 ?_; intro v' w5 hv' hb5 ho5; simp [go_sem] at hv'; subst hv'; rw [set_w32] at hb5)
    | (refine wpList_store_in rfl rfl _ _ _ rfl g b t _ hb5 rfl (by rw [List.length_map, List.length_set]; omega) rfl size_u32 ?_; intro v' w6 hv' hb6 ho6; simp [go_sem] at hv'; subst hv'; rw [set_w32] at hb6)
    | (refine wpList_store_in rfl rfl _ _ _ rfl g c t _ hb6 rfl (by rw [List.length_map, List.length_set, List.length_set]; omega) rfl size_u32 ?_; intro v' w7 hv' hb7 ho7; simp [go_sem] at hv'; subst hv'; rw [set_w32] at hb7)
    | (refine wpList_store_in rfl rfl _ _ _ rfl g d t _ hb7 rfl (by rw [List.length_map, List.length_set, List.length_set, List.length_set]; omega) rfl size_u32 ?_; intro v' w8 hv' hb8 ho8; simp [go_sem] at hv'; subst hv'; rw [set_w32] at hb8)
    | fail)
  exact bodyPost_end (results_none rfl _ _ _) rfl ⟨rfl, by rw [hR.out]; exact hb8, (later_drew _).thenOnly (((ho5.trans ho6).trans ho7).trans ho8)⟩
end Go.Proofs.Ytjohieongjnemaa
