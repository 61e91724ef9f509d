/-
  chacha: Block, piece, Stream.
-/
import Derived.Test.YtjohieongjnemaaCha2
import Derived.Test.YtjohieongjnemaaHelp
namespace Go.Proofs.Ytjohieongjnemaa
open Go.RowKit
open Go.BigFrame

def dbl (s : List UInt32) : List UInt32 :=
  roundL (roundL (roundL (roundL (roundL (roundL (roundL (roundL s 0 4 8 12) 1 5 9 13) 2 6 10 14) 3 7 11 15) 0 5 10 15) 1 6 11 12) 2 7 8 13) 3 4 9 14
def dblN (s : List UInt32) : Nat → List UInt32
  | 0 => s
  | k + 1 => dbl (dblN s k)
theorem dbl_length (s : List UInt32) : (dbl s).length = s.length := by simp [dbl, roundL_length]
theorem dblN_length (s : List UInt32) : ∀ k, (dblN s k).length = s.length
  | 0 => rfl
  | k + 1 => by rw [dblN, dbl_length, dblN_length s k]
/-- A word's bytes, the least first. -/
def le4 (x : UInt32) : List UInt8 := [x.toUInt8, (shr32 x 8).toUInt8, (shr32 x 16).toUInt8, (shr32 x 24).toUInt8]
def chaOut (f s : List UInt32) (k : Nat) : List UInt8 := (List.range k).flatMap fun i => le4 (wAt f i + wAt s i)
theorem chaOut_succ (f s : List UInt32) (k : Nat) : chaOut f s (k + 1) = chaOut f s k ++ le4 (wAt f k + wAt s k) := by
  simp [chaOut, List.range_succ]
theorem chaOut_length (f s : List UInt32) : ∀ k, (chaOut f s k).length = 4 * k
  | 0 => rfl
  | k + 1 => by rw [chaOut_succ, List.length_append, chaOut_length f s k, le4]; simp; omega
/-- The 64 bytes of a block. -/
def chaB (key nonce : List UInt8) (ctr : UInt32) : List UInt8 := chaOut (dblN (initL key nonce ctr) 10) (initL key nonce ctr) 16
theorem chaB_length (key nonce : List UInt8) (ctr : UInt32) : (chaB key nonce ctr).length = 64 := chaOut_length _ _ 16
theorem own_glue {w : World} {base : Nat} {A : Option Addr} {n c : Nat} {xs ys : List UInt8} (h : w.ownsRow base 5 1 (.slice A n c) n (xs.map W8 ++ ys.map W8)) : OwnB w base A n c (xs ++ ys) := by
  rw [← List.map_append] at h
  exact h
theorem round_ex (g : Nat) (t : TypeId) (s : List UInt32) (a b c d : Nat) (ia ib ic id : Int) (ha : ia = (a : Int)) (hb : ib = (b : Int)) (hc : ic = (c : Int)) (hd : id = (d : Int)) (w : World) (hs : Blk w g t (s.map W32)) (hl : s.length = 16) (h1 : a < 16) (h2 : b < 16) (h3 : c < 16) (h4 : d < 16) :
    Calls Try.prog 130 #[.pointer (some ⟨g, 0, none⟩), .int .i64 ia, .int .i64 ib, .int .i64 ic, .int .i64 id] w fun e w' => e = .returned (.tuple #[]) ∧ ∃ s', Hid (s' = roundL s a b c d) ∧ s'.length = 16 ∧ Blk w' g t (s'.map W32) ∧ Only g w w' :=
  (round_any g t s a b c d ia ib ic id ha hb hc hd w hs hl h1 h2 h3 h4).mono fun _ _ ⟨he, hb, ho⟩ => ⟨he, _, hid rfl, (roundL_length s a b c d).trans hl, hb, ho⟩
set_option maxRecDepth 100000 in
set_option maxHeartbeats 8000000 in
theorem block_cha (A B : Option Addr) (c d : Nat) (key nonce : List UInt8) (ctr : UInt32) (w : World) (hk : RdB w A 32 key) (hn : RdB w B 12 nonce) :
    Calls Try.prog 115 #[.slice A 32 c, .slice B 12 d, W32 ctr] w fun e w' => ∃ A' c', e = .returned (.tuple #[.slice A' 64 c', .int .i64 0]) ∧ OwnB w' w.heap.size A' 64 c' (chaB key nonce ctr) ∧ Later w w' := by
  have hI := hid (initial_any A B c d key nonce ctr w hk hn)
  have hsl := initL_length key nonce ctr
  have hC := hid (show chaB key nonce ctr = chaOut (dblN (initL key nonce ctr) 10) (initL key nonce ctr) 16 from rfl)
  generalize initL key nonce ctr = S at *
  generalize chaB key nonce ctr = CB at *
  have hr := hid round_ex
  have hdl := hid (fun k => (dblN_length S k).trans hsl)
  have hrl := hid roundL_length
  have hd1 := hid (fun k => show dblN S (k + 1) = dbl (dblN S k) from rfl)
  go_enter Try.func115, Try.ntmps115
  go_wp2_with fail
  (with_reducible refine (hI.out).mono ?_); rintro e w1 ⟨rfl, j1⟩
  go_wp2_with (first
    | (refine store_W rfl rfl _ _ rfl (Blk.new w1 _ (List.replicate 16 (.int .u32 0))) rfl rfl hsl rfl ?_; intro w2 hb2 ho2
       have B2 := (Bag.none w).push (j1.trans (later_alloc w1 _)) j1.size ho2 hb2)
    | (refine load_W rfl _ rfl (B2.nth 0 rfl) hsl rfl ?_)
    | (refine store_W rfl rfl _ _ rfl (Blk.new w2 _ (List.replicate 16 (.int .u32 0))) rfl rfl hsl rfl ?_; intro w3 hb3 ho3
       have B3 := B2.push (later_alloc w2 _) (Nat.le_refl _) ho3 hb3)
    | fail)
  clear B2 hb2 hb3 ho2 ho3 j1
  generalize w1.heap.size = g8 at *
  generalize w2.heap.size = g9 at *
  go_loopw [26] (fun i wr => ∃ k : Nat, k ≤ 10 ∧ i = .int .i64 k ∧ Bag w wr [(g9, 176, (dblN S k).map W32), (g8, 176, S.map W32)]) (fun i _ => 10 - (intOf i).toNat)
  case atStart => exact ⟨0, by omega, rfl, B3⟩
  case round =>
    clear B3
    obtain ⟨k, hk', rfl, B3⟩ := hrel
    by_cases hlt : k < 10
    · have hl := hdl.out k
      have hd2 := hid (hd1.out k)
      generalize dblN S k = T at *
      obtain ⟨T0, hT0⟩ : ∃ T0, T0 = dblN S (k + 1) := ⟨_, rfl⟩
      rw [← hT0] at hd2
      replace hT0 := hid hT0
      go_wp2_with fail
      have b0 := B3.nth 0 rfl
      (refine (hr.out g9 _ T 0 4 8 12 _ _ _ _ rfl rfl rfl rfl _ b0 hl (by omega) (by omega) (by omega) (by omega)).mono ?_); rintro e w4 ⟨rfl, T1, e1, l1, b1, o1⟩
      go_wp2_with fail
      (refine (hr.out g9 _ T1 1 5 9 13 _ _ _ _ rfl rfl rfl rfl _ b1 l1 (by omega) (by omega) (by omega) (by omega)).mono ?_); rintro e w5 ⟨rfl, T2, e2, l2, b2, o2⟩
      clear b1
      go_wp2_with fail
      (refine (hr.out g9 _ T2 2 6 10 14 _ _ _ _ rfl rfl rfl rfl _ b2 l2 (by omega) (by omega) (by omega) (by omega)).mono ?_); rintro e w6 ⟨rfl, T3, e3, l3, b3, o3⟩
      clear b2
      go_wp2_with fail
      (refine (hr.out g9 _ T3 3 7 11 15 _ _ _ _ rfl rfl rfl rfl _ b3 l3 (by omega) (by omega) (by omega) (by omega)).mono ?_); rintro e w7 ⟨rfl, T4, e4, l4, b4, o4⟩
      clear b3
      go_wp2_with fail
      (refine (hr.out g9 _ T4 0 5 10 15 _ _ _ _ rfl rfl rfl rfl _ b4 l4 (by omega) (by omega) (by omega) (by omega)).mono ?_); rintro e w8 ⟨rfl, T5, e5, l5, b5, o5⟩
      clear b4
      go_wp2_with fail
      (refine (hr.out g9 _ T5 1 6 11 12 _ _ _ _ rfl rfl rfl rfl _ b5 l5 (by omega) (by omega) (by omega) (by omega)).mono ?_); rintro e w9 ⟨rfl, T6, e6, l6, b6, o6⟩
      clear b5
      go_wp2_with fail
      (refine (hr.out g9 _ T6 2 7 8 13 _ _ _ _ rfl rfl rfl rfl _ b6 l6 (by omega) (by omega) (by omega) (by omega)).mono ?_); rintro e w10 ⟨rfl, T7, e7, l7, b7, o7⟩
      clear b6
      go_wp2_with fail
      (refine (hr.out g9 _ T7 3 4 9 14 _ _ _ _ rfl rfl rfl rfl _ b7 l7 (by omega) (by omega) (by omega) (by omega)).mono ?_); rintro e w11 ⟨rfl, T8, e8, l8, b8, o8⟩
      clear b7
      go_wp2_with fail
      go_roundw
      case rel =>
        refine ⟨k + 1, by omega, by go_num, ?_⟩
        rw [← hT0.out, hd2.out, dbl, ← e1.out, ← e2.out, ← e3.out, ← e4.out, ← e5.out, ← e6.out, ← e7.out, ← e8.out]
        exact B3.write 0 rfl (((((((o1.trans o2).trans o3).trans o4).trans o5).trans o6).trans o7).trans o8) b8
      case measure => simp [intOf]; omega
    · obtain rfl : 10 = k := by omega
      have hl := hdl.out 10
      generalize dblN S 10 = F at *
      have hCs := hid (chaOut_succ F S)
      have hCl := hid (chaOut_length F S)
      have hC0 := hid (show chaOut F S 0 = [] from rfl)
      go_wp2_with (first
        | (refine wpList_make_cap rfl _ _ _ rfl 5 _ 1 Try.underlying22 info8 rfl _ _ _ _ 0 64 rfl rfl rfl rfl (by omega) (by omega) (by omega) ?_; intro w4 hown4 hl4)
        | (refine load_W rfl _ rfl ((B3.nth 0 rfl).later hl4) hl rfl ?_)
        | fail)
      have hgr := B3.lat.size
      have B4 := B3.later hl4
      have hown5 : OwnB w4 w.heap.size (some ⟨wr.heap.size, 0, none⟩) 0 64 (chaOut F S 0) := by
        rw [hC0.out]
        exact own_mono hown4 hgr
      clear B3 hown4 hl4
      generalize wr.heap.size = g10 at *
      go_loopw [10, 39] (fun v i wr => ∃ (k : Nat) (A' : Option Addr) (c' : Nat), k ≤ 16 ∧ i = .int .i64 k ∧ v = .slice A' (4 * k) c' ∧ OwnB wr w.heap.size A' (4 * k) c' (chaOut F S k) ∧ Later w wr ∧ Blk wr g8 176 (S.map W32)) (fun _ i _ => 16 - (intOf i).toNat)
      case atStart => exact ⟨0, _, _, by omega, rfl, rfl, hown5, B4.lat, B4.nth 1 rfl⟩
      case round =>
        clear hown5 B4 hgr
        obtain ⟨k, A6, c6, hk6, rfl, rfl, hown, L, h8⟩ := hrel
        by_cases hlt : k < 16
        · have HCS := hid (hCs.out k)
          have c8 := h8.cellD k (w32_get (s := S) (by omega))
          have hix : ∀ W', (Instr.index 176 (.agg (F.map W32).toArray) (.int .i64 (k : Int))).run Try.prog W' = .ok (W32 (wAt F k)) W' := fun W' => run_index_one Try.underlying176 size_u32 Try.underlying94 rfl (F.map W32) .i64 k (W32 (wAt F k)) hlt (w32_get (by omega)) W'
          generalize wAt F k = xf at *
          generalize wAt S k = xs at *
          generalize chaOut F S k = O at *
          have hle : Hid ([xf.toUInt8 + xs.toUInt8, (shr32 (xf + xs) 8).toUInt8, (shr32 (xf + xs) 16).toUInt8, (shr32 (xf + xs) 24).toUInt8] = le4 (xf + xs)) := hid (by rw [le4, UInt32.toUInt8_add])
          have J := later_alloc wr (.cells #[W8 (xf.toUInt8 + xs.toUInt8), W8 (shr32 (xf + xs) 8).toUInt8, W8 (shr32 (xf + xs) 16).toUInt8, W8 (shr32 (xf + xs) 24).toUInt8] 5)
          go_wp2_with (first
            | (refine wpList_append_rd rfl _ _ _ rfl 5 _ 1 Try.underlying22 info8 rfl w _ (4 * k) _ (hown.later J) (L.trans J) _ 4 4 _ ((Blk.new wr 5 [W8 (xf.toUInt8 + xs.toUInt8), W8 (shr32 (xf + xs) 8).toUInt8, W8 (shr32 (xf + xs) 16).toUInt8, W8 (shr32 (xf + xs) 24).toUInt8]).rd rfl) (w8_one [xf.toUInt8 + xs.toUInt8, (shr32 (xf + xs) 8).toUInt8, (shr32 (xf + xs) 16).toUInt8, (shr32 (xf + xs) 24).toUInt8]) rfl rfl (by omega) (by omega) ?_; intro A7 c7 w7 hown7 hl7 hg7 _)
            | fail)
          have hown8 : OwnB w7 w.heap.size A7 (4 * k + 4) c7 (O ++ le4 (xf + xs)) := by
            rw [← hle.out]
            exact own_glue hown7
          rw [← HCS.out] at hown8
          have h9 := blk_grown (h8.later J) (hown.later J) (by decide) hg7
          go_roundw
          case rel => exact ⟨k + 1, A7, c7, by omega, by go_num, rfl, hown8, hl7, h9⟩
          case measure => simp [intOf]; omega
        · obtain rfl : 16 = k := by omega
          rw [← hC.out] at hown
          go_wp2_with fail
          go_ret2
          exact ⟨_, _, rfl, hown, L⟩
end Go.Proofs.Ytjohieongjnemaa
