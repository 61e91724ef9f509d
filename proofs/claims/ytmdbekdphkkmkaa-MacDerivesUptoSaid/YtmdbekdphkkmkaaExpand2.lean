/-
  mac.Expand and the document's.
-/
import Derived.Test.YtmdbekdphkkmkaaExpand
namespace Go.Proofs.Ytmdbekdphkkmkaa
open Go.RowKit

/-- A slice into the front of a block of the call's own that holds nothing else that counts. -/
def Front (w : World) (base : Nat) (A : Option Addr) (n : Nat) (bs : List UInt8) : Prop :=
  bs.length = n ∧ ((A = none ∧ n = 0) ∨ ∃ g rest, A = some ⟨g, 0, none⟩ ∧ base ≤ g ∧ Blk w g 5 (bs.map W8 ++ rest))
theorem Front.rd {w : World} {base : Nat} {A : Option Addr} {n : Nat} {bs : List UInt8} (h : Front w base A n bs) : RdB w A n bs := by
  obtain ⟨h1, h2⟩ := h
  rcases h2 with ⟨rfl, rfl⟩ | ⟨g, rest, rfl, _, hb⟩
  · obtain rfl : bs = [] := List.eq_nil_of_length_eq_zero h1
    exact rdb_none w
  · exact rd_pre' hb (by simpa using h1)
theorem Front.later {w w' : World} {base : Nat} {A : Option Addr} {n : Nat} {bs : List UInt8} (h : Front w base A n bs) (hl : Later w w') : Front w' base A n bs := by
  obtain ⟨h1, h2⟩ := h
  exact ⟨h1, h2.imp id fun ⟨g, rest, e, hb, hk⟩ => ⟨g, rest, e, hb, hk.later hl⟩⟩
theorem front_own {w : World} {base : Nat} {A : Option Addr} {n c m : Nat} {bs : List UInt8} (h : OwnB w base A n c bs) (hm : m ≤ n) : Front w base A m (bs.take m) := by
  have hl := h.len
  refine ⟨by rw [List.length_take]; omega, ?_⟩
  rcases own_blk h with ⟨rfl, rfl⟩ | ⟨g, rest, rfl, hb, hk, _⟩
  · exact .inl ⟨rfl, by omega⟩
  · refine .inr ⟨g, (bs.drop m).map W8 ++ rest, rfl, hb, ?_⟩
    rw [← List.append_assoc, ← List.map_append, List.take_append_drop]
    exact hk
theorem ne_arr : (39 : TypeId) ≠ 5 := by decide
/-- The last piece: none, or in an array of its own. -/
def LastAt (w : World) (v : Value) (k : Nat) (T : List UInt8) : Prop :=
  (k = 0 ∧ v = .slice none 0 0 ∧ T = []) ∨ ∃ g, 0 < k ∧ v = .slice (some ⟨g, 0, none⟩) 32 32 ∧ T.length = 32 ∧ Blk w g 39 (T.map W8)
theorem LastAt.rd {w : World} {v : Value} {k : Nat} {T : List UInt8} (h : LastAt w v k T) : ∃ A n c, v = .slice A n c ∧ n ≤ c ∧ RdB w A n T := by
  rcases h with ⟨_, rfl, rfl⟩ | ⟨g, _, rfl, hl, hb⟩
  · exact ⟨none, 0, 0, rfl, Nat.le_refl _, rdb_none w⟩
  · exact ⟨_, 32, 32, rfl, Nat.le_refl _, hb.rd (by simpa using hl)⟩
theorem three_flat (a b c : List UInt8) : [a, b, c].flatten = a ++ b ++ c := by simp
set_option maxRecDepth 100000 in
set_option maxHeartbeats 2000000 in
theorem expand_ok (A B : Option Addr) (n c m d : Nat) (N : Nat) (key : List UInt8) (ps : List (List UInt8)) (w : World) (hx : RdB w A n key) (hc : n ≤ c) (hn : n ≤ 140737488355328) (hp : Parts w (fun _ => False) B m ps) (hm : m ≤ 140737488355328) (hlen : ps.flatten.length ≤ 70368744177664) (hN : N ≤ 8160) :
    Calls Try.prog 49 #[.slice A n c, .int .i64 N, .slice B m d] w fun e w' => ∃ A', e = .returned (.tuple #[.slice A' N N, .int .i64 0]) ∧ Front w' w.heap.size A' N (expB key ps.flatten N) ∧ Later w w' := by
  have hj := hid (cjoin_any B m d ps w hp hm (by omega))
  generalize ps.flatten = F at *
  generalize hFl : F.length = fl at *
  go_enter Try.func49, Try.ntmps49
  go_wp2_with (first
    | (go_at_call 74; refine hj.out.mono ?_; rintro e w1 ⟨A1, c1, rfl, hown1, hl1⟩)
    | (refine wpList_make_cap rfl _ _ _ rfl 5 _ 1 Try.underlying22 info8 rfl _ _ _ _ 0 (N + 32) rfl rfl ?hL ?hC (by omega) (by omega) (by omega) ?_; (case hL => rfl); (case hC => go_num); intro w2 hown2 hl2))
  have hown2' : OwnB w2 w1.heap.size (some ⟨w1.heap.size, 0, none⟩) 0 (N + 32) [] := hown2
  have hlt1 := own_below hown1
  have hcap1 := hown1.cap
  go_loopw [9, 10, 11] (fun out last i wr => ∃ (k : Nat) (A9 : Option Addr) (c9 : Nat), i = .int .i64 ((k : Int) + 1) ∧ (k = 0 ∨ 32 * (k - 1) < N) ∧ out = .slice A9 (32 * k) c9 ∧ LastAt wr last k (hkT key F k) ∧ OwnB wr w1.heap.size A9 (32 * k) c9 (hkO key F k) ∧ Later w1 wr) (fun _ _ i _ => 8200 - 32 * (intOf i).toNat)
  case atStart => exact ⟨0, _, _, rfl, .inl rfl, rfl, .inl ⟨rfl, rfl, rfl⟩, hown2', hl2⟩
  case round =>
    clear hown2 hown2' hl2
    obtain ⟨k, A9, c9, rfl, hkN, rfl, hlast, hown, hl⟩ := hrel
    have hcap9 := hown.cap
    by_cases hlt : 32 * k < N
    · obtain ⟨A10, l10, c10, rfl, hc10, hr10⟩ := hlast.rd
      have hkl := hkT_length key F k
      have hl10 := hr10.len
      have hT : (hkT key F (k + 1)).length = 32 := by rw [hkT, macTag_length]
      have ht := fun B w h1 h2 => tag_any A B n c 3 3 key [hkT key F k, F, [UInt8.ofInt (k : Int) + 1]] w h1 hc hn h2
      have he : macTag key [hkT key F k, F, [UInt8.ofInt (k : Int) + 1]].flatten = hkT key F (k + 1) := by rw [three_flat, hkT]
      rw [he, three_flat] at ht
      have hfl : (hkT key F k ++ F ++ [UInt8.ofInt (k : Int) + 1]).length ≤ 70368744177700 := by simp; omega
      have ho' : hkO key F (k + 1) = hkO key F k ++ hkT key F (k + 1) := rfl
      have HT := hid ht
      have HO := hid ho'
      clear ht he ho'
      generalize hT1 : hkT key F (k + 1) = T at *
      generalize hkT key F k = Tk at *
      generalize hkO key F k = O at *
      have HT1 := hid hT1
      clear hT1
      have hltN : ((32 * k : Nat) : Int) < (N : Int) := by omega
      go_wp2_with (first
        | (go_at_call 53; refine (HT.out (some ⟨wr.heap.size + 1, 0, none⟩) _ (hx.later ((hl1.trans hl).trans ((later_alloc _ _).alloc _))) ?hp (by omega) (by omega)).mono ?_
           (case hp => exact parts_of ((Blk.new' _ 22 [.slice A10 l10 c10, .slice A1 fl c1, .slice (some ⟨wr.heap.size, 0, none⟩) 1 1] (by simp)).rd rfl) ⟨part_of (hr10.later ((later_alloc _ _).alloc _)) hc10, part_of ((hown1.later hl).later ((later_alloc _ _).alloc _)).rd hcap1, part_of (((Blk.new wr 5 [W8 (UInt8.ofInt (k : Int) + 1)]).later (later_alloc _ _)).rd rfl) (by omega), trivial⟩)
           rintro e w3 ⟨rfl, hl3⟩)
        | (refine wpList_store_agg rfl rfl 39 _ _ rfl w3.heap.size 0 39 (List.replicate 32 (W8 0)) (T.map W8) ?bk ?hx ?hy ?hi ?hf ?h1 ?_; (case hx => rfl); (case hy => rfl); (case hi => rw [List.length_map, hT]; kernel_rfl); (case hf => simp [hT]); (case h1 => exact w8_one _); (case bk => exact Blk.new _ _ _); intro w4 hb4 ho4
           rw [spliced_all _ _ (by simp [hT])] at hb4
           have L3 := ((later_alloc wr _).alloc _).trans hl3
           have hown4 := own_only (own_later (own_later hown L3) (later_alloc _ _)) ho4 (fun b hb => by have := own_below hown b hb; have := L3.size; omega)
           have hl4 := ((hl.trans L3).alloc _).only ho4 (by have := (hl.trans L3).size; omega))
        | (refine wpList_append_rd rfl _ _ _ rfl 5 _ 1 Try.underlying22 info8 rfl w1 _ (32 * k) _ hown4 hl4 (some ⟨w3.heap.size, 0, none⟩) 32 32 _ (hb4.rd (by simp [hT])) (w8_one _) rfl rfl (by omega) (by omega) ?_; intro A5 c5 w5 hown5 hl5 hg5 _
           have hb5 := blk_grown hb4 hown4 ne_arr hg5
           have hown5' := own_cut hown5 rfl (show 32 * k + 32 = 32 * (k + 1) by omega)))
      refine ⟨⟨k + 1, A5, c5, by go_num, .inr (by omega), by rw [show 32 * k + 32 = 32 * (k + 1) by omega], ?_, ?_, hl5⟩, by simp only [intOf]; omega⟩
      · exact .inr ⟨w3.heap.size, by omega, rfl, by rw [HT1.out]; exact hT, by rw [HT1.out]; exact hb5⟩
      · rw [HO.out]
        exact hown5'
    · have hk : k = (N + 31) / 32 := by omega
      have hltN : ¬ ((32 * k : Nat) : Int) < (N : Int) := by omega
      have hNc : N ≤ c9 := by omega
      go_wp2
      go_ret2
      refine ⟨A9, rfl, ?_, hl1.trans hl⟩
      rw [expB, ← hk]
      have := front_own hown (m := N) (by omega)
      exact ⟨this.1, this.2.imp id fun ⟨g, rest, e, hb, hk⟩ => ⟨g, rest, e, Nat.le_trans hl1.size hb, hk⟩⟩
theorem expand_bad (A B : Option Addr) (n c m d : Nat) (N : Int) (w : World) (hN : N < 0 ∨ 8160 < N) :
    Calls Try.prog 49 #[.slice A n c, .int .i64 N, .slice B m d] w fun e w' => e = .returned (.tuple #[.slice none 0 0, .int .i64 1]) ∧ w' = w := by
  by_cases h0 : N < 0
  · go_enter Try.func49, Try.ntmps49
    go_wp2
    go_ret2
    exact ⟨rfl, rfl⟩
  · have h1 : 8160 < N := by omega
    go_enter Try.func49, Try.ntmps49
    go_wp2
    go_ret2
    exact ⟨rfl, rfl⟩
end Go.Proofs.Ytmdbekdphkkmkaa
