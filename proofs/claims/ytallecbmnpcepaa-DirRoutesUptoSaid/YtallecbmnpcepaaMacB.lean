/-
  shallotlaw03: awake, MacTags, MacChecks.
  The laws MacTags, MacChecks, walked.
  The law MacChecks, walked.
  HKDF: mac.Extract, codec.Join, mac.Expand, and the document's.
  mac.Expand and the document's.
  shallotref03.Expand.
  The law MacExpands, walked.
  mac.Derive, and the document's.
  mac.Derive.
-/
import Derived.Test.YtallecbmnpcepaaMacA
namespace Go.Proofs.Ytallecbmnpcepaa
open Go.RowKit

def jefe : List UInt8 := [74, 101, 102, 101]
def whatDo : List UInt8 := [119, 104, 97, 116, 32, 100, 111, 32, 121, 97, 32]
def wantFor : List UInt8 := [119, 97, 110, 116, 32, 102, 111, 114, 32, 110, 111, 116, 104, 105, 110, 103, 63]
set_option maxRecDepth 100000 in
theorem jefe_tag : (macTag jefe [whatDo, wantFor].flatten)[0]? = some 91 ∧ (macTag jefe [whatDo, wantFor].flatten)[1]? = some 220 ∧ (macTag jefe [whatDo, wantFor].flatten)[31]? = some 67 := by decide +kernel
end Go.Proofs.Ytallecbmnpcepaa
namespace Go.Proofs.Ytallecbmnpcepaa
open Go.RowKit

end Go.Proofs.Ytallecbmnpcepaa
namespace Go.Proofs.Ytallecbmnpcepaa
open Go.RowKit

def emptyTag : List UInt8 := [182, 19, 103, 154, 8, 20, 217, 236, 119, 47, 149, 215, 120, 195, 95, 197]
set_option maxRecDepth 100000 in
theorem empty_tag : (macTag [] [].flatten).take 16 = emptyTag := by decide +kernel
theorem parts_nil (w : World) : Parts w (fun _ => False) none 0 [] := ⟨[], ⟨rfl, fun h => absurd h (by omega)⟩, avoid_false _ _, rfl, fun j v p hv => by simp at hv⟩
end Go.Proofs.Ytallecbmnpcepaa
namespace Go.Proofs.Ytallecbmnpcepaa
open Go.RowKit

theorem rd_pre' {w : World} {g n : Nat} {t : TypeId} {vs rest : List Value} (h : Blk w g t (vs ++ rest)) (hn : vs.length = n) : Rd w (some ⟨g, 0, none⟩) n vs :=
  ⟨hn, fun _ => ⟨g, 0, rfl, h.lt, fun j u hu => by rw [Nat.zero_add]; exact h.cellD j (by rw [List.getElem?_append_left (List.getElem?_eq_some_iff.1 hu).1]; exact hu)⟩⟩
/-- The i-th piece, and all pieces up to it. -/
def hkT (key info : List UInt8) : Nat → List UInt8
  | 0 => []
  | i + 1 => macTag key (hkT key info i ++ info ++ [UInt8.ofInt (i : Int) + 1])
def hkO (key info : List UInt8) : Nat → List UInt8
  | 0 => []
  | i + 1 => hkO key info i ++ hkT key info (i + 1)
theorem hkT_length (key info : List UInt8) (i : Nat) : (hkT key info i).length ≤ 32 := by
  cases i with
  | zero => simp [hkT]
  | succ i => rw [hkT, macTag_length]; omega
theorem hkO_length (key info : List UInt8) (i : Nat) : (hkO key info i).length = 32 * i := by
  induction i with
  | zero => rfl
  | succ i ih => rw [hkO, List.length_append, ih, hkT, macTag_length]; omega
def expB (key info : List UInt8) (n : Nat) : List UInt8 := (hkO key info ((n + 31) / 32)).take n
theorem expB_length (key info : List UInt8) (n : Nat) : (expB key info n).length = n := by
  rw [expB, List.length_take, hkO_length]
  omega
theorem hkO_take (key info : List UInt8) (i j : Nat) (h : i ≤ j) : (hkO key info j).take (32 * i) = hkO key info i := by
  induction j with
  | zero => obtain rfl : i = 0 := by omega
            rfl
  | succ j ih =>
    by_cases hij : i = j + 1
    · subst hij
      rw [List.take_of_length_le (by rw [hkO_length]; omega)]
    · rw [hkO, List.take_append_of_le_length (by rw [hkO_length]; omega), ih (by omega)]
theorem expB_prefix (key info : List UInt8) (n m : Nat) (h : n ≤ m) : (expB key info m).take n = expB key info n := by
  rw [expB, expB, List.take_take, Nat.min_eq_left h]
  have h1 : (n + 31) / 32 ≤ (m + 31) / 32 := by omega
  rw [← hkO_take key info _ _ h1, List.take_take, Nat.min_eq_left (by omega)]
set_option maxRecDepth 100000 in
set_option maxHeartbeats 1000000 in
theorem extract_any (A B : Option Addr) (n c m d : Nat) (salt secret : List UInt8) (w : World) (hx : RdB w A n salt) (hc : n ≤ c) (hn : n ≤ 140737488355328) (hy : RdB w B m secret) (hd : m ≤ d) (hm : m ≤ 140737488355328) :
    Calls Try.prog 36 #[.slice A n c, .slice B m d] w fun e w' => e = .returned (.agg ((macTag salt secret).map W8).toArray) ∧ Later w w' := by
  have hyl := hy.len
  have hT := macTag_length salt secret
  have hs := fun B w h => tag_any A B n c 1 1 salt [secret] w h hc hn
  rw [flatten_one] at hs
  generalize macTag salt secret = T at *
  have HS := hid hs
  clear hs
  go_enter Try.func36, Try.ntmps36
  go_wp2_with (first
    | (go_at_call 47; refine (HS.out (some ⟨w.heap.size + 1, 0, none⟩) _ (hx.later ((later_alloc _ _).alloc _)) ?hp (by omega) (by omega)).mono ?_
       (case hp => exact parts_of ((Blk.new' _ 33 [.slice B m d] (by simp)).rd rfl) ⟨part_of (hy.later ((later_alloc _ _).alloc _)) hd, trivial⟩)
       rintro e w1 ⟨rfl, hl1⟩)
    | (refine wpList_store_agg rfl rfl 43 _ _ rfl w.heap.size 0 43 (List.replicate 32 (W8 0)) (T.map W8) ?b ?hx ?hy ?hi ?hf ?h1 ?_; (case hx => rfl); (case hy => rfl); (case hi => rw [List.length_map, hT]; kernel_rfl); (case hf => simp [hT]); (case h1 => exact w8_one _); (case b => exact ((Blk.new w _ _).later (later_alloc _ _)).later hl1); intro w6 hb6 ho6
       rw [spliced_all _ _ (by simp [hT])] at hb6))
  exact bodyPost_ret (results_blk rfl _ _ _ _ (T.map W8) _ hb6 rfl Try.underlying43 rfl (by rw [List.length_map, hT]; kernel_rfl)) rfl ⟨rfl, (((later_alloc w _).alloc _).trans hl1).only ho6 (Nat.le_refl _)⟩
set_option maxRecDepth 100000 in
set_option maxHeartbeats 1000000 in
theorem cjoin_any (A : Option Addr) (n c : Nat) (ps : List (List UInt8)) (w : World) (hx : Parts w (fun _ => False) A n ps) (hm : n ≤ 140737488355328) (hp : ps.flatten.length ≤ 140737488355328) :
    Calls Try.prog 48 #[.slice A n c] w fun e w' => ∃ A' c', e = .returned (.slice A' ps.flatten.length c') ∧ OwnB w' w.heap.size A' ps.flatten.length c' ps.flatten ∧ Later w w' := by
  have hpl := hx.len
  go_enter Try.func48, Try.ntmps48
  go_wp2
  go_loopw [3, 11] (fun tot i wr => ∃ k : Nat, k ≤ n ∧ i = .int .i64 k ∧ tot = .int .i64 ((ps.take k).flatten.length : Nat) ∧ Later w wr) (fun _ i _ => n - (intOf i).toNat)
  case atStart => exact ⟨0, by omega, rfl, rfl, Later.refl w⟩
  case round =>
    obtain ⟨k, hk, rfl, rfl, hl⟩ := hrel
    by_cases hlt : k < n
    · obtain ⟨b, o, Ak, nk, ck, rfl, hb, hck, hcap, hrd, _⟩ := (hx.later hl).at_ hlt
      have hle := flatten_take_le ps (k + 1)
      have hql := hrd.len
      have hs' : (ps.take (k + 1)).flatten = (ps.take k).flatten ++ ps.getD k [] := by rw [take_succ_getD ps k (by omega)]; simp
      have hll : (ps.take (k + 1)).flatten.length = (ps.take k).flatten.length + nk := by rw [hs', List.length_append, hql]
      have HL := hid hll
      rw [hll] at hle
      clear hs' hll
      generalize (ps.take k).flatten.length = fl at *
      generalize ps.getD k [] = q at *
      go_wp2
      refine ⟨⟨k + 1, by omega, by go_num, by rw [HL.out]; go_num, hl⟩, by simp only [intOf]; omega⟩
    · have hkn : k = n := by omega
      subst hkn
      have hfe : (ps.take k).flatten.length = ps.flatten.length := by rw [List.take_of_length_le (by omega)]
      rw [hfe]
      have HF := hid hfe
      clear hfe
      generalize hFl : ps.flatten.length = fl at *
      go_wp2_with (first
        | (refine wpList_make_cap rfl _ _ _ rfl 5 _ 1 Try.underlying33 info8 rfl _ _ _ _ 0 fl rfl rfl ?hL ?hC (by omega) (by omega) (by omega) ?_; (case hL => rfl); (case hC => rfl); intro w1 hown1 hl1))
      go_loopw [6, 24] (fun out i w2 => ∃ (j : Nat) (A' : Option Addr) (m c' : Nat), j ≤ k ∧ i = .int .i64 j ∧ out = .slice A' m c' ∧ OwnB w2 w.heap.size A' m c' (ps.take j).flatten ∧ Later w w2) (fun _ i _ => k - (intOf i).toNat)
      case atStart => exact ⟨0, _, _, _, by omega, rfl, rfl, own_mono hown1 hl.size, hl.trans hl1⟩
      case round =>
        clear hown1 hl1
        obtain ⟨j, A', m, c', hj, rfl, rfl, hown, hl2⟩ := hrel
        by_cases hlt2 : j < k
        · obtain ⟨b, o, Ak, nk, ck, rfl, hb, hck, hcap, hrd, _⟩ := (hx.later hl2).at_ hlt2
          have hml := hown.len
          have hle := flatten_take_le ps (j + 1)
          have hlen := hrd.len
          have hs' : (ps.take (j + 1)).flatten = (ps.take j).flatten ++ ps.getD j [] := by rw [take_succ_getD ps j (by omega)]; simp
          rw [hs', List.length_append] at hle
          have HS := hid hs'
          clear hs'
          generalize ps.getD j [] = q at *
          generalize (ps.take j).flatten = F at *
          go_wp2_with (first
            | (refine wpList_append_rd rfl _ _ _ rfl 5 _ 1 Try.underlying33 info8 rfl w _ m _ hown hl2 Ak nk ck _ hrd (w8_one _) rfl rfl (by omega) (by omega) ?_; intro A2 c2 w2' hown2 hl2' hg2 _))
          refine ⟨⟨j + 1, A2, m + nk, c2, by omega, by go_num, rfl, ?_, hl2'⟩, by simp only [intOf]; omega⟩
          rw [HS.out]
          exact own_cut hown2 rfl rfl
        · have hjk : j = k := by omega
          rw [hjk, List.take_of_length_le (by omega)] at hown
          have hml := hown.len
          rw [hFl] at hml
          subst hml
          go_wp2
          go_ret
          exact ⟨_, _, by rw [hFl]; rfl, by rw [hFl]; exact hown, hl2⟩
end Go.Proofs.Ytallecbmnpcepaa
namespace Go.Proofs.Ytallecbmnpcepaa
open Go.RowKit

/-- A slice into the front of a block of the call's own that holds nothing else that counts. -/
def Front (w : World) (base : Nat) (A : Option Addr) (n : Nat) (bs : List UInt8) : Prop :=
  bs.length = n ∧ ((A = none ∧ n = 0) ∨ ∃ g rest, A = some ⟨g, 0, none⟩ ∧ base ≤ g ∧ Blk w g 5 (bs.map W8 ++ rest))
theorem Front.rd {w : World} {base : Nat} {A : Option Addr} {n : Nat} {bs : List UInt8} (h : Front w base A n bs) : RdB w A n bs := by
  obtain ⟨h1, h2⟩ := h
  rcases h2 with ⟨rfl, rfl⟩ | ⟨g, rest, rfl, _, hb⟩
  · obtain rfl : bs = [] := List.eq_nil_of_length_eq_zero h1
    exact rdb_none w
  · exact rd_pre' hb (by simpa using h1)
theorem Front.later {w w' : World} {base : Nat} {A : Option Addr} {n : Nat} {bs : List UInt8} (h : Front w base A n bs) (hl : Later w w') : Front w' base A n bs := by
  obtain ⟨h1, h2⟩ := h
  exact ⟨h1, h2.imp id fun ⟨g, rest, e, hb, hk⟩ => ⟨g, rest, e, hb, hk.later hl⟩⟩
theorem front_own {w : World} {base : Nat} {A : Option Addr} {n c m : Nat} {bs : List UInt8} (h : OwnB w base A n c bs) (hm : m ≤ n) : Front w base A m (bs.take m) := by
  have hl := h.len
  refine ⟨by rw [List.length_take]; omega, ?_⟩
  rcases own_blk h with ⟨rfl, rfl⟩ | ⟨g, rest, rfl, hb, hk, _⟩
  · exact .inl ⟨rfl, by omega⟩
  · refine .inr ⟨g, (bs.drop m).map W8 ++ rest, rfl, hb, ?_⟩
    rw [← List.append_assoc, ← List.map_append, List.take_append_drop]
    exact hk
theorem ne_arr : (43 : TypeId) ≠ 5 := by decide
/-- The last piece: none, or in an array of its own. -/
def LastAt (w : World) (v : Value) (k : Nat) (T : List UInt8) : Prop :=
  (k = 0 ∧ v = .slice none 0 0 ∧ T = []) ∨ ∃ g, 0 < k ∧ v = .slice (some ⟨g, 0, none⟩) 32 32 ∧ T.length = 32 ∧ Blk w g 43 (T.map W8)
theorem LastAt.rd {w : World} {v : Value} {k : Nat} {T : List UInt8} (h : LastAt w v k T) : ∃ A n c, v = .slice A n c ∧ n ≤ c ∧ RdB w A n T := by
  rcases h with ⟨_, rfl, rfl⟩ | ⟨g, _, rfl, hl, hb⟩
  · exact ⟨none, 0, 0, rfl, Nat.le_refl _, rdb_none w⟩
  · exact ⟨_, 32, 32, rfl, Nat.le_refl _, hb.rd (by simpa using hl)⟩
theorem three_flat (a b c : List UInt8) : [a, b, c].flatten = a ++ b ++ c := by simp
set_option maxRecDepth 100000 in
set_option maxHeartbeats 2000000 in
theorem expand_ok (A B : Option Addr) (n c m d : Nat) (N : Nat) (key : List UInt8) (ps : List (List UInt8)) (w : World) (hx : RdB w A n key) (hc : n ≤ c) (hn : n ≤ 140737488355328) (hp : Parts w (fun _ => False) B m ps) (hm : m ≤ 140737488355328) (hlen : ps.flatten.length ≤ 70368744177664) (hN : N ≤ 8160) :
    Calls Try.prog 37 #[.slice A n c, .int .i64 N, .slice B m d] w fun e w' => ∃ A', e = .returned (.tuple #[.slice A' N N, .int .i64 0]) ∧ Front w' w.heap.size A' N (expB key ps.flatten N) ∧ Later w w' := by
  have hj := hid (cjoin_any B m d ps w hp hm (by omega))
  generalize ps.flatten = F at *
  generalize hFl : F.length = fl at *
  go_enter Try.func37, Try.ntmps37
  go_wp2_with (first
    | (go_at_call 48; refine hj.out.mono ?_; rintro e w1 ⟨A1, c1, rfl, hown1, hl1⟩)
    | (refine wpList_make_cap rfl _ _ _ rfl 5 _ 1 Try.underlying33 info8 rfl _ _ _ _ 0 (N + 32) rfl rfl ?hL ?hC (by omega) (by omega) (by omega) ?_; (case hL => rfl); (case hC => go_num); intro w2 hown2 hl2))
  have hown2' : OwnB w2 w1.heap.size (some ⟨w1.heap.size, 0, none⟩) 0 (N + 32) [] := hown2
  have hlt1 := own_below hown1
  have hcap1 := hown1.cap
  go_loopw [9, 10, 11] (fun out last i wr => ∃ (k : Nat) (A9 : Option Addr) (c9 : Nat), i = .int .i64 ((k : Int) + 1) ∧ (k = 0 ∨ 32 * (k - 1) < N) ∧ out = .slice A9 (32 * k) c9 ∧ LastAt wr last k (hkT key F k) ∧ OwnB wr w1.heap.size A9 (32 * k) c9 (hkO key F k) ∧ Later w1 wr) (fun _ _ i _ => 8200 - 32 * (intOf i).toNat)
  case atStart => exact ⟨0, _, _, rfl, .inl rfl, rfl, .inl ⟨rfl, rfl, rfl⟩, hown2', hl2⟩
  case round =>
    clear hown2 hown2' hl2
    obtain ⟨k, A9, c9, rfl, hkN, rfl, hlast, hown, hl⟩ := hrel
    have hcap9 := hown.cap
    by_cases hlt : 32 * k < N
    · obtain ⟨A10, l10, c10, rfl, hc10, hr10⟩ := hlast.rd
      have hkl := hkT_length key F k
      have hl10 := hr10.len
      have hT : (hkT key F (k + 1)).length = 32 := by rw [hkT, macTag_length]
      have ht := fun B w h1 h2 => tag_any A B n c 3 3 key [hkT key F k, F, [UInt8.ofInt (k : Int) + 1]] w h1 hc hn h2
      have he : macTag key [hkT key F k, F, [UInt8.ofInt (k : Int) + 1]].flatten = hkT key F (k + 1) := by rw [three_flat, hkT]
      rw [he, three_flat] at ht
      have hfl : (hkT key F k ++ F ++ [UInt8.ofInt (k : Int) + 1]).length ≤ 70368744177700 := by simp; omega
      have ho' : hkO key F (k + 1) = hkO key F k ++ hkT key F (k + 1) := rfl
      have HT := hid ht
      have HO := hid ho'
      clear ht he ho'
      generalize hT1 : hkT key F (k + 1) = T at *
      generalize hkT key F k = Tk at *
      generalize hkO key F k = O at *
      have HT1 := hid hT1
      clear hT1
      have hltN : ((32 * k : Nat) : Int) < (N : Int) := by omega
      go_wp2_with (first
        | (go_at_call 47; refine (HT.out (some ⟨wr.heap.size + 1, 0, none⟩) _ (hx.later ((hl1.trans hl).trans ((later_alloc _ _).alloc _))) ?hp (by omega) (by omega)).mono ?_
           (case hp => exact parts_of ((Blk.new' _ 33 [.slice A10 l10 c10, .slice A1 fl c1, .slice (some ⟨wr.heap.size, 0, none⟩) 1 1] (by simp)).rd rfl) ⟨part_of (hr10.later ((later_alloc _ _).alloc _)) hc10, part_of ((hown1.later hl).later ((later_alloc _ _).alloc _)).rd hcap1, part_of (((Blk.new wr 5 [W8 (UInt8.ofInt (k : Int) + 1)]).later (later_alloc _ _)).rd rfl) (by omega), trivial⟩)
           rintro e w3 ⟨rfl, hl3⟩)
        | (refine wpList_store_agg rfl rfl 43 _ _ rfl w3.heap.size 0 43 (List.replicate 32 (W8 0)) (T.map W8) ?bk ?hx ?hy ?hi ?hf ?h1 ?_; (case hx => rfl); (case hy => rfl); (case hi => rw [List.length_map, hT]; kernel_rfl); (case hf => simp [hT]); (case h1 => exact w8_one _); (case bk => exact Blk.new _ _ _); intro w4 hb4 ho4
           rw [spliced_all _ _ (by simp [hT])] at hb4
           have L3 := ((later_alloc wr _).alloc _).trans hl3
           have hown4 := own_only (own_later (own_later hown L3) (later_alloc _ _)) ho4 (fun b hb => by have := own_below hown b hb; have := L3.size; omega)
           have hl4 := ((hl.trans L3).alloc _).only ho4 (by have := (hl.trans L3).size; omega))
        | (refine wpList_append_rd rfl _ _ _ rfl 5 _ 1 Try.underlying33 info8 rfl w1 _ (32 * k) _ hown4 hl4 (some ⟨w3.heap.size, 0, none⟩) 32 32 _ (hb4.rd (by simp [hT])) (w8_one _) rfl rfl (by omega) (by omega) ?_; intro A5 c5 w5 hown5 hl5 hg5 _
           have hb5 := blk_grown hb4 hown4 ne_arr hg5
           have hown5' := own_cut hown5 rfl (show 32 * k + 32 = 32 * (k + 1) by omega)))
      refine ⟨⟨k + 1, A5, c5, by go_num, .inr (by omega), by rw [show 32 * k + 32 = 32 * (k + 1) by omega], ?_, ?_, hl5⟩, by simp only [intOf]; omega⟩
      · exact .inr ⟨w3.heap.size, by omega, rfl, by rw [HT1.out]; exact hT, by rw [HT1.out]; exact hb5⟩
      · rw [HO.out]
        exact hown5'
    · have hk : k = (N + 31) / 32 := by omega
      have hltN : ¬ ((32 * k : Nat) : Int) < (N : Int) := by omega
      have hNc : N ≤ c9 := by omega
      go_wp2
      go_ret2
      refine ⟨A9, rfl, ?_, hl1.trans hl⟩
      rw [expB, ← hk]
      have := front_own hown (m := N) (by omega)
      exact ⟨this.1, this.2.imp id fun ⟨g, rest, e, hb, hk⟩ => ⟨g, rest, e, Nat.le_trans hl1.size hb, hk⟩⟩
theorem expand_bad (A B : Option Addr) (n c m d : Nat) (N : Int) (w : World) (hN : N < 0 ∨ 8160 < N) :
    Calls Try.prog 37 #[.slice A n c, .int .i64 N, .slice B m d] w fun e w' => e = .returned (.tuple #[.slice none 0 0, .int .i64 1]) ∧ w' = w := by
  by_cases h0 : N < 0
  · go_enter Try.func37, Try.ntmps37
    go_wp2
    go_ret2
    exact ⟨rfl, rfl⟩
  · have h1 : 8160 < N := by omega
    go_enter Try.func37, Try.ntmps37
    go_wp2
    go_ret2
    exact ⟨rfl, rfl⟩
end Go.Proofs.Ytallecbmnpcepaa
namespace Go.Proofs.Ytallecbmnpcepaa
open Go.RowKit

/-- An elder row grows, a younger one stays. -/
theorem own_younger {w w' : World} {b1 B : Nat} {e1 : TypeId} {v1 v2 : Value} {n1 : Nat} {x1 : List Value} (h1 : w.ownsRow b1 e1 1 v1 n1 x1) (hB : B ≤ b1) (h2 : ∀ b, v2.ownBlock = some b → b < B)
    (hg : w.grownBy w' v2.ownBlock) : w'.ownsRow b1 e1 1 v1 n1 x1 := by
  refine h1.kept hg ?_
  cases hb : v1.ownBlock with
  | none => exact .inl rfl
  | some b =>
    refine .inr fun he => ?_
    have := h2 b he.symm
    have := (h1.lt b hb).1
    omega
set_option maxRecDepth 100000 in
set_option maxHeartbeats 2000000 in
theorem refExpand_ok (A B : Option Addr) (n c m d : Nat) (N : Nat) (key F : List UInt8) (w : World) (hx : RdB w A n key) (hn : n ≤ 70368744177664) (hi : RdB w B m F) (hm : m ≤ 17592186044416) (hN : N ≤ 8160) :
    Calls Try.prog 39 #[.slice A n c, .int .i64 N, .slice B m d] w fun e w' => ∃ A' c', e = .returned (.tuple #[.slice A' N c', .int .i64 0]) ∧ OwnB w' w.heap.size A' N c' (expB key F N) ∧ Later w w' := by
  have hFl := hi.len
  go_enter Try.func39, Try.ntmps39
  go_wp2
  go_loopw [8, 9, 10] (fun out last i wr => ∃ (k : Nat) (A8 : Option Addr) (c8 : Nat) (A9 : Option Addr) (l9 c9 : Nat), i = .int .i64 ((k : Int) + 1) ∧ (k = 0 ∨ 32 * (k - 1) < N) ∧ out = .slice A8 (32 * k) c8 ∧ last = .slice A9 l9 c9 ∧ OwnB wr w.heap.size A9 l9 c9 (hkT key F k) ∧ OwnB wr w.heap.size A8 (32 * k) c8 (hkO key F k) ∧ Later w wr) (fun _ _ i _ => 8200 - 32 * (intOf i).toNat)
  case atStart => exact ⟨0, _, _, _, _, _, rfl, .inl rfl, rfl, rfl, own_nil _ _ _, own_nil _ _ _, Later.refl w⟩
  case round =>
    obtain ⟨k, A8, c8, A9, l9, c9, rfl, hkN, rfl, rfl, hlast, hown, hl⟩ := hrel
    have hcap8 := hown.cap
    by_cases hlt : 32 * k < N
    · have hkl := hkT_length key F k
      have hl9 := hlast.len
      have hT : (hkT key F (k + 1)).length = 32 := by rw [hkT, macTag_length]
      have ht := fun B d w h1 h2 => refTag_any A B n c (l9 + m + 1) d key (hkT key F k ++ F ++ [UInt8.ofInt (k : Int) + 1]) w h1 hn h2 (by omega)
      have he : macTag key (hkT key F k ++ F ++ [UInt8.ofInt (k : Int) + 1]) = hkT key F (k + 1) := by rw [hkT]
      rw [he] at ht
      have ho' : hkO key F (k + 1) = hkO key F k ++ hkT key F (k + 1) := rfl
      have HT := hid ht
      have HO := hid ho'
      clear ht he ho'
      generalize hT1 : hkT key F (k + 1) = T at *
      generalize hkT key F k = Tk at *
      generalize hkO key F k = O at *
      have HT1 := hid hT1
      clear hT1
      have hltN : ((32 * k : Nat) : Int) < (N : Int) := by omega
      have hlt8 := own_below hown
      go_wp2_with fail
      refine (copy_any A9 l9 c9 Tk _ hlast.rd (by omega)).mono ?_
      rintro e w1 ⟨A1, c1, rfl, hown1, hl1⟩
      go_wp2_with (first
        | (refine wpList_append_rd rfl _ _ _ rfl 5 _ 1 Try.underlying33 info8 rfl wr _ l9 _ hown1 hl1 B m d _ (hi.later (hl.trans hl1)) (w8_one _) rfl rfl (by omega) (by omega) ?_; intro A2 c2 w2 hown2 hl2 _ _)
        | (refine wpList_append_rd rfl _ _ _ rfl 5 _ 1 Try.underlying33 info8 rfl wr _ (l9 + m) _ (own_later hown2 (later_alloc _ _)) (hl2.alloc _) _ 1 1 [W8 (UInt8.ofInt (k : Int) + 1)] (own_rd (own_new w2 _ [W8 (UInt8.ofInt (k : Int) + 1)] (by simp))) (w8_one [_]) rfl rfl (by omega) (by omega) ?_; intro A3 c3 w3 hown3 hl3 _ _
           have hown3' : OwnB w3 wr.heap.size A3 (l9 + m + 1) c3 (Tk ++ F ++ [UInt8.ofInt (k : Int) + 1]) := own_eq hown3 rfl (by simp))
        | (go_at_call 38; refine (HT.out A3 c3 _ (hx.later (hl.trans hl3)) hown3'.rd).mono ?_; rintro e w4 ⟨rfl, hl4⟩)
        | (refine wpList_store_agg rfl rfl 43 _ _ rfl w4.heap.size 0 43 (List.replicate 32 (W8 0)) (T.map W8) ?bk ?hx ?hy ?hi ?hf ?h1 ?_; (case hx => rfl); (case hy => rfl); (case hi => rw [List.length_map, hT]; kernel_rfl); (case hf => simp [hT]); (case h1 => exact w8_one _); (case bk => exact Blk.new _ _ _); intro w5 hb5 ho5
           rw [spliced_all _ _ (by simp [hT])] at hb5
           have L4 := hl3.trans hl4
           have hl5 := ((L4.alloc _).only ho5 L4.size)
           have hown5 := own_later hown hl5)
        | (go_at_call 15; refine (copy_any (some ⟨w4.heap.size, 0, none⟩) 32 32 T _ (hb5.rd (by simp [hT])) (by omega)).mono ?_; rintro e w6 ⟨A6, c6, rfl, hown6, hl6⟩
           have hout6 := own_later hown5 hl6)
        | (refine wpList_append_rd rfl _ _ _ rfl 5 _ 1 Try.underlying33 info8 rfl w _ (32 * k) _ hout6 ((hl.trans hl5).trans hl6) A6 32 c6 _ hown6.rd (w8_one _) rfl rfl (by omega) (by omega) ?_; intro A7 c7 w7 hown7 hl7 hg7 _; have hlast7 : OwnB w7 w5.heap.size A6 32 c6 T := own_younger hown6 (Nat.le_refl _) (fun b hb => by have := hlt8 b hb; have := hl5.size; omega) hg7; have hown7' := own_cut hown7 rfl (show 32 * k + 32 = 32 * (k + 1) by omega)))
      refine ⟨⟨k + 1, A7, c7, A6, 32, c6, by go_num, .inr (by omega), by rw [show 32 * k + 32 = 32 * (k + 1) by omega], rfl, ?_, ?_, hl7⟩, by simp only [intOf]; omega⟩
      · rw [HT1.out]
        exact hlast7.mono (hl.trans hl5).size
      · rw [HO.out]
        exact hown7'
    · have hk : k = (N + 31) / 32 := by omega
      have hltN : ¬ ((32 * k : Nat) : Int) < (N : Int) := by omega
      have hNc : N ≤ c8 := by omega
      have hr := (RdB.take hown.rd (m := N) (by omega))
      have he : (hkO key F k).take N = expB key F N := by rw [expB, ← hk]
      rw [he] at hr
      generalize hE : expB key F N = E at *
      have HE := hid hE
      clear hE
      go_wp2_with (first | (go_at_call 15; refine (copy_any A8 N c8 E _ hr (by omega)).mono ?_; rintro e w1 ⟨A1, c1, rfl, hown1, hl1⟩))
      go_ret2
      exact ⟨A1, c1, rfl, by rw [HE.out]; exact hown1.mono hl.size, hl.trans hl1⟩
theorem refExpand_bad (A B : Option Addr) (n c m d : Nat) (N : Int) (w : World) (hN : N < 0 ∨ 8160 < N) :
    Calls Try.prog 39 #[.slice A n c, .int .i64 N, .slice B m d] w fun e w' => e = .returned (.tuple #[.slice none 0 0, .int .i64 1]) ∧ w' = w := by
  by_cases h0 : N < 0
  · go_enter Try.func39, Try.ntmps39
    go_wp2
    go_ret2
    exact ⟨rfl, rfl⟩
  · have h1 : 8160 < N := by omega
    go_enter Try.func39, Try.ntmps39
    go_wp2
    go_ret2
    exact ⟨rfl, rfl⟩
end Go.Proofs.Ytallecbmnpcepaa
namespace Go.Proofs.Ytallecbmnpcepaa
open Go.RowKit

theorem expand_is (A B : Option Addr) (n c m d : Nat) (I : Int) (N : Nat) (hI : I = (N : Int)) (key : List UInt8) (ps : List (List UInt8)) (w : World) (hx : RdB w A n key) (hc : n ≤ c) (hn : n ≤ 140737488355328) (hp : Parts w (fun _ => False) B m ps) (hm : m ≤ 140737488355328) (hlen : ps.flatten.length ≤ 70368744177664) (hN : N ≤ 8160) :
    Calls Try.prog 37 #[.slice A n c, .int .i64 I, .slice B m d] w fun e w' => ∃ A', e = .returned (.tuple #[.slice A' N N, .int .i64 0]) ∧ Front w' w.heap.size A' N (expB key ps.flatten N) ∧ Later w w' := by
  subst hI
  exact expand_ok A B n c m d N key ps w hx hc hn hp hm hlen hN
end Go.Proofs.Ytallecbmnpcepaa
namespace Go.Proofs.Ytallecbmnpcepaa
open Go.RowKit

theorem infoS : (Try.prog.info? 9).map (fun i => (i.zero, i.size, i.bytes)) = some (some (.string .empty), 1, 16) := by kernel_rfl
theorem infoA32 : (Try.prog.info? 43).map (fun i => (i.zero, i.size, i.bytes)) = some (some (.agg (List.replicate 32 (W8 0)).toArray), 32, 32) := by kernel_rfl
theorem made_rep (m n : Nat) (v : Value) (hm : 0 < m) : madeCells (List.replicate m v).toArray n = (List.replicate n v).toArray := by
  apply Array.ext
  · simp [madeCells]
  · intro i h1 h2
    simp only [madeCells, Array.getElem_map, Array.getElem_range, List.getElem_toArray, List.getElem_replicate, List.size_toArray, List.length_replicate]
    have : i % m < m := Nat.mod_lt _ hm
    simp [this]
section
variable {P : Program} {ops : Array Oper} {rest : List Oper} {o : Oper} {a : Act} {w : World} {Q : Exit → Act → World → Prop}
/-- 'make([]T, n)', T of several cells alike. -/
theorem wpList_make_rep (hgd : o.guard = none) (l c : Operand) (t : TypeId) (ho : o.op = Op.makeSlice t l c) (e : TypeId) (v : Value) (m bytes : Nat) (ht : P.underlying t = some (.slice e))
    (hinfo : (P.info? e).map (fun i => (i.zero, i.size, i.bytes)) = some (some (.agg (List.replicate m v).toArray), m, bytes)) (hm : 0 < m) (kl kc : IntKind) (L C : Int) (n : Nat) (hl : a.eval l = .int kl L) (hc : a.eval c = .int kc C) (hL : L = (n : Int)) (hC : C = (n : Int))
    (hby : 0 < bytes) (hsz : n * bytes ≤ 140737488355328) (h : ∀ w', Blk w' w.heap.size e (List.replicate (n * m) v) → Later w w' → wpList P ops Q rest (a.put o.dst (.slice (some ⟨w.heap.size, 0, none⟩) n n)) w') :
    wpList P ops Q (o :: rest) a w := by
  cases hq : P.info? e with
  | none => simp [hq] at hinfo
  | some i =>
    simp only [hq, Option.map_some, Option.some.injEq, Prod.mk.injEq] at hinfo
    obtain ⟨hz, hsize, hbytes⟩ := hinfo
    have hn : n ≤ 140737488355328 := Nat.le_trans (Nat.le_mul_of_pos_right _ hby) hsz
    refine wpList_plain hgd fun K hK => ?_
    have hb : ((i.bytes : Int) * (n : Int)) ≤ 281474976710656 := by
      rw [hbytes, ← Int.natCast_mul, Nat.mul_comm]
      omega
    have hr := run_make (P := P) w t e i _ ht hq hz kl kc n n (by omega) (Int.le_refl _) hb (by omega)
    have hcells : (Value.agg (List.replicate m v).toArray).cells = (List.replicate m v).toArray := rfl
    simp only [Int.toNat_natCast, hsize, hcells, made_rep m _ v hm] at hr
    subst hL
    subst hC
    unfold Oper.wp
    simp only [execOp, ho, hl, hc, Sem.run_bind, hr, Result.andThen_ok, Sem.run_pure]
    exact hK _ _ (h _ (Blk.new w e _) (later_alloc _ _))
end
def shallotB : List UInt8 := [115, 104, 97, 108, 108, 111, 116]
def derB (secret : List UInt8) (s : ByteArray) : List UInt8 := expB (macTag shallotB secret) (strB s) 32
theorem derB_length (secret : List UInt8) (s : ByteArray) : (derB secret s).length = 32 := expB_length _ _ _
/-- Strings in a slice. -/
def Strs (w : World) (A : Option Addr) (n : Nat) (ss : List ByteArray) : Prop := Rd w A n (ss.map Value.string)
theorem Strs.at_ {w : World} {A : Option Addr} {n : Nat} {ss : List ByteArray} (h : Strs w A n ss) {k : Nat} (hk : k < n) :
    ∃ b o, A = some ⟨b, o, none⟩ ∧ b < w.heap.size ∧ w.cell? ⟨b, o + k, none⟩ = some (.string (ss.getD k .empty)) := by
  have hl : ss.length = n := by simpa using h.1
  obtain ⟨b, o, rfl, hb, hc⟩ := h.2 (by omega)
  refine ⟨b, o, rfl, hb, hc k _ ?_⟩
  rw [List.getElem?_map, List.getD_eq_getElem?_getD, List.getElem?_eq_getElem (by omega)]
  rfl
theorem Strs.later {w w' : World} {A : Option Addr} {n : Nat} {ss : List ByteArray} (h : Strs w A n ss) (hl : Later w w') : Strs w' A n ss := Rd.later h hl
/-- The keys of the first k labels, noughts behind. -/
def keysAt (secret : List UInt8) (ss : List ByteArray) (k : Nat) : List UInt8 := ((ss.take k).map (derB secret)).flatten ++ List.replicate (32 * (ss.length - k)) 0
theorem keysAt_front (secret : List UInt8) (ss : List ByteArray) (k : Nat) (h : k ≤ ss.length) : ((ss.take k).map (derB secret)).flatten.length = 32 * k := by
  induction k with
  | zero => simp
  | succ k ih =>
    rw [List.take_succ_eq_append_getElem (by omega), List.map_append, List.flatten_append, List.length_append, ih (by omega)]
    simp [derB_length]
    omega
theorem keysAt_length (secret : List UInt8) (ss : List ByteArray) (k : Nat) (h : k ≤ ss.length) : (keysAt secret ss k).length = 32 * ss.length := by
  rw [keysAt, List.length_append, keysAt_front _ _ _ h, List.length_replicate]
  omega
theorem keysAt_step (secret : List UInt8) (ss : List ByteArray) (k : Nat) (h : k < ss.length) : spliced ((keysAt secret ss k).map W8) (32 * k) (((derB secret (ss.getD k .empty)).map W8).take 32) = (keysAt secret ss (k + 1)).map W8 := by
  have h1 := keysAt_front secret ss k (by omega)
  have h2 := derB_length secret (ss.getD k .empty)
  have hs : ss.getD k .empty = ss[k] := by rw [List.getD_eq_getElem?_getD, List.getElem?_eq_getElem h]; rfl
  rw [List.take_of_length_le (by rw [List.length_map, h2]; omega), spliced, keysAt, List.map_append, List.take_append_of_le_length (by rw [List.length_map, h1]; omega), List.take_of_length_le (by rw [List.length_map, h1]; omega),
    List.drop_append, List.drop_of_length_le (by rw [List.length_map, h1, List.length_map, h2]; omega), List.nil_append, keysAt, List.take_succ_eq_append_getElem h, hs]
  simp only [List.map_append, List.flatten_append, List.map_cons, List.map_nil, List.flatten_cons, List.flatten_nil, List.append_nil, List.append_assoc, List.map_replicate, List.drop_replicate, List.length_map]
  rw [← hs, h2, h1, show 32 * (ss.length - k) - (32 * k + 32 - 32 * k) = 32 * (ss.length - (k + 1)) by omega]
end Go.Proofs.Ytallecbmnpcepaa
namespace Go.Proofs.Ytallecbmnpcepaa
open Go.RowKit

end Go.Proofs.Ytallecbmnpcepaa
