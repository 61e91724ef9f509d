/-
  HKDF: mac.Extract, codec.Join, mac.Expand, and the document's.
-/
import Derived.Test.YtmdbekdphkkmkaaLaw3c
namespace Go.Proofs.Ytmdbekdphkkmkaa
open Go.RowKit

theorem rd_pre' {w : World} {g n : Nat} {t : TypeId} {vs rest : List Value} (h : Blk w g t (vs ++ rest)) (hn : vs.length = n) : Rd w (some ⟨g, 0, none⟩) n vs :=
  ⟨hn, fun _ => ⟨g, 0, rfl, h.lt, fun j u hu => by rw [Nat.zero_add]; exact h.cellD j (by rw [List.getElem?_append_left (List.getElem?_eq_some_iff.1 hu).1]; exact hu)⟩⟩
/-- The i-th piece, and all pieces up to it. -/
def hkT (key info : List UInt8) : Nat → List UInt8
  | 0 => []
  | i + 1 => macTag key (hkT key info i ++ info ++ [UInt8.ofInt (i : Int) + 1])
def hkO (key info : List UInt8) : Nat → List UInt8
  | 0 => []
  | i + 1 => hkO key info i ++ hkT key info (i + 1)
theorem hkT_length (key info : List UInt8) (i : Nat) : (hkT key info i).length ≤ 32 := by
  cases i with
  | zero => simp [hkT]
  | succ i => rw [hkT, macTag_length]; omega
theorem hkO_length (key info : List UInt8) (i : Nat) : (hkO key info i).length = 32 * i := by
  induction i with
  | zero => rfl
  | succ i ih => rw [hkO, List.length_append, ih, hkT, macTag_length]; omega
def expB (key info : List UInt8) (n : Nat) : List UInt8 := (hkO key info ((n + 31) / 32)).take n
theorem expB_length (key info : List UInt8) (n : Nat) : (expB key info n).length = n := by
  rw [expB, List.length_take, hkO_length]
  omega
theorem hkO_take (key info : List UInt8) (i j : Nat) (h : i ≤ j) : (hkO key info j).take (32 * i) = hkO key info i := by
  induction j with
  | zero => obtain rfl : i = 0 := by omega
            rfl
  | succ j ih =>
    by_cases hij : i = j + 1
    · subst hij
      rw [List.take_of_length_le (by rw [hkO_length]; omega)]
    · rw [hkO, List.take_append_of_le_length (by rw [hkO_length]; omega), ih (by omega)]
theorem expB_prefix (key info : List UInt8) (n m : Nat) (h : n ≤ m) : (expB key info m).take n = expB key info n := by
  rw [expB, expB, List.take_take, Nat.min_eq_left h]
  have h1 : (n + 31) / 32 ≤ (m + 31) / 32 := by omega
  rw [← hkO_take key info _ _ h1, List.take_take, Nat.min_eq_left (by omega)]
set_option maxRecDepth 100000 in
set_option maxHeartbeats 1000000 in
theorem extract_any (A B : Option Addr) (n c m d : Nat) (salt secret : List UInt8) (w : World) (hx : RdB w A n salt) (hc : n ≤ c) (hn : n ≤ 140737488355328) (hy : RdB w B m secret) (hd : m ≤ d) (hm : m ≤ 140737488355328) :
    Calls Try.prog 51 #[.slice A n c, .slice B m d] w fun e w' => e = .returned (.agg ((macTag salt secret).map W8).toArray) ∧ Later w w' := by
  have hyl := hy.len
  have hT := macTag_length salt secret
  have hs := fun B w h => tag_any A B n c 1 1 salt [secret] w h hc hn
  rw [flatten_one] at hs
  generalize macTag salt secret = T at *
  have HS := hid hs
  clear hs
  go_enter Try.func51, Try.ntmps51
  go_wp2_with (first
    | (go_at_call 53; refine (HS.out (some ⟨w.heap.size + 1, 0, none⟩) _ (hx.later ((later_alloc _ _).alloc _)) ?hp (by omega) (by omega)).mono ?_
       (case hp => exact parts_of ((Blk.new' _ 22 [.slice B m d] (by simp)).rd rfl) ⟨part_of (hy.later ((later_alloc _ _).alloc _)) hd, trivial⟩)
       rintro e w1 ⟨rfl, hl1⟩)
    | (refine wpList_store_agg rfl rfl 39 _ _ rfl w.heap.size 0 39 (List.replicate 32 (W8 0)) (T.map W8) ?b ?hx ?hy ?hi ?hf ?h1 ?_; (case hx => rfl); (case hy => rfl); (case hi => rw [List.length_map, hT]; kernel_rfl); (case hf => simp [hT]); (case h1 => exact w8_one _); (case b => exact ((Blk.new w _ _).later (later_alloc _ _)).later hl1); intro w6 hb6 ho6
       rw [spliced_all _ _ (by simp [hT])] at hb6))
  exact bodyPost_ret (results_blk rfl _ _ _ _ (T.map W8) _ hb6 rfl Try.underlying39 rfl (by rw [List.length_map, hT]; kernel_rfl)) rfl ⟨rfl, (((later_alloc w _).alloc _).trans hl1).only ho6 (Nat.le_refl _)⟩
set_option maxRecDepth 100000 in
set_option maxHeartbeats 1000000 in
theorem cjoin_any (A : Option Addr) (n c : Nat) (ps : List (List UInt8)) (w : World) (hx : Parts w (fun _ => False) A n ps) (hm : n ≤ 140737488355328) (hp : ps.flatten.length ≤ 140737488355328) :
    Calls Try.prog 74 #[.slice A n c] w fun e w' => ∃ A' c', e = .returned (.slice A' ps.flatten.length c') ∧ OwnB w' w.heap.size A' ps.flatten.length c' ps.flatten ∧ Later w w' := by
  have hpl := hx.len
  go_enter Try.func74, Try.ntmps74
  go_wp2
  go_loopw [3, 11] (fun tot i wr => ∃ k : Nat, k ≤ n ∧ i = .int .i64 k ∧ tot = .int .i64 ((ps.take k).flatten.length : Nat) ∧ Later w wr) (fun _ i _ => n - (intOf i).toNat)
  case atStart => exact ⟨0, by omega, rfl, rfl, Later.refl w⟩
  case round =>
    obtain ⟨k, hk, rfl, rfl, hl⟩ := hrel
    by_cases hlt : k < n
    · obtain ⟨b, o, Ak, nk, ck, rfl, hb, hck, hcap, hrd, _⟩ := (hx.later hl).at_ hlt
      have hle := flatten_take_le ps (k + 1)
      have hql := hrd.len
      have hs' : (ps.take (k + 1)).flatten = (ps.take k).flatten ++ ps.getD k [] := by rw [take_succ_getD ps k (by omega)]; simp
      have hll : (ps.take (k + 1)).flatten.length = (ps.take k).flatten.length + nk := by rw [hs', List.length_append, hql]
      have HL := hid hll
      rw [hll] at hle
      clear hs' hll
      generalize (ps.take k).flatten.length = fl at *
      generalize ps.getD k [] = q at *
      go_wp2
      refine ⟨⟨k + 1, by omega, by go_num, by rw [HL.out]; go_num, hl⟩, by simp only [intOf]; omega⟩
    · have hkn : k = n := by omega
      subst hkn
      have hfe : (ps.take k).flatten.length = ps.flatten.length := by rw [List.take_of_length_le (by omega)]
      rw [hfe]
      have HF := hid hfe
      clear hfe
      generalize hFl : ps.flatten.length = fl at *
      go_wp2_with (first
        | (refine wpList_make_cap rfl _ _ _ rfl 5 _ 1 Try.underlying22 info8 rfl _ _ _ _ 0 fl rfl rfl ?hL ?hC (by omega) (by omega) (by omega) ?_; (case hL => rfl); (case hC => rfl); intro w1 hown1 hl1))
      go_loopw [6, 24] (fun out i w2 => ∃ (j : Nat) (A' : Option Addr) (m c' : Nat), j ≤ k ∧ i = .int .i64 j ∧ out = .slice A' m c' ∧ OwnB w2 w.heap.size A' m c' (ps.take j).flatten ∧ Later w w2) (fun _ i _ => k - (intOf i).toNat)
      case atStart => exact ⟨0, _, _, _, by omega, rfl, rfl, own_mono hown1 hl.size, hl.trans hl1⟩
      case round =>
        clear hown1 hl1
        obtain ⟨j, A', m, c', hj, rfl, rfl, hown, hl2⟩ := hrel
        by_cases hlt2 : j < k
        · obtain ⟨b, o, Ak, nk, ck, rfl, hb, hck, hcap, hrd, _⟩ := (hx.later hl2).at_ hlt2
          have hml := hown.len
          have hle := flatten_take_le ps (j + 1)
          have hlen := hrd.len
          have hs' : (ps.take (j + 1)).flatten = (ps.take j).flatten ++ ps.getD j [] := by rw [take_succ_getD ps j (by omega)]; simp
          rw [hs', List.length_append] at hle
          have HS := hid hs'
          clear hs'
          generalize ps.getD j [] = q at *
          generalize (ps.take j).flatten = F at *
          go_wp2_with (first
            | (refine wpList_append_rd rfl _ _ _ rfl 5 _ 1 Try.underlying22 info8 rfl w _ m _ hown hl2 Ak nk ck _ hrd (w8_one _) rfl rfl (by omega) (by omega) ?_; intro A2 c2 w2' hown2 hl2' hg2 _))
          refine ⟨⟨j + 1, A2, m + nk, c2, by omega, by go_num, rfl, ?_, hl2'⟩, by simp only [intOf]; omega⟩
          rw [HS.out]
          exact own_cut hown2 rfl rfl
        · have hjk : j = k := by omega
          rw [hjk, List.take_of_length_le (by omega)] at hown
          have hml := hown.len
          rw [hFl] at hml
          subst hml
          go_wp2
          go_ret
          exact ⟨_, _, by rw [hFl]; rfl, by rw [hFl]; exact hown, hl2⟩
end Go.Proofs.Ytmdbekdphkkmkaa
