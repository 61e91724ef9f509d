/-
  mac.Derive.
-/
import Derived.Test.YtmdbekdphkkmkaaDerive
namespace Go.Proofs.Ytmdbekdphkkmkaa
open Go.RowKit

set_option maxRecDepth 100000 in
theorem derive_none (A B : Option Addr) (n c d : Nat) (w : World) :
    Calls Try.prog 55 #[.slice A n c, .slice B 0 d] w fun e w' => e = .returned (.slice none 0 0) ∧ w' = w := by
  go_enter Try.func55, Try.ntmps55
  go_wp2
  go_ret
  exact ⟨rfl, rfl⟩
set_option maxRecDepth 100000 in
set_option maxHeartbeats 2000000 in
theorem derive_any (A B : Option Addr) (n c m d : Nat) (secret : List UInt8) (ss : List ByteArray) (w : World) (hx : RdB w A n secret) (hc : n ≤ c) (hn : n ≤ 35184372088832) (hb : Strs w B m ss) (hm0 : 0 < m) (hm : m ≤ 1048576) (hs : ∀ s ∈ ss, s.size ≤ 1048576) :
    Calls Try.prog 55 #[.slice A n c, .slice B m d] w fun e w' => ∃ g, e = .returned (.slice (some ⟨g, 0, none⟩) m m) ∧ w.heap.size ≤ g ∧ Blk w' g 39 ((keysAt secret ss m).map W8) ∧ Later w w' := by
  have hml : ss.length = m := by simpa using hb.1
  have hT := macTag_length shallotB secret
  have ht := fun B w h1 h2 => extract_any B A 7 7 n c shallotB secret w h1 (by omega) (by omega) h2 hc (by omega)
  have he := fun A B w (s : ByteArray) h1 h2 (h3 : s.size ≤ 1048576) => expand_is A B 32 32 1 1 32 32 rfl (macTag shallotB secret) [strB s] w h1 (by omega) (by omega) h2 (by omega) (by rw [flatten_one, strB_length]; omega) (by omega)
  have hd : ∀ s, expB (macTag shallotB secret) [strB s].flatten 32 = derB secret s := fun s => by rw [flatten_one]; rfl
  simp only [hd] at he
  generalize macTag shallotB secret = T at *
  have HT := hid ht
  have HE := hid he
  have HS := hid hs
  clear ht he hd hs
  go_enter Try.func55, Try.ntmps55
  go_wp2_with (first
    | (refine wpList_convert_lit rfl _ _ rfl 5 Try.underlying22 Try.underlying5 w (shallotB.map W8) rfl w.heap.size 7 7 rfl rfl ?_; intro w1 hl1 hr1 hz1)
    | (go_at_call 51; refine (HT.out _ _ hr1 (hx.later hl1)).mono ?_; rintro e w2 ⟨rfl, hl2⟩)
    | (refine wpList_store_agg rfl rfl 39 _ _ rfl w2.heap.size 0 39 (List.replicate 32 (W8 0)) (T.map W8) ?bk ?hx ?hy ?hi ?hf ?h1 ?_; (case hx => rfl); (case hy => rfl); (case hi => rw [List.length_map, hT]; kernel_rfl); (case hf => simp [hT]); (case h1 => exact w8_one _); (case bk => exact Blk.new _ _ _); intro w3 hb3 ho3; rw [spliced_all _ _ (by simp [hT])] at hb3)
    | (refine wpList_make_rep rfl _ _ _ rfl 39 (W8 0) 32 32 Try.underlying85 infoA32 (by omega) _ _ _ _ m rfl rfl ?hL ?hC (by omega) (by omega) ?_; (case hL => rfl); (case hC => rfl); intro w4 hb4 hl4))
  have L2 := hl1.trans hl2
  have L3 : Later w w3 := (L2.alloc _).only ho3 L2.size
  have hk4 := hb3.later hl4
  have L4 := L3.trans hl4
  have hk0 : (keysAt secret ss 0).map W8 = List.replicate (m * 32) (W8 0) := by rw [keysAt]; simp only [List.take_zero, List.map_nil, List.flatten_nil, List.nil_append, Nat.sub_zero, List.map_replicate, hml, Nat.mul_comm]
  rw [← hk0] at hb4
  have z2 := L2.size
  have z3 := hb3.lt
  have hgk : w2.heap.size ≠ w3.heap.size := by omega
  have hg3 := L3.size
  clear hk0 hl1 hl2 hl4 hb3 ho3 L2 L3 hr1 hz1
  generalize w2.heap.size = gk at *
  generalize w3.heap.size = go at *
  go_loopw [23] (fun i wr => ∃ k : Nat, k ≤ m ∧ i = .int .i64 k ∧ Blk wr gk 39 (T.map W8) ∧ Blk wr go 39 ((keysAt secret ss k).map W8) ∧ Later w wr) (fun i _ => m - (intOf i).toNat)
  case atStart => exact ⟨0, by omega, rfl, hk4, hb4, L4⟩
  case round =>
    clear hk4 hb4 L4
    obtain ⟨k, hk, rfl, hK, hO, hl⟩ := hrel
    by_cases hlt : k < m
    · obtain ⟨b, o, rfl, hbb, hck⟩ := (hb.later hl).at_ hlt
      have hsz := HS.out (ss.getD k .empty) (by rw [List.getD_eq_getElem?_getD, List.getElem?_eq_getElem (by omega)]; exact List.getElem_mem _)
      have hkl := keysAt_length secret ss k (by omega)
      have hst := hid (keysAt_step secret ss k (by omega))
      have hdl := derB_length secret (ss.getD k .empty)
      have hsl := strB_length (ss.getD k .empty)
      generalize ss.getD k .empty = s at *
      have hE := hid (fun A B w h1 h2 => HE.out A B w s h1 h2 hsz)
      generalize derB secret s = D at *
      go_wp2_with (first
        | (refine wpList_convert_str rfl _ _ _ rfl 5 Try.underlying9 Try.underlying22 Try.underlying5 s rfl ?_; intro c1 w1 hl1 hr1 hc1 hz1)
        | (go_at_call 49; refine (hE.out (some ⟨gk, 0, none⟩) (some ⟨w1.heap.size, 0, none⟩) _ ((hK.later (hl1.alloc _)).rd (by simp [hT])) (parts_of ((Blk.new w1 22 [.slice (some ⟨wr.heap.size, 0, none⟩) s.size c1]).rd rfl) ⟨part_of (hr1.later (later_alloc _ _)) hc1, trivial⟩)).mono ?_; rintro e w2 ⟨A2, rfl, hfr2, hl2⟩; have L2 := (hl1.alloc (.cells #[.slice (some ⟨wr.heap.size, 0, none⟩) s.size c1] 22)).trans hl2)
        | (refine wpList_copy_rd rfl _ _ _ _ rfl 5 Try.underlying22 size8 go (k * 32) 32 32 39 ((keysAt secret ss k).map W8) (hO.later L2) A2 32 32 (D.map W8) hfr2.rd (w8_one _) rfl rfl (by rw [List.length_map, hkl, hml]; omega) ?_; intro w6 hb6 ho6; rw [Nat.mul_comm k 32, hst.out] at hb6))
      refine ⟨⟨k + 1, by omega, by go_num, (hK.later L2).only ho6 hgk, hb6, (hl.trans L2).only ho6 hg3⟩, by simp only [intOf]; omega⟩
    · have hkm : k = m := by omega
      rw [hkm] at hO
      go_wp2
      go_ret
      exact ⟨go, rfl, hg3, hO, hl⟩
end Go.Proofs.Ytmdbekdphkkmkaa
