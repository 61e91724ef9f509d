/-
  mac: Tag, first, Short, Check, Fits, Extract.
-/
import Derived.Test.YtmdbekdphkkmkaaMac3
namespace Go.Proofs.Ytmdbekdphkkmkaa
open Go.RowKit

theorem TagAt.write {w : World} {g : Nat} {key bs x : List UInt8} (h : HashAt w g 72 ((macKey key).map W8) ((maskB (macKey key) 54 ++ bs) ++ x)) : TagAt w g key (bs ++ x) := by
  unfold TagAt
  rw [← List.append_assoc]
  exact h
set_option maxRecDepth 100000 in
set_option maxHeartbeats 1000000 in
theorem tag_any (A B : Option Addr) (n c m d : Nat) (key : List UInt8) (ps : List (List UInt8)) (w : World) (hx : RdB w A n key) (hc : n ≤ c) (hn : n ≤ 140737488355328) (hp : Parts w (fun _ => False) B m ps) (hm : m ≤ 140737488355328) (hlen : ps.flatten.length ≤ 2305843009213690000) :
    Calls Try.prog 53 #[.slice A n c, .slice B m d] w fun e w' => e = .returned (.agg ((macTag key ps.flatten).map W8).toArray) ∧ Later w w' := by
  have hT := macTag_length key ps.flatten
  have hs := fun g w hh => tagSum_any g key ps.flatten w hh (by omega)
  have hw := fun g bs n c w hh hx hm => write_any g 72 ((macKey key).map W8) bs B n c ps w hh hx hm
  generalize macTag key ps.flatten = T at *
  have hml : (maskB (macKey key) 54).length = 64 := by rw [maskB_length, macKey_length]
  have HS := hid hs
  have HW := hid hw
  clear hs hw
  go_enter Try.func53, Try.ntmps53
  go_wp2_with (first
    | (go_at_call 43; refine (newTagger_any A n c key _ (hx.later (later_alloc _ _)) hc hn).mono ?_; rintro e w1 ⟨g, rfl, hg, hh1, hl1⟩)
    | (go_at_call 34; refine (HW.out g _ m d _ hh1 ?hx hm ?hl).mono ?_
       (case hx => exact (hp.more (fun b hb => .inr (by subst hb; simp at hg; omega))).later ((later_alloc _ _).trans hl1))
       (case hl => rw [List.append_nil, hml]; omega)
       rintro e w2 ⟨rfl, hh2, ho2⟩
       have ht2 := TagAt.write hh2
       rw [List.nil_append] at ht2)
    | (go_at_call 44; refine (HS.out g _ ht2).mono ?_; rintro e w3 ⟨rfl, hl3⟩)
    | (refine wpList_store_agg rfl rfl 39 _ _ rfl w.heap.size 0 39 (List.replicate 32 (W8 0)) (T.map W8) ?b ?hx ?hy ?hi ?hf ?h1 ?_; (case hx => rfl); (case hy => rfl); (case hi => rw [List.length_map, hT]; kernel_rfl); (case hf => simp [hT]); (case h1 => exact w8_one _); (case b => exact (((Blk.new w _ _).later hl1).only ho2 (by simp at hg; omega)).later hl3); intro w5 hb5 ho5
       rw [spliced_all _ _ (by simp [hT])] at hb5))
  exact bodyPost_ret (results_blk rfl _ _ _ _ (T.map W8) _ hb5 rfl Try.underlying39 rfl (by rw [List.length_map, hT]; kernel_rfl)) rfl
    ⟨rfl, ((((later_alloc w _).trans hl1).only ho2 (by simp at hg; omega)).trans hl3).only ho5 (Nat.le_refl _)⟩
theorem take16 (G : List UInt8) (h : G.length = 32) : spliced (List.replicate 16 (W8 0)) 0 ((G.map W8).take 16) = (G.take 16).map W8 := by
  rw [spliced_all _ _ (by simp [h]), List.map_take]
set_option maxRecDepth 100000 in
theorem first16_any (G : List UInt8) (hG : G.length = 32) (w : World) :
    Calls Try.prog 73 #[.agg (G.map W8).toArray] w fun e w' => ∃ A c, e = .returned (.slice A 16 c) ∧ OwnB w' w.heap.size A 16 c (G.take 16) ∧ Later w w' := by
  have hb0 := Blk.new w 39 (G.map W8)
  have ht := take16 G hG
  have hl16 : (G.take 16).length = 16 := by simp [hG]
  have hgl : (G.map W8).length = 32 := by simp [hG]
  have h1 := w8_one G
  generalize G.take 16 = F at *
  generalize G.map W8 = gl at *
  have HT := hid ht
  clear ht
  go_enter Try.func73, Try.ntmps73
  go_wp2_with (first
    | (refine wpList_make_n rfl _ _ _ rfl 5 _ 1 Try.underlying22 info8 rfl _ _ _ _ 16 rfl rfl ?hL ?hC (by omega) (by omega) ?_; (case hL => rfl); (case hC => rfl); intro w1 hb1 hl1; simp only [World.size_alloc] at hb1)
    | (refine wpList_copy_rd rfl _ _ _ _ rfl 5 Try.underlying22 size8 (w.heap.size + 1) 0 16 16 5 (List.replicate 16 (W8 0)) hb1 (some ⟨w.heap.size, 0, none⟩) 32 32 gl ((hb0.later hl1).rd hgl) h1 rfl rfl (by simp) ?_; intro w4 hb4 ho4
       rw [HT.out] at hb4))
  go_ret
  refine ⟨_, _, rfl, ?_, ((later_alloc w _).trans hl1).only ho4 (by omega)⟩
  have := own_of_blk hb4 (show w.heap.size ≤ w.heap.size + 1 by omega) (by simp [hl16])
  rwa [List.length_map, hl16] at this
theorem short_any (A B : Option Addr) (n c m d : Nat) (key : List UInt8) (ps : List (List UInt8)) (w : World) (hx : RdB w A n key) (hc : n ≤ c) (hn : n ≤ 140737488355328) (hp : Parts w (fun _ => False) B m ps) (hm : m ≤ 140737488355328) (hlen : ps.flatten.length ≤ 2305843009213690000) :
    Calls Try.prog 52 #[.slice A n c, .slice B m d] w fun e w' => ∃ A' c', e = .returned (.slice A' 16 c') ∧ OwnB w' w.heap.size A' 16 c' ((macTag key ps.flatten).take 16) ∧ Later w w' := by
  have hT := macTag_length key ps.flatten
  have hs := hid (tag_any A B n c m d key ps w hx hc hn hp hm hlen)
  generalize macTag key ps.flatten = T at *
  have hf := hid (fun w => first16_any T hT w)
  go_enter Try.func52, Try.ntmps52
  go_wp2_with (first
    | (go_at_call 53; refine hs.out.mono ?_; rintro e w1 ⟨rfl, hl1⟩)
    | (go_at_call 73; refine (hf.out _).mono ?_; rintro e w2 ⟨A2, c2, rfl, hown2, hl2⟩))
  go_ret
  exact ⟨A2, c2, rfl, hown2.mono hl1.size, hl1.trans hl2⟩
theorem check_any (A B C : Option Addr) (n c m d k e0 : Nat) (key tag : List UInt8) (ps : List (List UInt8)) (w : World) (hx : RdB w A n key) (hc : n ≤ c) (hn : n ≤ 140737488355328) (ht : RdB w C k tag) (hk : k ≤ 140737488355328)
    (hp : Parts w (fun _ => False) B m ps) (hm : m ≤ 140737488355328) (hlen : ps.flatten.length ≤ 2305843009213690000) :
    Calls Try.prog 54 #[.slice A n c, .slice C k e0, .slice B m d] w fun e w' => e = .returned (.bool (decide ((macTag key ps.flatten).take 16 = tag))) ∧ Later w w' := by
  have hs := hid (short_any A B n c m d key ps w hx hc hn hp hm hlen)
  have hl16 : ((macTag key ps.flatten).take 16).length = 16 := by simp [macTag_length]
  generalize (macTag key ps.flatten).take 16 = S at *
  have hq := hid (fun A c w hx hy => same_any A C 16 k c e0 S tag w hx hy (by omega) hk)
  generalize decide (S = tag) = R at *
  go_enter Try.func54, Try.ntmps54
  go_wp2_with (first
    | (go_at_call 52; refine hs.out.mono ?_; rintro e w1 ⟨A1, c1, rfl, hown1, hl1⟩)
    | (go_at_call 72; refine (hq.out A1 c1 _ hown1.rd (ht.later hl1)).mono ?_; rintro e w2 ⟨rfl, hl2⟩))
  go_ret
  exact ⟨rfl, hl1.trans hl2⟩
theorem fits_any (g : Nat) (C : Option Addr) (k e0 : Nat) (key bs tag : List UInt8) (w : World) (hh : TagAt w g key bs) (hlen : bs.length ≤ 2305843009213693000) (ht : RdB w C k tag) (hk : k ≤ 140737488355328) :
    Calls Try.prog 48 #[.pointer (some ⟨g, 0, none⟩), .slice C k e0] w fun e w' => e = .returned (.bool (decide ((macTag key bs).take 16 = tag))) ∧ Later w w' := by
  have hs := hid (tagSum_any g key bs w hh hlen)
  have hT := macTag_length key bs
  generalize macTag key bs = T at *
  have hf := hid (fun w => first16_any T hT w)
  generalize T.take 16 = S at *
  have hq := hid (fun A c w hx hy => same_any A C 16 k c e0 S tag w hx hy (by omega) hk)
  generalize decide (S = tag) = R at *
  go_enter Try.func48, Try.ntmps48
  go_wp2_with (first
    | (go_at_call 44; refine hs.out.mono ?_; rintro e w1 ⟨rfl, hl1⟩)
    | (go_at_call 73; refine (hf.out _).mono ?_; rintro e w2 ⟨A2, c2, rfl, hown2, hl2⟩)
    | (go_at_call 72; refine (hq.out A2 c2 _ hown2.rd (ht.later (hl1.trans hl2))).mono ?_; rintro e w3 ⟨rfl, hl3⟩))
  go_ret
  exact ⟨rfl, (hl1.trans hl2).trans hl3⟩
end Go.Proofs.Ytmdbekdphkkmkaa
