/-
  The law ShaLabels, walked.
-/
import Derived.Test.YtmdbekdphkkmkaaLabel
namespace Go.Proofs.Ytmdbekdphkkmkaa
open Go.RowKit

theorem OwnParts.partsBad {w : World} {base g : Nat} {A : Option Addr} {n c : Nat} {ps : List (List UInt8)} (h : OwnParts w base A n c ps) (hg : g < base) : Parts w (· = g) A n ps := by
  obtain ⟨vs, h1, h2, h3⟩ := h
  exact ⟨vs, own_rd h1, fun _ ad hA hb => by subst hA; have := (h1.lt ad.block rfl).1; omega, h2, fun j v p hv hp => by obtain ⟨A', n', c', e1, e2⟩ := h3 j v p hv hp; subst e1; exact part_own e2 hg⟩
theorem lab_ab : labB ⟨#[97, 98]⟩ = [2, 97, 98] := by decide +kernel
set_option maxRecDepth 100000 in
set_option maxHeartbeats 4000000 in
theorem shaLabels_bad (s : ByteArray) (hs : 255 < s.size) (A : Option Addr) (n c : Nat) (w : World) :
    Calls Try.prog 9 #[.string s, .slice A n c] w fun e w' => e = .returned (.bool true) ∧ Later w w' := by
  go_enter Try.func9, Try.ntmps9
  go_wp2_with fail
  refine (label_ok ⟨#[97, 98]⟩ (by decide) w).mono ?_
  rintro e w1 ⟨rfl, hh1, hl1⟩
  rw [lab_ab] at hh1
  go_wp2_with (first
    | (go_at_call 31; refine (len_is w.heap.size 66 [Value.string ⟨#[97, 98]⟩] [2, 97, 98] 3 _ hh1 rfl).mono ?_; rintro e w2 ⟨rfl, rfl⟩)
    | (go_at_call 41; refine (name_any w.heap.size 66 ⟨#[97, 98]⟩ [2, 97, 98] _ hh1).mono ?_; rintro e w2 ⟨rfl, rfl⟩)
    | (go_at_call 40; refine (label_bad s hs _).mono ?_; rintro e w2 ⟨rfl, rfl⟩))
  go_ret
  exact ⟨rfl, hl1⟩
set_option maxRecDepth 100000 in
set_option maxHeartbeats 4000000 in
theorem shaLabels_ok (s : ByteArray) (hs : s.size ≤ 255) (A : Option Addr) (n c : Nat) (ps : List (List UInt8)) (w : World) (hx : Parts w (fun _ => False) A n ps) (hm : ps.flatten.length + n ≤ 1048576) (hp : ∀ p ∈ ps, p.length ≤ 1048576) :
    Calls Try.prog 9 #[.string s, .slice A n c] w fun e w' => e = .returned (.bool true) ∧ Later w w' := by
  have hpl := hx.len
  have hlb := labB_length s
  have hsl := strB_length s
  have HP := hid hp
  clear hp
  have hj := fun A n c w hx => join_any A n c ps w hx
  generalize hF : ps.flatten = F at *
  have HF := hid hF
  clear hF
  have hAll : (labB s ++ F).length = s.size + 1 + F.length := by rw [List.length_append, hlb]
  have hSa := fun g t rest w hh => hsum_any g t rest (labB s ++ F) w hh (by omega)
  have hRa := fun A n c w hr => ref_sum A n c (labB s ++ F) w hr
  have hG := shaSum_length (labB s ++ F)
  generalize shaSum (labB s ++ F) = G at *
  obtain ⟨G, rfl⟩ := sub32 hG
  have HSa := hid hSa
  have HRa := hid hRa
  have HJ := hid hj
  clear hSa hRa hj
  go_enter Try.func9, Try.ntmps9
  go_wp2_with fail
  refine (label_ok ⟨#[97, 98]⟩ (by decide) w).mono ?_
  rintro e w1 ⟨rfl, hh1, hl1⟩
  rw [lab_ab] at hh1
  go_wp2_with (first
    | (go_at_call 31; refine (len_is w.heap.size 66 [Value.string ⟨#[97, 98]⟩] [2, 97, 98] 3 _ hh1 rfl).mono ?_; rintro e w2 ⟨rfl, rfl⟩)
    | (go_at_call 41; refine (name_any w.heap.size 66 ⟨#[97, 98]⟩ [2, 97, 98] _ hh1).mono ?_; rintro e w2 ⟨rfl, rfl⟩)
    | (go_at_call 40; refine (label_ok s hs _).mono ?_; rintro e w3 ⟨rfl, hh3, hl3⟩))
  have L3 := hl1.trans hl3
  have hlt3 := hh3.lt
  have hgw := hl1.size
  generalize hgl : w2.heap.size = gl at *
  clear hgl
  refine wp_region_parts [([0, 1, 2, 3], 4)] [] [5] (by as_aux_lemma => kernel_rfl) (by as_aux_lemma => kernel_rfl) (by intro _ _ d _ _ h; cases d <;> exact h) ?_
  simp only [wpParts, pick, List.getElem?_cons_succ, List.getElem?_cons_zero, Option.toList_some, List.cons_append, List.nil_append]
  repeat (go_big_quiet_step (fail))
  refine wpQuiet_nil ?_
  go_wp2_with (go_at_call 25; refine (copies_any A n c ps _ (hx.later L3.drew) (by omega) (fun p h => by have := HP.out p h; omega)).mono ?_; rintro e w4 ⟨A4, c4, rfl, hop4, hl4⟩)
  try refine ⟨by first | assumption | exact later_drew _ | exact Later.refl _, ?_⟩
  try simp only [wpParts, pick, List.getElem?_cons_succ, List.getElem?_cons_zero, Option.toList_some, List.cons_append, List.nil_append]
  repeat (go_big_quiet_step (fail))
  refine wpQuiet_nil ?_
  go_wp2_with (first
    | (go_at_call 34; refine (write_any gl 66 [Value.string s] (labB s) A4 n c4 ps _ (hh3.later ((later_drew _).trans hl4)) (hop4.partsBad hlt3) (by omega) (by rw [HF.out]; omega)).mono ?_; rintro e w5 ⟨rfl, hh5, ho5⟩
       rw [HF.out] at hh5
       have L5 := (L3.drew.trans hl4).only ho5 hgw)
    | (refine wpList_append_str rfl _ _ _ _ rfl 5 Try.underlying22 Try.underlying9 info8 w5 _ 1 _ (own_new w5 _ [W8 (UInt8.ofInt s.size)] (by simp)) (later_alloc _ _) s rfl rfl (by omega) ?_; intro A6 c6 w6 hown6 hl6 hg6)
    | (go_at_call 27; refine (HJ.out A n c _ (hx.later (L5.trans hl6)) (by omega) (by omega)).mono ?_; rintro e w7 ⟨A7, c7, rfl, hown7, hl7⟩)
    | (refine wpList_append_rd rfl _ _ _ rfl 5 _ 1 Try.underlying22 info8 rfl w5 _ (1 + s.size) _ (own_later hown6 hl7) (hl6.trans hl7) A7 F.length c7 _ hown7.rd (w8_one _) rfl rfl (by omega) (by omega) ?_; intro A8 c8 w8 hown8 hl8 _ _
       have hown8' : OwnB w8 w5.heap.size A8 (1 + s.size + F.length) c8 (labB s ++ F) := own_eq hown8 rfl (by simp [labB]))
    | (go_at_call 33; refine (new_any (some ⟨w8.heap.size, 0, none⟩) 1 1 [labB s ++ F] _ ?hx (by omega) (by rw [flatten_one]; omega)).mono ?_
       (case hx => exact parts_of ((Blk.new w8 22 _).rd rfl) ⟨part_of (hown8'.rd.later (later_alloc _ _)) hown8'.cap, trivial⟩)
       rintro e w9 ⟨rfl, hh9, hl9⟩
       rw [flatten_one] at hh9))
  have L9 := (hl8.alloc (.cells #[.slice A8 (1 + s.size + F.length) c8] 22)).trans hl9
  have hhl := hh5.later L9
  have hown9 := (hown8'.later (later_alloc _ _)).later hl9
  have LW := L5.trans L9
  simp only [World.size_alloc] at hh9
  generalize w8.heap.size + 1 = gp at *
  clear hh5 hown8' hown8 hh3 hop4 hl4 ho5
  refine wp_region_parts [([0, 1, 2, 4], 3), ([], 5), ([6, 7, 8, 9, 10, 12, 13, 14], 11), ([], 15), ([16, 17, 18, 19, 20, 21, 23, 24], 22), ([25, 26, 27, 28, 30], 29), ([31, 32, 33, 34, 35, 36, 39], 37), ([], 38), ([], 40)] [41, 42, 43] [] (by as_aux_lemma => kernel_rfl) (by as_aux_lemma => kernel_rfl) (by intro _ _ d _ _ h; cases d <;> exact h) ?_
  simp only [wpParts, pick, List.getElem?_cons_succ, List.getElem?_cons_zero, Option.toList_some, List.cons_append, List.nil_append]
  repeat (go_big_quiet_step (fail))
  refine wpQuiet_nil ?_
  go_wp2_with (go_at_call 32; refine (HSa.out gl 66 [Value.string s] _ (hhl.later (later_drew _))).mono ?_; rintro e wa ⟨rfl, hla⟩)
  have L := (later_drew w9).trans hla
  try refine ⟨by first | assumption | exact later_drew _ | exact Later.refl _, ?_⟩
  try simp only [wpParts, pick, List.getElem?_cons_succ, List.getElem?_cons_zero, Option.toList_some, List.cons_append, List.nil_append]
  repeat (go_big_quiet_step (fail))
  refine wpQuiet_nil ?_
  go_wp2_with (go_at_call 26; refine (HRa.out A8 _ c8 _ (hown9.later L).rd (by omega)).mono ?_; rintro e wb ⟨rfl, hlb⟩)
  have L := L.trans hlb
  try refine ⟨by first | assumption | exact later_drew _ | exact Later.refl _, ?_⟩
  try simp only [wpParts, pick, List.getElem?_cons_succ, List.getElem?_cons_zero, Option.toList_some, List.cons_append, List.nil_append]
  repeat (go_big_quiet_step (fail))
  refine wpQuiet_nil ?_
  go_wp2_with (go_at_call 32; refine (HSa.out gl 66 [Value.string s] _ (hhl.later L)).mono ?_; rintro e wc ⟨rfl, hlc⟩)
  have L := L.trans hlc
  try refine ⟨by first | assumption | exact later_drew _ | exact Later.refl _, ?_⟩
  try simp only [wpParts, pick, List.getElem?_cons_succ, List.getElem?_cons_zero, Option.toList_some, List.cons_append, List.nil_append]
  repeat (go_big_quiet_step (fail))
  refine wpQuiet_nil ?_
  go_wp2_with (go_at_call 32; refine (HSa.out gl 66 [Value.string s] _ (hhl.later L)).mono ?_; rintro e wd ⟨rfl, hld⟩)
  have L := L.trans hld
  try refine ⟨by first | assumption | exact later_drew _ | exact Later.refl _, ?_⟩
  try simp only [wpParts, pick, List.getElem?_cons_succ, List.getElem?_cons_zero, Option.toList_some, List.cons_append, List.nil_append]
  repeat (go_big_quiet_step (fail))
  refine wpQuiet_nil ?_
  go_wp2_with (go_at_call 31; refine (len_is gl 66 [Value.string s] (labB s ++ F) (1 + s.size + F.length) _ (hhl.later L) (by omega)).mono ?_; rintro e we ⟨rfl, rfl⟩)
  try refine ⟨by first | assumption | exact later_drew _ | exact Later.refl _, ?_⟩
  try simp only [wpParts, pick, List.getElem?_cons_succ, List.getElem?_cons_zero, Option.toList_some, List.cons_append, List.nil_append]
  repeat (go_big_quiet_step (fail))
  refine wpQuiet_nil ?_
  go_wp2_with (go_at_call 41; refine (name_any gl 66 s (labB s ++ F) _ (hhl.later L)).mono ?_; rintro e wf ⟨rfl, rfl⟩)
  try refine ⟨by first | assumption | exact later_drew _ | exact Later.refl _, ?_⟩
  try simp only [wpParts, pick, List.getElem?_cons_succ, List.getElem?_cons_zero, Option.toList_some, List.cons_append, List.nil_append]
  repeat (go_big_quiet_step (fail))
  refine wpQuiet_nil ?_
  go_wp2_with (go_at_call 36; refine (twin_any gl 66 [Value.string s] (labB s ++ F) _ (hhl.later L)).mono ?_; rintro e wg ⟨rfl, hhg, hlg⟩)
  try refine ⟨by first | assumption | exact later_drew _ | exact Later.refl _, ?_⟩
  try simp only [wpParts, pick, List.getElem?_cons_succ, List.getElem?_cons_zero, Option.toList_some, List.cons_append, List.nil_append]
  repeat (go_big_quiet_step (fail))
  refine wpQuiet_nil ?_
  go_wp2_with (go_at_call 32; refine (HSa.out _ 52 [] _ hhg).mono ?_; rintro e wh ⟨rfl, hlh⟩)
  have L := (L.trans hlg).trans hlh
  try refine ⟨by first | assumption | exact later_drew _ | exact Later.refl _, ?_⟩
  try simp only [wpParts, pick, List.getElem?_cons_succ, List.getElem?_cons_zero, Option.toList_some, List.cons_append, List.nil_append]
  repeat (go_big_quiet_step (fail))
  refine wpQuiet_nil ?_
  go_wp2_with (go_at_call 32; refine (HSa.out gp 52 [] _ (hh9.later L)).mono ?_; rintro e wi ⟨rfl, hli⟩)
  have L := L.trans hli
  try refine ⟨by first | assumption | exact later_drew _ | exact Later.refl _, ?_⟩
  try simp only [wpParts, pick, List.getElem?_cons_succ, List.getElem?_cons_zero, Option.toList_some, List.cons_append, List.nil_append]
  repeat (go_big_quiet_step (fail))
  refine wpQuiet_nil ?_
  go_wp2
  go_ret
  exact ⟨rfl, LW.trans L⟩
theorem shaLabels_walk (s : ByteArray) (A : Option Addr) (n c : Nat) (ps : List (List UInt8)) (w : World) (hx : Parts w (fun _ => False) A n ps) (hm : ps.flatten.length + n ≤ 1048576) (hp : ∀ p ∈ ps, p.length ≤ 1048576) :
    Calls Try.prog 9 #[.string s, .slice A n c] w fun e w' => e = .returned (.bool true) ∧ Later w w' := by
  by_cases hs : s.size ≤ 255
  · exact shaLabels_ok s hs A n c ps w hx hm hp
  · exact shaLabels_bad s (by omega) A n c w
end Go.Proofs.Ytmdbekdphkkmkaa
