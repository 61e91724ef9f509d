/-
  The law MacDerives, walked.
-/
import Derived.Test.YtmdbekdphkkmkaaDerive2
namespace Go.Proofs.Ytmdbekdphkkmkaa
open Go.RowKit

theorem flat_get : ∀ (L : List (List UInt8)) (k j : Nat), (∀ x ∈ L, x.length = 32) → k < L.length → j < 32 → L.flatten[32 * k + j]? = (L.getD k [])[j]?
  | [], k, j, _, h, _ => absurd h (by simp)
  | x :: L, 0, j, hl, _, hj => by
    have := hl x (by simp)
    rw [List.flatten_cons, List.getElem?_append_left (by omega)]
    simp
  | x :: L, k + 1, j, hl, h, hj => by
    have hx := hl x (by simp)
    rw [List.flatten_cons, List.getElem?_append_right (by omega), show 32 * (k + 1) + j - x.length = 32 * k + j by omega, flat_get L k j (fun y hy => hl y (by simp [hy])) (by simpa using h) hj]
    simp
theorem keysAt_get (secret : List UInt8) (ss : List ByteArray) (m k j : Nat) (hm : ss.length = m) (hk : k < m) (hj : j < 32) : (keysAt secret ss m)[k * 32 + j]? = (derB secret (ss.getD k .empty))[j]? := by
  subst hm
  rw [keysAt, List.take_of_length_le (Nat.le_refl _), Nat.sub_self, Nat.mul_zero, List.replicate_zero, List.append_nil, Nat.mul_comm k 32,
    flat_get _ k j (fun x hx => by obtain ⟨s, _, rfl⟩ := List.mem_map.1 hx; exact derB_length _ _) (by simpa using hk) hj]
  simp [List.getD_eq_getElem?_getD, List.getElem?_eq_getElem hk]
theorem string_one (l : List ByteArray) : ∀ v ∈ l.map Value.string, v.oneCell' = true := by
  intro v hv
  obtain ⟨x, _, rfl⟩ := List.mem_map.1 hv
  rfl
set_option maxRecDepth 100000 in
set_option maxHeartbeats 2000000 in
theorem macDerives_none (A B : Option Addr) (n c d : Nat) (secret : List UInt8) (w : World) (hx : RdB w A n secret) (hk : secret.length ≤ 1048576) :
    Calls Try.prog 14 #[.slice A n c, .slice B 0 d] w fun e w' => e = .returned (.bool true) ∧ Later w w' := by
  have hxl := hx.len
  have hB : Rd w B 0 (([] : List ByteArray).map Value.string) := ⟨rfl, fun h => absurd h (by omega)⟩
  go_enter Try.func14, Try.ntmps14
  go_wp2_with (first
    | (go_at_call 42; refine (awake03 _).mono ?_; rintro e w1 ⟨rfl, hl1⟩)
    | (go_at_call 29; refine (copy_any A n c secret _ (hx.later hl1) (by omega)).mono ?_; rintro e w2 ⟨A2, c2, rfl, hown2, hl2⟩)
    | (refine wpList_append_rd rfl _ _ _ rfl 9 _ 16 Try.underlying84 infoS rfl w2 _ 0 [] (own_new w2 _ [] (by simp)) (later_alloc _ _) B 0 d _ (hB.later ((hl1.trans hl2).alloc _)) (string_one _) rfl rfl (by omega) (by omega) ?_; intro A3 c3 w3 hown3 hl3 _ _)
    | (go_at_call 55; refine (derive_none A2 A3 n c2 c3 _).mono ?_; rintro e w4 ⟨rfl, rfl⟩))
  have L := (hl1.trans hl2).trans hl3
  go_loopw [23] (fun i wr => i = .int .i64 0 ∧ wr = w4) (fun _ _ => 0)
  case atStart => exact ⟨rfl, rfl⟩
  case round =>
    obtain ⟨rfl, rfl⟩ := hrel
    go_wp2
    go_ret
    exact ⟨rfl, L⟩
set_option maxRecDepth 100000 in
set_option maxHeartbeats 2000000 in
theorem macDerives_some (A B : Option Addr) (n c m d : Nat) (secret : List UInt8) (ss : List ByteArray) (w : World) (hx : RdB w A n secret) (hb : Strs w B m ss) (hk : secret.length ≤ 1048576) (hm0 : 0 < m) (hm : m ≤ 1048576) (hs : ∀ s ∈ ss, s.size ≤ 1048576) :
    Calls Try.prog 14 #[.slice A n c, .slice B m d] w fun e w' => e = .returned (.bool true) ∧ Later w w' := by
  have hxl := hx.len
  have hml : ss.length = m := by simpa using hb.1
  have HS := hid hs
  clear hs
  go_enter Try.func14, Try.ntmps14
  go_wp2_with (first
    | (go_at_call 42; refine (awake03 _).mono ?_; rintro e w1 ⟨rfl, hl1⟩)
    | (go_at_call 29; refine (copy_any A n c secret _ (hx.later hl1) (by omega)).mono ?_; rintro e w2 ⟨A2, c2, rfl, hown2, hl2⟩)
    | (refine wpList_append_rd rfl _ _ _ rfl 9 _ 16 Try.underlying84 infoS rfl w2 _ 0 [] (own_new w2 _ [] (by simp)) (later_alloc _ _) B m d _ (Rd.later hb ((hl1.trans hl2).alloc _)) (string_one _) rfl rfl (by omega) (by omega) ?_; intro A3 c3 w3 hown3 hl3 _ _; simp only [Nat.zero_add, List.nil_append] at hown3)
    | (go_at_call 55; refine (derive_any A2 A3 n c2 m c3 secret ss _ (hown2.later hl3).rd hown2.cap (by omega) (own_rd hown3) hm0 hm HS.out).mono ?_; rintro e w4 ⟨g, rfl, hg, hO, hl4⟩))
  have L := ((hl1.trans hl2).trans hl3).trans hl4
  clear hl1 hl2 hl3 hl4 hown2 hown3 hg
  go_loopw [23] (fun i wr => ∃ k : Nat, k ≤ m ∧ i = .int .i64 k ∧ Later w4 wr) (fun i _ => m - (intOf i).toNat)
  case atStart => exact ⟨0, by omega, rfl, Later.refl _⟩
  case round =>
    obtain ⟨k, hk', rfl, hl⟩ := hrel
    by_cases hlt : k < m
    · obtain ⟨b, o, rfl, hbb, hck⟩ := (hb.later (L.trans hl)).at_ hlt
      have hsz := HS.out (ss.getD k .empty) (by rw [List.getD_eq_getElem?_getD, List.getElem?_eq_getElem (by omega)]; exact List.getElem_mem _)
      have hget := fun j hj => keysAt_get secret ss m k j hml hlt hj
      have hrd := fun w h => refDerive_any A n c secret (ss.getD k .empty) w h (by omega) (by omega)
      have hdl := derB_length secret (ss.getD k .empty)
      have hOd := hO.later (hl.trans (later_drew wr))
      generalize ss.getD k .empty = s at *
      generalize derB secret s = D at *
      obtain ⟨D, rfl⟩ := sub32 hdl
      have hcell : ∀ w', Later wr.drew w' → ∀ (j : Nat) v, (D.val.map W8)[j]? = some v → w'.cell? ⟨g, k * 32 + j, none⟩ = some v := by
        intro w' hl' j v hv
        have hj : j < 32 := by have := (List.getElem?_eq_some_iff.1 hv).1; rw [List.length_map, hdl] at this; exact this
        refine (hOd.later hl').cellD _ ?_
        rw [List.getElem?_map, hget j hj, ← List.getElem?_map]
        exact hv
      have HC := hid hcell
      have HRD := hid hrd
      clear hcell hrd hget hOd
      go_wp2
      refine wp_region_parts [([0, 1, 2, 3, 4, 5], 6)] [7] [] (by as_aux_lemma => kernel_rfl) (by as_aux_lemma => kernel_rfl) (by intro _ _ d _ _ h; cases d <;> exact h) ?_
      simp only [wpParts, pick, List.getElem?_cons_succ, List.getElem?_cons_zero, Option.toList_some, List.cons_append, List.nil_append]
      repeat (first | go_big_quiet_skip | (go_big_quiet_want; refine quiet_load_agg 39 _ rfl g (k * 32) (D.val.map W8) ?hc ?hx _ Try.underlying39 rfl ?hi ?_; (case hx => rfl); (case hi => rw [List.length_map, hdl]; kernel_rfl); (case hc => rintro w' ⟨x, rfl⟩; exact HC.out _ ⟨x, rfl⟩); simp only [Act.put, List.setIfInBounds_toArray, List.set_cons_succ, List.set_cons_zero]; go_big_quiet_on) | (go_big_quiet_step (fail)))
      refine wpQuiet_nil ?_
      go_wp2_with (go_at_call 56; refine (HRD.out _ (hx.later (L.trans (hl.trans (later_drew wr))))).mono ?_; rintro e w5 ⟨rfl, hl5⟩)
      try refine ⟨by first | assumption | exact later_drew _ | exact later_alloc _ _ | exact Later.refl _, ?_⟩
      try simp only [wpParts, pick, List.getElem?_cons_succ, List.getElem?_cons_zero, Option.toList_some, List.cons_append, List.nil_append]
      repeat (go_big_quiet_step (fail))
      refine wpQuiet_nil ?_
      go_wp2
      refine ⟨⟨k + 1, by omega, by go_num, hl.trans ((later_drew wr).trans hl5)⟩, by simp only [intOf]; omega⟩
    · have hkm : k = m := by omega
      go_wp2
      go_ret
      exact ⟨rfl, L.trans hl⟩
theorem macDerives_walk (A B : Option Addr) (n c m d : Nat) (secret : List UInt8) (ss : List ByteArray) (w : World) (hx : RdB w A n secret) (hb : Strs w B m ss) (hk : secret.length ≤ 1048576) (hm : m ≤ 1048576) (hs : ∀ s ∈ ss, s.size ≤ 1048576) :
    Calls Try.prog 14 #[.slice A n c, .slice B m d] w fun e w' => e = .returned (.bool true) ∧ Later w w' := by
  rcases Nat.eq_zero_or_pos m with rfl | h0
  · exact macDerives_none A B n c d secret w hx hk
  · exact macDerives_some A B n c m d secret ss w hx hb hk h0 hm hs
end Go.Proofs.Ytmdbekdphkkmkaa
