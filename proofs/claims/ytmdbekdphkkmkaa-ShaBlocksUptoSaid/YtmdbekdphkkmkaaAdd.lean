/-
  (*sha.Hash).add.
-/
import Derived.Test.YtmdbekdphkkmkaaHash
namespace Go.Proofs.Ytmdbekdphkkmkaa
open Go.RowKit

theorem hCells_72 (st : S8) (op : List UInt8) (n : Nat) (rest : List Value) (h : op.length = 64) : (hCells st op n ++ rest)[72]? = some (.int .i64 n) := by
  rw [List.getElem?_append_left (by rw [hCells_length _ _ _ h]; omega), hCells, List.getElem?_append_right (by simp [S8.list]), List.getElem?_append_right (by simp [S8.list, h])]
  simp [S8.list, h]
theorem hCells_set72 (st : S8) (op : List UInt8) (n m : Nat) (rest : List Value) (h : op.length = 64) : (hCells st op n ++ rest).set 72 (.int .i64 m) = hCells st op m ++ rest := by
  rw [List.set_append_left _ _ (by rw [hCells_length _ _ _ h]; omega), hCells, List.set_append_right _ _ (by simp [S8.list]), List.set_append_right _ _ (by simp [S8.list, h])]
  simp [S8.list, h, hCells]
theorem hCells_copy (st : S8) (op x : List UInt8) (n f : Nat) (rest : List Value) (h : op.length = 64) (hf : f + x.length ≤ 64) :
    spliced (hCells st op n ++ rest) (8 + f) (x.map W8) = hCells st (opened op f x) n ++ rest := by
  have hs : st.list.length = 8 := rfl
  have e : ∀ o : List UInt8, hCells st o n ++ rest = st.list ++ (o.map W8 ++ ([.int .i64 n] ++ rest)) := fun o => by simp [hCells]
  rw [e, e, spliced, opened]
  generalize [Value.int .i64 n] ++ rest = R
  rw [List.take_append, List.take_of_length_le (by omega), hs, Nat.add_sub_cancel_left, List.take_append_of_le_length (by simp [h]; omega),
    List.drop_append, List.drop_of_length_le (by simp [hs]; omega), hs, show 8 + f + (x.map W8).length - 8 = f + x.length by simp; omega, List.drop_append_of_le_length (by simp [h]; omega)]
  simp [List.map_take, List.map_drop]
theorem hCells_state (st st' : S8) (op : List UInt8) (n : Nat) (rest : List Value) : spliced (hCells st op n ++ rest) 0 st'.list = hCells st' op n ++ rest := by
  simp [spliced, hCells, S8.list]
theorem hCells_open (st : S8) (op : List UInt8) (n : Nat) (rest : List Value) (j : Nat) (u : Value) (hu : (op.map W8)[j]? = some u) : (hCells st op n ++ rest)[8 + j]? = some u := by
  have hj := (List.getElem?_eq_some_iff.1 hu).1
  have hs : st.list.length = 8 := rfl
  rw [hCells, List.append_assoc, List.getElem?_append_right (by omega), hs, Nat.add_sub_cancel_left, List.append_assoc, List.getElem?_append_left hj]
  exact hu
theorem Blk.open_ {w : World} {g : Nat} {t : TypeId} {st : S8} {op : List UInt8} {n : Nat} {rest : List Value} (h : Blk w g t (hCells st op n ++ rest)) (hl : op.length = 64) : RdB w (some ⟨g, 8, none⟩) 64 op :=
  ⟨by simp [hl], fun _ => ⟨g, 8, rfl, h.lt, fun j u hu => h.cellD (8 + j) (hCells_open st op n rest j u hu)⟩⟩

set_option maxRecDepth 100000 in
set_option maxHeartbeats 2000000 in
theorem add_any (g : Nat) (t : TypeId) (rest : List Value) (bs x : List UInt8) (A : Option Addr) (n c : Nat) (w : World) (hh : HashAt w g t rest bs) (hx : RdB w A n x) (hoff : 0 < n → Off A g) (hc : n ≤ c) (hlen : bs.length + n ≤ 4611686018427387904) :
    Calls Try.prog 67 #[.pointer (some ⟨g, 0, none⟩), .slice A n c] w fun e w' => e = .returned (.tuple #[]) ∧ HashAt w' g t rest (bs ++ x) ∧ Only g w w' := by
  go_enter Try.func67, Try.ntmps67
  go_wp2
  go_loopw [1] (fun v wr => ∃ (k : Nat) (A' : Option Addr), k ≤ n ∧ v = .slice A' (n - k) (c - k) ∧ RdB wr A' (n - k) (x.drop k) ∧ (0 < n → Off A' g) ∧ HashAt wr g t rest (bs ++ x.take k) ∧ Only g w wr) (fun v _ => lenOf v)
  case atStart => exact ⟨0, A, Nat.zero_le _, rfl, hx, hoff, by simpa using hh, World.grownBy.refl w _⟩
  case round =>
    obtain ⟨k, A', hk, rfl, hx', hoffn, ⟨st, op, hok, hb⟩, ho⟩ := hrel
    have hxl := hx.len
    have hl : (bs ++ x.take k).length = bs.length + k := by simp; omega
    by_cases hlt : k < n
    · have hoff' := hoffn (by omega)
      clear hoffn
      obtain ⟨f, hf, hfe⟩ : ∃ f, f < 64 ∧ (bs.length + k) % 64 = f := ⟨_, Nat.mod_lt _ (by omega), rfl⟩
      have HF := hid hfe
      have hr : ((bs.length + k : Nat) : Int).tmod 64 = f := by rw [Int.tmod_eq_emod_of_nonneg (by omega)]; omega
      clear hfe
      rw [hl] at hb
      generalize hN : bs.length + k = N at *
      have hN1 : N ≤ 4611686018427387904 := by omega
      have d0 := hb.cellD 72 (hCells_72 _ _ _ _ hok.len)
      obtain ⟨m, hm⟩ : ∃ m, min (n - k) (64 - f) = m := ⟨_, rfl⟩
      have HM := hid hm
      have hm1 : m ≤ n - k := by omega
      have hm2 : f + m ≤ 64 := by omega
      have hm0 : 0 < m := by omega
      obtain ⟨y, hy⟩ : ∃ y, (x.drop k).take m = y := ⟨_, rfl⟩
      have hyl : y.length = m := by rw [← hy]; simp; omega
      have hyt : ((x.drop k).map W8).take (64 - f) = y.map W8 := by
        rw [← hy, ← List.map_take]
        congr 1
        rw [List.take_eq_take_iff]
        simp
        omega
      have hxy : (bs ++ x.take k) ++ y = bs ++ x.take (k + m) := by rw [← hy, List.take_add, List.append_assoc]
      have HT := hid hyt
      have HY := hid hy
      clear hm hyt hy
      have hop := opened_length (op := op) f y (by rw [hok.len]; omega)
      rw [hok.len] at hop
      have hcells := hCells_copy st op y N f rest hok.len (by omega)
      have HC := hid hcells
      clear hcells
      go_wp2_with (first
        | (refine wpList_copy_rd rfl _ _ _ _ rfl 5 Try.underlying22 (by kernel_rfl) g (8 + f) (64 - f) (64 - f) t (hCells st op N ++ rest) hb A' (n - k) (c - k) _ hx' (w8_one _) ?hd rfl ?hfit ?_; (case hd => rfl); (case hfit => rw [List.length_append, hCells_length _ _ _ hok.len]; omega); intro w1 hb1 ho1; rw [HM.out]
           rw [HT.out, HC.out] at hb1
           have d1 := hb1.cellD 72 (hCells_72 _ _ _ _ hop)
           have d2 := hb1.frozen 72)
        | (refine wpList_store_one rfl rfl _ _ _ rfl _ rfl rfl (by kernel_rfl) ?sc ?sf ?_; (case sc => go_simp; done); (case sf => first | assumption | (go_simp; done)); intro v hv; simp [go_sem] at hv; subst hv))
      · have hfull : f + m = 64 := by
          have h64 : ((f : Int) + (m : Int) == 64) = true := by assumption
          have := eq_of_beq h64
          omega
        have hb2 := hb1.set_ 72 (.int .i64 ((N : Int) + (m : Int)))
        rw [show ((N : Int) + (m : Int)) = ((N + m : Nat) : Int) by omega, hCells_set72 _ _ _ _ _ hop] at hb2
        have ho2 := ho1.trans (only_setCell w1 g 72 (.int .i64 ((N + m : Nat) : Int)))
        rw [show ((N : Int) + (m : Int)) = ((N + m : Nat) : Int) by omega]
        generalize w1.setCell ⟨g, 72, none⟩ (.int .i64 ((N + m : Nat) : Int)) = w2 at *
        have e1 := hb2.cellD 72 (hCells_72 _ _ _ _ hop)
        have hN2 : 64 ≤ N + m := by have := HF.out; omega
        generalize hM : N + m = M at *
        clear d1 d2 d0 hb1 ho1
        refine wp_region_parts [([0, 1, 2, 3, 4, 5, 6, 8, 9, 10, 11], 7), ([], 12)] [13, 14, 15, 16, 17] [18] (by as_aux_lemma => kernel_rfl) (by as_aux_lemma => kernel_rfl) (by intro _ _ d _ _ h; cases d <;> exact h) ?_
        simp only [wpParts, pick, List.getElem?_cons_succ, List.getElem?_cons_zero, Option.toList_some, List.cons_append, List.nil_append]
        repeat (go_big_quiet_step (fail))
        refine wpQuiet_nil ?_
        go_wp2_with (go_at_call 80; refine (before_any g t st _ _ _ ((hb2.later (later_drew _)).trans (by rw [hCells, List.append_assoc]))).mono ?_; rintro e w3 ⟨rfl, hl3⟩; generalize hS : (if ((M : Int) - 64) < 64 then shaInit else st) = S; have HS := hid hS; clear hS)
        try refine ⟨by first | assumption | exact later_drew _ | exact later_alloc _ _ | exact Later.refl _, ?_⟩
        try simp only [wpParts, pick, List.getElem?_cons_succ, List.getElem?_cons_zero, Option.toList_some, List.cons_append, List.nil_append]
        repeat (go_big_quiet_step (fail))
        refine wpQuiet_nil ?_
        go_wp2_with (go_at_call 28; refine (compress_any S _ _ (opened op f y) _ ((hb2.later ((later_drew _).trans hl3)).open_ hop)).mono ?_; rintro e w4 ⟨rfl, hl4⟩; generalize hS' : shaComp S (opened op f y) = S'; have HS' := hid hS'; clear hS')
        try refine ⟨by first | assumption | exact later_drew _ | exact later_alloc _ _ | exact Later.refl _, ?_⟩
        try simp only [wpParts, pick, List.getElem?_cons_succ, List.getElem?_cons_zero, Option.toList_some, List.cons_append, List.nil_append]
        repeat (go_big_quiet_step (fail))
        refine wpQuiet_nil ?_
        have hb4 := hb2.later (((later_drew _).trans hl3).trans hl4)
        go_wp2_with (first
          | (refine wpList_store_agg rfl rfl 31 _ _ rfl g 0 t (hCells st (opened op f y) M ++ rest) S'.list ?b ?hx ?hy ?hi ?hf ?h1 ?_; (case hx => rfl); (case hy => rfl); (case hi => kernel_rfl); (case hf => simp [S8.list, hCells]); (case h1 => exact s8_one _); (case b => exact hb4); intro w5 hb5 ho5))
        rw [hCells_state] at hb5
        have ho' : Only g w w5 := ((ho.trans ho2).later (((later_drew _).trans hl3).trans hl4)).trans ho5
        go_roundw
        case rel =>
          refine ⟨k + m, cutA A' m (c - k), by omega, by rw [Nat.sub_sub, Nat.sub_sub], ?_, fun _ => hoff'.cut _ _, ?_, ho'⟩
          · have h1 := (hx'.cut (k := m) (c := c - k) hm1 (by omega))
            rw [List.drop_drop, Nat.sub_sub] at h1
            exact ((Rd.onlyOff h1 ho2 (hoff'.cut _ _)).later (((later_drew _).trans hl3).trans hl4)).onlyOff ho5 (hoff'.cut _ _)
          · have h64 : (bs ++ x.take k).length % 64 = f := by rw [hl]; exact HF.out
            have hF := hok.full y (by rw [h64, hyl]; exact hfull)
            rw [hxy, h64] at hF
            refine ⟨_, _, hF, ?_⟩
            have hlen' : (bs ++ x.take (k + m)).length = M := by rw [← hxy, List.length_append, hl, hyl, hM]
            rw [hlen']
            have hah : ahead (bs ++ x.take k) st = S := by
              rw [← HS.out, ahead, hl]
              by_cases h0 : N / 64 = 0
              · rw [if_pos h0, if_pos (by omega)]
              · rw [if_neg h0, if_neg (by omega)]
            rw [hah, HS'.out]
            exact hb5
        case measure => simp only [lenOf]; omega
      · have hpart : f + m < 64 := by
          have h64 : ((f : Int) + (m : Int) == 64) = false := by assumption
          have := beq_eq_false_iff_ne.1 h64
          omega
        have hb2 := hb1.set_ 72 (.int .i64 ((N : Int) + (m : Int)))
        rw [show ((N : Int) + (m : Int)) = ((N + m : Nat) : Int) by omega, hCells_set72 _ _ _ _ _ hop] at hb2
        have ho2 := ho1.trans (only_setCell w1 g 72 (.int .i64 ((N + m : Nat) : Int)))
        rw [show ((N : Int) + (m : Int)) = ((N + m : Nat) : Int) by omega]
        generalize w1.setCell ⟨g, 72, none⟩ (.int .i64 ((N + m : Nat) : Int)) = w2 at *
        go_roundw
        case rel =>
          refine ⟨k + m, cutA A' m (c - k), by omega, by rw [Nat.sub_sub, Nat.sub_sub], ?_, fun _ => hoff'.cut _ _, ?_, ho.trans ho2⟩
          · have h1 := (hx'.cut (k := m) (c := c - k) hm1 (by omega))
            rw [List.drop_drop, Nat.sub_sub] at h1
            exact Rd.onlyOff h1 ho2 (hoff'.cut _ _)
          · have h64 : (bs ++ x.take k).length % 64 = f := by rw [hl]; exact HF.out
            have hF := hok.part y (by rw [h64, hyl]; exact hpart)
            rw [hxy, h64] at hF
            refine ⟨_, _, hF, ?_⟩
            have hlen' : (bs ++ x.take (k + m)).length = N + m := by rw [← hxy, List.length_append, hl, hyl]
            rw [hlen']
            exact hb2
        case measure => simp only [lenOf]; omega
    · have hkn : k = n := by omega
      subst hkn
      rw [List.take_of_length_le (by omega)] at hok hb
      rw [Nat.sub_self]
      go_wp2
      refine bodyPost_end (results_none rfl _ _ _) rfl ⟨rfl, ⟨st, op, hok, hb⟩, ho⟩
end Go.Proofs.Ytmdbekdphkkmkaa
