/-
  Rows of structs: one of them is written; frame.Count, frame.Split.
-/
import Derived.Test.YtkibgdigcgakfabGreatMshR
import Derived.Test.YtkibgdigcgakfabGreatOncP
import Derived.Test.YtkibgdigcgakfabGreatFrmA
import Derived.Test.YtkibgdigcgakfabGreatRowP
namespace Go.Proofs.YtkibgdigcgakfabGreat
open Go.RowKit
open Go.BigFrame

theorem infoPs : (Tryz.prog.info? 32).map (fun i => (i.zero, i.size, i.bytes)) = some (some (.agg (PvC pvz).toArray), 5, 56) := by kernel_rfl
theorem infoPs2 : (Tryz.prog.info? 32).map (fun i => (i.zero, i.size)) = some (some (.agg (PvC pvz).toArray), 5) := by kernel_rfl
theorem own_allG {w : World} {base g sz N : Nat} {e : TypeId} {l : List Value} (h : Blk w g e l) (hb : base ≤ g) (hl : l.length = N * sz) (hm : N ≤ maxLen) : w.ownsRow base e sz (.slice (some ⟨g, 0, none⟩) N N) N l :=
  ⟨hl, .inr ⟨g, N, l.toArray, rfl, hb, h, Nat.le_refl _, hm, by simp [hl], by simp [← hl]⟩⟩
theorem own_blkG {w : World} {base sz n c : Nat} {e : TypeId} {A : Option Addr} {vs : List Value} (h : w.ownsRow base e sz (.slice A n c) n vs) (hn : 0 < n) :
    ∃ g rest, A = some ⟨g, 0, none⟩ ∧ base ≤ g ∧ Blk w g e (vs ++ rest) ∧ n ≤ c ∧ c ≤ maxLen ∧ (vs ++ rest).length = c * sz := by
  rcases h.2 with ⟨hv, h0⟩ | ⟨g, cap, cur, hv, hb, hh, hnc, hm, hs, ht⟩
  · omega
  · cases hv
    have e : vs ++ cur.toList.drop (n * sz) = cur.toList := by rw [← ht, List.take_append_drop]
    refine ⟨g, cur.toList.drop (n * sz), rfl, hb, ?_, hnc, hm, ?_⟩
    · rw [e]
      exact hh
    · rw [e, Array.length_toList, hs]
theorem own_backG {w : World} {base g sz n c : Nat} {e : TypeId} {vs rest : List Value} (h : Blk w g e (vs ++ rest)) (hb : base ≤ g) (hl : vs.length = n * sz) (hc : (vs ++ rest).length = c * sz) (hn : n ≤ c) (hm : c ≤ maxLen) : w.ownsRow base e sz (.slice (some ⟨g, 0, none⟩) n c) n vs :=
  ⟨hl, .inr ⟨g, c, (vs ++ rest).toArray, rfl, hb, h, hn, hm, by simp only [List.size_toArray]; exact hc, by show (vs ++ rest).take _ = vs; rw [← hl, List.take_left]⟩⟩
theorem spliced_left (l r vs : List Value) (o : Nat) (h : o + vs.length ≤ l.length) : spliced (l ++ r) o vs = spliced l o vs ++ r := by
  rw [spliced, spliced, List.take_append_of_le_length (by omega), List.drop_append_of_le_length (by omega), List.append_assoc, List.append_assoc, List.append_assoc]
section
variable {P : Program} {ops : Array Oper} {rest : List Oper} {o : Oper} {a : Act} {w : World} {Q : Exit → Act → World → Prop} {α : Type} {F : α → List Value} {sz : Nat}
theorem wpList_store_rowF (hF : ∀ x, (F x).length = sz) (hF1 : ∀ x, ∀ u ∈ F x, u.oneCell' = true) (d : α) (hgd : o.guard = none) (hd : o.dst = none) (ty : TypeId) (x y : Operand) (ho : o.op = .store ty x y) {base g n c : Nat} {e : TypeId} {xs : List α}
    (hown : w.ownsRow base e sz (.slice (some ⟨g, 0, none⟩) n c) n (xs.flatMap F)) (hn : xs.length = n) (j : Nat) (hj : j < n) (v : α) (hx : a.eval x = .pointer (some ⟨g, j * sz, none⟩)) (hy : a.eval y = .agg (F v).toArray) (hi : (P.info? ty).map (·.size) = some sz)
    (h : ∀ w', w'.ownsRow base e sz (.slice (some ⟨g, 0, none⟩) n c) n ((xs.set j v).flatMap F) → Only g w w' → wpList P ops Q rest a w') : wpList P ops Q (o :: rest) a w := by
  obtain ⟨g', r, hg, hb, hB, hnc, hm, hl⟩ := own_blkG hown (by omega)
  obtain rfl : g = g' := by simpa using hg
  have hfl := flatF_length hF xs
  rw [hn] at hfl
  have hjn : j * sz + sz ≤ n * sz := by
    rw [← Nat.succ_mul]
    exact Nat.mul_le_mul_right _ hj
  refine wpList_store_agg hgd hd ty x y ho g (j * sz) e _ (F v) hB hx hy (by rw [hF]; exact hi) (by rw [List.length_append, hF]; omega) (hF1 v) ?_
  intro w' hb' ho'
  have e1 : spliced (xs.flatMap F) (j * sz) (F v) = (xs.set j v).flatMap F := by
    have := flatF_set hF d (off := 0) (vs := F v) (y := v) xs j (by omega) (by rw [hF]; omega) (by rw [spliced_all _ _ (by rw [hF, hF])])
    rwa [Nat.add_zero] at this
  have e2 : ((xs.set j v).flatMap F).length = n * sz := by rw [flatF_length hF, List.length_set, hn]
  rw [spliced_left _ _ _ _ (by rw [hF]; omega), e1] at hb'
  exact h w' (own_backG hb' hb e2 (by rw [List.length_append] at hl ⊢; omega) hnc hm) ho'
end
set_option maxRecDepth 100000 in
theorem fcount_any (n : Nat) (hn : n ≤ 7200) (w : World) : Calls Tryz.prog 15 #[.int .i64 n] w fun e w' => e = .returned (.tuple #[.int .i64 (cntOf n : Nat), .int .i64 0]) ∧ Later w w' := by
  have h1 : decide ((n : Int) < 0) = false := decide_eq_false (by omega)
  have h2 : decide ((7200 : Int) < (n : Int)) = false := decide_eq_false (by omega)
  by_cases h0 : n = 0
  · subst h0
    go_enter Tryz.func15, Tryz.ntmps15
    go_wp2_with fail
    go_ret2
    exact ⟨rfl, Later.refl w⟩
  · have h3 : ((n : Int) == 0) = false := beq_eq_false_iff_ne.2 (by omega)
    have h4 : cntOf n = (n + 449) / 450 := if_neg h0
    go_enter Tryz.func15, Tryz.ntmps15
    go_wp2_with fail
    rw [show ((n : Int) + 450 - 1) / 450 = ((cntOf n : Nat) : Int) by rw [h4]; omega]
    go_ret2
    exact ⟨rfl, Later.refl w⟩
theorem splitP_get (id : UInt64) (msg : List UInt8) (k : Nat) (h : k < cntOf msg.length) : (splitP id msg).take (k + 1) = (splitP id msg).take k ++ [splitA id msg k] := by
  unfold splitP
  rw [List.take_add_one, List.getElem?_map, List.getElem?_range h]
  rfl
theorem splitP_len (id : UInt64) (msg : List UInt8) : (splitP id msg).length = cntOf msg.length := by simp [splitP]
theorem built_spl (id : UInt64) (i N : Int) (A : Option Addr) (n c : Nat) (da : List UInt8) : Tryz.prog.built 32 [(0, .int .u8 1), (1, W64 id), (2, .int .i64 i), (3, .int .i64 N), (4, .slice A n c)] = some (PaC ⟨1, id, i, N, da⟩ (.slice A n c)).toArray := by kernel_rfl
theorem rdB_piece {w : World} {A : Option Addr} {n : Nat} {bs : List UInt8} (h : RdB w A n bs) (k m : Nat) (hk : k * 450 ≤ n) (hm : m = min 450 (n - k * 450)) : RdB w (Option.map (fun x => x.add (k * 450)) A) m (pieceOf bs k) := by
  have hl := h.len
  have h1 : (pieceOf bs k).length = m := by
    unfold pieceOf
    rw [List.length_take, List.length_drop, hl, hm]
  refine ⟨by rw [List.length_map, h1], fun h0 => ?_⟩
  obtain ⟨b, o, rfl, hb, hc⟩ := h.2 (by omega)
  refine ⟨b, o + k * 450, by simp [Addr.add], hb, fun j v hv => ?_⟩
  rw [Nat.add_assoc]
  refine hc (k * 450 + j) v ?_
  rw [List.getElem?_map] at hv ⊢
  unfold pieceOf at hv
  rw [List.getElem?_take] at hv
  split at hv
  · rwa [List.getElem?_drop] at hv
  · cases hv
theorem rdB_piece0 {w : World} {A : Option Addr} {n : Nat} {bs : List UInt8} (h : RdB w A n bs) (k : Nat) (hk : n = k * 450) : RdB w A (n - k * 450) (pieceOf bs k) := by
  have hl := h.len
  have h1 : (pieceOf bs k).length = n - k * 450 := by
    unfold pieceOf
    rw [List.length_take, List.length_drop, hl]
    omega
  exact ⟨by rw [List.length_map, h1], fun h0 => by omega⟩
set_option maxRecDepth 100000 in
set_option maxHeartbeats 4000000 in
theorem fsplit_any (id : UInt64) (A : Option Addr) (n c : Nat) (bs : List UInt8) (w : World) (hb : RdB w A n bs) (hn : n ≤ 7200) (hnc : n ≤ c) :
    Calls Tryz.prog 6 #[W64 id, .slice A n c] w fun e w' => ∃ (g : Nat) (Ps : List Pv), e = .returned (.tuple #[.slice (some ⟨g, 0, none⟩) (cntOf n) (cntOf n), .int .i64 0]) ∧ Ps.map Pv.p = splitP id bs ∧
      w'.ownsRow w.heap.size 32 5 (.slice (some ⟨g, 0, none⟩) (cntOf n) (cntOf n)) (cntOf n) (Ps.flatMap PvC) ∧ (∀ q ∈ Ps, OwnB w' w.heap.size q.va q.vn q.vc q.p.da) ∧ Later w w' := by
  have hbl := hb.len
  have hc16 := cntOf_le hn
  have hC := hid (fcount_any n hn w)
  have hsg := hid (fun k h => splitP_get id bs k h)
  have hsl := splitP_len id bs
  rw [hbl] at hsl hsg
  have hsA : Hid (∀ k : Nat, splitA id bs k = ⟨1, id, k, (cntOf n : Nat), pieceOf bs k⟩) := hid (fun k => by rw [splitA, hbl])
  have hN450 : ∀ k, k < cntOf n → k * 450 ≤ n := by
    intro k hk
    unfold cntOf at hk
    split at hk <;> omega
  have hNk : ∀ k, k < cntOf n → n = k * 450 → k = 0 := by
    intro k hk he
    unfold cntOf at hk
    split at hk <;> omega
  have hbu := hid built_spl
  generalize splitP id bs = SP at *
  generalize cntOf n = N at *
  go_enter Tryz.func6, Tryz.ntmps6
  go_wp2_with fail
  refine hC.out.mono ?_
  rintro e w1 ⟨rfl, j1⟩
  go_wp2_with (first
    | (refine wpList_make_f PvC_length (by omega) pvz rfl _ _ _ rfl 32 56 Tryz.underlying26 infoPs _ _ _ _ N rfl rfl rfl rfl (by omega) (by omega) ?_; intro w2 hb2 hl2)
    | fail)
  have own0 := own_allG (base := w.heap.size) (sz := 5) (N := N) hb2 j1.size (by rw [flatF_length PvC_length, List.length_replicate]) (by unfold maxLen; omega)
  have L2 := j1.trans hl2
  generalize w1.heap.size = g at *
  clear hC hb2 hl2 j1
  go_loopw [25] (fun i wr => ∃ (k : Nat) (Qs : List Pv), k ≤ N ∧ i = .int .i64 k ∧ Qs.length = N ∧ wr.ownsRow w.heap.size 32 5 (.slice (some ⟨g, 0, none⟩) N N) N (Qs.flatMap PvC) ∧ Hid ((Qs.take k).map Pv.p = SP.take k) ∧ (∀ q ∈ Qs.take k, OwnB wr w.heap.size q.va q.vn q.vc q.p.da) ∧ Later w wr) (fun i _ => N - (intOf i).toNat)
  case atStart => exact ⟨0, List.replicate N pvz, by omega, rfl, List.length_replicate, own0, hid rfl, by simp, L2⟩
  case round =>
    clear own0 L2
    obtain ⟨k, Qs, hk, rfl, hQl, hown, hQs, hQo, L⟩ := hrel
    by_cases hlt : k < N
    · have hg := hown.lt g rfl
      have h4 := hN450 k hlt
      by_cases hcz : c = k * 450
      · obtain rfl : k = 0 := hNk k hlt (by omega)
        obtain rfl : c = 0 := by omega
        obtain rfl : n = 0 := by omega
        clear hcz h4
        go_wp2_with fail
        refine (copied_any _ 0 _ (pieceOf bs 0) wr (rdB_piece0 (hb.later L) 0 rfl) (by omega)).mono ?_
        rintro e w2 ⟨rfl, hb2, l2⟩
        have hpl := (rdB_piece0 (hb.later L) 0 rfl).len
        have ob2 : OwnB w2 w.heap.size (some ⟨wr.heap.size, 0, none⟩) 0 0 (pieceOf bs 0) := own_blk' hb2 L.size (by rw [List.length_map, hpl]) (by omega)
        go_wp2_with (first
          | (refine wpList_build_w ?hw 32 _ rfl (PaC ⟨1, id, (0 : Nat), N, pieceOf bs 0⟩ (.slice (some ⟨wr.heap.size, 0, none⟩) 0 0)) (by simp only [List.map_toArray, List.map_cons, List.map_nil]; exact hbu.out _ _ _ _ _ _ _) ?_; (case hw => rfl))
          | (refine wpList_store_rowF PvC_length PvC_one pvz rfl rfl _ _ _ rfl (own_laterF hown l2) hQl 0 hlt ⟨⟨1, id, (0 : Nat), N, pieceOf bs 0⟩, some ⟨wr.heap.size, 0, none⟩, 0, 0⟩ rfl rfl size5p ?_; intro w3 hown3 ho3)
          | fail)
        have hgt : ∀ {b : Option Addr} {nn cc : Nat} {da : List UInt8}, OwnB w2 w.heap.size b nn cc da → OwnB w3 w.heap.size b nn cc da := fun h => by
          obtain ⟨g', r, hg', _, hB, _⟩ := own_blkG (own_laterF hown l2) (by omega)
          cases hg'
          exact own_onlyK h hB (by decide) ho3
        have htk : (Qs.set 0 ⟨⟨1, id, (0 : Nat), N, pieceOf bs 0⟩, some ⟨wr.heap.size, 0, none⟩, 0, 0⟩).take (0 + 1) = Qs.take 0 ++ [⟨⟨1, id, (0 : Nat), N, pieceOf bs 0⟩, some ⟨wr.heap.size, 0, none⟩, 0, 0⟩] := by
          rw [List.take_add_one, List.take_set_of_le (by omega), List.getElem?_set_self (by omega)]
          rfl
        refine ⟨?_, by simp [intOf]; omega⟩
        repeat apply Exists.intro
        refine ⟨⟨0 + 1, Qs.set 0 ⟨⟨1, id, (0 : Nat), N, pieceOf bs 0⟩, some ⟨wr.heap.size, 0, none⟩, 0, 0⟩, by omega, by go_num, by rw [List.length_set, hQl], hown3, hid (by rw [htk, List.map_append, hQs.out, hsg.out 0 hlt, hsA.out]; rfl), ?_, (L.trans l2).only ho3 (hg.1)⟩, rfl⟩
        intro q hq
        rw [htk] at hq
        rcases List.mem_append.1 hq with hq | hq
        · exact hgt (own_later (hQo q hq) l2)
        · obtain rfl : q = _ := List.mem_singleton.1 hq
          exact hgt ob2
      go_wp2_with fail
      · refine (copied_any _ (n - k * 450) _ (pieceOf bs k) wr (rdB_piece (hb.later L) k (n - k * 450) h4 (by omega)) (by omega)).mono ?_
        rintro e w2 ⟨rfl, hb2, l2⟩
        have hpl := (rdB_piece (hb.later L) k (n - k * 450) h4 (by omega)).len
        have ob2 : OwnB w2 w.heap.size (some ⟨wr.heap.size, 0, none⟩) (n - k * 450) (n - k * 450) (pieceOf bs k) := own_blk' hb2 L.size (by rw [List.length_map, hpl]) (by omega)
        go_wp2_with (first
          | (refine wpList_build_w ?hw 32 _ rfl (PaC ⟨1, id, k, N, pieceOf bs k⟩ (.slice (some ⟨wr.heap.size, 0, none⟩) (n - k * 450) (n - k * 450))) (by simp only [List.map_toArray, List.map_cons, List.map_nil]; exact hbu.out _ _ _ _ _ _ _) ?_; (case hw => rfl))
          | (refine wpList_store_rowF PvC_length PvC_one pvz rfl rfl _ _ _ rfl (own_laterF hown l2) hQl k hlt ⟨⟨1, id, k, N, pieceOf bs k⟩, some ⟨wr.heap.size, 0, none⟩, (n - k * 450), (n - k * 450)⟩ rfl rfl size5p ?_; intro w3 hown3 ho3)
          | fail)
        have hgt : ∀ {b : Option Addr} {nn cc : Nat} {da : List UInt8}, OwnB w2 w.heap.size b nn cc da → OwnB w3 w.heap.size b nn cc da := fun h => by
          obtain ⟨g', r, hg', _, hB, _⟩ := own_blkG (own_laterF hown l2) (by omega)
          cases hg'
          exact own_onlyK h hB (by decide) ho3
        have htk : (Qs.set k ⟨⟨1, id, k, N, pieceOf bs k⟩, some ⟨wr.heap.size, 0, none⟩, (n - k * 450), (n - k * 450)⟩).take (k + 1) = Qs.take k ++ [⟨⟨1, id, k, N, pieceOf bs k⟩, some ⟨wr.heap.size, 0, none⟩, (n - k * 450), (n - k * 450)⟩] := by
          rw [List.take_add_one, List.take_set_of_le (by omega), List.getElem?_set_self (by omega)]
          rfl
        refine ⟨⟨k + 1, Qs.set k ⟨⟨1, id, k, N, pieceOf bs k⟩, some ⟨wr.heap.size, 0, none⟩, (n - k * 450), (n - k * 450)⟩, by omega, by go_num, by rw [List.length_set, hQl], hown3, hid (by rw [htk, List.map_append, hQs.out, hsg.out k hlt, hsA.out]; rfl), ?_, (L.trans l2).only ho3 (hg.1)⟩, by simp [intOf]; omega⟩
        intro q hq
        rw [htk] at hq
        rcases List.mem_append.1 hq with hq | hq
        · exact hgt (own_later (hQo q hq) l2)
        · obtain rfl : q = _ := List.mem_singleton.1 hq
          exact hgt ob2
      · refine (copied_any _ (((k : Int) * 450 + 450).toNat - k * 450) _ (pieceOf bs k) wr (rdB_piece (hb.later L) k (((k : Int) * 450 + 450).toNat - k * 450) h4 (by omega)) (by omega)).mono ?_
        rintro e w2 ⟨rfl, hb2, l2⟩
        have hpl := (rdB_piece (hb.later L) k (((k : Int) * 450 + 450).toNat - k * 450) h4 (by omega)).len
        have ob2 : OwnB w2 w.heap.size (some ⟨wr.heap.size, 0, none⟩) (((k : Int) * 450 + 450).toNat - k * 450) (((k : Int) * 450 + 450).toNat - k * 450) (pieceOf bs k) := own_blk' hb2 L.size (by rw [List.length_map, hpl]) (by omega)
        go_wp2_with (first
          | (refine wpList_build_w ?hw 32 _ rfl (PaC ⟨1, id, k, N, pieceOf bs k⟩ (.slice (some ⟨wr.heap.size, 0, none⟩) (((k : Int) * 450 + 450).toNat - k * 450) (((k : Int) * 450 + 450).toNat - k * 450))) (by simp only [List.map_toArray, List.map_cons, List.map_nil]; exact hbu.out _ _ _ _ _ _ _) ?_; (case hw => rfl))
          | (refine wpList_store_rowF PvC_length PvC_one pvz rfl rfl _ _ _ rfl (own_laterF hown l2) hQl k hlt ⟨⟨1, id, k, N, pieceOf bs k⟩, some ⟨wr.heap.size, 0, none⟩, (((k : Int) * 450 + 450).toNat - k * 450), (((k : Int) * 450 + 450).toNat - k * 450)⟩ rfl rfl size5p ?_; intro w3 hown3 ho3)
          | fail)
        have hgt : ∀ {b : Option Addr} {nn cc : Nat} {da : List UInt8}, OwnB w2 w.heap.size b nn cc da → OwnB w3 w.heap.size b nn cc da := fun h => by
          obtain ⟨g', r, hg', _, hB, _⟩ := own_blkG (own_laterF hown l2) (by omega)
          cases hg'
          exact own_onlyK h hB (by decide) ho3
        have htk : (Qs.set k ⟨⟨1, id, k, N, pieceOf bs k⟩, some ⟨wr.heap.size, 0, none⟩, (((k : Int) * 450 + 450).toNat - k * 450), (((k : Int) * 450 + 450).toNat - k * 450)⟩).take (k + 1) = Qs.take k ++ [⟨⟨1, id, k, N, pieceOf bs k⟩, some ⟨wr.heap.size, 0, none⟩, (((k : Int) * 450 + 450).toNat - k * 450), (((k : Int) * 450 + 450).toNat - k * 450)⟩] := by
          rw [List.take_add_one, List.take_set_of_le (by omega), List.getElem?_set_self (by omega)]
          rfl
        refine ⟨⟨k + 1, Qs.set k ⟨⟨1, id, k, N, pieceOf bs k⟩, some ⟨wr.heap.size, 0, none⟩, (((k : Int) * 450 + 450).toNat - k * 450), (((k : Int) * 450 + 450).toNat - k * 450)⟩, by omega, by go_num, by rw [List.length_set, hQl], hown3, hid (by rw [htk, List.map_append, hQs.out, hsg.out k hlt, hsA.out]; rfl), ?_, (L.trans l2).only ho3 (hg.1)⟩, by simp [intOf]; omega⟩
        intro q hq
        rw [htk] at hq
        rcases List.mem_append.1 hq with hq | hq
        · exact hgt (own_later (hQo q hq) l2)
        · obtain rfl : q = _ := List.mem_singleton.1 hq
          exact hgt ob2
    · obtain rfl : k = N := by omega
      rw [List.take_of_length_le (by omega)] at hQs hQo
      have hQ2 := hQs.out
      rw [List.take_of_length_le (by omega)] at hQ2
      replace hQ2 := hid hQ2
      clear hQs
      go_wp2_with fail
      go_ret2
      exact ⟨g, Qs, rfl, hQ2.out, hown, hQo, L⟩
end Go.Proofs.YtkibgdigcgakfabGreat
