/-
  append(s, make([]byte, k)...): noughts behind a row of the call's own.
  Regions that draw their order, with a predicate on worlds that every operation keeps: quiet operations have their values wherever it holds.
  shallotref13: turned, Tag, Fits.
  Commands, as the document has them: shallotref10.marked, Check, Decode.
  shallotref13: Fits, Open.
  shallotref15.Unwrap.
-/
import Derived.Test.YtdojjnbpidogfaaGreatMemP
import Derived.Lib.AppendZerosOnto
import Derived.Test.YtdojjnbpidogfaaGreatCanP
import Derived.Test.YtdojjnbpidogfaaGreatRcD
import Derived.Test.YtdojjnbpidogfaaGreatRcC
namespace Go.Proofs.YtdojjnbpidogfaaGreat
open Go.RowKit
open Go.BigFrame

theorem zeroCells_one (z : Value) (k : Nat) : (Builtin.zeroCells #[z] k).toList = List.replicate k z := by
  apply List.eq_replicate_iff.2
  refine ⟨by simp [Builtin.zeroCells], fun b hb => ?_⟩
  simp [Builtin.zeroCells, Nat.mod_one] at hb
  first | exact hb.2.symm | exact hb.2 | exact hb.symm | exact hb
theorem run_append_zeros_own {P : Program} (w : World) (base : Nat) (t tn ty e : TypeId) (i : TypeInfo) (kn : IntKind) (ht : P.underlying t = some (.slice e)) (htn : P.underlying tn = some (.int kn)) (hi : P.info? e = some i) (hz : i.zero = some (.int .u8 0)) (hs1 : i.size = 1) (hby : i.bytes = 1)
    (v : Value) (n : Nat) (xs : List Value) (hown : w.ownsRow base e 1 v n xs) (k : Nat) (h0 : 0 < k) (hm : n + k ≤ 1048576) (hbase : base ≤ w.heap.size) :
    ∃ v' w', (Builtin.append_ #[t, tn] ty #[v, .int .i64 (k : Int)]).run P w = .ok v' w' ∧ w'.ownsRow base e 1 v' (n + k) (xs ++ List.replicate k (.int .u8 0)) ∧ w.grownBy w' v.ownBlock := by
  have hzc : (Value.int .u8 0).cells = #[Value.int .u8 0] := rfl
  have hlen : (xs ++ List.replicate k (Value.int .u8 0)).length = (n + k) * 1 := by rw [List.length_append, hown.1, List.length_replicate]; omega
  have hml : n + k ≤ maxLen := by unfold maxLen; omega
  have grown : ∀ (old : Nat), old < n + k → ∀ (row : Option Nat),
      (w.drew.alloc (.cells (xs.toArray ++ Builtin.zeroCells (Value.int .u8 0).cells k ++ Builtin.zeroCells (Value.int .u8 0).cells (grownCap w (n + k) old e - (n + k))) e)).ownsRow base e 1
        (.slice (some ⟨w.heap.size, 0, none⟩) (n + k) (grownCap w (n + k) old e)) (n + k) (xs ++ List.replicate k (.int .u8 0)) ∧
      w.grownBy (w.drew.alloc (.cells (xs.toArray ++ Builtin.zeroCells (Value.int .u8 0).cells k ++ Builtin.zeroCells (Value.int .u8 0).cells (grownCap w (n + k) old e - (n + k))) e)) row := by
    intro old ho row
    have hge := grownCap_ge w (n + k) old e
    have hcm : grownCap w (n + k) old e ≤ maxLen := grownCap_le_maxLen w (n + k) old e hml
    refine ⟨⟨hlen, .inr ⟨w.heap.size, _, _, rfl, hbase, heap_alloc_new w.drew _, hge, hcm, ?_, ?_⟩⟩, ⟨rfl, rfl, rfl, by simp, fun j hj _ => heap_alloc_old w.drew _ hj⟩⟩
    · have hx := hown.1
      simp only [Array.size_append, List.size_toArray, size_zeroCells, hzc, hx]
      simp
      omega
    · simp only [Array.toList_append, hzc, zeroCells_one]
      rw [← hlen]
      exact List.take_left
  rcases hown.2 with ⟨rfl, rfl⟩ | ⟨g, cap, cur, rfl, hbg, hg, hnc, hcm, hcs, htake⟩
  · have hx : xs = [] := List.eq_nil_of_length_eq_zero (by simpa using hown.1)
    subst hx
    have hr := Lib.run_append_nil_zeros (P := P) w t tn ty e i _ .i64 kn ht htn hi hz k h0 (by omega) (by omega) (by rw [hby]; omega)
    have hgr := grown 0 (by omega) (Value.ownBlock (.slice none 0 0))
    simp only [Nat.zero_add, List.nil_append, Array.empty_append] at hgr ⊢
    exact ⟨_, _, hr, hgr.1, hgr.2⟩
  · by_cases hroom : n + k ≤ cap
    · have hst := run_storeCells_at P g n e (List.replicate k (Value.int .u8 0)) 0 cur w hg (by rw [List.length_replicate]; omega) (by intro u hu; rw [(List.mem_replicate.1 hu).2]; rfl)
      simp only [Nat.add_zero] at hst
      have hw : IntKind.i64.wrap (k : Int) = k := by rw [IntKind.wrap_i64]; omega
      have hneg : ¬ ((k : Int) < 0) := by omega
      have h48i : ¬ (281474976710656 < (k : Int)) := by omega
      have hk0 : k ≠ 0 := by omega
      have hr : (Builtin.append_ #[t, tn] ty #[.slice (some ⟨g, 0, none⟩) n cap, .int .i64 (k : Int)]).run P w = .ok (.slice (some ⟨g, 0, none⟩) (n + k) cap) (w.setRow g (cur.toList.take n ++ List.replicate k (Value.int .u8 0) ++ cur.toList.drop (n + (List.replicate k (Value.int .u8 0)).length)).toArray) := by
        simp [Builtin.append_, run_underlying ht, run_underlying htn, sizeOf, typeInfo, zeroValue, hi, hz, hs1, hby, hzc, zeroCells_one, asInt, asIntOf, hw, hneg, h48i, hk0, hroom, Addr.add_lit]
        simp only [List.length_replicate, List.append_assoc] at hst
        rw [hst]
        simp
      refine ⟨_, _, hr, ⟨hlen, .inr ⟨g, cap, _, rfl, hbg, setRow_heap w g cur _ e _ hg, hroom, hcm, ?_, ?_⟩⟩, ⟨rfl, rfl, rfl, by simp, fun j _ hj => setRow_other w g j _ (fun e => hj (by simp [Value.ownBlock, e]))⟩⟩
      · simp only [List.size_toArray, List.length_append, List.length_take, List.length_drop, Array.length_toList, List.length_replicate]
        omega
      · have ht' : cur.toList.take n = xs := by simpa using htake
        rw [ht', ← hlen]
        exact List.take_left
    · have holds : ∀ j u, xs[j]? = some u → w.drew.cell? ((⟨g, 0, none⟩ : Addr).add j) = some u := fun j u hu => hown.cells (g := g) rfl j u hu
      have hf := run_firstCells_some (P := P) w.drew i.size n ⟨g, 0, none⟩ n cap xs (by rw [hs1]; exact hown.1) holds
      have hr := Lib.run_append_grow_zeros (P := P) w t tn ty e i _ .i64 kn ht htn hi hz (some ⟨g, 0, none⟩) n cap xs hf k h0 (by omega) (by omega) (by omega) (by rw [hby]; omega) (growslice_fits (by omega) (by rw [hby]; omega))
      have hgr := grown cap (by omega) (some g)
      exact ⟨_, _, hr, hgr.1, hgr.2⟩
section
variable {P : Program} {ops : Array Oper} {rest : List Oper} {o : Oper} {a : Act} {w : World} {Q : Exit → Act → World → Prop}
theorem wpList_append_zeros (hgd : o.guard = none) (s x : Operand) (t tn : TypeId) (ho : o.op = .call { callee := .builtin .append, args := #[s, x], argTypes := #[t, tn] })
    (e : TypeId) (kn : IntKind) (ht : P.underlying t = some (.slice e)) (htn : P.underlying tn = some (.int kn)) (hinfo : (P.info? e).map (fun i => (i.zero, i.size, i.bytes)) = some (some (.int .u8 0), 1, 1))
    (base : Nat) (v : Value) (n : Nat) (vs : List Value) (hown : w.ownsRow base e 1 v n vs) (hb : base ≤ w.heap.size) (k : Nat) (h0 : 0 < k) (hs : a.eval s = v) (hx : a.eval x = .int .i64 (k : Int)) (hsz : n + k ≤ 1048576)
    (h : ∀ A' c' w', w'.ownsRow base e 1 (.slice A' (n + k) c') (n + k) (vs ++ List.replicate k (.int .u8 0)) → w.grownBy w' v.ownBlock → wpList P ops Q rest (a.put o.dst (.slice A' (n + k) c')) w') :
    wpList P ops Q (o :: rest) a w := by
  obtain ⟨i, hi, hz, hsize, hbytes⟩ := info_parts hinfo
  obtain ⟨v', w', hrun, h2, h3⟩ := run_append_zeros_own (P := P) w base t tn o.type e i kn ht htn hi hz hsize hbytes v n vs hown k h0 hsz hb
  refine Lib.wpList_append_run w hgd s x t tn ho v (.int .i64 (k : Int)) hs hx v' w' hrun ?_
  obtain ⟨A', c', rfl⟩ := own_shape h2
  exact h A' c' w' h2 h3
end
end Go.Proofs.YtdojjnbpidogfaaGreat
namespace Go.Proofs.YtdojjnbpidogfaaGreat
open Go.BigFrame
open Go.RowKit

section
variable {P : Program} {ops : Array Oper} {Q : Exit → Act → World → Prop} {T : World → Prop}
/-- One canonical order; true: quiet. -/
def wpS (P : Program) (ops : Array Oper) (Q : Exit → Act → World → Prop) (T : World → Prop) : List (Nat × Bool) → Act → World → Prop
  | [], a, w => Q .normal a w
  | (i, true) :: r, a, w => ∃ o, ops[i]? = some o ∧ if Region.wanted o (yielded ops a.tmps) then o.quiet P a T (fun a' => wpS P ops Q T r a' w) else wpS P ops Q T r (a.put o.dst undef) w
  | (i, false) :: r, a, w => wpOp P ops Q i (fun a' w' => T w' ∧ wpS P ops Q T r a' w') a w
def okSeq (ops : Array Oper) : List (Nat × Bool) → Array Bool → Bool
  | [], listed => (Region.ready .any ops listed).isEmpty
  | (i, true) :: r, listed => (Region.ready .any ops listed).contains i && Region.free .any ops listed i && ((ops[i]?).map calm).getD false && okSeq ops r (listed.setIfInBounds i true)
  | (i, false) :: r, listed => decide (Region.ready .any ops listed = [i]) && okSeq ops r (listed.setIfInBounds i true)
theorem simS (hsel : ∀ (j : Nat) (o : Oper) cs b, ops[j]? = some o → o.op ≠ .select cs b) (hQ1 : ∀ c a d v w, Q (.panic c) (a.put d v) w → Q (.panic c) a w) :
    ∀ (l : List (Nat × Bool)) (listed : Array Bool) (a : Act) (w : World), okSeq ops l listed = true → T w → wpS P ops Q T l a w → wpAnyU P ops Q T l.length listed a w
  | [], listed, a, w, hB, _, h => ⟨by simpa [okSeq] using hB, h⟩
  | (i, true) :: r, listed, a, w, hB, hT, h => by
    simp only [okSeq, Bool.and_eq_true] at hB
    obtain ⟨⟨⟨hrd, hf⟩, hcm⟩, hok⟩ := hB
    obtain ⟨o, ho, h⟩ := h
    have hri : i ∈ Region.ready .any ops listed := by simpa using hrd
    have hcm' : calm o = true := by simpa [ho] using hcm
    have next : ∀ v, YieldsIf P ops T o v a → wpS P ops Q T r (a.put o.dst v) w → wpAnyU P ops Q T (r.length + 1) listed a w := fun v hy hnx =>
      wpAnyU_first ho hsel (fun c a w => hQ1 c a _ _ w) r.length listed a w (Region.free_spec ho hf) hri hy hT (simS hsel hQ1 r _ _ w hok hT hnx)
    by_cases hw : Region.wanted o (yielded ops a.tmps) = true
    · rw [if_pos hw] at h
      obtain ⟨v, hy, hnx⟩ := yieldsIf_of_quietT hcm' hw h
      exact next v hy hnx
    · rw [if_neg hw] at h
      exact next undef (.inr ⟨by simpa using hw, rfl⟩) h
  | (i, false) :: r, listed, a, w, hB, hT, h => by
    simp only [okSeq, Bool.and_eq_true, decide_eq_true_eq] at hB
    obtain ⟨hrd, hok⟩ := hB
    refine ⟨fun he => (by rw [hrd] at he; cases he), fun j hj => ?_⟩
    rw [hrd] at hj
    obtain rfl : j = i := by simpa using hj
    exact wpOp_mono (fun a' w' h' => ⟨h'.1, simS hsel hQ1 r _ a' w' hok h'.1 h'.2⟩) h
def wpPartsS (P : Program) (l : List Oper) (Q : Exit → Act → World → Prop) (T : World → Prop) (qs : List Nat) : List (List Nat × Nat) → Act → World → Prop
  | [], a, w => wpQuiet P l.toArray T (fun a' => wpList P l.toArray Q [] a' w) (pick l qs) a
  | (q, i) :: r, a, w => wpQuiet P l.toArray T (fun a' => wpList P l.toArray (Exit.then (fun a'' w'' => T w'' ∧ wpPartsS P l Q T qs r a'' w'') Q) (pick l [i]) a' w) (pick l q) a
theorem s_of_quiet {l : List Oper} {Qa : Act → Prop} {r : List (Nat × Bool)} {w : World} (hQa : ∀ a, Qa a → wpS P l.toArray Q T r a w) : ∀ (qs : List Nat), (qs.all fun i => decide (i < l.length)) = true →
    ∀ a, wpQuiet P l.toArray T Qa (pick l qs) a → wpS P l.toArray Q T (qs.map (·, true) ++ r) a w
  | [], _, a, h => hQa a h
  | i :: qs, hb, a, h => by
    simp only [List.all_cons, Bool.and_eq_true, decide_eq_true_eq] at hb
    have hi : l[i]? = some (l[i]'hb.1) := List.getElem?_eq_getElem hb.1
    refine ⟨l[i]'hb.1, by simp [hb.1], ?_⟩
    simp only [pick, hi, Option.toList_some, List.singleton_append, wpQuiet] at h
    by_cases hw : Region.wanted (l[i]'hb.1) (yielded l.toArray a.tmps) = true
    · rw [if_pos hw] at h ⊢
      exact Oper.quiet_mono (fun a' h' => s_of_quiet hQa qs hb.2 a' h') h
    · rw [if_neg hw] at h ⊢
      exact s_of_quiet hQa qs hb.2 _ h
/-- The whole order. -/
def flatS (qs : List Nat) : List (List Nat × Nat) → List (Nat × Bool)
  | [] => qs.map (·, true) ++ []
  | (q, i) :: r => q.map (·, true) ++ ((i, false) :: flatS qs r)
def partsSB (l : List Oper) (qs : List Nat) (segs : List (List Nat × Nat)) : Bool :=
  Region.noSelect l.toArray && (qs.all fun i => decide (i < l.length)) && (segs.all fun s => decide (s.2 < l.length) && s.1.all fun i => decide (i < l.length)) &&
  okSeq l.toArray (flatS qs segs) (Array.replicate l.length false) && decide ((flatS qs segs).length = l.length)
theorem s_of_parts {l : List Oper} {qs : List Nat} (hq : (qs.all fun i => decide (i < l.length)) = true) :
    ∀ (segs : List (List Nat × Nat)), (segs.all fun s => decide (s.2 < l.length) && s.1.all fun i => decide (i < l.length)) = true → ∀ a w, wpPartsS P l Q T qs segs a w → wpS P l.toArray Q T (flatS qs segs) a w
  | [], _, a, w, h => s_of_quiet (fun a h => h) qs hq a h
  | (q, i) :: r, hb, a, w, h => by
    simp only [List.all_cons, Bool.and_eq_true, decide_eq_true_eq] at hb
    refine s_of_quiet (fun a h => ?_) q hb.1.2 a h
    exact wpOp_mono (fun a' w' h' => ⟨h'.1, s_of_parts hq r hb.2 a' w' h'.2⟩) (wpOp_of_wpList hb.1.1 h)
/-- **A region that draws its order; T holds behind each operation.** -/
theorem wp_region_partsS {id : Nat} {a : Act} {w : World} {l : List Oper} (T : World → Prop) (segs : List (List Nat × Nat)) (qs : List Nat) (hm : P.follows .mixedOrders = true) (hB : partsSB l qs segs = true)
    (hQ : ∀ c a d v w, Q (.panic c) (a.put d v) w → Q (.panic c) a w) (h : T w.drew ∧ wpPartsS P l Q T qs segs a w.drew) : (Code.region id l.toArray true).wp P Q a w := by
  simp only [partsSB, Bool.and_eq_true, decide_eq_true_eq] at hB
  obtain ⟨⟨⟨⟨hs, hq⟩, hsg⟩, hsq⟩, hlen⟩ := hB
  refine wp_region_any hm (wpAny_of_U (T := T) _ _ _ _ ?_)
  have := simS (P := P) (Q := Q) (T := T) (Region.noSelect_spec hs) hQ (flatS qs segs) (Array.replicate l.length false) a w.drew hsq h.1 (s_of_parts hq segs hsg a _ h.2)
  rw [hlen] at this
  simpa using this
end
theorem Spared.later {w w1 w2 : World} {bad : List Nat} (h : Spared w bad w1) (hl : Later w1 w2) : Spared w bad w2 :=
  ⟨Nat.le_trans h.1 hl.size, fun b hb hn => (hl.below.block b (Nat.lt_of_lt_of_le hb h.1)).trans (h.2 b hb hn)⟩
theorem Spared.grown {w w1 w2 : World} {bad : List Nat} {row : Option Nat} (h : Spared w bad w1) (hg : w1.grownBy w2 row) (hr : ∀ k, row = some k → w.heap.size ≤ k) : Spared w bad w2 :=
  ⟨Nat.le_trans h.1 hg.size, fun b hb hn => (hg.block b (Nat.lt_of_lt_of_le hb h.1) (fun e => by have := hr b e.symm; omega)).trans (h.2 b hb hn)⟩
theorem Spared.fresh {w w1 w2 : World} {bad : List Nat} {g : Nat} (h : Spared w bad w1) (ho : Only g w1 w2) (hg : w.heap.size ≤ g) : Spared w bad w2 :=
  h.grown ho (fun k e => by cases e; exact hg)
end Go.Proofs.YtdojjnbpidogfaaGreat
namespace Go.Proofs.YtdojjnbpidogfaaGreat
open Go.RowKit
open Go.BigFrame

theorem xorB_comm (xs ys : List UInt8) : xorB xs ys = xorB ys xs := List.zipWith_comm_of_comm (fun x y => UInt8.xor_comm x y)
set_option maxRecDepth 100000 in
set_option maxHeartbeats 4000000 in
theorem turnedR_of (at0 : Int) (B : Option Addr) (n c : Nat) (key b S : List UInt8) (w : World) (hkl : key.length = 32) (hb : RdB w B n b) (hn0 : 0 < n) (hn : n ≤ 1048576) (hS : S.length = n)
    (hBy : ∀ g w, RdB w (some ⟨g, 0, none⟩) 32 key → Calls Tryz.prog 86 #[.slice (some ⟨g, 0, none⟩) 32 32, .int .i64 at0, .int .i64 (n : Int)] w fun e w' => ∃ A' c', e = .returned (.slice A' n c') ∧ OwnB w' w.heap.size A' n c' S ∧ Later w w') :
    Calls Tryz.prog 58 #[.agg (key.map W8).toArray, .int .i64 at0, .slice B n c] w fun e w' => ∃ A' c', e = .returned (.slice A' n c') ∧ OwnB w' w.heap.size A' n c' (xorB b S) ∧ Later w w' := by
  have hbl := hb.len
  obtain ⟨b0, p, rfl, hb00, _⟩ := hb.2 hn0
  have hk : Blk (w.alloc (.cells (key.map W8).toArray 31)) w.heap.size 31 (key.map W8) := Blk.new _ _ _
  have L := later_alloc w (.cells (key.map W8).toArray 31)
  have hB2 := hid hBy
  have hlen : S.length = b.length := by omega
  have hX := hid (fun k => xorAt_length hlen k)
  have hG := hid (fun k (h : k < S.length) => xorAt_get hlen h)
  have hSt := hid (fun k (h : k < S.length) => xorAt_step hlen h)
  have hA := hid (xorAt_all hlen)
  have hN := hid (xorAt_none S b)
  have hxl := xorB_length hlen
  rw [xorB_comm b S]
  clear hBy
  go_enter Tryz.func58, Tryz.ntmps58
  go_wp2_with fail
  (refine (hB2.out _ _ (blk_rdB hk hkl)).mono ?_); rintro e w2 ⟨A2, c2, rfl, o2, l2⟩
  obtain ⟨g2, r2, rfl, hg2, hb2, hc2, hcc2⟩ := own_some o2 hn0
  have hm2 : (S.map W8 ++ r2).length ≤ maxLen := own_max o2 hc2
  have hgw : w.heap.size ≤ g2 := Nat.le_trans L.size hg2
  replace hc2 := hid hc2
  have L2 := L.trans l2
  clear hB2 hk L l2 hg2 o2
  go_wp2_with fail
  go_loopw [8] (fun i wr => ∃ k : Nat, k ≤ n ∧ i = .int .i64 k ∧ Blk wr g2 5 ((xorAt S b k).map W8 ++ r2) ∧ Later w wr) (fun i _ => n - (intOf i).toNat)
  case atStart => exact ⟨0, by omega, rfl, by rw [hN.out]; exact hb2, L2⟩
  case round =>
    clear hb2 L2
    obtain ⟨k, hk, rfl, hb2, L2⟩ := hrel
    by_cases hlt : k < n
    · have hlb : b0 < wr.drew.heap.size := Nat.lt_of_lt_of_le hb00 (L2.trans (later_drew _)).size
      have hlg : g2 < wr.drew.heap.size := hb2.drew.lt
      have c1 := getD_cell (hb.later (L2.trans (later_drew wr))) k hlt
      have hxk := hX.out k (by omega)
      have d1 := hb2.drew.cellD k (show ((xorAt S b k).map W8 ++ r2)[k]? = some (W8 (S.getD k 0)) by rw [List.getElem?_append_left (by rw [List.length_map]; omega), List.getElem?_map, hG.out k (by omega)]; rfl)
      have HS := hid (hSt.out k (by omega))
      have hb3 := hb2.drew
      have L3 := L2.trans (later_drew wr)
      generalize S.getD k 0 = x at *
      generalize b.getD k 0 = y at *
      go_wp2_with fail
      refine wp_region_parts [] [0, 1, 2, 3, 4, 5, 6, 7, 8, 9, 10, 11] [12] (by as_aux_lemma => kernel_rfl) (by as_aux_lemma => kernel_rfl) (by intro _ _ d _ _ h; cases d <;> exact h) ?_
      simp only [wpParts, pick, List.getElem?_cons_succ, List.getElem?_cons_zero, Option.toList_some, List.cons_append, List.nil_append]
      repeat (go_big_quiet_step (fail))
      refine wpQuiet_nil ?_
      go_wp2_with (first
        | (refine wpList_store_in rfl rfl _ _ _ rfl g2 k _ _ hb3 rfl (by rw [List.length_append, List.length_map]; omega) rfl size8 ?_; intro v' w5 hv' hb5 ho5; simp [go_sem] at hv'; subst hv')
        | fail)
      rw [List.set_append_left _ _ (by rw [List.length_map]; omega), map_set8, HS.out] at hb5
      go_roundw
      case rel => exact ⟨k + 1, by omega, by go_num, hb5, L3.only ho5 hgw⟩
      case measure => simp [intOf]; omega
    · obtain rfl : k = n := by omega
      have hAll := hA.out
      rw [hS] at hAll
      rw [hAll] at hb2
      go_wp2_with fail
      go_ret
      exact ⟨some ⟨g2, 0, none⟩, c2, rfl, own_cap' hb2 hgw (by omega) (by rw [hc2.out, List.length_append, List.length_append, List.length_map, List.length_map]; omega) (by rw [List.length_append, List.length_map] at hm2 ⊢; omega), L2⟩
theorem turnedR_0 (B : Option Addr) (n c : Nat) (key b : List UInt8) (w : World) (hkl : key.length = 32) (hb : RdB w B n b) (hn0 : 0 < n) (hn : n ≤ 65536) :
    Calls Tryz.prog 58 #[.agg (key.map W8).toArray, .int .i64 0, .slice B n c] w fun e w' => ∃ A' c', e = .returned (.slice A' n c') ∧ OwnB w' w.heap.size A' n c' (xorB b (chaS key n)) ∧ Later w w' :=
  turnedR_of 0 B n c key b (chaS key n) w hkl hb hn0 (by omega) (chaS_length key n) (fun g w h => bytesR_any (some ⟨g, 0, none⟩) 32 n key w h hn)
set_option maxRecDepth 100000 in
set_option maxHeartbeats 2000000 in
theorem tagR_any (A B : Option Addr) (n c m d : Nat) (key al be : List UInt8) (w : World) (hkl : key.length = 32) (ha : RdB w A n al) (hb : RdB w B m be) (hn : n ≤ 1048576) (hm : m ≤ 1048576) :
    Calls Tryz.prog 18 #[.agg (key.map W8).toArray, .slice A n c, .slice B m d] w fun e w' => ∃ A' c', e = .returned (.slice A' 16 c') ∧ OwnB w' w.heap.size A' 16 c' (tagB key al be) ∧ Later w w' := by
  have hk : Blk (w.alloc (.cells (key.map W8).toArray 31)) w.heap.size 31 (key.map W8) := Blk.new _ _ _
  have L := later_alloc w (.cells (key.map W8).toArray 31)
  have hal := ha.len
  have hbl := hb.len
  have hSh := hid (fun A c d (w : World) (h1 : RdB w (some ⟨c, 0, none⟩) 32 key) h2 => refShort_any (some ⟨c, 0, none⟩) A 32 32 (n + m) d key (al ++ be) w h1 (by omega) h2 (by omega))
  have hT : Hid ((macTag key (al ++ be)).take 16 = tagB key al be) := hid rfl
  rw [hT.out] at hSh
  generalize tagB key al be = TG at *
  go_enter Tryz.func18, Tryz.ntmps18
  go_wp2_with fail
  generalize w.alloc _ = w1 at *
  refine wp_region_partsS (Spared w1 []) [([0, 1, 3], 2), ([], 4), ([], 5)] [6] (by as_aux_lemma => kernel_rfl) (by as_aux_lemma => kernel_rfl) (by intro _ _ d _ _ h; cases d <;> exact h) ⟨Spared.refl _ _, ?_⟩
  simp only [wpPartsS, pick, List.getElem?_cons_succ, List.getElem?_cons_zero, Option.toList_some, List.cons_append, List.nil_append]
  repeat (first | (go_big_quiet_step (fail)) | (go_big_quiet_want; go_big_quiet_op; refine ⟨_, fun _ _ => rfl, ?_⟩; go_big_quiet_on))
  refine wpQuiet_nil ?_
  go_wp2_with fail
  (refine (copy_any A n c al _ ((ha.later L).later (later_drew _)) (by omega)).mono ?_); rintro e w2 ⟨A2, c2, rfl, o2, l2⟩
  have S2 := (Spared.refl w1 []).later l2
  go_wp2_with fail
  refine ⟨S2, ?_⟩
  try simp only [wpPartsS, pick, List.getElem?_cons_succ, List.getElem?_cons_zero, Option.toList_some, List.cons_append, List.nil_append]
  repeat (first | (go_big_quiet_step (fail)) | (go_big_quiet_want; go_big_quiet_op; refine ⟨_, fun _ _ => rfl, ?_⟩; go_big_quiet_on))
  refine wpQuiet_nil ?_
  go_wp2_with (first
    | (refine wpList_append_rd rfl _ _ _ rfl 5 _ 1 Tryz.underlying22 info8 rfl w1.drew _ n _ o2 l2 B m d _ (Rd.later hb ((L.trans (later_drew _)).trans l2)) (w8_one _) rfl rfl (by omega) (by omega) ?_; intro A3 c3 w3 hown3 hl3 hg3 _)
    | fail)
  simp only [Act.put, List.setIfInBounds_toArray, List.set_cons_succ, List.set_cons_zero]
  have S3 := S2.grown hg3 (fun k hk => (World.ownsRow.lt o2 k hk).1)
  refine ⟨S3, ?_⟩
  try simp only [wpPartsS, pick, List.getElem?_cons_succ, List.getElem?_cons_zero, Option.toList_some, List.cons_append, List.nil_append]
  repeat (first | (go_big_quiet_step (fail)) | (go_big_quiet_want; go_big_quiet_op; refine ⟨_, fun _ _ => rfl, ?_⟩; go_big_quiet_on))
  refine wpQuiet_nil ?_
  go_wp2_with fail
  (refine (hSh.out _ _ _ _ (blk_rdB ((hk.later (later_drew _)).later hl3) hkl) (own_glue hown3).rd).mono ?_); rintro e w4 ⟨A4, c4, rfl, o4, l4⟩
  go_wp2_with fail
  refine ⟨S3.later l4, ?_⟩
  try simp only [wpPartsS, pick, List.getElem?_cons_succ, List.getElem?_cons_zero, Option.toList_some, List.cons_append, List.nil_append]
  repeat (first | (go_big_quiet_step (fail)) | (go_big_quiet_want; go_big_quiet_op; refine ⟨_, fun _ _ => rfl, ?_⟩; go_big_quiet_on))
  refine wpQuiet_nil ?_
  go_wp2_with fail
  go_ret
  exact ⟨_, _, rfl, o4.mono ((L.trans (later_drew _)).trans hl3).size, ((L.trans (later_drew _)).trans hl3).trans l4⟩
end Go.Proofs.YtdojjnbpidogfaaGreat
namespace Go.Proofs.YtdojjnbpidogfaaGreat
open Go.RowKit
open Go.BigFrame

theorem mark_all (m : Y16) (h : ∀ j, j < 16 → m.val.getD j 0 = 0) : (m.val == zero16.val) = true := by
  rw [beq_iff_eq]
  have hl := m.2
  apply List.ext_getElem?
  intro j
  show _ = (List.replicate 16 (0 : UInt8))[j]?
  by_cases hj : j < 16
  · rw [List.getElem?_replicate_of_lt hj, List.getElem?_eq_getElem (by omega)]
    have := h j hj
    rw [List.getD_eq_getElem?_getD, List.getElem?_eq_getElem (by omega)] at this
    rw [← this]
    rfl
  · rw [List.getElem?_eq_none (by omega), List.getElem?_eq_none (by rw [List.length_replicate]; omega)]
theorem mark_one (m : Y16) {j : Nat} (hj : j < 16) (h : m.val.getD j 0 ≠ 0) : (m.val == zero16.val) = false := by
  rw [beq_eq_false_iff_ne]
  intro e
  apply h
  rw [e]
  show (List.replicate 16 (0 : UInt8)).getD j 0 = 0
  rw [List.getD_eq_getElem?_getD, List.getElem?_replicate_of_lt hj]
  rfl
set_option maxRecDepth 100000 in
set_option maxHeartbeats 1000000 in
theorem marked_any (c : Cmd) (w : World) : Calls Tryz.prog 112 #[.agg (CC c).toArray] w fun e w' => e = .returned (.bool (!(c.ma.val == zero16.val))) ∧ Later w w' := by
  have hb : Blk (w.alloc (.cells (CC c).toArray 28)) w.heap.size 28 (CC c) := Blk.new _ _ _
  obtain ⟨_, _, _, _, c4⟩ := cmd_at hb
  have L := later_alloc w (.cells (CC c).toArray 28)
  have hml := c.ma.2
  have h1 := hid (mark_all c.ma)
  have h2 := hid (fun j hj => mark_one c.ma (j := j) hj)
  have hc4 := hid (fun j (hj : j < 16) => c4 j (W8 (c.ma.val.getD j 0)) (by rw [List.getElem?_map, List.getD_eq_getElem?_getD, List.getElem?_eq_getElem (by omega)]; rfl))
  have hlt := hb.lt
  clear c4 hb
  go_enter Tryz.func112, Tryz.ntmps112
  go_wp2_with fail
  generalize w.alloc _ = w1 at *
  generalize w.heap.size = g at *
  go_loopw [3] (fun i wr => ∃ k : Nat, k ≤ 16 ∧ i = .int .i64 k ∧ Hid (∀ j, j < k → c.ma.val.getD j 0 = 0) ∧ Later w1 wr) (fun i _ => 16 - (intOf i).toNat)
  case atStart => exact ⟨0, by omega, rfl, hid (fun j h => by omega), Later.refl w1⟩
  case round =>
    obtain ⟨k, hk, rfl, hall, L1⟩ := hrel
    by_cases hlt' : k < 16
    · have hc := (L1.below.cell (p := ⟨g, 4 + k, none⟩) hlt).trans (hc4.out k hlt')
      have hbad := hid (h2.out k hlt')
      have hstep : Hid (c.ma.val.getD k 0 = 0 → ∀ j, j < k + 1 → c.ma.val.getD j 0 = 0) := hid (fun h j hj => by
        by_cases e : j = k
        · rw [e, h]
        · exact hall.out j (by omega))
      generalize c.ma.val.getD k 0 = z at *
      cases hz : (z == 0)
      · have hz' : (z != 0) = true := by rw [bne, hz]; rfl
        have hne : Hid (z ≠ 0) := hid (by simpa using hz)
        go_wp2
        go_ret
        exact ⟨by rw [hbad.out hne.out]; rfl, L.trans L1⟩
      · have hz' : (z != 0) = false := by rw [bne, hz]; rfl
        have hze : Hid (z = 0) := hid (by simpa using hz)
        go_wp2
        exact ⟨⟨k + 1, by omega, by go_num, hid (hstep.out hze.out), L1⟩, by simp [intOf]; omega⟩
    · obtain rfl : k = 16 := by omega
      have hv := h1.out hall.out
      go_wp2
      go_ret
      exact ⟨by rw [hv]; rfl, L.trans L1⟩
theorem cmdE_bool (c : Cmd) : cmdE c = if c.kd < 1 ∨ 4 < c.kd then 1 else if ((c.kd == 1 && c.nx == 0) || (!(c.kd == 1) && !(c.nx == 0)) || (!(c.kd == 4) && !(c.ma.val == zero16.val))) = true then 3 else if 1000000 < c.dl then 11 else 0 := by
  rw [cmdE]
  congr 1
  have : (shapedB c = false) = (((c.kd == 1 && c.nx == 0) || (!(c.kd == 1) && !(c.nx == 0)) || (!(c.kd == 4) && !(c.ma.val == zero16.val))) = true) := by
    rw [shapedB, show List.replicate 16 (0 : UInt8) = zero16.val from rfl, bne]
    cases c.kd == 1 <;> cases c.nx == 0 <;> cases c.kd == 4 <;> cases c.ma.val == zero16.val <;> simp
  simp only [this]
set_option maxRecDepth 100000 in
set_option maxHeartbeats 2000000 in
theorem ccheck_ref (c : Cmd) (w : World) : Calls Tryz.prog 87 #[.agg (CC c).toArray] w fun e w' => e = .returned (.int .i64 (cmdE c : Nat)) ∧ Later w w' := by
  have hb : Blk (w.alloc (.cells (CC c).toArray 28)) w.heap.size 28 (CC c) := Blk.new _ _ _
  obtain ⟨c0, _, c2, c3, _⟩ := cmd_at hb
  have L := later_alloc w (.cells (CC c).toArray 28)
  have hM := hid (marked_any c)
  have hE := hid (cmdE_bool c)
  generalize cmdE c = E at *
  generalize hm0 : (c.ma.val == zero16.val) = m at *
  clear hm0
  by_cases hk : c.kd < 1 ∨ 4 < c.kd
  · have HE := hE.out
    rw [if_pos hk] at HE
    rw [HE]
    clear HE hE
    by_cases h1 : c.kd < 1
    all_goals
      have h4 : c.kd < 1 ∨ 4 < c.kd := hk
      simp only [h1, true_or, false_or] at h4
      go_enter Tryz.func87, Tryz.ntmps87
      go_wp2_with fail
      go_ret
      exact ⟨rfl, L⟩
  · have HE := hE.out
    rw [if_neg hk] at HE
    have h1 : ¬ c.kd < 1 := fun h => hk (.inl h)
    have h4 : ¬ 4 < c.kd := fun h => hk (.inr h)
    replace hE := hid HE
    clear HE hk
    go_enter Tryz.func87, Tryz.ntmps87
    cases e1 : (c.kd == 1) <;> cases e2 : (c.nx == 0)
    all_goals
      have n1 : (c.kd != 1) = !(c.kd == 1) := rfl
      have n2 : (c.nx != 0) = !(c.nx == 0) := rfl
      have n4 : (c.kd != 4) = !(c.kd == 4) := rfl
      rw [e1] at n1
      rw [e2] at n2
      have HE := hE.out
      rw [e1, e2] at HE
    case false.false =>
      replace HE := hid (show E = 3 from HE)
      go_wp2_with fail
      go_ret
      exact ⟨by rw [HE.out]; rfl, L⟩
    case true.true =>
      replace HE := hid (show E = 3 from HE)
      go_wp2_with fail
      go_ret
      exact ⟨by rw [HE.out]; rfl, L⟩
    all_goals
      cases e4 : (c.kd == 4)
      · rw [e4] at n4 HE
        replace HE := hid (show E = if (!m) = true then 3 else if 1000000 < c.dl then 11 else 0 from HE)
        go_wp2_with (first
          | (refine load_C rfl _ rfl hb rfl ?_)
          | fail)
        (with_reducible refine (hM.out _).mono ?_); rintro e w1 ⟨rfl, l1⟩
        replace c2 := (l1.below.cell (p := ⟨w.heap.size, 2, none⟩) hb.lt).trans c2
        cases m
        · replace HE := hid (show E = 3 from HE.out)
          go_wp2_with fail
          go_ret
          exact ⟨by rw [HE.out]; rfl, L.trans l1⟩
        · replace HE := hid (show E = if 1000000 < c.dl then 11 else 0 from HE.out)
          by_cases hd : 1000000 < c.dl
          all_goals
            go_wp2_with fail
            go_ret
            exact ⟨by rw [HE.out]; (first | rw [if_pos hd] | rw [if_neg hd]); rfl, L.trans l1⟩
      · rw [e4] at n4 HE
        replace HE := hid (show E = if 1000000 < c.dl then 11 else 0 from HE)
        by_cases hd : 1000000 < c.dl
        all_goals
          go_wp2_with fail
          go_ret
          exact ⟨by rw [HE.out]; (first | rw [if_pos hd] | rw [if_neg hd]); rfl, L⟩
theorem CC_setdl (c : Cmd) (d : UInt32) : (CC c).set 2 (W32 d) = CC { c with dl := d } := rfl
theorem CC_setnx (c : Cmd) (x : UInt64) : (CC c).set 3 (W64 x) = CC { c with nx := x } := rfl
theorem cmd_filledR (b : List UInt8) (hb : b.length = 32) : spliced (CC ⟨b.getD 0 0, b.getD 1 0, (cmdOf b).dl, (cmdOf b).nx, zero16⟩) 4 ((((b.drop 14).take 16).map W8).take 16) = CC (cmdOf b) := by
  have h := cmd_filled b hb _ _ rfl rfl
  rw [CC_setdl, CC_setnx] at h
  rw [List.map_take, List.take_take]
  exact h
theorem dl_zero (b : List UInt8) : UInt32.ofNat (beN (subB b 2 0) 0) = 0 := rfl
theorem nx_zero (b : List UInt8) : UInt64.ofNat (beN (subB b 6 0) 0) = 0 := rfl
theorem dl_next (b : List UInt8) (hb : b.length = 32) (k : Nat) (h2 : 2 ≤ k) (h6 : k < 6) : UInt32.ofNat (beN (subB b 2 (k + 1 - 2)) 0) = UInt32.ofNat (beN (subB b 2 (k - 2)) 0) * 256 + (b.getD k 0).toUInt32 := by
  rw [show k + 1 - 2 = (k - 2) + 1 by omega, beN_sub_succ _ _ _ (by omega), be_mul32, show 2 + (k - 2) = k by omega]
theorem nx_next (b : List UInt8) (hb : b.length = 32) (k : Nat) (h2 : 6 ≤ k) (h6 : k < 14) : UInt64.ofNat (beN (subB b 6 (k + 1 - 6)) 0) = UInt64.ofNat (beN (subB b 6 (k - 6)) 0) * 256 + (b.getD k 0).toUInt64 := by
  rw [show k + 1 - 6 = (k - 6) + 1 by omega, beN_sub_succ _ _ _ (by omega), be_mul, show 6 + (k - 6) = k by omega]
set_option maxRecDepth 100000 in
set_option maxHeartbeats 8000000 in
theorem cdecode_ref (A : Option Addr) (c : Nat) (b : List UInt8) (w : World) (hb : RdB w A 32 b) (hc : 32 ≤ c) :
    Calls Tryz.prog 59 #[.slice A 32 c] w fun e w' => e = .returned (.tuple #[.agg (CC (decC b)).toArray, .int .i64 (decE b : Nat)]) ∧ Later w w' := by
  have hbl := hb.len
  obtain ⟨b0, p, rfl, hb00, _⟩ := hb.2 (by omega)
  have B0 := bag_new w 28 cz0
  have hz0 : cz0.length = 20 := rfl
  have hfill := hid (cmd_filledR b hbl)
  have hcutc : cutA (some ⟨b0, p, none⟩) 14 c = some ⟨b0, p + 14, none⟩ := by rw [cutA, if_neg (by omega)]; rfl
  have hCk := hid (ccheck_ref (cmdOf b))
  have hE := cmdE_cases (cmdOf b)
  have hD := hid (decE_bool b)
  have hC := hid (show decC b = if decE b = 0 then cmdOf b else cmd0 from rfl)
  have hcd := (hb.cut (c := c) (show 14 ≤ 32 by omega) hc).take (m := 16) (by omega)
  rw [hcutc] at hcd
  have hd0 := hid (dl_zero b)
  have hx0 := hid (nx_zero b)
  have hdn := hid (fun k h1 h2 => dl_next b hbl k h1 h2)
  have hxn := hid (fun k h1 h2 => nx_next b hbl k h1 h2)
  have hdE := hid (show UInt32.ofNat (beN (subB b 2 (6 - 2)) 0) = (cmdOf b).dl from rfl)
  have hxE := hid (show UInt64.ofNat (beN (subB b 6 (14 - 6)) 0) = (cmdOf b).nx from rfl)
  generalize decC b = DC at *
  generalize decE b = DE at *
  generalize cmdE (cmdOf b) = e9 at *
  have hb0 := built_cmd0
  go_enter Tryz.func59, Tryz.ntmps59
  go_wp2_with fail
  generalize hW : w.alloc _ = w1
  replace B0 : Bag w w1 [(w.heap.size, 28, cz0)] := by rw [← hW]; exact B0
  clear hW
  have r1 := (hb.later B0.lat).later (later_drew _)
  have c0 := getD_cell r1 0 (by omega)
  have c1 := getD_cell r1 1 (by omega)
  have hlb : b0 < w1.drew.heap.size := Nat.lt_of_lt_of_le hb00 (B0.lat.trans (later_drew _)).size
  rw [Nat.add_zero] at c0
  have hbc := built_cmd2 (b.getD 0 0) (b.getD 1 0)
  generalize hk0 : b.getD 0 0 = k0 at *
  generalize hk1 : b.getD 1 0 = k1 at *
  clear hk0 hk1
  refine wp_region_parts [([0, 1, 2, 3, 4, 5, 6], 7)] [] [8] (by as_aux_lemma => kernel_rfl) (by as_aux_lemma => kernel_rfl) (by intro _ _ d _ _ h; cases d <;> exact h) ?_
  simp only [wpParts, pick, List.getElem?_cons_succ, List.getElem?_cons_zero, Option.toList_some, List.cons_append, List.nil_append]
  repeat (first | go_big_quiet_skip | (go_big_quiet_want; (refine quiet_build _ _ rfl (CC ⟨k0, k1, 0, 0, zero16⟩) (by simp only [List.map_toArray, List.map_cons, List.map_nil]; exact hbc) ?_); simp only [Act.put, List.setIfInBounds_toArray, List.set_cons_succ, List.set_cons_zero]; go_big_quiet_on) | (go_big_quiet_step (fail)))
  refine wpQuiet_nil ?_
  go_wp2_with fail
  try refine ⟨by first | assumption | exact later_drew _ | exact later_alloc _ _ | exact Later.refl _, ?_⟩
  try simp only [wpParts, pick, List.getElem?_cons_succ, List.getElem?_cons_zero, Option.toList_some, List.cons_append, List.nil_append]
  repeat (go_big_quiet_step (fail))
  refine wpQuiet_nil ?_
  go_wp2_with (first
    | (refine store_C rfl rfl _ _ rfl (Blk.new w1.drew _ cz0) rfl rfl rfl ?_; intro w3 hb3 ho3)
    | fail)
  have B1 := B0.push ((later_drew _).trans (later_alloc _ _)) (Nat.le_refl _) ho3 hb3
  clear hb3 ho3 r1 c0 c1 hlb B0 hbc
  generalize w1.heap.size = g3 at *
  go_loopw [5] (fun i wr => ∃ k : Nat, 2 ≤ k ∧ k ≤ 6 ∧ i = .int .i64 k ∧ Bag w wr [(g3, 28, CC ⟨k0, k1, UInt32.ofNat (beN (subB b 2 (k - 2)) 0), 0, zero16⟩), (w.heap.size, 28, cz0)]) (fun i _ => 6 - (intOf i).toNat)
  case atStart => exact ⟨2, by omega, by omega, rfl, by rw [show 2 - 2 = 0 from rfl, hd0.out]; exact B1⟩
  case round =>
    clear B1
    obtain ⟨k, hk2, hk6, rfl, B1⟩ := hrel
    by_cases hlt : k < 6
    · have hcz := getD_cell ((hb.later B1.lat).later (later_drew _)) k (by omega)
      have hlb : b0 < wr.drew.heap.size := Nat.lt_of_lt_of_le hb00 (B1.lat.trans (later_drew _)).size
      have hlg : g3 < wr.drew.heap.size := (B1.drew.nth 0 rfl).lt
      have hx := hdn.out k hk2 hlt
      generalize UInt32.ofNat (beN (subB b 2 (k - 2)) 0) = x at *
      generalize b.getD k 0 = z at *
      replace hx := hid hx
      have hc2 := (cmd_at (B1.drew.nth 0 rfl)).2.2.1
      have B2 := B1.drew
      go_wp2_with fail
      refine wp_region_parts [] [0, 1, 2, 3, 4, 5, 6, 7, 8, 9] [10] (by as_aux_lemma => kernel_rfl) (by as_aux_lemma => kernel_rfl) (by intro _ _ d _ _ h; cases d <;> exact h) ?_
      simp only [wpParts, pick, List.getElem?_cons_succ, List.getElem?_cons_zero, Option.toList_some, List.cons_append, List.nil_append]
      repeat (go_big_quiet_step (fail))
      refine wpQuiet_nil ?_
      go_wp2_with (first
        | (refine wpList_store_in rfl rfl _ _ _ rfl g3 2 _ _ (B2.nth 0 rfl) rfl (by rw [CC_length]; omega) rfl (by kernel_rfl) ?_; intro v6 w6 hv6 hb6 ho6; simp [go_sem] at hv6; subst hv6
           have B3 := B2.write 0 rfl ho6 hb6)
        | fail)
      rw [CC_setdl] at B3
      refine ⟨⟨k + 1, by omega, by omega, by go_num, by rw [hx.out]; exact B3⟩, by simp only [intOf]; omega⟩
    · obtain rfl : k = 6 := by omega
      rw [hdE.out] at B1
      go_wp2_with fail
      go_loopw [6] (fun i wr => ∃ k : Nat, 6 ≤ k ∧ k ≤ 14 ∧ i = .int .i64 k ∧ Bag w wr [(g3, 28, CC ⟨k0, k1, (cmdOf b).dl, UInt64.ofNat (beN (subB b 6 (k - 6)) 0), zero16⟩), (w.heap.size, 28, cz0)]) (fun i _ => 14 - (intOf i).toNat)
      case atStart => exact ⟨6, by omega, by omega, rfl, by rw [show 6 - 6 = 0 from rfl, hx0.out]; exact B1⟩
      case round =>
        clear B1
        obtain ⟨k, hk2, hk6, rfl, B1⟩ := hrel
        by_cases hlt : k < 14
        · have hcz := getD_cell ((hb.later B1.lat).later (later_drew _)) k (by omega)
          have hlb : b0 < wr.drew.heap.size := Nat.lt_of_lt_of_le hb00 (B1.lat.trans (later_drew _)).size
          have hlg : g3 < wr.drew.heap.size := (B1.drew.nth 0 rfl).lt
          have hx := hxn.out k hk2 hlt
          generalize UInt64.ofNat (beN (subB b 6 (k - 6)) 0) = x at *
          generalize b.getD k 0 = z at *
          replace hx := hid hx
          have hc3 := (cmd_at (B1.drew.nth 0 rfl)).2.2.2.1
          have B2 := B1.drew
          go_wp2_with fail
          refine wp_region_parts [] [0, 1, 2, 3, 4, 5, 6, 7, 8, 9] [10] (by as_aux_lemma => kernel_rfl) (by as_aux_lemma => kernel_rfl) (by intro _ _ d _ _ h; cases d <;> exact h) ?_
          simp only [wpParts, pick, List.getElem?_cons_succ, List.getElem?_cons_zero, Option.toList_some, List.cons_append, List.nil_append]
          repeat (go_big_quiet_step (fail))
          refine wpQuiet_nil ?_
          go_wp2_with (first
            | (refine wpList_store_in rfl rfl _ _ _ rfl g3 3 _ _ (B2.nth 0 rfl) rfl (by rw [CC_length]; omega) rfl (by kernel_rfl) ?_; intro v6 w6 hv6 hb6 ho6; simp [go_sem] at hv6; subst hv6
               have B3 := B2.write 0 rfl ho6 hb6)
            | fail)
          rw [CC_setnx] at B3
          go_roundw
          case rel =>
            repeat apply Exists.intro
            exact ⟨⟨k + 1, by omega, by omega, by go_num, by rw [hx.out]; exact B3⟩, rfl⟩
          case measure => simp [intOf]; omega
        · obtain rfl : k = 14 := by omega
          rw [hxE.out] at B1
          have B4 := B1.drew
          have hlb : b0 < wr.drew.heap.size := Nat.lt_of_lt_of_le hb00 B4.lat.size
          go_wp2_with fail
          refine wp_region_parts [] [0, 1, 2, 3] [4] (by as_aux_lemma => kernel_rfl) (by as_aux_lemma => kernel_rfl) (by intro _ _ d _ _ h; cases d <;> exact h) ?_
          simp only [wpParts, pick, List.getElem?_cons_succ, List.getElem?_cons_zero, Option.toList_some, List.cons_append, List.nil_append]
          repeat (go_big_quiet_step (fail))
          refine wpQuiet_nil ?_
          go_wp2_with (first
            | (refine wpList_copy_rd rfl _ _ _ _ rfl 5 Tryz.underlying22 size8 g3 4 16 16 _ _ (B4.nth 0 rfl) (some ⟨b0, p + 14, none⟩) 16 (c - 14) (((b.drop 14).take 16).map W8) (Rd.later hcd B4.lat) (w8_one _) rfl rfl (Nat.le_of_eq (CC_length _).symm) ?_; intro w8 hb8 ho8; rw [hfill.out] at hb8
               have B5 := B4.write 0 rfl ho8 hb8)
            | (refine load_C rfl _ rfl (B5.nth 0 rfl) rfl ?_)
            | fail)
          (with_reducible refine (hCk.out _).mono ?_); rintro e w9 ⟨rfl, j9⟩
          have B6 := B5.later j9
          have r9 := hb.later B6.lat
          have c30 := getD_cell r9 30 (by omega)
          have c31 := getD_cell r9 31 (by omega)
          clear hb8 ho8 B5 B4 j9 hcd hcutc hfill hCk r9 hlb hdn hxn hdE hxE hd0 hx0
          generalize b.getD 30 0 = d30 at *
          generalize b.getD 31 0 = d31 at *
          generalize cmdOf b = cm at *
          rcases hE with rfl | rfl | rfl | rfl
          all_goals
            cases h30 : (d30 == 0) <;> cases h31 : (d31 == 0)
            all_goals
              have hDE := hD.out
              have hDC := hC.out
              rw [h30, h31] at hDE
              simp at hDE
              rw [hDE] at hDC
              simp at hDC
              replace hDE := hid hDE
              replace hDC := hid hDC
              have n30 : (d30 != 0) = !(d30 == 0) := rfl
              have n31 : (d31 != 0) = !(d31 == 0) := rfl
              rw [h30] at n30
              rw [h31] at n31
              clear hD hC
              go_wp2_with (first
                | (refine load_C rfl _ rfl (B6.nth 0 rfl) rfl ?_)
                | (refine wpList_build_w rfl _ _ rfl (CC cmd0) (by simp only [List.map_toArray, List.map_nil]; exact hb0) ?_)
                | (refine store_C rfl rfl _ _ rfl (B6.nth 1 rfl) rfl rfl hz0 ?_; intro w10 hb10 ho10)
                | fail)
              exact bodyPost_ret (results_blk_tmp rfl _ _ _ _ _ _ hb10 rfl Tryz.underlying28 rfl (by rw [CC_length]; exact size20)) rfl ⟨by rw [hDE.out, hDC.out]; rfl, (B6.write 1 rfl ho10 hb10).lat⟩
end Go.Proofs.YtdojjnbpidogfaaGreat
namespace Go.Proofs.YtdojjnbpidogfaaGreat
open Go.RowKit
open Go.BigFrame

theorem rdB_cut {w : World} {b p n : Nat} {bs : List UInt8} (h : RdB w (some ⟨b, p, none⟩) n bs) (k m : Nat) (hk : k + m ≤ n) (hk0 : 0 < m) : RdB w (some ⟨b, p + k, none⟩) m (subB bs k m) := by
  have h1 := (RdB.cut h (k := k) (c := n + 1) (by omega) (by omega)).take (m := m) (by omega)
  rw [show cutA (some ⟨b, p, none⟩) k (n + 1) = some ⟨b, p + k, none⟩ by
    rw [cutA, if_neg (by omega)]
    show some ((⟨b, p, none⟩ : Addr).add k) = _
    rw [add_at]] at h1
  exact h1
theorem sub_cells {bs r : List UInt8} {off n : Nat} (h : subB bs off n = r) : ∀ j v, (r.map W8)[j]? = some v → (bs.map W8)[off + j]? = some v := by
  intro j v hv
  subst h
  rw [List.getElem?_map, Option.map_eq_some_iff] at hv
  obtain ⟨x, hx, rfl⟩ := hv
  rw [List.getElem?_map, subB_get hx]
  rfl
set_option maxRecDepth 100000 in
set_option maxHeartbeats 2000000 in
theorem fitsR_any (A : Option Addr) (c : Nat) (h s : List UInt8) (w : World) (hh : RdB w A 288 h) (hc : 288 ≤ c) (hs : s.length = 192) :
    Calls Tryz.prog 57 #[.slice A 288 c, .agg (s.map W8).toArray] w fun e w' => e = .returned (.bool (hfitB h s)) ∧ Later w w' := by
  have hl := hh.len
  obtain ⟨b0, p, rfl, hb00, _⟩ := hh.2 (by omega)
  have hb : Blk (w.alloc (.cells (s.map W8).toArray 53)) w.heap.size 53 (s.map W8) := Blk.new _ _ _
  have L := later_alloc w (.cells (s.map W8).toArray 53)
  have k0 : (kMac s).length = 32 := subB_length (by omega)
  have hT := hid (fun (w : World) h1 h2 => tagR_any (some ⟨b0, p, none⟩) (some ⟨b0, p + 48, none⟩) 32 c 240 (c - 48) (kMac s) (subB h 0 32) (subB h 48 240) w k0 h1 h2 (by omega) (by omega))
  have hE := hid (fun A d (w : World) h1 h2 => equal_any (some ⟨b0, p + 32, none⟩) A 16 16 (c - 32) d (subB h 32 16) (tagB (kMac s) (subB h 0 32) (subB h 48 240)) w h1 h2 (by omega) (by omega))
  rw [show decide (subB h 32 16 = tagB (kMac s) (subB h 0 32) (subB h 48 240)) = hfitB h s by rw [hfitB]; exact decide_eq_decide.2 ⟨Eq.symm, Eq.symm⟩] at hE
  have e1 : cutA (some ⟨b0, p, none⟩) 32 c = some ⟨b0, p + 32, none⟩ := by rw [cutA, if_neg (by omega)]; rfl
  have e2 : cutA (some ⟨b0, p, none⟩) 48 c = some ⟨b0, p + 48, none⟩ := by rw [cutA, if_neg (by omega)]; rfl
  have hr := hid (fun w (h' : RdB w (some ⟨b0, p, none⟩) 288 h) => (⟨rdB_cut h' 0 32 (by omega) (by omega), rdB_cut h' 32 16 (by omega) (by omega), rdB_cut h' 48 240 (by omega) (by omega)⟩ : RdB w (some ⟨b0, p, none⟩) 32 (subB h 0 32) ∧ RdB w (some ⟨b0, p + 32, none⟩) 16 (subB h 32 16) ∧ RdB w (some ⟨b0, p + 48, none⟩) 240 (subB h 48 240)))
  have hkm : Hid (subB s 0 32 = kMac s) := hid rfl
  generalize tagB (kMac s) (subB h 0 32) (subB h 48 240) = TG at *
  go_enter Tryz.func57, Tryz.ntmps57
  go_wp2_with fail
  generalize w.alloc _ = w1 at *
  refine wp_region_parts [([0, 1, 2, 3, 4, 5, 6, 7, 8], 9), ([], 10)] [11] [] (by as_aux_lemma => kernel_rfl) (by as_aux_lemma => kernel_rfl) (by intro _ _ d _ _ h; cases d <;> exact h) ?_
  simp only [wpParts, pick, List.getElem?_cons_succ, List.getElem?_cons_zero, Option.toList_some, List.cons_append, List.nil_append]
  repeat (first | go_big_quiet_skip | (go_big_quiet_want; (refine quiet_Y 0 32 _ rfl hb.drew rfl Tryz.underlying31 rfl size32c hkm.out k0 ?_); simp only [Act.put, List.setIfInBounds_toArray, List.set_cons_succ, List.set_cons_zero]; go_big_quiet_on) | (go_big_quiet_step (fail)))
  refine wpQuiet_nil ?_
  have r1 := hr.out _ ((hh.later L).later (later_drew _))
  go_wp2_with fail
  (refine (hT.out _ r1.1 r1.2.2).mono ?_); rintro e w2 ⟨A2, c2, rfl, o2, l2⟩
  go_wp2_with fail
  try refine ⟨by first | assumption | exact later_drew _ | exact later_alloc _ _ | exact Later.refl _, ?_⟩
  try simp only [wpParts, pick, List.getElem?_cons_succ, List.getElem?_cons_zero, Option.toList_some, List.cons_append, List.nil_append]
  repeat (go_big_quiet_step (fail))
  refine wpQuiet_nil ?_
  go_wp2_with fail
  (refine (hE.out _ _ _ (r1.2.1.later l2) o2.rd).mono ?_); rintro e w3 ⟨rfl, l3⟩
  go_wp2_with fail
  try refine ⟨by first | assumption | exact later_drew _ | exact later_alloc _ _ | exact Later.refl _, ?_⟩
  try simp only [wpParts, pick, List.getElem?_cons_succ, List.getElem?_cons_zero, Option.toList_some, List.cons_append, List.nil_append]
  repeat (go_big_quiet_step (fail))
  refine wpQuiet_nil ?_
  go_wp2_with fail
  go_ret
  exact ⟨rfl, ((L.trans (later_drew _)).trans l2).trans l3⟩
/-- The header within, as a list; none, if there is none. -/
def openL (h s : List UInt8) : List UInt8 := if openE h s = 0 ∧ (decC ((plainB h s).take 32)).kd = 1 then nextB s ++ (plainB h s).drop 32 else []
set_option maxRecDepth 100000 in
set_option maxHeartbeats 8000000 in
theorem openR_any (A : Option Addr) (c : Nat) (h s : List UInt8) (w : World) (hh : RdB w A 288 h) (hc : 288 ≤ c) (hs : s.length = 192) :
    Calls Tryz.prog 38 #[.slice A 288 c, .agg (s.map W8).toArray] w fun e w' => ∃ A' c', e = .returned (.tuple #[.agg (CC (openC h s)).toArray, .slice A' (openL h s).length c', .int .i64 (openE h s : Nat)]) ∧ OwnB w' w.heap.size A' (openL h s).length c' (openL h s) ∧ Later w w' := by
  have hl := hh.len
  obtain ⟨b0, p, rfl, hb00, _⟩ := hh.2 (by omega)
  have C1 := bag_new w 53 (s.map W8)
  have C2 := C1.add (later_alloc _ (.cells cz0.toArray 28)) (k := w.heap.size + 1) (by simp) (by omega) (Blk.new' _ _ _ (by simp))
  clear C1
  have s2 : (subB h 48 240).length = 240 := subB_length (by omega)
  have k1 : (kStr s).length = 32 := subB_length (by omega)
  have hF := hid (fun (w : World) h' => fitsR_any (some ⟨b0, p, none⟩) c h s w h' hc hs)
  have hr48 := hid (fun w (h' : RdB w (some ⟨b0, p, none⟩) 288 h) => rdB_cut h' 48 240 (by omega) (by omega))
  have hpl := plainB_length h s hl
  have hT := hid (fun B d (w : World) hb => turnedR_0 B 288 d (kStr s) (subB h 48 240 ++ List.replicate 48 0) w k1 hb (by omega) (by omega))
  rw [show xorB (subB h 48 240 ++ List.replicate 48 0) (chaS (kStr s) 288) = plainB h s from rfl] at hT
  have hD := hid (fun A c (w : World) h1 h2 => cdecode_ref A c ((plainB h s).take 32) w h1 h2)
  have hE : Hid (openE h s = if hfitB h s = false then 6 else if decE ((plainB h s).take 32) ≠ 0 then 3 else if (decC ((plainB h s).take 32)).kd = 1 then nextE s else 0) := hid rfl
  have hC : Hid (openC h s = if openE h s = 0 then decC ((plainB h s).take 32) else cmd0) := hid rfl
  have hN : Hid (openL h s = if openE h s = 0 ∧ (decC ((plainB h s).take 32)).kd = 1 then nextB s ++ (plainB h s).drop 32 else []) := hid rfl
  have hX := hid (fun (w : World) => next_ref s (kBli s) (kAlp s) hs rfl rfl w)
  have hXb : Hid (multB (kBli s) (kAlp s) = nextB s ∧ multE (kBli s) (kAlp s) = nextE s) := hid ⟨rfl, rfl⟩
  rw [hXb.out.1, hXb.out.2] at hX
  have nbl : (nextB s).length = 32 := multB_length _ _
  have hb0 := built_cmd0
  have hks : Hid (subB s 32 32 = kStr s) := hid rfl
  have e48 : cutA (some ⟨b0, p, none⟩) 48 c = some ⟨b0, p + 48, none⟩ := by rw [cutA, if_neg (by omega)]; rfl
  clear hXb
  generalize openC h s = OC at *
  generalize openL h s = ON at *
  generalize openE h s = OE at *
  generalize hfitB h s = F at *
  generalize plainB h s = pl at *
  generalize decE (pl.take 32) = dE at *
  generalize decC (pl.take 32) = dC at *
  generalize nextE s = nE at *
  generalize nextB s = nb at *
  have hz0 : cz0.length = 20 := rfl
  go_enter Tryz.func38, Tryz.ntmps38
  go_wp2_with (first
    | (refine load_SR rfl _ rfl (C2.nth 1 rfl) hs rfl ?_)
    | fail)
  (refine (hF.out _ (hh.later C2.lat)).mono ?_); rintro e w5 ⟨rfl, l5⟩
  replace C2 := C2.later l5
  clear l5 hF
  cases F
  · have HE : OE = 6 := by rw [hE.out, if_pos rfl]
    have HC : OC = cmd0 := by rw [hC.out, HE, if_neg (by decide)]
    have HN : ON = [] := by rw [hN.out, HE, if_neg (by simp)]
    replace HE := hid HE
    replace HC := hid HC
    replace HN := hid HN
    clear hE hC hN
    go_wp2_with (first
      | (refine wpList_build_w rfl 28 _ rfl (CC cmd0) (by simp only [List.map_toArray, List.map_nil]; exact hb0) ?_)
      | (refine store_C rfl rfl _ _ rfl (C2.nth 0 rfl) rfl rfl hz0 ?_; intro w6 hb6 ho6
         have C5 := C2.write 0 rfl ho6 hb6)
      | fail)
    refine bodyPost_ret (results_ctt rfl _ _ _ _ _ _ (C5.nth 0 rfl) rfl Tryz.underlying28 rfl (by rw [CC_length]; exact size20)) rfl ⟨none, 0, by rw [HE.out, HC.out, HN.out]; rfl, ?_, C5.lat⟩
    rw [HN.out]
    exact own_nil _ _ _
  · replace hE : Hid (OE = if dE ≠ 0 then 3 else if dC.kd = 1 then nE else 0) := hid (by rw [hE.out, if_neg (by decide)])
    go_wp2_with fail
    have C5 := C2.drew
    refine wp_region_partsS (Spared w5 []) [([0, 1, 2, 3, 4], 5), ([], 6), ([], 7)] [8] (by as_aux_lemma => kernel_rfl) (by as_aux_lemma => kernel_rfl) (by intro _ _ d _ _ h; cases d <;> exact h) ⟨Spared.refl _ _, ?_⟩
    simp only [wpPartsS, pick, List.getElem?_cons_succ, List.getElem?_cons_zero, Option.toList_some, List.cons_append, List.nil_append]
    repeat (first | go_big_quiet_skip | (go_big_quiet_want; (refine quiet_late _ _ rfl 32 ((kStr s).map W8) (C2.nth 1 rfl) (by simp) rfl (sub_cells hks.out) _ Tryz.underlying31 rfl (by rw [List.length_map, k1]; exact size32c) ?_); simp only [Act.put, List.setIfInBounds_toArray, List.set_cons_succ, List.set_cons_zero]; go_big_quiet_on) | (go_big_quiet_step (fail)) | (go_big_quiet_want; go_big_quiet_op; refine ⟨_, fun _ _ => rfl, ?_⟩; go_big_quiet_on))
    refine wpQuiet_nil ?_
    go_wp2_with fail
    (refine (copy_any (some ⟨b0, p + 48, none⟩) 240 (c - 48) (subB h 48 240) _ (hr48.out _ (hh.later C5.lat)) (by omega)).mono ?_); rintro e w6 ⟨A6, c6, rfl, o6, l6⟩
    have S6 := (Spared.refl w5 []).later l6
    go_wp2_with fail
    refine ⟨S6, ?_⟩
    try simp only [wpPartsS, pick, List.getElem?_cons_succ, List.getElem?_cons_zero, Option.toList_some, List.cons_append, List.nil_append]
    repeat (first | (go_big_quiet_step (fail)) | (go_big_quiet_want; go_big_quiet_op; refine ⟨_, fun _ _ => rfl, ?_⟩; go_big_quiet_on))
    refine wpQuiet_nil ?_
    go_wp2_with (first
      | (refine wpList_append_zeros rfl _ _ _ _ rfl 5 .i64 Tryz.underlying22 Tryz.underlying3 info8 _ _ 240 _ o6 l6.size 48 (by omega) rfl rfl (by omega) ?_; intro A7 c7 w7 hown7 hg7)
      | fail)
    try simp only [Act.put, List.setIfInBounds_toArray, List.set_cons_succ, List.set_cons_zero]
    have hrow7 : ∀ k, (Value.slice A6 240 c6).ownBlock = some k → w5.drew.heap.size ≤ k := fun k hk => (World.ownsRow.lt o6 k hk).1
    have S7 := S6.grown hg7 hrow7
    have l7 := l6.grownBy hg7 hrow7
    have o7 : OwnB w7 w5.drew.heap.size A7 288 c7 (subB h 48 240 ++ List.replicate 48 0) := by
      have h48 : List.replicate 48 (Value.int .u8 0) = (List.replicate 48 (0 : UInt8)).map W8 := by rw [List.map_replicate]; rfl
      rw [h48] at hown7
      exact own_glue hown7
    clear hown7 hg7 hrow7 o6 S6 l6
    refine ⟨S7, ?_⟩
    try simp only [wpPartsS, pick, List.getElem?_cons_succ, List.getElem?_cons_zero, Option.toList_some, List.cons_append, List.nil_append]
    repeat (first | (go_big_quiet_step (fail)) | (go_big_quiet_want; go_big_quiet_op; refine ⟨_, fun _ _ => rfl, ?_⟩; go_big_quiet_on))
    refine wpQuiet_nil ?_
    go_wp2_with fail
    (refine (hT.out _ _ _ o7.rd).mono ?_); rintro e w8 ⟨A8, c8, rfl, o8, l8⟩
    obtain ⟨g8, r8, rfl, hg8, hb8, hc8, hcc8⟩ := own_some o8 (by omega)
    clear hc8
    have C8 := C5.fresh (l7.trans l8) (Nat.le_trans l7.size hg8) hb8
    have S8 := S7.later l8
    go_wp2_with fail
    refine ⟨S8, ?_⟩
    try simp only [wpPartsS, pick, List.getElem?_cons_succ, List.getElem?_cons_zero, Option.toList_some, List.cons_append, List.nil_append]
    repeat (first | (go_big_quiet_step (fail)) | (go_big_quiet_want; go_big_quiet_op; refine ⟨_, fun _ _ => rfl, ?_⟩; go_big_quiet_on))
    refine wpQuiet_nil ?_
    clear C5 C2 o8 o7 S7 S8 l7 l8 hb8 hg8 hT
    go_wp2_with fail
    (refine (hD.out _ _ _ ((blk_head (C8.nth 0 rfl) hpl).take (m := 32) (by omega)) (by omega)).mono ?_); rintro e w9 ⟨rfl, l9⟩
    have C9 := C8.later l9
    clear C8 l9 hD
    by_cases hd0 : dE = 0
    · subst hd0
      replace hE : Hid (OE = if dC.kd = 1 then nE else 0) := hid (by rw [hE.out, if_neg (by simp)])
      cases hk1 : (dC.kd == 1)
      · have hkn : ¬ dC.kd = 1 := by simpa using hk1
        have n1 : (dC.kd != 1) = true := by rw [bne, hk1]; rfl
        have HE : OE = 0 := by rw [hE.out, if_neg hkn]
        have HC : OC = dC := by rw [hC.out, HE, if_pos rfl]
        have HN : ON = [] := by rw [hN.out, if_neg (fun h => hkn h.2)]
        replace HE := hid HE
        replace HC := hid HC
        replace HN := hid HN
        clear hE hC hN hkn
        go_wp2_with (first
          | (refine store_C rfl rfl _ _ rfl (Blk.new w9 _ cz0) rfl rfl rfl ?_; intro w10 hb10 ho10
             have C10 := C9.push (later_alloc _ _) (Nat.le_refl _) ho10 hb10
             have hc0 := (cmd_at hb10).1)
          | (refine load_C rfl _ rfl (C10.nth 0 rfl) rfl ?_)
          | (refine store_C rfl rfl _ _ rfl (C10.nth 2 rfl) rfl rfl hz0 ?_; intro w11 hb11 ho11
             have C11 := C10.write 2 rfl ho11 hb11)
          | fail)
        refine bodyPost_ret (results_ctt rfl _ _ _ _ _ _ (C11.nth 2 rfl) rfl Tryz.underlying28 rfl (by rw [CC_length]; exact size20)) rfl ⟨none, 0, by rw [HE.out, HC.out, HN.out]; rfl, ?_, C11.lat⟩
        rw [HN.out]
        exact own_nil _ _ _
      · have hky : dC.kd = 1 := by simpa using hk1
        have n1 : (dC.kd != 1) = false := by rw [bne, hk1]; rfl
        replace hE : Hid (OE = nE) := hid (by rw [hE.out, if_pos hky])
        have HNL : (nb ++ pl.drop 32).length = 288 := by rw [List.length_append, List.length_drop]; omega
        replace hky := hid hky
        go_wp2_with (first
          | (refine store_C rfl rfl _ _ rfl (Blk.new w9 _ cz0) rfl rfl rfl ?_; intro w10 hb10 ho10
             have C10 := C9.push (later_alloc _ _) (Nat.le_refl _) ho10 hb10
             have hc0 := (cmd_at hb10).1)
          | (refine load_SR rfl _ rfl (C10.nth 3 rfl) hs rfl ?_)
          | fail)
        (with_reducible refine (hX.out _).mono ?_); rintro e w11 ⟨rfl, l11⟩
        have C11 := C10.later l11
        clear hb10 ho10 l11 C10 C9
        by_cases hn0 : nE = 0
        · subst hn0
          have HE := hE.out
          have HC : OC = dC := by rw [hC.out, HE, if_pos rfl]
          have HN : ON = nb ++ pl.drop 32 := by rw [hN.out, if_pos ⟨HE, hky.out⟩]
          replace HE := hid HE
          replace HC := hid HC
          replace HN := hid HN
          clear hE hC hN
          go_wp2_with (first
            | (refine store_B rfl rfl _ _ rfl (Blk.new w11 _ (List.replicate 32 (.int .u8 0))) rfl rfl nbl rfl ?_; intro w12 hb12 ho12
               have C12 := C11.push (later_alloc _ _) (Nat.le_refl _) ho12 hb12)
            | fail)
          have hne13 := C12.ne 1 3 rfl rfl (by decide)
          have C13 := C12.drew
          refine wp_region_partsS (Spared w12 [w.heap.size + 1]) [([0, 1, 3, 4], 2), ([], 5), ([], 6)] [7, 8] (by as_aux_lemma => kernel_rfl) (by as_aux_lemma => kernel_rfl) (by intro _ _ d _ _ h; cases d <;> exact h) ⟨Spared.refl _ _, ?_⟩
          simp only [wpPartsS, pick, List.getElem?_cons_succ, List.getElem?_cons_zero, Option.toList_some, List.cons_append, List.nil_append]
          repeat (first | go_big_quiet_skip | (go_big_quiet_want; (refine quiet_late _ _ rfl 0 (CC dC) (C12.nth 1 rfl) (by intro b hb; simp at hb; subst hb; exact hne13) rfl (all_cells _) _ Tryz.underlying28 rfl (by rw [CC_length]; exact size20) ?_); simp only [Act.put, List.setIfInBounds_toArray, List.set_cons_succ, List.set_cons_zero]; go_big_quiet_on) | (go_big_quiet_step (fail)) | (go_big_quiet_want; go_big_quiet_op; refine ⟨_, fun _ _ => rfl, ?_⟩; go_big_quiet_on))
          refine wpQuiet_nil ?_
          go_wp2_with fail
          (refine (copy_any (some ⟨w11.heap.size, 0, none⟩) 32 32 nb _ (blk_rdB (C13.nth 0 rfl) nbl) (by omega)).mono ?_); rintro e w14 ⟨A14, c14, rfl, o14, l14⟩
          have S14 := (Spared.refl w12 [w.heap.size + 1]).later l14
          have r32 := blk_from (k := 32) ((C13.later l14).nth 2 rfl) hpl (by omega)
          go_wp2_with fail
          refine ⟨S14, ?_⟩
          try simp only [wpPartsS, pick, List.getElem?_cons_succ, List.getElem?_cons_zero, Option.toList_some, List.cons_append, List.nil_append]
          repeat (first | (go_big_quiet_step (fail)) | (go_big_quiet_want; go_big_quiet_op; refine ⟨_, fun _ _ => rfl, ?_⟩; go_big_quiet_on))
          refine wpQuiet_nil ?_
          go_wp2_with (first
            | (refine wpList_append_rd rfl _ _ _ rfl 5 _ 1 Tryz.underlying22 info8 rfl w12.drew _ 32 _ o14 l14 (some ⟨g8, 32, none⟩) 256 (c8 - 32) _ r32 (w8_one _) rfl rfl (by omega) (by omega) ?_; intro A15 c15 w15 hown15 hl15 hg15 _)
            | fail)
          try simp only [Act.put, List.setIfInBounds_toArray, List.set_cons_succ, List.set_cons_zero]
          have S15 := S14.grown hg15 (fun k hk => (World.ownsRow.lt o14 k hk).1)
          have C15 := C13.later hl15
          have o15 := own_glue hown15
          clear hown15 hg15 r32 l14 o14 S14
          refine ⟨S15, ?_⟩
          try simp only [wpPartsS, pick, List.getElem?_cons_succ, List.getElem?_cons_zero, Option.toList_some, List.cons_append, List.nil_append]
          repeat (first | (go_big_quiet_step (fail)) | (go_big_quiet_want; go_big_quiet_op; refine ⟨_, fun _ _ => rfl, ?_⟩; go_big_quiet_on))
          refine wpQuiet_nil ?_
          go_wp2_with (first
            | (refine store_C rfl rfl _ _ rfl (C15.nth 3 rfl) rfl rfl hz0 ?_; intro w16 hb16 ho16
               have C16 := C15.write 3 rfl ho16 hb16)
            | fail)
          have o16 := own_only o15 ho16 (fun b hb e => by
            have h1 := (World.ownsRow.lt o15 b hb).1
            have h2 := (C13.nth 3 rfl).lt
            omega)
          refine ⟨S15.only ho16 (List.mem_singleton.2 rfl), ?_⟩
          try simp only [wpPartsS, pick, List.getElem?_cons_succ, List.getElem?_cons_zero, Option.toList_some, List.cons_append, List.nil_append]
          repeat (first | (go_big_quiet_step (fail)) | (go_big_quiet_want; go_big_quiet_op; refine ⟨_, fun _ _ => rfl, ?_⟩; go_big_quiet_on))
          refine wpQuiet_nil ?_
          go_wp2_with fail
          refine bodyPost_ret (results_ctt rfl _ _ _ _ _ _ (C16.nth 3 rfl) rfl Tryz.underlying28 rfl (by rw [CC_length]; exact size20)) rfl ⟨A15, c15, by rw [HE.out, HC.out, HN.out, HNL]; rfl, ?_, C16.lat⟩
          rw [HN.out, HNL]
          exact own_mono o16 C13.lat.size
        · have hne : ((nE : Int) != 0) = true := by simp; omega
          have HE := hE.out
          have HC : OC = cmd0 := by rw [hC.out, HE, if_neg hn0]
          have HN : ON = [] := by rw [hN.out, HE, if_neg (fun h => hn0 h.1)]
          replace HE := hid HE
          replace HC := hid HC
          replace HN := hid HN
          clear hE hC hN
          go_wp2_with (first
            | (refine store_B rfl rfl _ _ rfl (Blk.new w11 _ (List.replicate 32 (.int .u8 0))) rfl rfl nbl rfl ?_; intro w12 hb12 ho12
               have C12 := C11.push (later_alloc _ _) (Nat.le_refl _) ho12 hb12)
            | (refine wpList_build_w rfl 28 _ rfl (CC cmd0) (by simp only [List.map_toArray, List.map_nil]; exact hb0) ?_)
            | (refine store_C rfl rfl _ _ rfl (C12.nth 3 rfl) rfl rfl hz0 ?_; intro w13 hb13 ho13
               have C13 := C12.write 3 rfl ho13 hb13)
            | fail)
          refine bodyPost_ret (results_ctt rfl _ _ _ _ _ _ (C13.nth 3 rfl) rfl Tryz.underlying28 rfl (by rw [CC_length]; exact size20)) rfl ⟨none, 0, by rw [HE.out, HC.out, HN.out]; rfl, ?_, C13.lat⟩
          rw [HN.out]
          exact own_nil _ _ _
    · have HE : OE = 3 := by rw [hE.out, if_pos hd0]
      have HC : OC = cmd0 := by rw [hC.out, HE, if_neg (by decide)]
      have HN : ON = [] := by rw [hN.out, HE, if_neg (by simp)]
      have hne : ((dE : Int) != 0) = true := by simp; omega
      replace HE := hid HE
      replace HC := hid HC
      replace HN := hid HN
      clear hE hC hN
      go_wp2_with (first
        | (refine store_C rfl rfl _ _ rfl (Blk.new w9 _ cz0) rfl rfl rfl ?_; intro w10 hb10 ho10
           have C10 := C9.push (later_alloc _ _) (Nat.le_refl _) ho10 hb10)
        | (refine wpList_build_w rfl 28 _ rfl (CC cmd0) (by simp only [List.map_toArray, List.map_nil]; exact hb0) ?_)
        | (refine store_C rfl rfl _ _ rfl (C10.nth 2 rfl) rfl rfl hz0 ?_; intro w11 hb11 ho11
           have C11 := C10.write 2 rfl ho11 hb11)
        | fail)
      refine bodyPost_ret (results_ctt rfl _ _ _ _ _ _ (C11.nth 2 rfl) rfl Tryz.underlying28 rfl (by rw [CC_length]; exact size20)) rfl ⟨none, 0, by rw [HE.out, HC.out, HN.out]; rfl, ?_, C11.lat⟩
      rw [HN.out]
      exact own_nil _ _ _
end Go.Proofs.YtdojjnbpidogfaaGreat
namespace Go.Proofs.YtdojjnbpidogfaaGreat
open Go.RowKit
open Go.BigFrame

/-- What was peeled, as the document has it: command, packet, body. -/
def RCc (c : Cmd) (vP vB : Value) : List Value := CC c ++ [vP, vB]
theorem RCc_length (c : Cmd) (vP vB : Value) : (RCc c vP vB).length = 22 := by rw [RCc, List.length_append, CC_length]; rfl
theorem RCc_one (c : Cmd) {vP vB : Value} (h1 : vP.oneCell' = true) (h2 : vB.oneCell' = true) : ∀ u ∈ RCc c vP vB, u.oneCell' = true := by
  intro u hu
  rcases List.mem_append.1 hu with hu | hu
  · exact CC_one c u hu
  · simp only [List.mem_cons, List.not_mem_nil, or_false] at hu
    rcases hu with rfl | rfl
    · exact h1
    · exact h2
theorem RCc_setP (c : Cmd) (vP vB v : Value) : (RCc c vP vB).set 20 v = RCc c v vB := by
  rw [RCc, List.set_append_right _ _ (by rw [CC_length]; omega), CC_length]
  rfl
theorem RCc_setB (c : Cmd) (vP vB v : Value) : (RCc c vP vB).set 21 v = RCc c vP v := by
  rw [RCc, List.set_append_right _ _ (by rw [CC_length]; omega), CC_length]
  rfl
theorem RCc_cmd (c : Cmd) (vP vB : Value) : ∀ j u, (CC c)[j]? = some u → (RCc c vP vB)[0 + j]? = some u := fun j u h => by
  rw [Nat.zero_add, RCc, List.getElem?_append_left (List.getElem?_eq_some_iff.1 h).1]
  exact h
theorem RCc_P (c : Cmd) (vP vB : Value) : (RCc c vP vB)[20]? = some vP := by
  rw [RCc, List.getElem?_append_right (by rw [CC_length]; omega), CC_length]
  rfl
theorem RCc_B (c : Cmd) (vP vB : Value) : (RCc c vP vB)[21]? = some vB := by
  rw [RCc, List.getElem?_append_right (by rw [CC_length]; omega), CC_length]
  rfl
theorem size22 : (Tryz.prog.info? 30).map (·.size) = some 22 := by kernel_rfl
theorem zeroRe : (Tryz.prog.info? 30).bind (·.zero) = some (.agg (RCc cmd0 nil8 nil8).toArray) := by kernel_rfl
theorem built_re0 : Tryz.prog.built 30 [] = some (RCc cmd0 nil8 nil8).toArray := by
  rw [built_struct (pl := [(0, 20), (20, 1), (21, 1)]) Tryz.underlying30 zeroRe (by kernel_rfl), fill_nil]
theorem built_re1 (c : Cmd) : Tryz.prog.built 30 [(0, .agg (CC c).toArray)] = some (RCc c nil8 nil8).toArray := by
  rw [built_struct (pl := [(0, 20), (20, 1), (21, 1)]) Tryz.underlying30 zeroRe (by kernel_rfl), fill_cons (vs := CC c) (off := 0) rfl (by rw [CC_length]; rfl) (by rw [CC_length, RCc_length]; omega), fill_nil, RCc, RCc, spl_first (by rw [CC_length, CC_length])]
theorem built_z32 : Tryz.prog.built 31 [] = some ((List.replicate 32 (0 : UInt8)).map W8).toArray := by rw [List.map_replicate]; kernel_rfl
abbrev re0 : List Value := cz0 ++ [.slice none 0 0, .slice none 0 0]
section
variable {ops : Array Oper} {rest : List Oper} {o : Oper} {a : Act} {w : World} {Q : Exit → Act → World → Prop}
theorem store_RC (hgd : o.guard = none) (hd : o.dst = none) (x y : Operand) (ho : o.op = .store 30 x y) {g : Nat} {t : TypeId} {l : List Value} {c : Cmd} {vP vB : Value} (hg : Blk w g t l) (hx : a.eval x = .pointer (some ⟨g, 0, none⟩)) (hy : a.eval y = .agg (RCc c vP vB).toArray) (h1 : vP.oneCell' = true) (h2 : vB.oneCell' = true) (hl : l.length = 22)
    (h : ∀ w', Blk w' g t (RCc c vP vB) → Only g w w' → wpList Tryz.prog ops Q rest a w') : wpList Tryz.prog ops Q (o :: rest) a w :=
  wpList_store_blk hgd hd _ x y ho g t l _ hg hx hy 22 size22 (RCc_length c vP vB) hl (RCc_one c h1 h2) h
theorem makes_cmd (hw : Region.wanted o (yielded ops a.tmps) = true) (ho : o.op = .alloc 28) :
    Makes Tryz.prog ops o (fun g => .pointer (some ⟨g, 0, none⟩)) (.cells cz0.toArray 28) a :=
  ⟨hw, fun w => by
    unfold execOp
    rw [ho]
    simp [go_sem]⟩
end
/-- The packet within, as a list; none, if there is none. -/
def unwQ (k p : List UInt8) : List UInt8 := if unwE k p = 0 ∧ (unwC k p).kd = 1 then unwP k p else []
def unwS (k p : List UInt8) : List UInt8 := if unwE k p = 0 then kSec (peelB k (p.take 32)) else List.replicate 32 0
theorem relP_open {s p : List UInt8} (hp : p.length = 768) (h0 : relE s p = 0) (h1 : (relC s p).kd = 1) : relP s p = openL (p.take 288) s ++ relBody s p ∧ (openL (p.take 288) s).length = 288 := by
  have h2 : (decC ((plainB (p.take 288) s).take 32)).kd = 1 := by
    have : relC s p = decC ((plainB (p.take 288) s).take 32) := by rw [relC, openC, if_pos (show openE (p.take 288) s = 0 from h0)]
    rw [← this]
    exact h1
  have hl : (p.take 288).length = 288 := by rw [List.length_take]; omega
  have e1 : openN (p.take 288) s = nextB s ++ (plainB (p.take 288) s).drop 32 := by rw [openN, if_pos ⟨h0, h2⟩]
  have e2 : openL (p.take 288) s = nextB s ++ (plainB (p.take 288) s).drop 32 := by rw [openL, if_pos ⟨h0, h2⟩]
  refine ⟨by rw [relP, if_pos ⟨h0, h1⟩, e1, e2], ?_⟩
  rw [e2, ← e1]
  exact openN_length _ _ hl
set_option maxRecDepth 100000 in
set_option maxHeartbeats 16000000 in
theorem unwrapR_any (A B : Option Addr) (n c d : Nat) (k p : List UInt8) (w : World) (hk : RdB w A n k) (hn : n ≤ 35184372088832) (hp : RdB w B 768 p) (hd : 768 ≤ d) :
    Calls Tryz.prog 11 #[.slice A n c, .slice B 768 d] w fun e w' => ∃ A1 c1 A2 c2, e = .returned (.tuple #[.agg (RCc (unwC k p) (.slice A1 (unwQ k p).length c1) (.slice A2 (unwB k p).length c2)).toArray, .agg ((unwS k p).map W8).toArray, .int .i64 (unwE k p : Nat)]) ∧
      OwnB w' w.heap.size A1 (unwQ k p).length c1 (unwQ k p) ∧ OwnB w' w.heap.size A2 (unwB k p).length c2 (unwB k p) ∧ Later w w' := by
  have hpl := hp.len
  obtain ⟨b0, q, rfl, hb00, _⟩ := hp.2 (by omega)
  have C1 := bag_new w 30 re0
  have C2 := C1.add (later_alloc _ (.cells (List.replicate 32 (Value.int .u8 0)).toArray 31)) (k := w.heap.size + 1) (by simp) (by omega) (Blk.new' _ _ (List.replicate 32 (Value.int .u8 0)) (by simp))
  clear C1
  have hal : (p.take 32).length = 32 := by rw [List.length_take]; omega
  have hPe := hid (fun (w : World) hk' hu => peel_ref A (some ⟨b0, q, none⟩) n c 32 d k (p.take 32) w hk' hu (by omega) (by omega))
  have hsl := peelB_length k (p.take 32)
  have hE : Hid (unwE k p = if multE k (p.take 32) = 0 then relE (peelB k (p.take 32)) p else multE k (p.take 32)) := hid rfl
  have hC : Hid (unwC k p = if multE k (p.take 32) = 0 then relC (peelB k (p.take 32)) p else cmd0) := hid rfl
  have hPP : Hid (unwP k p = if multE k (p.take 32) = 0 then relP (peelB k (p.take 32)) p else z768) := hid rfl
  have hB : Hid (unwB k p = if multE k (p.take 32) = 0 then relB (peelB k (p.take 32)) p else []) := hid rfl
  have hQ : Hid (unwQ k p = if unwE k p = 0 ∧ (unwC k p).kd = 1 then unwP k p else []) := hid rfl
  have hS : Hid (unwS k p = if unwE k p = 0 then kSec (peelB k (p.take 32)) else List.replicate 32 0) := hid rfl
  generalize unwQ k p = UQ at *
  generalize unwS k p = US at *
  generalize unwE k p = UE at *
  generalize unwC k p = UC at *
  generalize unwP k p = UP at *
  generalize unwB k p = UB at *
  generalize multE k (p.take 32) = ME at *
  generalize peelB k (p.take 32) = s at *
  have hO := hid (fun (w : World) h => openR_any (some ⟨b0, q, none⟩) d (p.take 288) s w h (by omega) hsl)
  have k2 : (kPay s).length = 32 := subB_length (by omega)
  have k5 : (kSec s).length = 32 := subB_length (by omega)
  have bl : (p.drop 288).length = 480 := by rw [List.length_drop]; omega
  have hf : fitW (kPay s) (p.drop 288) := ⟨k2, by omega, by omega⟩
  have hWi := hid (fun A c d (w : World) h1 h2 hd => open_ref A (some ⟨b0, q + 288, none⟩) 32 c 480 d (kPay s) (p.drop 288) w h1 h2 hd (by omega) (by omega))
  rw [wideE_fit okO hf] at hWi
  have hBl := relBody_length s p hpl hsl
  rw [show wideB (kPay s) (p.drop 288) rsO = relBody s p from rfl, hBl] at hWi
  have hrB : Hid (relB s p = if relE s p = 0 ∧ (relC s p).kd ≠ 1 then relBody s p else []) := hid rfl
  have hrP := hid (fun h0 h1 => relP_open (s := s) hpl h0 h1)
  rw [show openC (p.take 288) s = relC s p from rfl, show openE (p.take 288) s = relE s p from rfl] at hO
  have e288 : cutA (some ⟨b0, q, none⟩) 288 d = some ⟨b0, q + 288, none⟩ := by rw [cutA, if_neg (by omega)]; rfl
  have hr := hid (fun w (h' : RdB w (some ⟨b0, q, none⟩) 768 p) => (⟨RdB.take h' (by omega), RdB.take h' (by omega), by
    have := rdB_cut h' 288 480 (by omega) (by omega)
    rwa [sub_tail p 288 480 hpl] at this⟩ : RdB w (some ⟨b0, q, none⟩) 32 (p.take 32) ∧ RdB w (some ⟨b0, q, none⟩) 288 (p.take 288) ∧ RdB w (some ⟨b0, q + 288, none⟩) 480 (p.drop 288)))
  have hks : Hid (subB s 64 32 = kPay s ∧ subB s 160 32 = kSec s) := hid ⟨rfl, rfl⟩
  have hz0 : re0.length = 22 := rfl
  have hb0 := built_re0
  have hb1 := hid built_re1
  have hzR : Tryz.zeroCells53.toList.length = 192 := by rw [zc192R, List.length_map, List.length_replicate]
  go_enter Tryz.func11, Tryz.ntmps11
  go_wp2_with fail
  (refine (hPe.out _ (hk.later C2.lat) (hr.out _ (hp.later C2.lat)).1).mono ?_); rintro e w3 ⟨rfl, l3⟩
  replace C2 := C2.later l3
  clear hPe l3
  have hz32 := built_z32
  have z32l : (List.replicate 32 (0 : UInt8)).length = 32 := List.length_replicate
  have hcz : Hid (relE s p ≠ 0 → relC s p = cmd0) := hid (fun h => by rw [relC, openC, if_neg (show ¬ openE (p.take 288) s = 0 from h)])
  generalize List.replicate 32 (0 : UInt8) = Z32 at *
  generalize relE s p = RE at *
  generalize relC s p = RC at *
  generalize relP s p = RP at *
  generalize relB s p = RB at *
  generalize relBody s p = BD at *
  generalize openL (p.take 288) s = OL at *
  generalize hPay : kPay s = ky at *
  generalize hSec : kSec s = ks at *
  clear hPay hSec
  by_cases hm : ME = 0
  · subst hm
    replace hE := hid (hE.out.trans (if_pos rfl))
    replace hC := hid (hC.out.trans (if_pos rfl))
    replace hPP := hid (hPP.out.trans (if_pos rfl))
    replace hB := hid (hB.out.trans (if_pos rfl))
    go_wp2_with (first
      | (refine store_SR rfl rfl _ _ rfl (Blk.new w3 _ Tryz.zeroCells53.toList) rfl rfl hsl hzR ?_; intro w4 hb4 ho4
         have C3 := C2.push (later_alloc _ _) (Nat.le_refl _) ho4 hb4)
      | fail)
    clear C2 hb4 ho4
    have C4 := C3.drew
    refine wp_region_makers [0, 1, 2] [([], 1, 3), ([4, 5, 6, 7], 2, 8)] [] [9, 10, 11] [8] (fun _ => (fun g => .pointer (some ⟨g, 0, none⟩), .cells cz0.toArray 28)) (by as_aux_lemma => kernel_rfl) (by as_aux_lemma => kernel_rfl) (by intro _ _ d _ _ h; cases d <;> exact h) (by intro _ _ d _ _ h; cases d <;> exact h) ?_
    simp only [pick, List.getElem?_cons_succ, List.getElem?_cons_zero, Option.toList_some, List.cons_append, List.nil_append]
    repeat (first | go_big_quiet_skip | (go_big_quiet_want; (refine quiet_Y 0 192 _ rfl (C4.nth 0 rfl) rfl Tryz.underlying53 rfl size192r (subB_all _ _ hsl) hsl ?_); simp only [Act.put, List.setIfInBounds_toArray, List.set_cons_succ, List.set_cons_zero]; go_big_quiet_on) | (go_big_quiet_step (fail)))
    refine wpQuiet_nil ?_
    refine ⟨?mk, ?_⟩
    case mk =>
      refine ⟨fun o ho => ?_, trivial⟩
      simp only [List.getElem?_cons_succ, List.getElem?_cons_zero, Option.some.injEq] at ho
      subst ho
      exact makes_cmd rfl rfl
    simp only [wpPartsM, pick, List.getElem?_cons_succ, List.getElem?_cons_zero, Option.toList_some, List.cons_append, List.nil_append]
    refine wpQuiet_nil ?_
    intro m1 j1
    go_wp2_with fail
    (refine (hO.out _ (hr.out _ (hp.later (C4.lat.trans j1))).2.1).mono ?_); rintro e m2 ⟨A10, c10, rfl, o10, j2⟩
    go_wp2_with fail
    try refine ⟨by first | assumption | exact later_drew _ | exact later_alloc _ _ | exact Later.refl _, ?_⟩
    try simp only [wpParts, pick, List.getElem?_cons_succ, List.getElem?_cons_zero, Option.toList_some, List.cons_append, List.nil_append]
    repeat (go_big_quiet_step (fail))
    refine wpQuiet_nil ?_
    intro m5 gq j5 hgq _ hbq
    refine wpQuiet_nil ?_
    intro m6 j6
    simp only [Option.bind_some, Act.put, List.setIfInBounds_toArray, List.set_cons_succ, List.set_cons_zero]
    have hB6 : Blk m6 gq 28 cz0 := Blk.later (show Blk m5 gq _ _ from hbq) j6
    have jj := j1.trans (j2.trans (j5.trans j6))
    have o11 := own_mono ((o10.later j5).later j6) (C4.lat.trans j1).size
    have hne10 := own_ne o11 hB6 (by decide)
    refine store_C rfl rfl _ _ rfl hB6 rfl rfl rfl ?_
    intro m7 hb7 ho7
    have C5 := C4.push jj (by have := hgq; simpa using this) ho7 hb7
    have o12 := own_only o11 ho7 (fun b hb e => hne10 (by rw [hb, e]))
    clear jj hB6 hgq ho7 hb7 hbq j1 j2 j5 j6 o10 o11 hne10 C4 C3 hO
    by_cases hr0 : RE = 0
    · subst hr0
      replace hrB : Hid (RB = if RC.kd ≠ 1 then BD else []) := hid (by rw [hrB.out]; simp)
      replace hQ : Hid (UQ = if RC.kd = 1 then RP else []) := hid (by rw [hQ.out, hE.out, hC.out, hPP.out]; simp)
      replace hS : Hid (US = ks) := hid (by rw [hS.out, if_pos hE.out])
      clear hcz hPP
      go_wp2_with fail
      have C6 := C5.drew
      have o13 := own_later o12 (later_drew m7)
      clear C5 o12
      refine wp_region_parts [([0, 1, 2, 3, 4], 5)] [6, 7, 8, 9, 10] [] (by as_aux_lemma => kernel_rfl) (by as_aux_lemma => kernel_rfl) (by intro _ _ d _ _ h; cases d <;> exact h) ?_
      simp only [wpParts, pick, List.getElem?_cons_succ, List.getElem?_cons_zero, Option.toList_some, List.cons_append, List.nil_append]
      repeat (go_big_quiet_step (fail))
      refine wpQuiet_nil ?_
      go_wp2_with fail
      (refine (hWi.out _ _ _ _ (rdB_sub (C6.nth 1 rfl) hks.out.1 k2) (hr.out _ (hp.later C6.lat)).2.2 (by omega)).mono ?_); rintro e w8 ⟨l8, A11, c11, rfl, o14⟩
      go_wp2_with fail
      try refine ⟨by first | assumption | exact later_drew _ | exact later_alloc _ _ | exact Later.refl _, ?_⟩
      try simp only [wpParts, pick, List.getElem?_cons_succ, List.getElem?_cons_zero, Option.toList_some, List.cons_append, List.nil_append]
      repeat (go_big_quiet_step (fail))
      refine wpQuiet_nil ?_
      have C7 := C6.later l8
      have o15 := own_later (own_later o13 l8) (later_alloc w8 (.cells re0.toArray 30))
      have o16 := own_later (own_mono o14 C6.lat.size) (later_alloc w8 (.cells re0.toArray 30))
      have n15 := own_ne o15 (Blk.new w8 30 re0) (by decide)
      have n16 := own_ne o16 (Blk.new w8 30 re0) (by decide)
      clear o13 o14 l8 C6 hWi
      cases hk : (RC.kd == 1)
      · have hkn : RC.kd ≠ 1 := by simpa using hk
        replace hrB := hid (hB.out.trans (hrB.out.trans (if_pos hkn)))
        replace hQ := hid (hQ.out.trans (if_neg hkn))
        have hcl : (Value.slice A11 480 c11).oneCell' = true := rfl
        go_wp2_with (first
          | (refine load_C rfl _ rfl (C7.nth 0 rfl) rfl ?_)
          | (refine wpList_build_w rfl 30 _ rfl (RCc RC nil8 nil8) (by simp only [List.map_toArray, List.map_cons, List.map_nil]; exact hb1.out RC) ?_)
          | (refine store_RC rfl rfl _ _ rfl (Blk.new w8 _ re0) rfl rfl rfl rfl hz0 ?_; intro w9 hb9 ho9
             have C8 := C7.push (later_alloc _ _) (Nat.le_refl _) ho9 hb9
             have hc0 := (cmd_at (C8.nth 1 rfl)).1
             have o18 := own_only o16 ho9 (fun b hb e => n16 (by rw [hb, e])))
          | (refine wpList_store_in rfl rfl _ _ _ rfl w8.heap.size 21 _ _ (C8.nth 0 rfl) rfl (by rw [RCc_length]; omega) rfl (by kernel_rfl) ?_; intro v11 w11 hv11 hb11 ho11; simp [go_sem] at hv11; subst hv11; rw [RCc_setB] at hb11
             have n18 := own_ne o18 (C8.nth 0 rfl) (by decide)
             have C10 := C8.write 0 rfl ho11 hb11
             have o20 := own_only o18 ho11 (fun b hb e => n18 (by rw [hb, e])))
          | fail)
        clear C7 C8 o15 o16 o18 n15 n16 n18 hb9 ho9 hb11 ho11 hc0
        have nA := C10.ne 0 4 rfl rfl (by decide)
        have nB := C10.ne 0 3 rfl rfl (by decide)
        have nC := C10.ne 2 4 rfl rfl (by decide)
        have nD := C10.ne 2 3 rfl rfl (by decide)
        have C11 := C10.drew
        refine wp_region_partsS (Spared w11 [w.heap.size, w.heap.size + 1]) [([0, 1, 2], 3), ([], 4)] [5] (by as_aux_lemma => kernel_rfl) (by as_aux_lemma => kernel_rfl) (by intro _ _ d _ _ h; cases d <;> exact h) ⟨Spared.refl _ _, ?_⟩
        simp only [wpPartsS, pick, List.getElem?_cons_succ, List.getElem?_cons_zero, Option.toList_some, List.cons_append, List.nil_append]
        repeat (first | go_big_quiet_skip | (go_big_quiet_want; (first | refine quiet_late _ _ rfl 0 (RCc RC nil8 (.slice A11 480 c11)) (C10.nth 0 rfl) (by intro b hb; simp only [List.mem_cons, List.not_mem_nil, or_false] at hb; rcases hb with rfl | rfl <;> first | exact nA | exact nB) rfl (all_cells _) _ Tryz.underlying30 rfl (by rw [RCc_length]; exact size22) ?_ | refine quiet_late _ _ rfl 160 (ks.map W8) (C10.nth 2 rfl) (by intro b hb; simp only [List.mem_cons, List.not_mem_nil, or_false] at hb; rcases hb with rfl | rfl <;> first | exact nC | exact nD) rfl (sub_cells hks.out.2) _ Tryz.underlying31 rfl (by rw [List.length_map, k5]; exact size32c) ?_); simp only [Act.put, List.setIfInBounds_toArray, List.set_cons_succ, List.set_cons_zero]; go_big_quiet_on) | (go_big_quiet_step (fail)) | (go_big_quiet_want; go_big_quiet_op; refine ⟨_, fun _ _ => rfl, ?_⟩; go_big_quiet_on))
        refine wpQuiet_nil ?_
        go_wp2_with (first
          | (refine store_RC rfl rfl _ _ rfl (C11.nth 4 rfl) rfl rfl rfl rfl hz0 ?_; intro w12 hb12 ho12
             have C12 := C11.write 4 rfl ho12 hb12)
          | fail)
        have S12 := (Spared.refl w11 [w.heap.size, w.heap.size + 1]).only ho12 (by simp)
        refine ⟨S12, ?_⟩
        try simp only [wpPartsS, pick, List.getElem?_cons_succ, List.getElem?_cons_zero, Option.toList_some, List.cons_append, List.nil_append]
        repeat (first | (go_big_quiet_step (fail)) | (go_big_quiet_want; go_big_quiet_op; refine ⟨_, fun _ _ => rfl, ?_⟩; go_big_quiet_on))
        refine wpQuiet_nil ?_
        go_wp2_with (first
          | (refine store_B rfl rfl _ _ rfl (C12.nth 3 rfl) rfl rfl k5 rfl ?_; intro w13 hb13 ho13
             have C13 := C12.write 3 rfl ho13 hb13)
          | fail)
        refine ⟨S12.only ho13 (by simp), ?_⟩
        try simp only [wpPartsS, pick, List.getElem?_cons_succ, List.getElem?_cons_zero, Option.toList_some, List.cons_append, List.nil_append]
        repeat (first | (go_big_quiet_step (fail)) | (go_big_quiet_want; go_big_quiet_op; refine ⟨_, fun _ _ => rfl, ?_⟩; go_big_quiet_on))
        refine wpQuiet_nil ?_
        go_wp2_with fail
        have n20 := own_ne (own_later o20 (later_drew w11)) (C11.nth 4 rfl) (by decide)
        have o21 := own_only (own_later o20 (later_drew w11)) ho12 (fun b hb e => n20 (by rw [hb, e]))
        have n21 := own_ne o21 (C12.nth 3 rfl) (by decide)
        have o22 := own_only o21 ho13 (fun b hb e => n21 (by rw [hb, e]))
        refine bodyPost_ret (results_cct rfl _ _ _ _ _ _ _ _ _ _ (C13.nth 4 rfl) rfl Tryz.underlying30 rfl (by rw [RCc_length]; exact size22) (C13.nth 3 rfl) rfl Tryz.underlying31 rfl (by rw [List.length_map, k5]; exact size32b)) rfl ⟨none, 0, A11, c11, by rw [hrB.out, hQ.out, hS.out, hE.out, hC.out, hBl]; rfl, ?_, ?_, C13.lat⟩
        · rw [hQ.out]
          exact own_nil _ _ _
        · rw [hrB.out, hBl]
          exact o22
      · have hky : RC.kd = 1 := by simpa using hk
        have hOL := (hrP.out (by trivial) hky).2
        have hRP := (hrP.out (by trivial) hky).1
        have hRl : RP.length = 768 := by rw [hRP, List.length_append]; omega
        replace hrB := hid (hB.out.trans (hrB.out.trans (if_neg (by simp [hky]))))
        replace hQ := hid (hQ.out.trans ((if_pos hky).trans hRP))
        have hRPl : (OL ++ BD).length = 768 := by rw [← hRP]; exact hRl
        clear hRP hRl hrP
        generalize OL.length = nO at *
        subst hOL
        go_wp2_with (first
          | (refine load_C rfl _ rfl (C7.nth 0 rfl) rfl ?_)
          | (refine wpList_build_w rfl 30 _ rfl (RCc RC nil8 nil8) (by simp only [List.map_toArray, List.map_cons, List.map_nil]; exact hb1.out RC) ?_)
          | (refine store_RC rfl rfl _ _ rfl (Blk.new w8 _ re0) rfl rfl rfl rfl hz0 ?_; intro w9 hb9 ho9
             have C8 := C7.push (later_alloc _ _) (Nat.le_refl _) ho9 hb9
             have hc0 := (cmd_at (C8.nth 1 rfl)).1
             have o17 := own_only o15 ho9 (fun b hb e => n15 (by rw [hb, e]))
             have o18 := own_only o16 ho9 (fun b hb e => n16 (by rw [hb, e])))
          | (refine wpList_append_rd rfl _ _ _ rfl 5 _ 1 Tryz.underlying22 info8 rfl w _ 288 _ o17 C8.lat A11 480 c11 _ (own_rd o18) (w8_one _) rfl rfl (by omega) (by omega) ?_; intro A12 c12 w10 hown10 hl10 hg10 _
             have C9 := C8.grownRow o17 (types_ne (by simp)) hg10 hl10)
          | (refine wpList_store_in rfl rfl _ _ _ rfl w8.heap.size 20 _ _ (C9.nth 0 rfl) rfl (by rw [RCc_length]; omega) rfl (by kernel_rfl) ?_; intro v11 w11 hv11 hb11 ho11; simp [go_sem] at hv11; subst hv11; rw [RCc_setP] at hb11
             have n18 := own_ne hown10 (C9.nth 0 rfl) (by decide)
             have C10 := C9.write 0 rfl ho11 hb11
             have o20 := own_only hown10 ho11 (fun b hb e => n18 (by rw [hb, e])))
          | fail)
        clear C7 C8 C9 o15 o16 o17 o18 n15 n16 n18 hb9 ho9 hb11 ho11 hc0 hown10 hl10 hg10
        have nA := C10.ne 0 4 rfl rfl (by decide)
        have nB := C10.ne 0 3 rfl rfl (by decide)
        have nC := C10.ne 2 4 rfl rfl (by decide)
        have nD := C10.ne 2 3 rfl rfl (by decide)
        have C11 := C10.drew
        refine wp_region_partsS (Spared w11 [w.heap.size, w.heap.size + 1]) [([0, 1, 2], 3), ([], 4)] [5] (by as_aux_lemma => kernel_rfl) (by as_aux_lemma => kernel_rfl) (by intro _ _ d _ _ h; cases d <;> exact h) ⟨Spared.refl _ _, ?_⟩
        simp only [wpPartsS, pick, List.getElem?_cons_succ, List.getElem?_cons_zero, Option.toList_some, List.cons_append, List.nil_append]
        repeat (first | go_big_quiet_skip | (go_big_quiet_want; (first | refine quiet_late _ _ rfl 0 (RCc RC (.slice A12 768 c12) nil8) (C10.nth 0 rfl) (by intro b hb; simp only [List.mem_cons, List.not_mem_nil, or_false] at hb; rcases hb with rfl | rfl <;> first | exact nA | exact nB) rfl (all_cells _) _ Tryz.underlying30 rfl (by rw [RCc_length]; exact size22) ?_ | refine quiet_late _ _ rfl 160 (ks.map W8) (C10.nth 2 rfl) (by intro b hb; simp only [List.mem_cons, List.not_mem_nil, or_false] at hb; rcases hb with rfl | rfl <;> first | exact nC | exact nD) rfl (sub_cells hks.out.2) _ Tryz.underlying31 rfl (by rw [List.length_map, k5]; exact size32c) ?_); simp only [Act.put, List.setIfInBounds_toArray, List.set_cons_succ, List.set_cons_zero]; go_big_quiet_on) | (go_big_quiet_step (fail)) | (go_big_quiet_want; go_big_quiet_op; refine ⟨_, fun _ _ => rfl, ?_⟩; go_big_quiet_on))
        refine wpQuiet_nil ?_
        go_wp2_with (first
          | (refine store_RC rfl rfl _ _ rfl (C11.nth 4 rfl) rfl rfl rfl rfl hz0 ?_; intro w12 hb12 ho12
             have C12 := C11.write 4 rfl ho12 hb12)
          | fail)
        have S12 := (Spared.refl w11 [w.heap.size, w.heap.size + 1]).only ho12 (by simp)
        refine ⟨S12, ?_⟩
        try simp only [wpPartsS, pick, List.getElem?_cons_succ, List.getElem?_cons_zero, Option.toList_some, List.cons_append, List.nil_append]
        repeat (first | (go_big_quiet_step (fail)) | (go_big_quiet_want; go_big_quiet_op; refine ⟨_, fun _ _ => rfl, ?_⟩; go_big_quiet_on))
        refine wpQuiet_nil ?_
        go_wp2_with (first
          | (refine store_B rfl rfl _ _ rfl (C12.nth 3 rfl) rfl rfl k5 rfl ?_; intro w13 hb13 ho13
             have C13 := C12.write 3 rfl ho13 hb13)
          | fail)
        refine ⟨S12.only ho13 (by simp), ?_⟩
        try simp only [wpPartsS, pick, List.getElem?_cons_succ, List.getElem?_cons_zero, Option.toList_some, List.cons_append, List.nil_append]
        repeat (first | (go_big_quiet_step (fail)) | (go_big_quiet_want; go_big_quiet_op; refine ⟨_, fun _ _ => rfl, ?_⟩; go_big_quiet_on))
        refine wpQuiet_nil ?_
        go_wp2_with fail
        have n20 := own_ne (own_later o20 (later_drew w11)) (C11.nth 4 rfl) (by decide)
        have o21 := own_only (own_later o20 (later_drew w11)) ho12 (fun b hb e => n20 (by rw [hb, e]))
        have n21 := own_ne o21 (C12.nth 3 rfl) (by decide)
        have o22 := own_only o21 ho13 (fun b hb e => n21 (by rw [hb, e]))
        refine bodyPost_ret (results_cct rfl _ _ _ _ _ _ _ _ _ _ (C13.nth 4 rfl) rfl Tryz.underlying30 rfl (by rw [RCc_length]; exact size22) (C13.nth 3 rfl) rfl Tryz.underlying31 rfl (by rw [List.length_map, k5]; exact size32b)) rfl ⟨A12, c12, none, 0, by rw [hrB.out, hQ.out, hS.out, hE.out, hC.out, hRPl]; rfl, ?_, ?_, C13.lat⟩
        · rw [hQ.out, hRPl]
          exact own_glue o22
        · rw [hrB.out]
          exact own_nil _ _ _
    · have hne : ((RE : Int) != 0) = true := by simp; omega
      have HC := hcz.out hr0
      subst HC
      have HB : UB = [] := by rw [hB.out, hrB.out, if_neg (fun h => hr0 h.1)]
      have HQ : UQ = [] := by rw [hQ.out, if_neg (fun h => hr0 (by rw [← hE.out]; exact h.1))]
      have HS : US = Z32 := by rw [hS.out, if_neg (by rw [hE.out]; exact hr0)]
      replace HB := hid HB
      replace HQ := hid HQ
      replace HS := hid HS
      clear hB hrB hQ hS
      go_wp2_with (first
        | (refine wpList_build_w rfl 30 _ rfl (RCc cmd0 nil8 nil8) (by simp only [List.map_toArray, List.map_nil]; exact hb0) ?_)
        | (refine wpList_build_w rfl 31 _ rfl (Z32.map W8) (by simp only [List.map_toArray, List.map_nil]; exact hz32) ?_)
        | (refine store_RC rfl rfl _ _ rfl (C5.nth 3 rfl) rfl rfl rfl rfl hz0 ?_; intro w8 hb8 ho8
           have C6 := C5.write 3 rfl ho8 hb8)
        | (refine store_B rfl rfl _ _ rfl (C6.nth 2 rfl) rfl rfl z32l rfl ?_; intro w9 hb9 ho9
           have C7 := C6.write 2 rfl ho9 hb9)
        | fail)
      refine bodyPost_ret (results_cct rfl _ _ _ _ _ _ _ _ _ _ (C7.nth 3 rfl) rfl Tryz.underlying30 rfl (by rw [RCc_length]; exact size22) (C7.nth 2 rfl) rfl Tryz.underlying31 rfl (by rw [List.length_map, z32l]; exact size32b)) rfl ⟨none, 0, none, 0, by rw [HB.out, HQ.out, HS.out, hE.out, hC.out]; rfl, ?_, ?_, C7.lat⟩
      · rw [HQ.out]
        exact own_nil _ _ _
      · rw [HB.out]
        exact own_nil _ _ _
  · have hne : ((ME : Int) != 0) = true := by simp; omega
    replace hE := hid (hE.out.trans (if_neg hm))
    replace hC := hid (hC.out.trans (if_neg hm))
    replace hB := hid (hB.out.trans (if_neg hm))
    have HQ : UQ = [] := by rw [hQ.out, if_neg (fun h => hm (by rw [← hE.out]; exact h.1))]
    have HS : US = Z32 := by rw [hS.out, if_neg (by rw [hE.out]; exact hm)]
    replace HQ := hid HQ
    replace HS := hid HS
    go_wp2_with (first
      | (refine store_SR rfl rfl _ _ rfl (Blk.new w3 _ Tryz.zeroCells53.toList) rfl rfl hsl hzR ?_; intro w4 hb4 ho4
         have C5 := C2.push (later_alloc _ _) (Nat.le_refl _) ho4 hb4)
      | (refine wpList_build_w rfl 30 _ rfl (RCc cmd0 nil8 nil8) (by simp only [List.map_toArray, List.map_nil]; exact hb0) ?_)
      | (refine wpList_build_w rfl 31 _ rfl (Z32.map W8) (by simp only [List.map_toArray, List.map_nil]; exact hz32) ?_)
      | (refine store_RC rfl rfl _ _ rfl (C5.nth 2 rfl) rfl rfl rfl rfl hz0 ?_; intro w8 hb8 ho8
         have C6 := C5.write 2 rfl ho8 hb8)
      | (refine store_B rfl rfl _ _ rfl (C6.nth 1 rfl) rfl rfl z32l rfl ?_; intro w9 hb9 ho9
         have C7 := C6.write 1 rfl ho9 hb9)
      | fail)
    refine bodyPost_ret (results_cct rfl _ _ _ _ _ _ _ _ _ _ (C7.nth 2 rfl) rfl Tryz.underlying30 rfl (by rw [RCc_length]; exact size22) (C7.nth 1 rfl) rfl Tryz.underlying31 rfl (by rw [List.length_map, z32l]; exact size32b)) rfl ⟨none, 0, none, 0, by rw [hB.out, HQ.out, HS.out, hE.out, hC.out]; rfl, ?_, ?_, C7.lat⟩
    · rw [HQ.out]
      exact own_nil _ _ _
    · rw [hB.out]
      exact own_nil _ _ _
end Go.Proofs.YtdojjnbpidogfaaGreat

