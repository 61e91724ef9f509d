/-
  The law DirKeeps: its walk.
-/
import Derived.Test.YtkibgdigcgakfaaDirH
import Derived.Test.YtkibgdigcgakfaaBagApart
import Derived.Test.YtkibgdigcgakfaaCanP
import Derived.Test.YtkibgdigcgakfaaBagMore
namespace Go.Proofs.Ytkibgdigcgakfaa
open Go.RowKit
open Go.BigFrame

section
variable {P : Program}
theorem run_build2K {t e : TypeId} {sz : Nat} {z v1 v2 : Value} {vs1 vs2 : List Value} (ht : P.underlying t = some (.slice e)) (hz : (P.info? e).map (fun i => (i.zero, i.size)) = some (some z, sz)) (hs0 : 0 < sz) (hsm : 2 * sz ≤ 65536) (hv1 : v1.cells = vs1.toArray) (hl1 : vs1.length = sz) (hv2 : v2.cells = vs2.toArray) (hl2 : vs2.length = sz) (w : World) :
    (Instr.buildSlice t 2 #[(0, v1), (1, v2)]).run P w = .ok (.slice (some ⟨w.heap.size, 0, none⟩) 2 2) (w.alloc (.cells (vs1 ++ vs2).toArray e)) := by
  cases hi : P.info? e with
  | none => simp [hi] at hz
  | some i =>
    simp only [hi, Option.map_some, Option.some.injEq, Prod.mk.injEq] at hz
    obtain ⟨h1, h2⟩ := hz
    have hso : (sizeOf e).run P w = .ok sz w := by simp [sizeOf, typeInfo, hi, h2]
    have hzv : (zeroValue e).run P w = .ok z w := by simp [zeroValue, typeInfo, hi, h1]
    have hl : ((Array.range (2 * sz)).map fun x => z.cells[x % z.cells.size]!) = ((Array.range (2 * sz)).map fun x => z.cells[x % z.cells.size]!).toList.toArray := rfl
    have hll : ((Array.range (2 * sz)).map fun x => z.cells[x % z.cells.size]!).toList.length = 2 * sz := by simp
    have hf : Instr.fill (fun i => some (i * sz, sz)) ((Array.range (2 * sz)).map fun x => z.cells[x % z.cells.size]!) [(0, v1), (1, v2)] = some (vs1 ++ vs2).toArray := by
      rw [hl]
      generalize ((Array.range (2 * sz)).map fun x => z.cells[x % z.cells.size]!).toList = zs at hll ⊢
      rw [fill_cons (vs := vs1) (off := 0) hv1 (by rw [hl1, Nat.zero_mul]) (by rw [hll]; omega), fill_cons (vs := vs2) (off := sz) hv2 (by rw [hl2, Nat.one_mul]) (by rw [spliced_length _ _ _ (by rw [hll]; omega), hll]; omega), fill_nil]
      congr 2
      rw [spliced, spliced, List.take_zero, List.nil_append, Nat.zero_add, List.take_left' hl1, List.drop_eq_nil_of_le (by rw [List.length_append, List.length_drop, hll]; omega), List.append_nil]
    unfold Instr.buildSlice
    simp only [Sem.run_bind, run_underlying ht, Result.andThen_ok, hso]
    rw [if_neg (by omega), if_neg (by omega)]
    simp only [Sem.run_bind, hzv, Result.andThen_ok, Sem.run_pure, hf]
    simp [newRow]
end
section
variable {P : Program} {ops : Array Oper} {rest : List Oper} {o : Oper} {a : Act} {w : World} {Q : Exit → Act → World → Prop}
theorem build_twoC (hw : Region.wanted o (yielded ops a.tmps) = true) (t : TypeId) (x y : Operand) (ho : o.op = .buildSlice t 2 #[(0, x), (1, y)]) (e : TypeId) (sz : Nat) (z : Value) (vs us : List Value) (ht : P.underlying t = some (.slice e)) (hz : (P.info? e).map (fun i => (i.zero, i.size)) = some (some z, sz)) (hs0 : 0 < sz) (hsm : 2 * sz ≤ 65536)
    (hbl : vs.length = sz) (hul : us.length = sz) (hx : a.eval x = .agg vs.toArray) (hy : a.eval y = .agg us.toArray)
    (h : wpList P ops Q rest (a.put o.dst (.slice (some ⟨w.heap.size, 0, none⟩) 2 2)) (w.alloc (.cells (vs ++ us).toArray e))) : wpList P ops Q (o :: rest) a w :=
  BigFrame.wpList_want hw fun K hK => by
    have hr := run_build2K (v1 := .agg vs.toArray) (v2 := .agg us.toArray) ht hz hs0 hsm rfl hbl rfl hul w
    unfold Oper.wp
    simp only [execOp, ho, List.map_toArray, List.map_cons, List.map_nil, hx, hy, Sem.run_bind, hr, Result.andThen_ok, Sem.run_pure]
    exact hK _ _ h
end
section
variable {P : Program} {ops : Array Oper} {rest : List Oper} {o : Oper} {a : Act} {w : World} {Q : Exit → Act → World → Prop}
/-- 'append(s, x...)' under a guard. -/
theorem wpList_append_w (hw : Region.wanted o (yielded ops a.tmps) = true) (s x : Operand) (t : TypeId) (ho : o.op = .call { callee := .builtin .append, args := #[s, x], argTypes := #[t, t] })
    (e : TypeId) (z : Value) (bytes : Nat) (ht : P.underlying t = some (.slice e)) (hinfo : (P.info? e).map (fun i => (i.zero, i.size, i.bytes)) = some (some z, 1, bytes)) (hzs : z.cells.size = 1)
    (w0 : World) (v : Value) (n : Nat) (vs : List Value) (hown : w.ownsRow w0.heap.size e 1 v n vs) (hl : Later w0 w)
    (g m c : Nat) (t2 : TypeId) (news : List Value) (hb : Blk w g t2 news) (hnl : news.length = m) (h1 : ∀ u ∈ news, u.oneCell' = true) (hs : a.eval s = v) (hx : a.eval x = .slice (some ⟨g, 0, none⟩) m c) (hsz : (n + m) * bytes ≤ 140737488355328) (hby : 0 < bytes)
    (h : ∀ A' c' w', w'.ownsRow w0.heap.size e 1 (.slice A' (n + m) c') (n + m) (vs ++ news) → Later w0 w' → w.grownBy w' v.ownBlock → wpList P ops Q rest (a.put o.dst (.slice A' (n + m) c')) w') :
    wpList P ops Q (o :: rest) a w := by
  obtain ⟨i, hi, hz, hsize, hbytes⟩ := info_parts hinfo
  have hnm : n + m ≤ 140737488355328 := Nat.le_trans (Nat.le_mul_of_pos_right _ hby) hsz
  have hmax : n + m ≤ maxLen := by unfold maxLen; omega
  have hcells : ∀ j u, news[j]? = some u → w.cell? ((⟨g, 0, none⟩ : Addr).add j) = some u := by
    intro j u hu
    rw [add_at, Nat.zero_add]
    exact hb.cellD j hu
  obtain ⟨v', w', hrun, h2, h3, _⟩ := run_append_own (P := P) w w0.heap.size t o.type e i z 1 bytes ht hi hz hsize hbytes hzs (by omega) v n vs hown ⟨g, 0, none⟩ m c news (by simpa using hnl) hcells h1 hmax hsz hl.size
  refine BigFrame.wpList_want hw fun K hK => ?_
  unfold Oper.wp execOp
  simp only [ho, resolve, invoke, builtin, Sem.run_bind, Sem.run_pure, Result.andThen_ok, List.map_toArray, List.map_cons, List.map_nil, hs, hx, hrun]
  obtain ⟨A', c', rfl⟩ := own_shape h2
  exact hK _ _ (h A' c' w' h2 (hl.grownBy h3 (fun k hk => (hown.lt k hk).1)) h3)
end
def bS : ByteArray := ⟨#[98]⟩
theorem zeroSt : (Try.prog.info? 46).bind (·.zero) = some (.agg (SC stp0).toArray) := by kernel_rfl
theorem infoSt2 : (Try.prog.info? 46).map (fun i => (i.zero, i.size)) = some (some (.agg (SC stp0).toArray), 3) := by kernel_rfl
theorem built_stp1 (s : ByteArray) : Try.prog.built 46 [(0, .string s)] = some (SC ⟨s, 0, 0⟩).toArray := by
  rw [built_struct (pl := [(0, 1), (1, 1), (2, 1)]) Try.underlying46 zeroSt (by kernel_rfl), fill_cons (vs := [.string s]) (off := 0) rfl rfl (by rw [SC_length]; simp), fill_nil]
  rfl
theorem a_b : makeE [aS, bS] = 0 := by
  rw [makeE]
  refine check_ok (by decide) (fun k hk => ?_) (fun k hk => ?_)
  · match k, hk with
    | 0, _ => decide
    | 1, _ => decide
  · match k, hk with
    | 0, _ => rfl
    | 1, _ =>
      refine range_false fun j hj => ?_
      obtain rfl : j = 0 := by omega
      rw [sameN, ByteArray.toList_eq, ByteArray.toList_eq]
      decide
def keepM (seed : List UInt8) : List Nod := makeL seed [aS, bS]
def keepT : List Stp := [⟨bS, 0, 0⟩, ⟨aS, 0, 0⟩]
theorem keepM_check (seed : List UInt8) : checkN (keepM seed) = 0 := by rw [keepM, check_made, a_b]
theorem keepM_b (seed : List UInt8) : findBy (byName bS) (keepM seed) = ((keepM seed).getD 1 nod0, 0) :=
  find_last (keepM_check seed) (by rw [keepM, makeL_length]; decide) (by rw [keepM, makeL_getD _ _ 1 (by decide), byName]; exact beq_self_eq_true _)
theorem keepM_a (seed : List UInt8) : findBy (byName aS) (keepM seed) = ((keepM seed).getD 0 nod0, 0) :=
  find_last (keepM_check seed) (by rw [keepM, makeL_length]; decide) (by rw [keepM, makeL_getD _ _ 0 (by decide), byName]; exact beq_self_eq_true _)
theorem keep_route (seed : List UInt8) : routeE (keepM seed) keepT = 0 := by
  refine route_ok (fun k hk => ?_) (by decide) (keepM_check seed) (fun k hk => ?_)
  · match k, hk with
    | 0, _ => rfl
    | 1, _ => rfl
  · match k, hk with
    | 0, _ =>
      show missN (keepM seed) ⟨bS, 0, 0⟩ = false
      rw [missN, keepM_b]
      rfl
    | 1, _ =>
      show missN (keepM seed) ⟨aS, 0, 0⟩ = false
      rw [missN, keepM_a]
      rfl
theorem routeL_getK (xs : List Nod) (ts : List Stp) (k : Nat) (h : k < ts.length) : (routeL xs ts).getD k hp0 = hopOf xs (ts.getD k stp0) := by
  rw [routeL, List.getD_eq_getElem?_getD, List.getElem?_map, List.getD_eq_getElem?_getD, List.getElem?_eq_getElem h]
  rfl
theorem keep_hop (seed : List UInt8) : ((routeL (keepM seed) keepT).getD 0 hp0).nod = (keepM seed).getD 1 nod0 := by
  rw [routeL_getK _ _ 0 (by decide)]
  show (hopOf (keepM seed) ⟨bS, 0, 0⟩).nod = _
  rw [hopOf, keepM_b]
theorem keep_nd {a b c d e f g h i : Nat} {ta tb tc td te tf tg th ti : TypeId} {la lb lc ld le lf lg lh li : List Value} (hn : (([(a, ta, la), (b, tb, lb), (c, tc, lc), (d, td, ld), (e, te, le), (f, tf, lf), (g, tg, lg), (h, th, lh), (i, ti, li)] : List (Nat × TypeId × List Value)).map (·.1)).Nodup) :
    [e, d, c, b, a, i].Nodup ∧ (∀ x ∈ [e, d, c, b, a, i], x ≠ g) ∧ (∀ x ∈ [e, d, c, b, a, i], x ≠ f) := by
  refine ⟨?_, ?_, ?_⟩
  · have h1 : [a, b, c, d, e, i].Nodup := List.Sublist.nodup (.cons_cons a (.cons_cons b (.cons_cons c (.cons_cons d (.cons_cons e (.cons f (.cons g (.cons h (List.Sublist.refl [i]))))))))) hn
    exact (((List.reverse_perm [a, b, c, d, e]).append_right [i]).nodup_iff).2 h1
  · simp only [List.map_cons, List.map_nil, List.nodup_cons, List.mem_cons, not_or, List.not_mem_nil, or_false, not_false_iff, List.nodup_nil, and_true] at hn
    intro x hx
    simp only [List.mem_cons, List.not_mem_nil, or_false] at hx
    rcases hx with rfl | rfl | rfl | rfl | rfl | rfl
    all_goals first | (simp only [ne_eq, hn, not_false_iff]; done) | (intro hh; simp [hh] at hn)
  · simp only [List.map_cons, List.map_nil, List.nodup_cons, List.mem_cons, not_or, List.not_mem_nil, or_false, not_false_iff, List.nodup_nil, and_true] at hn
    intro x hx
    simp only [List.mem_cons, List.not_mem_nil, or_false] at hx
    rcases hx with rfl | rfl | rfl | rfl | rfl | rfl
    all_goals first | (simp only [ne_eq, hn, not_false_iff]; done) | (intro hh; simp [hh] at hn)
theorem keep_hv {a b c d e f g h i M : Nat} {ta tb tc td te tf tg th ti : TypeId} {la lb lc ld le lf lg lh li : List Value} (ha : la.length = 32) (hb : lb.length = 32) (hc : lc.length = 32) (hd : ld.length = 32) (he : le.length = 32) (hi : li.length = M) (hM : M ≤ 1099511627776) :
    ∀ v ∈ [e, d].map S32 ++ [c, b, a].map S32 ++ [Value.slice (some ⟨i, 0, none⟩) M M], v = .slice none 0 0 ∨ ∃ p ∈ ([(a, ta, la), (b, tb, lb), (c, tc, lc), (d, td, ld), (e, te, le), (f, tf, lf), (g, tg, lg), (h, th, lh), (i, ti, li)] : List (Nat × TypeId × List Value)), ∃ m c, v = .slice (some ⟨p.1, 0, none⟩) m c ∧ m ≤ c ∧ c ≤ p.2.2.length ∧ m ≤ 1099511627776 := by
  intro v hv
  simp only [List.map_cons, List.map_nil, List.cons_append, List.nil_append, List.mem_cons, List.not_mem_nil, or_false] at hv
  rcases hv with rfl | rfl | rfl | rfl | rfl | rfl
  · exact .inr ⟨_, List.mem_of_getElem? (i := 4) rfl, _, _, rfl, Nat.le_refl _, by simp [he], by omega⟩
  · exact .inr ⟨_, List.mem_of_getElem? (i := 3) rfl, _, _, rfl, Nat.le_refl _, by simp [hd], by omega⟩
  · exact .inr ⟨_, List.mem_of_getElem? (i := 2) rfl, _, _, rfl, Nat.le_refl _, by simp [hc], by omega⟩
  · exact .inr ⟨_, List.mem_of_getElem? (i := 1) rfl, _, _, rfl, Nat.le_refl _, by simp [hb], by omega⟩
  · exact .inr ⟨_, List.mem_of_getElem? (i := 0) rfl, _, _, rfl, Nat.le_refl _, by simp [ha], by omega⟩
  · exact .inr ⟨_, List.mem_of_getElem? (i := 8) rfl, _, _, rfl, Nat.le_refl _, by simp [hi], by omega⟩
theorem keep_own {a b c d e i M x : Nat} (h : ∀ y ∈ [e, d, c, b, a, i], y ≠ x) : ∀ v ∈ [e, d].map S32 ++ [c, b, a].map S32 ++ [Value.slice (some ⟨i, 0, none⟩) M M], v.ownBlock ≠ some x := by
  intro v hv
  simp only [List.map_cons, List.map_nil, List.cons_append, List.nil_append, List.mem_cons, List.not_mem_nil, or_false] at hv
  simp only [List.mem_cons, List.not_mem_nil, or_false, forall_eq_or_imp, forall_eq] at h
  rcases hv with rfl | rfl | rfl | rfl | rfl | rfl <;> simp only [S32, Value.ownBlock, ne_eq, Option.some.injEq] <;> omega
theorem at_aK {P : Program} {ops : Array Oper} {rest : List Oper} {o : Oper} {a : Act} {w : World} {Q : Exit → Act → World → Prop} {t : TypeId} {s x : Operand} (_ho : o.op = .call { callee := .builtin .append, args := #[s, x], argTypes := #[t, t] }) (h : wpList P ops Q (o :: rest) a w) : wpList P ops Q (o :: rest) a w := h
theorem quiet_eqN {C : World → Prop} {a : Act} {o : Oper} {K : Act → Prop} {t : TypeId} (x y : Operand) (ho : o.op = .binOp .eql 50 x y t) (n : Nod) (hx : a.eval x = .agg (NC n).toArray) (hy : a.eval y = .agg (NC n).toArray) (h : K (a.put o.dst (.bool true))) : o.quiet Try.prog a C K :=
  ⟨.bool true, fun w hw => by
    unfold Oper.quietAt execOp
    simp only [ho, hx, hy, Sem.run_bind, eqGuard_nod, Result.andThen_ok, run_eql_nod, eqNod_self]
    exact ⟨rfl, rfl⟩, h⟩
set_option maxRecDepth 100000 in
set_option maxHeartbeats 16000000 in
theorem dirKeeps_walk (A B : Option Addr) (n c m d : Nat) (xs : List Nod) (bs : List UInt8) (w : World) (hx : RdN w A n xs) (hn : n ≤ 1048576) (hs : ∀ x ∈ xs, x.nm.size ≤ 1048576) (hb : RdB w B m bs) (hm : m ≤ 1048576) :
    Calls Try.prog 4 #[.slice A n c, .slice B m d] w fun e w' => e = .returned (.bool true) ∧ Later w w' := by
  have hs' : ∀ x ∈ xs, x.nm.size ≤ 140737488355328 := fun x h => Nat.le_trans (hs x h) (by omega)
  have hl0 := hx.1
  have hbl := hb.len
  have hM := hid (fun A c B w h1 hc h2 => dmake_any A B m c 2 2 bs [aS, bS] w h1 hc (by omega) h2 (by omega) (by decide))
  rw [a_b] at hM
  have hmk := hid (keep_hop bs)
  have hms2 : (keepM bs).length = 2 := by rw [keepM, makeL_length]; rfl
  have hzs2 : (routeL (keepM bs) keepT).length = 2 := rfl
  have hnmm : ∀ x ∈ keepM bs, x.nm.size ≤ 140737488355328 := made_names (by decide)
  have hR := hid (fun A B w h1 h2 => droute_any A B 2 2 2 2 (keepM bs) keepT w h1 (by omega) hnmm h2 (by omega))
  rw [keep_route] at hR
  have hMk : makeL bs [aS, bS] = keepM bs := rfl
  rw [hMk] at hM
  clear hMk hnmm
  generalize routeL (keepM bs) keepT = zs at *
  generalize keepM bs = ms at *
  have hSp := hid (fun (w : World) h => spare_any B m d bs w h (by omega))
  rw [spareB_map] at hSp
  go_enter Try.func4, Try.ntmps4
  go_wp2_with fail
  refine (awake09 _).mono ?_
  rintro e w1 ⟨rfl, L⟩
  go_wp2_with fail
  refine (ntwin_any A n c xs _ (hx.later L) (by omega)).mono ?_
  rintro e w2 ⟨A2, c2, rfl, o2, l2⟩
  have r2 : RdN w2 A2 n xs := own_rdF NC_length o2 hl0
  replace L := L.trans l2
  clear o2 l2
  go_wp2_with fail
  (with_reducible refine (hSp.out _ (hb.later L)).mono ?_); rintro e w3 ⟨rfl, hb3, j3⟩
  have B1 := (Bag.none w).fresh (L.trans j3) L.size hb3
  replace r2 := r2.later j3
  clear L j3 hb3 hSp
  generalize w2.heap.size = gs at *
  go_wp2_with fail
  have B2 := B1.later (later_alloc w3 (.cells #[.string ⟨#[97]⟩, .string ⟨#[98]⟩] 9))
  have hst : Strs (w3.alloc (.cells #[.string ⟨#[97]⟩, .string ⟨#[98]⟩] 9)) (some ⟨w3.heap.size, 0, none⟩) 2 [aS, bS] := (Blk.new w3 9 [.string ⟨#[97]⟩, .string ⟨#[98]⟩]).rd rfl
  refine (hM.out (some ⟨gs, 0, none⟩) (m + 40) _ _ (blk_head (B2.nth 0 rfl) hbl) (by omega) hst).mono ?_
  rintro e w4 ⟨v4, rfl, _, hok4, l4⟩
  obtain ⟨gm, rfl, hgm, hN⟩ := hok4 (by trivial)
  have B3 := B2.fresh l4 hgm hN
  replace r2 := (r2.later (later_alloc w3 _)).later l4
  clear B1 B2 hst hM hok4 hgm hN l4
  go_wp2_with (first
    | (refine wpList_build_w rfl _ _ rfl (SC ⟨bS, 0, 0⟩) (by simp only [List.map_toArray, List.map_cons, List.map_nil]; exact built_stp1 bS) ?_)
    | (refine wpList_build_w rfl _ _ rfl (SC ⟨aS, 0, 0⟩) (by simp only [List.map_toArray, List.map_cons, List.map_nil]; exact built_stp1 aS) ?_)
    | (refine build_twoC rfl 76 _ _ rfl 46 3 _ (SC ⟨bS, 0, 0⟩) (SC ⟨aS, 0, 0⟩) Try.underlying76 infoSt2 (by omega) (by omega) rfl rfl rfl rfl ?_)
    | fail)
  have hts : RdS (w4.alloc (.cells (SC ⟨bS, 0, 0⟩ ++ SC ⟨aS, 0, 0⟩).toArray 46)) (some ⟨w4.heap.size, 0, none⟩) 2 keepT := blk_rdF SC_length (by rw [keepT, List.flatMap_cons, List.flatMap_cons, List.flatMap_nil, List.append_nil]; exact Blk.new w4 _ _) rfl
  have B4 := B3.later (later_alloc w4 (.cells (SC ⟨bS, 0, 0⟩ ++ SC ⟨aS, 0, 0⟩).toArray 46))
  refine (hR.out (some ⟨gm, 0, none⟩) _ _ (blk_rdF NC_length (B4.nth 0 rfl) hms2) hts).mono ?_
  rintro e w5 ⟨v5, rfl, _, hok5, l5⟩
  obtain ⟨gh, rfl, hgh, hH⟩ := hok5 (by trivial)
  have B5 := B4.fresh l5 hgh hH
  replace r2 := (r2.later (later_alloc w4 _)).later l5
  clear B3 B4 hts hR hok5 hgh hH l5
  go_wp2_with fail
  refine (dcheck_any A2 n _ xs _ r2 (by omega) hs').mono ?_
  rintro e w6 ⟨rfl, l6⟩
  have B6 := B5.later l6
  replace r2 := r2.later l6
  clear B5 l6
  go_wp2_with fail
  refine (dfind_any A2 n _ xs ⟨#[97]⟩ _ r2 (by omega) hs').mono ?_
  rintro e w7 ⟨rfl, l7⟩
  have B7 := B6.later l7
  replace r2 := r2.later l7
  clear B6 l7
  go_wp2_with fail
  refine (same_ok A2 A n _ c xs _ r2 (hx.later B7.lat) (by omega)).mono ?_
  rintro e w8 ⟨rfl, l8⟩
  have B8 := B7.later l8
  clear B7 l8 r2
  go_wp2_with fail
  (with_reducible refine (kept_true _ B m _ d bs w8 (spare_all (B8.nth 2 rfl) hbl) (hb.later B8.lat) (by omega)).mono ?_); rintro e w9 ⟨rfl, l9⟩
  have B9 := B8.later l9
  clear B8 l9
  have hm1 : ∀ w, Blk w gm 50 (ms.flatMap NC) → ∀ i v, (NC (ms.getD 1 nod0))[i]? = some v → w.cell? ⟨gm, 66 + i, none⟩ = some v := fun w h i v hv => h.cellD _ (flatF_get NC_length nod0 ms 1 (by omega) hv)
  have hh0 : ∀ w, Blk w gh 60 (zs.flatMap HC) → ∀ i v, (HC (zs.getD 0 hp0))[i]? = some v → w.cell? ⟨gh, 0 + i, none⟩ = some v := fun w h i v hv => h.cellD _ (by have := flatF_get HC_length hp0 zs 0 (by omega) hv; rwa [Nat.zero_mul] at this)
  have hh1 : ∀ w, Blk w gh 60 (zs.flatMap HC) → ∀ i v, (HC (zs.getD 1 hp0))[i]? = some v → w.cell? ⟨gh, 68 + i, none⟩ = some v := fun w h i v hv => h.cellD _ (flatF_get HC_length hp0 zs 1 (by omega) hv)
  have hM1 := hid hm1
  have hH0 := hid (fun w h i v (hv : (NC (zs.getD 0 hp0).nod)[i]? = some v) => hh0 w h i v (HC_nod _ hv))
  have hH1 := hid (fun w h i v (hv : (NC (zs.getD 1 hp0).nod)[i]? = some v) => hh1 w h i v (HC_nod _ hv))
  clear hm1 hh0 hh1
  have hzd := hid (dpublics_any (some ⟨gh, 0, none⟩) 2 2 zs)
  have hze : (zs.getD 0 hp0).nod = ms.getD 1 nod0 := hmk.out
  rw [hze] at hH0
  generalize ms.getD 1 nod0 = y at *
  generalize (zs.getD 1 hp0).nod = y1 at *
  have hself := eqNod_self y
  go_wp2_with (first
    | (refine load_nod rfl _ rfl (hM1.out _ (B9.nth 1 rfl)) rfl ?_)
    | (refine store_nod size66 rfl rfl _ _ rfl (Blk.new w9 _ (NC nod0)) rfl rfl (NC_length _) ?_; intro w10 hb10 ho10)
    | fail)
  have B10 := B9.push (later_alloc w9 _) (Nat.le_refl _) ho10 hb10
  clear B9 ho10 hb10
  generalize w9.heap.size = gw at *
  have B11 := B10.drew
  clear B10
  refine wp_region_parts [([0, 2, 3, 4, 5, 7, 8, 9, 10, 12, 13, 14, 15], 1), ([], 6), ([], 11), ([], 16), ([], 17)] [] [18, 19] (by as_aux_lemma => kernel_rfl) (by as_aux_lemma => kernel_rfl) (by intro _ _ d _ _ h; cases d <;> exact h) ?_
  simp only [wpParts, pick, List.getElem?_cons_succ, List.getElem?_cons_zero, Option.toList_some, List.cons_append, List.nil_append]
  repeat (first | go_big_quiet_skip | (go_big_quiet_want; (first | refine quiet_dnode _ rfl (hH0.out _ (B11.nth 1 rfl)) (B11.nth 1 rfl).lt rfl ?_ | refine quiet_dnode _ rfl (hH1.out _ (B11.nth 1 rfl)) (B11.nth 1 rfl).lt rfl ?_); simp only [Act.put, List.setIfInBounds_toArray, List.set_cons_succ, List.set_cons_zero]; go_big_quiet_on) | (go_big_quiet_step (fail)))
  refine wpQuiet_nil ?_
  go_wp2_with fail
  refine (hzd.out _ (blk_rdF HC_length (B11.nth 1 rfl) hzs2) (by omega)).mono ?_
  rintro e w11 ⟨gp, gl, rfl, hgp, hbp, hgl, hgs, hpw, l11⟩
  obtain ⟨b0, b1, rfl⟩ : ∃ b0 b1, gl = [b0, b1] := by
    match gl, hgl with
    | [a, b], _ => exact ⟨a, b, rfl⟩
  obtain ⟨hb0, hB0⟩ := hgs 0 b0 rfl
  obtain ⟨hb1, hB1⟩ := hgs 1 b1 rfl
  have hb01 : b0 < b1 := by simpa using hpw
  have B12 := (B11.fresh l11 (by omega) hB0).add (Later.refl _) (fun p hp => by
    rcases List.mem_cons.1 hp with rfl | hp
    · show b1 ≠ b0
      omega
    · have := (B11.blk p hp).lt
      omega) (by have := B11.lat.size; omega) hB1
  have hrow := own_blk' hbp (show w.heap.size ≤ gp from Nat.le_trans B11.lat.size hgp) (n := 2) rfl (by omega)
  clear hgs hpw hgl hB0 hB1 hbp
  go_wp2_with fail
  try refine ⟨by first | assumption | exact later_drew _ | exact later_alloc _ _ | exact Later.refl _, ?_⟩
  try simp only [wpParts, pick, List.getElem?_cons_succ, List.getElem?_cons_zero, Option.toList_some, List.cons_append, List.nil_append]
  repeat (go_big_quiet_step (fail))
  refine wpQuiet_nil ?_
  go_wp2_with fail
  refine (nodePublic_any y _).mono ?_
  rintro e w12 ⟨g6, rfl, hg6, hp6, l12⟩
  have B13 := B12.fresh l12 hg6 hp6
  replace hrow := own_later hrow l12
  clear hg6 hp6 B12
  go_wp2_with fail
  try refine ⟨by first | assumption | exact later_drew _ | exact later_alloc _ _ | exact Later.refl _, ?_⟩
  try simp only [wpParts, pick, List.getElem?_cons_succ, List.getElem?_cons_zero, Option.toList_some, List.cons_append, List.nil_append]
  repeat (go_big_quiet_step (fail))
  refine wpQuiet_nil ?_
  go_wp2_with fail
  refine (nodePublic_any y _).mono ?_
  rintro e w13 ⟨g7, rfl, hg7, hp7, l13⟩
  have B14 := B13.fresh l13 hg7 hp7
  replace hrow := own_later hrow l13
  clear hg7 hp7 B13
  go_wp2_with fail
  try refine ⟨by first | assumption | exact later_drew _ | exact later_alloc _ _ | exact Later.refl _, ?_⟩
  try simp only [wpParts, pick, List.getElem?_cons_succ, List.getElem?_cons_zero, Option.toList_some, List.cons_append, List.nil_append]
  repeat (go_big_quiet_step (fail))
  refine wpQuiet_nil ?_
  go_wp2_with fail
  refine (nodePrivate_any y1 _).mono ?_
  rintro e w14 ⟨g8, rfl, hg8, hp8, l14⟩
  have B15 := B14.fresh l14 hg8 hp8
  replace hrow := own_later hrow l14
  clear hg8 hp8 B14
  go_wp2_with fail
  try refine ⟨by first | assumption | exact later_drew _ | exact later_alloc _ _ | exact Later.refl _, ?_⟩
  try simp only [wpParts, pick, List.getElem?_cons_succ, List.getElem?_cons_zero, Option.toList_some, List.cons_append, List.nil_append]
  repeat (go_big_quiet_step (fail))
  refine wpQuiet_nil ?_
  go_wp2_with fail
  try refine ⟨by first | assumption | exact later_drew _ | exact later_alloc _ _ | exact Later.refl _, ?_⟩
  try simp only [wpParts, pick, List.getElem?_cons_succ, List.getElem?_cons_zero, Option.toList_some, List.cons_append, List.nil_append]
  repeat (go_big_quiet_step (fail))
  refine wpQuiet_nil ?_
  have B16 := B15.later (later_alloc w14 (.cells #[.slice (some ⟨g6, 0, none⟩) 32 32, .slice (some ⟨g7, 0, none⟩) 32 32, .slice (some ⟨g8, 0, none⟩) 32 32] 31))
  replace hrow := own_later hrow (later_alloc w14 (.cells #[.slice (some ⟨g6, 0, none⟩) 32 32, .slice (some ⟨g7, 0, none⟩) 32 32, .slice (some ⟨g8, 0, none⟩) 32 32] 31))
  have hT : ∀ (a b c d e f g h i : List Value), ∀ p ∈ [(g8, 5, a), (g7, 5, b), (g6, 5, c), (b1, 5, d), (b0, 5, e), (gw, 50, f), (gh, 60, g), (gm, 50, h), (gs, 5, i)], p.2.1 ≠ (31 : TypeId) := by
    intro a b c d e f g h i p hp
    simp only [List.mem_cons, List.not_mem_nil, or_false] at hp
    rcases hp with rfl | rfl | rfl | rfl | rfl | rfl | rfl | rfl | rfl <;> first | exact (by decide : (5 : TypeId) ≠ 31) | exact (by decide : (50 : TypeId) ≠ 31) | exact (by decide : (60 : TypeId) ≠ 31)
  have hS1 : ∀ l : List Nat, ∀ u ∈ l.map S32, u.oneCell' = true := by
    intro l u hu
    obtain ⟨b, _, rfl⟩ := List.mem_map.1 hu
    rfl
  go_wp2_with (first
    | (refine wpList_append_rd rfl _ _ _ rfl 31 _ 24 Try.underlying57 infoB rfl w _ 2 ([b0, b1].map S32) hrow B16.lat _ 3 3 ([g6, g7, g8].map S32) ((Blk.new w14 31 ([g6, g7, g8].map S32)).rd rfl) (hS1 _) rfl rfl (by omega) (by omega) ?_; intro A17 c17 w17 hown17 hl17 hg17 _
       have B17 := B16.grownRow hrow (hT _ _ _ _ _ _ _ _ _) hg17 hl17)
    | (refine wpList_build_w rfl _ _ rfl (NC nod0) (by simp only [List.map_toArray, List.map_nil]; exact built_nod0) ?_)
    | (refine wpList_store_agg rfl rfl 50 _ _ rfl gm 66 50 (ms.flatMap NC) (NC nod0) (B17.nth 7 rfl) rfl rfl (by rw [NC_length]; exact size66) ?hf (NC_one _) ?_; (case hf => rw [flatF_length NC_length, hms2, NC_length]; omega); intro w18 hb18 ho18
       have B18 := B17.write 7 rfl ho18 hb18
       have hown18 := own_only hown17 ho18 (fun b hb e => own_ne hown17 (B17.nth 7 rfl) (by decide : (50 : TypeId) ≠ 31) (by rw [hb, e])))
    | fail)
  have hbh0 : Blk w18.drew gh 60 (zs.flatMap HC) := (B18.nth 6 rfl).drew
  have hbw0 : Blk w18.drew gw 50 (NC y) := (B18.nth 5 rfl).drew
  have hc6 := hH0.out _ hbh0
  have hc5 := blk_cells hbw0
  have hlh := hbh0.lt
  have hlw := hbw0.lt
  clear B15 B16 B17 hown17 hrow
  refine wp_region_partsU [([0, 1, 2, 3, 4, 5, 6, 7, 8, 9, 10, 11, 12, 13, 14], 15), ([], 16), ([], 17)] [18, 19, 20, 21, 22, 23, 24, 25, 26, 27, 28] [16, 17] (by as_aux_lemma => kernel_rfl) (by as_aux_lemma => kernel_rfl) (by intro _ _ d _ _ h; cases d <;> exact h) ?_
  simp only [wpPartsU, pick, List.getElem?_cons_succ, List.getElem?_cons_zero, Option.toList_some, List.cons_append, List.nil_append]
  repeat (first | go_big_quiet_skip | (go_big_quiet_want; (first | refine quiet_nod _ rfl hc6 hlh rfl ?_ | refine quiet_nod _ rfl hc5 hlw rfl ?_ | refine quiet_eqN _ _ rfl y rfl rfl ?_); simp only [Act.put, List.setIfInBounds_toArray, List.set_cons_succ, List.set_cons_zero]; go_big_quiet_on) | (go_big_quiet_step (fail)))
  refine wpQuiet_nil ?_
  go_wp2_with fail
  try refine ⟨fun _ => by first | assumption | exact later_drew _ | exact later_alloc _ _ | exact Later.refl _, ?_⟩
  try simp only [wpPartsU, pick, List.getElem?_cons_succ, List.getElem?_cons_zero, Option.toList_some, List.cons_append, List.nil_append]
  repeat (go_big_quiet_step (fail))
  refine wpQuiet_nil ?_
  have B20 := (B18.later (later_alloc w18 (.cells #[.slice (some ⟨gs, 0, none⟩) (m + 40) (m + 40)] 31))).drew
  have hown20 := own_later (own_later hown18 (later_alloc w18 (.cells #[.slice (some ⟨gs, 0, none⟩) (m + 40) (m + 40)] 31))) (later_drew _)
  have hS2 : ∀ u ∈ [Value.slice (some ⟨gs, 0, none⟩) (m + 40) (m + 40)], u.oneCell' = true := by
    intro u hu
    obtain rfl := List.mem_singleton.1 hu
    rfl
  go_wp2_with (first
    | (refine at_aK rfl ?_; refine wpList_append_w rfl _ _ _ rfl 31 _ 24 Try.underlying57 infoB rfl w _ 5 _ hown20 B20.lat w18.heap.size 1 1 31 [.slice (some ⟨gs, 0, none⟩) (m + 40) (m + 40)] (Blk.new w18 31 [.slice (some ⟨gs, 0, none⟩) (m + 40) (m + 40)]).drew rfl hS2 rfl rfl (by omega) (by omega) ?_; intro A21 c21 w21 hown21 hl21 hg21
       have B21 := B20.grownRow hown20 (hT _ _ _ _ _ _ _ _ _) hg21 hl21)
    | fail)
  refine ⟨fun h => absurd h (by decide), ?_⟩
  try simp only [wpPartsU, pick, List.getElem?_cons_succ, List.getElem?_cons_zero, Option.toList_some, List.cons_append, List.nil_append]
  repeat (go_big_quiet_step (fail))
  refine wpQuiet_nil ?_
  go_wp2_with fail
  simp only [List.set_cons_succ, List.set_cons_zero] at B21
  obtain ⟨nd1, nd2, nd3⟩ := keep_nd B21.nd
  (with_reducible refine (apart_bag B21 (hT _ _ _ _ _ _ _ _ _) hown21 (keep_hv (by rw [List.length_map, y1.priv.2]) (by rw [List.length_map, y.pub.2]) (by rw [List.length_map, y.pub.2]) (by rw [List.length_map, (zs.getD 1 hp0).nod.pub.2]) (by rw [List.length_map, (zs.getD 0 hp0).nod.pub.2]) (by rw [List.length_append, List.length_map, spareR_length]; omega) (by omega)) ?hd (by omega)).mono ?_)
  case hd => exact nd1
  rintro e w22 ⟨rfl, hl22, hk22⟩
  have hbh : Blk w22 gh 60 (zs.flatMap HC) := (hk22 gh (B21.nth 6 rfl).lt (keep_own nd2)).trans (B21.nth 6 rfl)
  have hbw : Blk w22 gw 50 (NC y) := (hk22 gw (B21.nth 5 rfl).lt (keep_own nd3)).trans (B21.nth 5 rfl)
  clear hk22 hown21 B21 nd1 nd2 nd3
  go_wp2_with fail
  refine ⟨fun h => absurd h (by decide), ?_⟩
  try simp only [wpPartsU, pick, List.getElem?_cons_succ, List.getElem?_cons_zero, Option.toList_some, List.cons_append, List.nil_append]
  repeat (first | go_big_quiet_skip | (go_big_quiet_want; (first | refine quiet_nod _ rfl (hH0.out _ hbh) hbh.lt rfl ?_ | refine quiet_nod _ rfl (blk_cells hbw) hbw.lt rfl ?_ | refine quiet_eqN _ _ rfl y rfl rfl ?_); simp only [Act.put, List.setIfInBounds_toArray, List.set_cons_succ, List.set_cons_zero]; go_big_quiet_on) | (go_big_quiet_step (fail)))
  refine wpQuiet_nil ?_
  go_wp2_with fail
  go_ret
  exact ⟨rfl, hl22⟩
end Go.Proofs.Ytkibgdigcgakfaa
