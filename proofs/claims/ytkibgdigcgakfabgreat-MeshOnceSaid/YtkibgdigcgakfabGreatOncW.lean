/-
  MeshOnce: its walk.
-/
import Derived.Test.YtkibgdigcgakfabGreatSpl
import Derived.Test.YtkibgdigcgakfabGreatMshN
import Derived.Test.YtkibgdigcgakfabGreatMshX
import Derived.Test.YtkibgdigcgakfabGreatWideP
namespace Go.Proofs.YtkibgdigcgakfabGreat
open Go.RowKit
open Go.BigFrame

theorem own_mono2 {w : World} {base base' sz : Nat} {e : TypeId} {v : Value} {n : Nat} {vs : List Value} (h : w.ownsRow base e sz v n vs) (hb : base' ≤ base) : w.ownsRow base' e sz v n vs := by
  refine ⟨h.1, h.2.imp id ?_⟩
  rintro ⟨g, cap, cur, h1, h2, h3⟩
  exact ⟨g, cap, cur, h1, Nat.le_trans hb h2, h3⟩
theorem rd_intM {w : World} {A : Option Addr} {n : Nat} {os : List Int} (h : Rd w A n (os.map intV)) {k : Nat} (hk : k < os.length) : ∃ b o, A = some ⟨b, o, none⟩ ∧ b < w.heap.size ∧ w.cell? ⟨b, o + k, none⟩ = some (.int .i64 (os.getD k 0)) := by
  have hl := h.1
  rw [List.length_map] at hl
  obtain ⟨b, o, h1, h2, h3⟩ := h.2 (by omega)
  exact ⟨b, o, h1, h2, h3 k _ (by rw [List.getElem?_map, List.getD_eq_getElem?_getD, List.getElem?_eq_getElem hk]; rfl)⟩
theorem row_atM (Qs : List Pv) (rest : List Value) {j : Nat} (hj : j < Qs.length) : ∀ i v, (PvC (Qs.getD j pvz))[i]? = some v → (Qs.flatMap PvC ++ rest)[j * 5 + i]? = some v := by
  intro i v hv
  have h := flatF_get PvC_length pvz Qs j hj hv
  rw [List.getElem?_append_left (List.getElem?_eq_some_iff.1 h).1]
  exact h
theorem quiet_ix {P : Program} {C : World → Prop} {a : Act} {o : Oper} {K : Act → Prop} {t : TypeId} (x i : Operand) (ho : o.op = .indexAddr t x i) (v : Value) (hv : ∀ w, (Instr.indexAt t (a.eval x) (a.eval i)).run P w = .ok v w)
    (h : K (a.put o.dst v)) : o.quiet P a C K :=
  ⟨v, fun w hw => by
    unfold Oper.quietAt execOp
    simp only [ho, Sem.run_bind, hv w, Result.andThen_ok]
    exact ⟨rfl, rfl⟩, h⟩
theorem quiet_lateM {P : Program} {o : Oper} {a : Act} {J : Act → Prop} (ty : TypeId) (x : Operand) (ho : o.op = .load ty x) {w0 : World} {bad : List Nat} {g : Nat} {t : TypeId} {l : List Value} (off : Nat) (vs : List Value) (hb : Blk w0 g t l) (hn : ∀ b ∈ bad, g ≠ b) (hx : a.eval x = .pointer (some ⟨g, off, none⟩))
    (hv : ∀ j v, vs[j]? = some v → l[off + j]? = some v) (d : TypeDesc) (hu : P.underlying ty = some d) (hd : aggDesc d = true) (hi : (P.info? ty).map (·.size) = some vs.length) (h : J (a.put o.dst (.agg vs.toArray))) : o.quiet P a (Spared w0 bad) J :=
  quiet_load_agg _ x ho g off vs (fun _ hw j v hv' => Blk.cellD (hw.blk hb hn) _ (hv j v hv')) hx d hu hd hi h
theorem quiet_mv {P : Program} {C : World → Prop} {a : Act} {o : Oper} {K : Act → Prop} (x : Operand) (v : Value) (ho : o.op = .move x) (hv : a.eval x = v) (h : K (a.put o.dst v)) : o.quiet P a C K :=
  quiet_move x ho (hv ▸ h)
/-- The parts that there are: all of them, and nothing else. -/
structure OncQ (SP : List Prt) (Qs : List Pv) : Prop where
  sub : ∀ q ∈ Qs, q.p ∈ SP
  all : ∀ p ∈ SP, ∃ q ∈ Qs, q.p = p
theorem OncQ.swap {SP : List Prt} {Qs : List Pv} (h : OncQ SP Qs) {r : Nat} (hr : r < Qs.length) : OncQ SP ((Qs.set 0 (Qs.getD r pvz)).set r (Qs.getD 0 pvz)) ∧ ∀ q ∈ (Qs.set 0 (Qs.getD r pvz)).set r (Qs.getD 0 pvz), q ∈ Qs := by
  have g : ∀ i, i < Qs.length → Qs.getD i pvz ∈ Qs := fun i hi => by
    rw [List.getD_eq_getElem?_getD, List.getElem?_eq_getElem hi]
    exact List.getElem_mem _
  have hm : ∀ q ∈ (Qs.set 0 (Qs.getD r pvz)).set r (Qs.getD 0 pvz), q ∈ Qs := by
    intro q hq
    rcases List.mem_or_eq_of_mem_set hq with hq | rfl
    · rcases List.mem_or_eq_of_mem_set hq with hq | rfl
      · exact hq
      · exact g r hr
    · exact g 0 (by omega)
  refine ⟨⟨fun q hq => h.sub q (hm q hq), fun p hp => ?_⟩, hm⟩
  obtain ⟨q, hq, rfl⟩ := h.all p hp
  obtain ⟨i, hi, hiq⟩ := List.getElem_of_mem hq
  by_cases h0 : i = r
  · refine ⟨q, ?_, rfl⟩
    subst h0
    have e : Qs.getD i pvz = q := by rw [List.getD_eq_getElem?_getD, List.getElem?_eq_getElem hi, hiq]; rfl
    by_cases h1 : i = 0
    · subst h1
      exact List.mem_of_getElem? (i := 0) (by rw [List.getElem?_set_self (by simpa using hi), e])
    · exact List.mem_of_getElem? (i := 0) (by rw [List.getElem?_set_ne h1, List.getElem?_set_self (by omega), e])
  · by_cases h1 : i = 0
    · subst h1
      have e : Qs.getD 0 pvz = q := by rw [List.getD_eq_getElem?_getD, List.getElem?_eq_getElem hi, hiq]; rfl
      exact ⟨q, List.mem_of_getElem? (i := r) (by rw [List.getElem?_set_self (by simpa using hr), e]), rfl⟩
    · exact ⟨q, List.mem_of_getElem? (i := i) (by rw [List.getElem?_set_ne (fun e => h0 e.symm), List.getElem?_set_ne (fun e => h1 e.symm), List.getElem?_eq_getElem hi, hiq]), rfl⟩
theorem OncQ.more {SP : List Prt} {Qs : List Pv} (h : OncQ SP Qs) {q : Pv} (hq : q ∈ Qs) : OncQ SP (Qs ++ [q]) :=
  ⟨fun x hx => by
    rcases List.mem_append.1 hx with hx | hx
    · exact h.sub x hx
    · obtain rfl := List.mem_singleton.1 hx
      exact h.sub _ hq, fun p hp => by
    obtain ⟨x, hx, e⟩ := h.all p hp
    exact ⟨x, List.mem_append_left _ hx, e⟩⟩
def onA (Qs : List Pv) (k : Nat) : List Arr := (List.range k).map fun i => ⟨(Qs.getD i pvz).p, 2, 4, i, zero16⟩
theorem onA_succ (Qs : List Pv) (k : Nat) : onA Qs (k + 1) = onA Qs k ++ [⟨(Qs.getD k pvz).p, 2, 4, k, zero16⟩] := by
  simp [onA, List.range_succ]
theorem onA_get (Qs : List Pv) (i : Nat) (p : Prt) (h : (Qs.map Pv.p)[i]? = some p) : (onA Qs Qs.length)[i]? = some ⟨p, 2, 4, i, zero16⟩ := by
  rw [List.getElem?_map] at h
  have hi : i < Qs.length := by
    rcases Nat.lt_or_ge i Qs.length with h1 | h1
    · exact h1
    · rw [List.getElem?_eq_none h1] at h
      cases h
  rw [List.getElem?_eq_getElem hi] at h
  obtain rfl : (Qs[i]'hi).p = p := by simpa using h
  have e : Qs.getD i pvz = Qs[i]'hi := by rw [List.getD_eq_getElem?_getD, List.getElem?_eq_getElem hi]; rfl
  rw [onA, List.getElem?_map, List.getElem?_range hi, Option.map_some, e]
theorem built_on (p : Prt) (A : Option Addr) (n c : Nat) (k : Int) : Tryz.prog.built 36 [(0, .agg (PaC p (.slice A n c)).toArray), (1, .int .u8 2), (2, .int .u64 4), (3, .int .i64 k)] = some (ArC ⟨⟨p, 2, 4, k, zero16⟩, A, n, c⟩).toArray := by kernel_rfl
section
variable {P : Program} {ops : Array Oper} {rest : List Oper} {o : Oper} {a : Act} {w : World} {Q : Exit → Act → World → Prop} {t : TypeId}
/-! What stands next is such an operation (ahead of a dear arm). -/
theorem at_b {p : Array (Nat × Operand)} (_ho : o.op = .build t p) (h : wpList P ops Q (o :: rest) a w) : wpList P ops Q (o :: rest) a w := h
theorem at_s {p : Array (Nat × Operand)} (_ho : o.op = .buildSlice t 1 p) (h : wpList P ops Q (o :: rest) a w) : wpList P ops Q (o :: rest) a w := h
theorem at_a {s x : Operand} (_ho : o.op = .call { callee := .builtin .append, args := #[s, x], argTypes := #[t, t] }) (h : wpList P ops Q (o :: rest) a w) : wpList P ops Q (o :: rest) a w := h
theorem at_l {x : Operand} (_ho : o.op = .load t x) (h : wpList P ops Q (o :: rest) a w) : wpList P ops Q (o :: rest) a w := h
theorem at_st {x y : Operand} (_ho : o.op = .store t x y) (h : wpList P ops Q (o :: rest) a w) : wpList P ops Q (o :: rest) a w := h
end
set_option maxRecDepth 100000 in
set_option maxHeartbeats 8000000 in
theorem meshOnce_walk (id : UInt64) (A B : Option Addr) (n0 c m d : Nat) (bs0 : List UInt8) (os : List Int) (w : World) (hb0 : RdB w A n0 bs0) (hnc0 : n0 ≤ c) (ho : Rd w B m (os.map intV)) (hm : m ≤ 9223372036854775807) :
    Calls Tryz.prog 3 #[W64 id, .slice A n0 c, .slice B m d] w fun e w' => e = .returned (.bool true) ∧ Later w w' := by
  have hol : os.length = m := by have := ho.1; rwa [List.length_map] at this
  obtain ⟨n, bs, hB, hn7, hnc, hb⟩ : ∃ (n : Nat) (bs : List UInt8), ((decide ((7200 : Int) < (n0 : Int)) = false ∧ n = n0) ∨ (decide ((7200 : Int) < (n0 : Int)) = true ∧ ∀ W, (Instr.sliceAt 23 (.slice A n0 c) none (some (.int .i64 7200)) none).run Tryz.prog W = .ok (.slice A n c) W)) ∧ n ≤ 7200 ∧ n ≤ c ∧ RdB w A n bs := by
    by_cases h : n0 ≤ 7200
    · exact ⟨n0, bs0, .inl ⟨decide_eq_false (by omega), rfl⟩, h, hnc0, hb0⟩
    · refine ⟨7200, bs0.take 7200, .inr ⟨decide_eq_true (by omega), fun W => ?_⟩, by omega, by omega, hb0.take (by omega)⟩
      have g3 : (7200 : Nat) ≤ c := by omega
      simp [go_sem]
      intro h'
      omega
  have hbl := hb.len
  have hSp := hid (fun A2 c2 w h hc => fsplit_any id A2 n c2 bs w h hn7 hc)
  have hO := hid (fun (Qs : List Pv) h1 h2 => once_plain (id := id) (msg := bs) (by omega) h1 h2 (onA_get Qs))
  have hc16 := cntOf_le hn7
  have hSl := splitP_len id bs
  rw [hbl] at hSl
  have hbo := hid built_on
  clear hb0 hnc0
  generalize splitP id bs = SP at *
  generalize cntOf n = N0 at *
  rcases hB with ⟨hdec, rfl⟩ | ⟨hdec, hcut⟩
  all_goals
    go_enter Tryz.func3, Tryz.ntmps3
    go_wp2_with fail
    (with_reducible refine (awake17 _).mono ?_); rintro e w1 ⟨rfl, j1⟩
    go_wp2_with fail
    refine (copy_any A n c bs w1 (hb.later j1) (by omega)).mono ?_
    rintro e w2 ⟨A2, c2, rfl, own2, j2⟩
    go_wp2_with fail
    refine (hSp.out A2 c2 w2 own2.rd own2.cap).mono ?_
    rintro e w3 ⟨g, Ps, rfl, hPs, hown, hPo, j3⟩
    have hN0 : ((N0 : Int) == 0) = false := beq_eq_false_iff_ne.2 (by omega)
    have hPl : Ps.length = N0 := by rw [← hSl, ← hPs, List.length_map]
    have hQ0 : OncQ SP Ps := ⟨fun q hq => by rw [← hPs]; exact List.mem_map.2 ⟨q, hq, rfl⟩, fun p hp => by rw [← hPs] at hp; exact List.mem_map.1 hp⟩
    have L3 : Later w w3 := (j1.trans j2).trans j3
    have own3 := own_mono2 hown (j1.trans j2).size
    have hPo3 : ∀ q ∈ Ps, OwnB w3 w.heap.size q.va q.vn q.vc q.p.da := fun q hq => own_mono (hPo q hq) (j1.trans j2).size
    clear hown hPo own2 hSp hPs hdec
    go_wp2_with fail
    go_loopw [7, 39] (fun v7 i wr => ∃ (k N : Nat) (Qs : List Pv) (g c' : Nat), k ≤ m ∧ i = .int .i64 k ∧ v7 = .slice (some ⟨g, 0, none⟩) N c' ∧ Qs.length = N ∧ 0 < N ∧ N ≤ 41 ∧ wr.ownsRow w.heap.size 32 5 (.slice (some ⟨g, 0, none⟩) N c') N (Qs.flatMap PvC) ∧ OncQ SP Qs ∧ (∀ q ∈ Qs, OwnB wr w.heap.size q.va q.vn q.vc q.p.da) ∧ Later w wr) (fun _ i _ => m - (intOf i).toNat)
    case atStart => exact ⟨0, N0, Ps, g, N0, by omega, rfl, rfl, hPl, by omega, by omega, own3, hQ0, hPo3, L3⟩
    case round =>
      clear own3 hQ0 hPo3 L3 hPl
      obtain ⟨k, N, Qs, g, c3, hk, rfl, rfl, hQl, hN1, hN41, hown, hQ, hQo, L⟩ := hrel
      by_cases hlt : k < m
      · obtain ⟨b0, o, rfl, hb00, hz⟩ := rd_intM (Rd.later ho L) (k := k) (by omega)
        generalize os.getD k 0 = z at *
        by_cases hz0 : z < 0
        · have fz : decide (z < 0) = true := decide_eq_true hz0
          go_wp2_with fail
          exact ⟨⟨k + 1, N, Qs, g, c3, by omega, by go_num, rfl, hQl, hN1, hN41, hown, hQ, hQo, L⟩, by simp [intOf]; omega⟩
        have fz : decide (z < 0) = false := decide_eq_false hz0
        by_cases h40 : 40 < N
        · have f40 : decide (40 < N) = true := decide_eq_true h40
          have f41 : decide ((40 : Int) < (N : Int)) = true := decide_eq_true (by omega)
          go_wp2_with fail
          exact ⟨⟨k + 1, N, Qs, g, c3, by omega, by go_num, rfl, hQl, hN1, hN41, hown, hQ, hQo, L⟩, by simp [intOf]; omega⟩
        have f40 : decide (40 < N) = false := decide_eq_false h40
        have f41 : decide ((40 : Int) < (N : Int)) = false := decide_eq_false (by omega)
        obtain ⟨zn, rfl⟩ : ∃ zn : Nat, z = (zn : Int) := ⟨z.toNat, by omega⟩
        have hN2 : (N : Int) ≠ 0 := by omega
        have hN40 : N ≤ 40 := by omega
        clear hz0 h40
        obtain ⟨r, hr⟩ : ∃ r, zn % N = r := ⟨_, rfl⟩
        have hri : (zn : Int) % (N : Int) = (r : Int) := by rw [← hr]; rfl
        have hrN : r < N := by rw [← hr]; exact Nat.mod_lt _ (by omega)
        clear hr
        have hqm : Qs.getD r pvz ∈ Qs := by
          rw [List.getD_eq_getElem?_getD, List.getElem?_eq_getElem (by omega)]
          exact List.getElem_mem _
        obtain ⟨g', rest, hgg, hgl, hB, hNc, hcm, hcl⟩ := own_blkG hown hN1
        obtain rfl : g = g' := by simpa using hgg
        have hat := row_atM Qs rest (j := r) (by omega)
        have hat0 := row_atM Qs rest (j := 0) (by omega)
        by_cases h3 : k % 3 = 2
        · have f3 : ((k : Int) % 3 == 2) = true := beq_iff_eq.2 (by omega)
          clear h3
          have hqo := hQo _ hqm
          have hmore := hQ.more hqm
          generalize Qs.getD r pvz = q at *
          go_wp2_with (first
            | (refine wpList_load_at ?hw _ _ rfl g (r * 5) (PvC q) (fun j v hv => hB.cellD _ (hat j v hv)) rfl _ Tryz.underlying32 rfl size5p ?_; (case hw => rfl))
            | (refine build_oneC ?hw 26 _ rfl 32 5 _ (PvC q) Tryz.underlying26 infoPs2 (by omega) (by omega) rfl rfl ?_; (case hw => rfl))
            | (refine wpList_append_f (F := PvC) (d := pvz) PvC_length PvC_one (by omega) rfl _ _ _ rfl 32 _ 56 Tryz.underlying26 infoPs rfl w _ _ _ (own_laterF hown (later_alloc _ _)) (L.trans (later_alloc _ _)) (some ⟨wr.heap.size, 0, none⟩) 1 1 [q] (blk_rdF PvC_length (show Blk (wr.alloc (.cells (PvC q).toArray 32)) wr.heap.size 32 ([q].flatMap PvC) by simp only [List.flatMap_cons, List.flatMap_nil, List.append_nil]; exact Blk.new wr _ _) rfl) rfl rfl (by omega) (by omega) ?_; intro A8 c8 w8 hown8 hl8 hg8)
            | fail)
          have hr8 := own_laterF hown (later_alloc wr (.cells (PvC q).toArray 32))
          have hQo8 : ∀ q' ∈ Qs ++ [q], OwnB w8 w.heap.size q'.va q'.vn q'.vc q'.p.da := by
            intro q' hq'
            rcases List.mem_append.1 hq' with hq' | hq'
            · exact own_otherK (own_later (hQo q' hq') (later_alloc _ _)) hr8 (by decide) hg8
            · obtain rfl : q' = q := by simpa using hq'
              exact own_otherK (own_later hqo (later_alloc _ _)) hr8 (by decide) hg8
          obtain ⟨g8, _, rfl, _⟩ := own_blkG hown8 (by omega)
          exact ⟨⟨k + 1, N + 1, Qs ++ [q], g8, c8, by omega, by go_num, rfl, by simp [hQl], by omega, by omega, by simpa using hown8, hmore, hQo8, hl8⟩, by simp [intOf]; omega⟩
        · have f3 : ((k : Int) % 3 == 2) = false := beq_eq_false_iff_ne.2 (by omega)
          clear h3
          have hi1 : ∀ w, (Instr.indexAt 26 (.slice (some ⟨g, 0, none⟩) N c3) (.int .i64 r)).run Tryz.prog w = .ok (.pointer (some ⟨g, r * 5, none⟩)) w := by
            intro w
            simp [go_sem, hrN]
          have hi0 : ∀ w, (Instr.indexAt 26 (.slice (some ⟨g, 0, none⟩) N c3) (.int .i64 0)).run Tryz.prog w = .ok (.pointer (some ⟨g, 0 * 5, none⟩)) w := by
            intro w
            simp [go_sem, hN1]
          obtain ⟨hsw, hsm⟩ := hQ.swap (r := r) (by omega)
          go_wp2_with fail
          refine wp_region_late [0, 1, 2, 3, 4, 5, 6, 7, 8, 9, 10] [11, 12, 13] (fun i => if i = 6 ∨ i = 9 then [] else [11, 12, 13]) (fun _ => g) (by as_aux_lemma => kernel_rfl) (by as_aux_lemma => kernel_rfl) (by intro _ _ d _ _ h; cases d <;> exact h) ?_
          refine ⟨_, rfl, rfl, ?_⟩
          refine quiet_mv _ (.slice (some ⟨g, 0, none⟩) N c3) rfl rfl ?_
          simp only [Act.put, List.setIfInBounds_toArray, List.set_cons_succ, List.set_cons_zero]
          refine ⟨_, rfl, rfl, ?_⟩
          refine quiet_mv _ (.slice (some ⟨g, 0, none⟩) N c3) rfl rfl ?_
          simp only [Act.put, List.setIfInBounds_toArray, List.set_cons_succ, List.set_cons_zero]
          refine ⟨_, rfl, rfl, ?_⟩
          refine quiet_mv _ (.int .i64 r) rfl rfl ?_
          simp only [Act.put, List.setIfInBounds_toArray, List.set_cons_succ, List.set_cons_zero]
          refine ⟨_, rfl, rfl, ?_⟩
          refine quiet_mv _ (.slice (some ⟨g, 0, none⟩) N c3) rfl rfl ?_
          simp only [Act.put, List.setIfInBounds_toArray, List.set_cons_succ, List.set_cons_zero]
          refine ⟨_, rfl, rfl, ?_⟩
          refine quiet_mv _ (.int .i64 r) rfl rfl ?_
          simp only [Act.put, List.setIfInBounds_toArray, List.set_cons_succ, List.set_cons_zero]
          refine ⟨_, rfl, rfl, ?_⟩
          refine quiet_ix _ _ rfl _ hi1 ?_
          simp only [Act.put, List.setIfInBounds_toArray, List.set_cons_succ, List.set_cons_zero]
          refine ⟨_, rfl, rfl, ?_⟩
          refine quiet_lateM _ _ rfl (r * 5) (PvC (Qs.getD r pvz)) hB (by simp) rfl hat _ Tryz.underlying32 rfl size5p ?_
          simp only [Act.put, List.setIfInBounds_toArray, List.set_cons_succ, List.set_cons_zero]
          refine ⟨_, rfl, rfl, ?_⟩
          refine quiet_mv _ (.slice (some ⟨g, 0, none⟩) N c3) rfl rfl ?_
          simp only [Act.put, List.setIfInBounds_toArray, List.set_cons_succ, List.set_cons_zero]
          refine ⟨_, rfl, rfl, ?_⟩
          refine quiet_ix _ _ rfl _ hi0 ?_
          simp only [Act.put, List.setIfInBounds_toArray, List.set_cons_succ, List.set_cons_zero]
          refine ⟨_, rfl, rfl, ?_⟩
          refine quiet_lateM _ _ rfl (0 * 5) (PvC (Qs.getD 0 pvz)) hB (by simp) rfl hat0 _ Tryz.underlying32 rfl size5p ?_
          simp only [Act.put, List.setIfInBounds_toArray, List.set_cons_succ, List.set_cons_zero]
          refine ⟨_, rfl, rfl, ?_⟩
          refine quiet_ix _ _ rfl _ hi0 ?_
          simp only [Act.put, List.setIfInBounds_toArray, List.set_cons_succ, List.set_cons_zero]
          simp only [wpLate, wpTailR, pick, List.getElem?_cons_succ, List.getElem?_cons_zero, Option.toList_some, List.cons_append, List.nil_append]
          refine wpList_store_rowF PvC_length PvC_one pvz rfl rfl _ _ _ rfl (own_laterF hown (later_drew _)) hQl 0 hN1 (Qs.getD r pvz) rfl rfl size5p ?_
          intro v1 own1 ho1
          refine ⟨ho1, ?_⟩
          go_wp2_with fail
          refine ⟨World.grownBy.refl _ _, ?_⟩
          refine wpList_store_rowF PvC_length PvC_one pvz rfl rfl _ _ _ rfl own1 (by rw [List.length_set]; exact hQl) r hrN (Qs.getD 0 pvz) rfl rfl size5p ?_
          intro v2 own4 ho2
          refine ⟨ho2, ?_⟩
          go_wp2_with fail
          have hgt : ∀ q ∈ (Qs.set 0 (Qs.getD r pvz)).set r (Qs.getD 0 pvz), OwnB v2 w.heap.size q.va q.vn q.vc q.p.da := fun q hq => by
            obtain ⟨g1, r1, hg1, _, hB1, _⟩ := own_blkG own1 (by omega)
            obtain rfl : g = g1 := by simpa using hg1
            exact own_onlyK (own_onlyK (own_later (hQo q (hsm q hq)) (later_drew _)) hB.drew (by decide) ho1) hB1 (by decide) ho2
          exact ⟨⟨k + 1, N, (Qs.set 0 (Qs.getD r pvz)).set r (Qs.getD 0 pvz), g, c3, by omega, by go_num, rfl, by rw [List.length_set, List.length_set, hQl], hN1, hN41, own4, hsw, hgt, ((L.trans (later_drew _)).only ho1 hgl).only ho2 hgl⟩, by simp [intOf]; omega⟩
      · obtain rfl : k = m := by omega
        go_wp2_with fail
        go_loopw [12, 80] (fun v12 i wr2 => ∃ (j : Nat) (gs : List Arw) (A' : Option Addr) (c' : Nat), j ≤ N ∧ i = .int .i64 j ∧ v12 = .slice A' j c' ∧ gs.length = j ∧ Hid (gs.map (·.ar) = onA Qs j) ∧ wr2.ownsRow w.heap.size 36 24 (.slice A' j c') j (gs.flatMap ArC) ∧ (∀ g ∈ gs, AwOk wr2 w.heap.size g) ∧
          wr2.ownsRow w.heap.size 32 5 (.slice (some ⟨g, 0, none⟩) N c3) N (Qs.flatMap PvC) ∧ (∀ q ∈ Qs, OwnB wr2 w.heap.size q.va q.vn q.vc q.p.da) ∧ Later w wr2) (fun _ i _ => N - (intOf i).toNat)
        case atStart => exact ⟨0, [], none, 0, by omega, rfl, rfl, rfl, hid rfl, ⟨by simp, .inl ⟨rfl, rfl⟩⟩, by simp, hown, hQo, L⟩
        case round =>
          clear hown hQo L
          obtain ⟨j, gs, A7, c7, hj, rfl, rfl, hgl2, hgs, hownA, hgo, hown, hQo, L⟩ := hrel
          by_cases hlt2 : j < N
          · have hqm : Qs.getD j pvz ∈ Qs := by
              rw [List.getD_eq_getElem?_getD, List.getElem?_eq_getElem (by omega)]
              exact List.getElem_mem _
            have hqo := hQo _ hqm
            obtain ⟨g', rest, hgg, hgl, hB, hNc, hcm, hcl⟩ := own_blkG hown hN1
            obtain rfl : g = g' := by simpa using hgg
            have hat := row_atM Qs rest (j := j) (by omega)
            have hon := hid (onA_succ Qs j)
            generalize Qs.getD j pvz = q at *
            go_wp2_with (first
              | (refine at_l rfl ?_; refine wpList_load_at ?hw _ _ rfl g (j * 5) (PvC q) (fun j v hv => hB.cellD _ (hat j v hv)) rfl _ Tryz.underlying32 rfl size5p ?_; (case hw => rfl))
              | (refine at_st rfl ?_; refine store_Pa (p := q.p) (v := .slice q.va q.vn q.vc) rfl rfl _ _ rfl (Blk.new wr _ pz0) rfl rfl rfl rfl ?_; intro w2 hb2 ho2
                 have l2 : Later wr w2 := (later_alloc wr _).only ho2 (Nat.le_refl _))
              | (refine at_l rfl ?_; refine load_Pa ?hw _ rfl hb2 rfl ?_; (case hw => rfl))
              | (refine at_b rfl ?_; refine wpList_build_w ?hw 36 _ rfl (ArC ⟨⟨q.p, 2, 4, j, zero16⟩, q.va, q.vn, q.vc⟩) (by simp only [List.map_toArray, List.map_cons, List.map_nil]; exact hbo.out q.p q.va q.vn q.vc j) ?_; (case hw => rfl))
              | (refine at_s rfl ?_; refine build_oneC ?hw 33 _ rfl 36 24 _ (ArC ⟨⟨q.p, 2, 4, j, zero16⟩, q.va, q.vn, q.vc⟩) Tryz.underlying33 infoAw2 (by omega) (by omega) (ArC_length _) rfl ?_; (case hw => rfl))
              | (refine at_a rfl ?_; refine wpList_append_f (F := ArC) (d := aw0) ArC_length ArC_one (by omega) rfl _ _ _ rfl 36 _ 96 Tryz.underlying33 infoAw rfl w _ _ _ (own_laterF hownA (l2.trans (later_alloc _ _))) (L.trans (l2.trans (later_alloc _ _))) (some ⟨w2.heap.size, 0, none⟩) 1 1 [⟨⟨q.p, 2, 4, j, zero16⟩, q.va, q.vn, q.vc⟩] (blk_rdF ArC_length (show Blk (w2.alloc (.cells (ArC ⟨⟨q.p, 2, 4, j, zero16⟩, q.va, q.vn, q.vc⟩).toArray 36)) w2.heap.size 36 ([(⟨⟨q.p, 2, 4, j, zero16⟩, q.va, q.vn, q.vc⟩ : Arw)].flatMap ArC) by simp only [List.flatMap_cons, List.flatMap_nil, List.append_nil]; exact Blk.new w2 _ _) rfl) rfl rfl (by omega) (by omega) ?_; intro A8 c8 w8 hown8 hl8 hg8)
              | fail)
            have lz := l2.trans (later_alloc w2 (.cells (ArC ⟨⟨q.p, 2, 4, j, zero16⟩, q.va, q.vn, q.vc⟩).toArray 36))
            have hrA := own_laterF hownA lz
            have hQo8 : ∀ q ∈ Qs, OwnB w8 w.heap.size q.va q.vn q.vc q.p.da := fun q hq => own_otherK (own_later (hQo q hq) lz) hrA (by decide) hg8
            have hown8' := own_otherK (own_laterF hown lz) hrA (by decide) hg8
            have hgo8 : ∀ g ∈ gs ++ [⟨⟨q.p, 2, 4, j, zero16⟩, q.va, q.vn, q.vc⟩], AwOk w8 w.heap.size g := by
              intro g hg
              rcases List.mem_append.1 hg with hg | hg
              · exact own_otherK (own_later (hgo g hg) lz) hrA (by decide) hg8
              · obtain rfl := List.mem_singleton.1 hg
                exact hQo8 q hqm
            exact ⟨⟨j + 1, gs ++ [⟨⟨q.p, 2, 4, j, zero16⟩, q.va, q.vn, q.vc⟩], A8, c8, by omega, by go_num, rfl, by simp [hgl2], hid (by rw [List.map_append, hgs.out, hon.out]; rfl), by simpa using hown8, hgo8, hown8', hQo8, hl8⟩, by simp [intOf]; omega⟩
          · obtain rfl : j = N := by omega
            have hm1 : (gs.map Arw.av).map (·.ar) = onA Qs j := by
              rw [List.map_map]
              exact hgs.out
            have hLe := hid (letters_any A7 j c7 (gs.map Arw.av) wr (own_rdF (d := av0) AvC_length (by rw [ArC_av]; exact hownA) (by rw [List.length_map]; exact hgl2)) (fun x hx => by
              obtain ⟨g, hg, rfl⟩ := List.mem_map.1 hx
              exact (hgo g hg).av) (by omega))
            rw [hm1] at hLe
            obtain ⟨t, ht, hlt⟩ := hO.out Qs (fun p hp => by
              obtain ⟨q, hq, rfl⟩ := List.mem_map.1 hp
              exact hQ.sub q hq) (fun p hp => by
              obtain ⟨q, hq, rfl⟩ := hQ.all p hp
              exact List.mem_map.2 ⟨q, hq, rfl⟩)
            rw [List.length_map, hQl] at ht hlt
            rw [hlt] at hLe
            clear hm1 hgs hgo hO hlt hownA hQo hown
            have ft : decide (t < j) = true := decide_eq_true ht
            have ft2 : decide ((t : Int) < (j : Int)) = true := decide_eq_true (by omega)
            go_wp2_with fail
            refine hLe.out.mono ?_
            clear hLe
            rintro e w5 ⟨v, ys, rfl, ⟨bm, k5, f, K, S⟩, hys⟩
            obtain ⟨y, rfl, hy⟩ := map_oneM _ hys
            obtain ⟨lt, va, vn, vc⟩ := y
            simp only at hy
            subst hy
            have htx := S.txt _ (List.mem_singleton.2 rfl)
            simp only at htx
            have hvn := htx.len
            have hown := S.own
            simp only [List.flatMap_cons, List.flatMap_nil, List.append_nil, List.length_singleton] at hown
            have j5 := S.lat
            clear S hys
            rcases hown.2 with ⟨_, h⟩ | ⟨gL, cap, cur, rfl, _⟩
            · omega
            have q0 : w5.cell? ⟨gL, 0, none⟩ = some (W64 4) := hown.cells (g := gL) rfl 0 _ rfl
            have q1 : w5.cell? ⟨gL, 1, none⟩ = some (W64 id) := hown.cells (g := gL) rfl 1 _ rfl
            have q2 : w5.cell? ⟨gL, 2, none⟩ = some (.int .i64 t) := hown.cells (g := gL) rfl 2 _ rfl
            have q3 : w5.cell? ⟨gL, 3, none⟩ = some (.slice va vn vc) := hown.cells (g := gL) rfl 3 _ rfl
            go_wp2_with fail
            refine (equal_any va A vn n vc c bs bs w5 htx.rd (hb.later (L.trans j5)) (by omega) (by omega)).mono ?_
            rintro e w6 ⟨rfl, l6⟩
            simp only [decide_true]
            go_wp2_with fail
            go_ret
            exact ⟨rfl, L.trans (j5.trans l6)⟩
theorem meshOnce_all (a : Int) (A B : Option Addr) (n0 c m d : Nat) (bs0 : List UInt8) (os : List Int) (w : World) (hb0 : RdB w A n0 bs0) (hnc0 : n0 ≤ c) (ho : Rd w B m (os.map intV)) (hm : m ≤ 9223372036854775807) (ha : (Lit.int .u64 a).wf = true) :
    Calls Tryz.prog 3 #[.int .u64 a, .slice A n0 c, .slice B m d] w fun e w' => e = .returned (.bool true) ∧ Later w w' := by
  have hr : 0 ≤ a ∧ a ≤ 18446744073709551615 := by simpa [Lit.wf, IntKind.min, IntKind.max, IntKind.signed, IntKind.bits] using ha
  rw [lit_w64 a hr.1 (by omega)]
  exact meshOnce_walk _ A B n0 c m d bs0 os w hb0 hnc0 ho hm
end Go.Proofs.YtkibgdigcgakfabGreat
