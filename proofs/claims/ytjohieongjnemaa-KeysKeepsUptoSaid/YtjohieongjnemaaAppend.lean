/-
  append onto a row of the call's own whose elements have several cells; lists of elements that came in.
-/
import Derived.Test.YtjohieongjnemaaFLaws
namespace Go.Proofs.Ytjohieongjnemaa
open Go.RowKit
section
variable {P : Program} {ops : Array Oper} {rest : List Oper} {o : Oper} {a : Act} {w : World} {Q : Exit → Act → World → Prop}
theorem wpList_append_s (hgd : o.guard = none) (s x : Operand) (t : TypeId) (ho : o.op = .call { callee := .builtin .append, args := #[s, x], argTypes := #[t, t] })
    (e : TypeId) (z : Value) (sz bytes : Nat) (ht : P.underlying t = some (.slice e)) (hinfo : (P.info? e).map (fun i => (i.zero, i.size, i.bytes)) = some (some z, sz, bytes)) (hzs : z.cells.size = sz) (hs0 : 0 < sz)
    (w0 : World) (v : Value) (n : Nat) (vs : List Value) (hown : w.ownsRow w0.heap.size e sz v n vs) (hl : Later w0 w)
    (g m c : Nat) (t2 : TypeId) (news : List Value) (hb : Blk w g t2 news) (hnl : news.length = m * sz) (h1 : ∀ u ∈ news, u.oneCell' = true) (hs : a.eval s = v) (hx : a.eval x = .slice (some ⟨g, 0, none⟩) m c) (hsz : (n + m) * bytes ≤ 140737488355328) (hby : 0 < bytes)
    (h : ∀ v' w', w'.ownsRow w0.heap.size e sz v' (n + m) (vs ++ news) → Later w0 w' → w.grownBy w' v.ownBlock → wpList P ops Q rest (a.put o.dst v') w') :
    wpList P ops Q (o :: rest) a w := by
  obtain ⟨i, hi, hz, hsize, hbytes⟩ := info_parts hinfo
  have hnm : n + m ≤ 140737488355328 := Nat.le_trans (Nat.le_mul_of_pos_right _ hby) hsz
  have hmax : n + m ≤ maxLen := by unfold maxLen; omega
  have hcells : ∀ j u, news[j]? = some u → w.cell? ((⟨g, 0, none⟩ : Addr).add j) = some u := by
    intro j u hu
    rw [add_at, Nat.zero_add]
    exact hb.cellD j hu
  obtain ⟨v', w', hrun, h2, h3, _⟩ := run_append_own (P := P) w w0.heap.size t o.type e i z sz bytes ht hi hz hsize hbytes hzs hs0 v n vs hown ⟨g, 0, none⟩ m c news hnl hcells h1 hmax hsz hl.size
  refine wpList_plain hgd fun K hK => ?_
  unfold Oper.wp execOp
  simp only [ho, resolve, invoke, builtin, Sem.run_bind, Sem.run_pure, Result.andThen_ok, List.map_toArray, List.map_cons, List.map_nil, hs, hx, hrun]
  exact hK _ _ (h v' w' h2 (hl.grownBy h3 (fun k hk => (hown.lt k hk).1)) h3)
end
theorem own_shape_s {w : World} {base : Nat} {e : TypeId} {sz : Nat} {v : Value} {n : Nat} {vs : List Value} (h : w.ownsRow base e sz v n vs) : ∃ A c, v = .slice A n c ∧ n ≤ c := by
  rcases h.2 with ⟨rfl, rfl⟩ | ⟨g, cap, cur, rfl, _, _, hnc, _⟩
  · exact ⟨none, 0, rfl, Nat.le_refl _⟩
  · exact ⟨_, _, rfl, hnc⟩
theorem own_later_s {w w' : World} {base : Nat} {e : TypeId} {sz : Nat} {v : Value} {n : Nat} {vs : List Value} (h : w.ownsRow base e sz v n vs) (hl : Later w w') : w'.ownsRow base e sz v n vs :=
  h.kept (row := none) ⟨hl.below.os, hl.below.tape, hl.below.output, hl.size, fun k hk _ => hl.below.block k hk⟩ (by cases v.ownBlock <;> simp)
theorem flat_get {i : Nat} {v : Value} : ∀ (ns : List Nat) (j : Nat), j < ns.length → (EL (ns.getD j 0))[i]? = some v → (ns.flatMap EL)[j * 4 + i]? = some v := by
  intro ns
  induction ns with
  | nil => intro j hj; simp at hj
  | cons x ns ih =>
    intro j hj hv
    cases j with
    | zero =>
      rw [List.flatMap_cons, List.getElem?_append_left]
      · simpa using hv
      · have : i < (EL x).length := (List.getElem?_eq_some_iff.1 hv).1
        omega
    | succ j =>
      rw [List.flatMap_cons, List.getElem?_append_right (by rw [EL_length]; omega), EL_length]
      have := ih j (by simpa using hj) (by simpa using hv)
      rw [show (j + 1) * 4 + i - 4 = j * 4 + i by omega]
      exact this
theorem own_rdE {w : World} {base : Nat} {e : TypeId} {A : Option Addr} {n c : Nat} {ns : List Nat} (h : w.ownsRow base e 4 (.slice A n c) n (ns.flatMap EL)) (hn : ns.length = n) : RdE w A n ns := by
  refine ⟨hn, fun h0 => ?_⟩
  rcases h.2 with ⟨_, hz⟩ | ⟨g, cap, cur, hv, hb, hh, hnc, hm, hs, ht⟩
  · omega
  · cases hv
    refine ⟨g, 0, rfl, (h.lt g rfl).2, fun j i v hj hv => ?_⟩
    have hg := h.cells (g := g) rfl (j * 4 + i) v (flat_get ns j (by omega) hv)
    rw [add_at] at hg
    rw [Nat.zero_add] at hg ⊢
    exact hg
end Go.Proofs.Ytjohieongjnemaa
