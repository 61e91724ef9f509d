/-
  Rows whose elements are bytes, sz of them each.
-/
import Derived.Test.YtallecbmnpcepaaByteStr
import Derived.Test.YtallecbmnpcepaaBag
namespace Go.Proofs.Ytallecbmnpcepaa
open Go.RowKit

section
variable {P : Program}
theorem run_buildK {t e : TypeId} {sz : Nat} {z v : Value} {vs : List Value} (ht : P.underlying t = some (.slice e)) (hz : (P.info? e).map (fun i => (i.zero, i.size)) = some (some z, sz)) (hs0 : 0 < sz) (hsm : sz ≤ 65536) (hv : v.cells = vs.toArray) (hvl : vs.length = sz) (w : World) :
    (Instr.buildSlice t 1 #[(0, v)]).run P w = .ok (.slice (some ⟨w.heap.size, 0, none⟩) 1 1) (w.alloc (.cells vs.toArray e)) := by
  cases hi : P.info? e with
  | none => simp [hi] at hz
  | some i =>
    simp only [hi, Option.map_some, Option.some.injEq, Prod.mk.injEq] at hz
    obtain ⟨h1, h2⟩ := hz
    have hso : (sizeOf e).run P w = .ok sz w := by simp [sizeOf, typeInfo, hi, h2]
    have hzv : (zeroValue e).run P w = .ok z w := by simp [zeroValue, typeInfo, hi, h1]
    have hl : ((Array.range (1 * sz)).map fun x => z.cells[x % z.cells.size]!) = ((Array.range (1 * sz)).map fun x => z.cells[x % z.cells.size]!).toList.toArray := rfl
    have hll : ((Array.range (1 * sz)).map fun x => z.cells[x % z.cells.size]!).toList.length = sz := by simp
    have hf : Instr.fill (fun i => some (i * sz, sz)) ((Array.range (1 * sz)).map fun x => z.cells[x % z.cells.size]!) [(0, v)] = some vs.toArray := by
      rw [hl]
      rw [fill_cons (vs := vs) (off := 0) hv (by rw [hvl, Nat.zero_mul]) (by rw [hll]; omega), fill_nil, spliced_all _ _ (by rw [hll, hvl])]
    unfold Instr.buildSlice
    simp only [Sem.run_bind, run_underlying ht, Result.andThen_ok, hso, Nat.one_mul]
    rw [if_neg (by omega), if_neg (by omega)]
    simp only [Nat.one_mul] at hf
    simp only [Sem.run_bind, hzv, Result.andThen_ok, Sem.run_pure, hf]
    simp [newRow]
end
section
variable {P : Program} {ops : Array Oper} {rest : List Oper} {o : Oper} {a : Act} {w : World} {Q : Exit → Act → World → Prop}
/-- '[]T{x}', T of several bytes. -/
theorem build_one (hw : Region.wanted o (yielded ops a.tmps) = true) (t : TypeId) (x : Operand) (ho : o.op = .buildSlice t 1 #[(0, x)]) (e : TypeId) (sz : Nat) (z : Value) (bs : List UInt8) (ht : P.underlying t = some (.slice e)) (hz : (P.info? e).map (fun i => (i.zero, i.size)) = some (some z, sz)) (hs0 : 0 < sz) (hsm : sz ≤ 65536)
    (hbl : bs.length = sz) (hx : a.eval x = .agg (bs.map W8).toArray)
    (h : wpList P ops Q rest (a.put o.dst (.slice (some ⟨w.heap.size, 0, none⟩) 1 1)) (w.alloc (.cells (bs.map W8).toArray e))) : wpList P ops Q (o :: rest) a w :=
  BigFrame.wpList_want hw fun K hK => by
    have hr := run_buildK (v := .agg (bs.map W8).toArray) ht hz hs0 hsm rfl (by rw [List.length_map, hbl]) w
    unfold Oper.wp
    simp only [execOp, ho, List.map_toArray, List.map_cons, List.map_nil, hx, Sem.run_bind, hr, Result.andThen_ok, Sem.run_pure]
    exact hK _ _ h
end
/-- Such a row in memory. -/
def RdK (sz : Nat) (w : World) (A : Option Addr) (n : Nat) (xs : List (List UInt8)) : Prop :=
  xs.length = n ∧ (0 < n → ∃ b o, A = some ⟨b, o, none⟩ ∧ b < w.heap.size ∧ ∀ j i v, j < n → ((xs.getD j []).map W8)[i]? = some v → w.cell? ⟨b, o + j * sz + i, none⟩ = some v)
theorem RdK.later {sz : Nat} {w w' : World} {A : Option Addr} {n : Nat} {xs : List (List UInt8)} (h : RdK sz w A n xs) (hl : Later w w') : RdK sz w' A n xs := by
  refine ⟨h.1, fun hn => ?_⟩
  obtain ⟨b, o, hA, hb, hc⟩ := h.2 hn
  exact ⟨b, o, hA, Nat.lt_of_lt_of_le hb hl.size, fun j i v hj hv => (hl.below.cell (p := ⟨b, o + j * sz + i, none⟩) hb).trans (hc j i v hj hv)⟩
theorem rdK_none (sz : Nat) (w : World) : RdK sz w none 0 [] := ⟨rfl, fun h => absurd h (by omega)⟩
theorem flatK_get {sz i : Nat} {v : UInt8} : ∀ (xs : List (List UInt8)) (j : Nat), (∀ x ∈ xs, x.length = sz) → j < xs.length → (xs.getD j [])[i]? = some v → xs.flatten[j * sz + i]? = some v
  | [], j, _, h, _ => by simp at h
  | x :: xs, j, hl, hj, hv => by
    have hx := hl x (by simp)
    cases j with
    | zero =>
      have hv' : x[i]? = some v := by simpa using hv
      have hi : i < x.length := (List.getElem?_eq_some_iff.1 hv').1
      rw [List.flatten_cons, Nat.zero_mul, Nat.zero_add, List.getElem?_append_left hi]
      exact hv'
    | succ j =>
      rw [List.flatten_cons, List.getElem?_append_right (by rw [hx, Nat.add_mul]; omega), hx]
      have := flatK_get (sz := sz) (i := i) xs j (fun y hy => hl y (by simp [hy])) (by simpa using hj) (by simpa using hv)
      rw [show (j + 1) * sz + i - sz = j * sz + i by rw [Nat.add_mul]; omega]
      exact this
theorem flatK_length {sz : Nat} : ∀ (xs : List (List UInt8)), (∀ x ∈ xs, x.length = sz) → xs.flatten.length = xs.length * sz
  | [], _ => by simp
  | x :: xs, hl => by rw [List.flatten_cons, List.length_append, hl x (by simp), flatK_length xs (fun y hy => hl y (by simp [hy])), List.length_cons, Nat.add_mul]; omega
theorem own_rdK {sz : Nat} {w : World} {base : Nat} {e : TypeId} {A : Option Addr} {n c : Nat} {xs : List (List UInt8)} (h : w.ownsRow base e sz (.slice A n c) n (xs.flatten.map W8)) (hn : xs.length = n) (hl : ∀ x ∈ xs, x.length = sz) : RdK sz w A n xs := by
  refine ⟨hn, fun h0 => ?_⟩
  rcases h.2 with ⟨_, hz⟩ | ⟨g, cap, cur, hvv, hb, hh, hnc, hm, hs, ht⟩
  · omega
  · cases hvv
    refine ⟨g, 0, rfl, (h.lt g rfl).2, fun j i v hj hv => ?_⟩
    rw [List.getElem?_map, Option.map_eq_some_iff] at hv
    obtain ⟨x, hx, rfl⟩ := hv
    have hg := h.cells (g := g) rfl (j * sz + i) (W8 x) (by rw [List.getElem?_map, flatK_get xs j hl (by omega) hx]; rfl)
    rw [add_at] at hg
    rw [Nat.zero_add] at hg ⊢
    exact hg
theorem blk_rdK {sz : Nat} {w : World} {g : Nat} {t : TypeId} {n : Nat} {xs : List (List UInt8)} (h : Blk w g t (xs.flatten.map W8)) (hn : xs.length = n) (hl : ∀ x ∈ xs, x.length = sz) : RdK sz w (some ⟨g, 0, none⟩) n xs := by
  refine ⟨hn, fun _ => ⟨g, 0, rfl, h.lt, fun j i v hj hv => ?_⟩⟩
  rw [List.getElem?_map, Option.map_eq_some_iff] at hv
  obtain ⟨x, hx, rfl⟩ := hv
  rw [Nat.zero_add]
  exact h.cellD _ (by rw [List.getElem?_map, flatK_get xs j hl (by omega) hx]; rfl)
/-- An element's cells. -/
theorem RdK.at_ {sz : Nat} {w : World} {A : Option Addr} {n : Nat} {xs : List (List UInt8)} (h : RdK sz w A n xs) {k : Nat} (hk : k < n) :
    ∃ b o, A = some ⟨b, o, none⟩ ∧ b < w.heap.size ∧ ∀ j v, ((xs.getD k []).map W8)[j]? = some v → w.cell? ⟨b, o + k * sz + j, none⟩ = some v := by
  obtain ⟨b, o, hA, hb, hc⟩ := h.2 (by omega)
  exact ⟨b, o, hA, hb, fun j v hv => hc k j v hk hv⟩
/-- A part of an element. -/
theorem RdK.sub {sz : Nat} {w : World} {A : Option Addr} {n : Nat} {xs : List (List UInt8)} (h : RdK sz w A n xs) {k : Nat} (hk : k < n) :
    ∃ b o, A = some ⟨b, o, none⟩ ∧ b < w.heap.size ∧ ∀ (w' : World), Later w w' → ∀ (off m : Nat) (r : List UInt8), subB (xs.getD k []) off m = r → ∀ j v, (r.map W8)[j]? = some v → w'.cell? ⟨b, o + k * sz + off + j, none⟩ = some v := by
  obtain ⟨b, o, hA, hb, hc⟩ := h.2 (by omega)
  refine ⟨b, o, hA, hb, fun w' hl off m r hr j v hv => ?_⟩
  rw [List.getElem?_map, Option.map_eq_some_iff] at hv
  obtain ⟨x, hx, rfl⟩ := hv
  rw [← hr] at hx
  refine (hl.below.cell (p := ⟨b, o + k * sz + off + j, none⟩) hb).trans ?_
  have := hc k (off + j) (W8 x) hk (by rw [List.getElem?_map, subB_get hx]; rfl)
  rwa [← Nat.add_assoc] at this
theorem own_shapeK {w : World} {base : Nat} {e : TypeId} {sz : Nat} {v : Value} {n : Nat} {vs : List Value} (h : w.ownsRow base e sz v n vs) : ∃ A c, v = .slice A n c ∧ n ≤ c := by
  rcases h.2 with ⟨rfl, rfl⟩ | ⟨g, cap, cur, rfl, _, _, hnc, _⟩
  · exact ⟨none, 0, rfl, Nat.le_refl _⟩
  · exact ⟨_, _, rfl, hnc⟩
theorem own_laterK {w w' : World} {base : Nat} {e : TypeId} {sz : Nat} {v : Value} {n : Nat} {vs : List Value} (h : w.ownsRow base e sz v n vs) (hl : Later w w') : w'.ownsRow base e sz v n vs :=
  h.kept (row := none) ⟨hl.below.os, hl.below.tape, hl.below.output, hl.size, fun k hk _ => hl.below.block k hk⟩ (by cases v.ownBlock <;> simp)
theorem own_capK {w : World} {base g : Nat} {e : TypeId} {sz N : Nat} {l : List Value} (h : Blk w g e l) (hb : base ≤ g) (hl : l.length = N * sz) (hm : N ≤ maxLen) : w.ownsRow base e sz (.slice (some ⟨g, 0, none⟩) 0 N) 0 [] :=
  ⟨by simp, .inr ⟨g, N, l.toArray, rfl, hb, h, Nat.zero_le _, hm, by simp [hl], by simp⟩⟩
/-- A block of another type stays when a row grows, and a row when such a block is written. -/
theorem blk_grownK {w w' : World} {base g sz : Nat} {e t : TypeId} {v : Value} {n : Nat} {vs l : List Value} (hb : Blk w g t l) (h : w.ownsRow base e sz v n vs) (hne : t ≠ e) (hg : w.grownBy w' v.ownBlock) : Blk w' g t l := by
  refine (hg.block g hb.lt ?_).trans hb
  rcases h.2 with ⟨rfl, _⟩ | ⟨g2, c2, cur2, rfl, _, hh2, _⟩
  · simp [Value.ownBlock]
  · intro he
    simp only [Value.ownBlock, Option.some.injEq] at he
    subst he
    exact hb.ne_type (l' := cur2.toList) (t' := e) hh2 hne rfl
theorem own_onlyK {w w' : World} {base k sz : Nat} {e t : TypeId} {v : Value} {n : Nat} {vs l : List Value} (h : w.ownsRow base e sz v n vs) (hb : Blk w k t l) (hne : t ≠ e) (ho : Only k w w') : w'.ownsRow base e sz v n vs := by
  refine h.kept ho ?_
  rcases h.2 with ⟨rfl, _⟩ | ⟨g2, c2, cur2, rfl, _, hh2, _⟩
  · exact .inl rfl
  · refine .inr fun he => ?_
    simp only [Value.ownBlock, Option.some.injEq] at he
    subst he
    exact hb.ne_type (l' := cur2.toList) (t' := e) hh2 hne rfl
/-- Two rows of other types: the one grows, the other stays. -/
theorem own_otherK {w w' : World} {b1 b2 s1 s2 : Nat} {e1 e2 : TypeId} {v1 v2 : Value} {n1 n2 : Nat} {x1 x2 : List Value} (h1 : w.ownsRow b1 e1 s1 v1 n1 x1) (h2 : w.ownsRow b2 e2 s2 v2 n2 x2) (hne : e1 ≠ e2) (hg : w.grownBy w' v2.ownBlock) :
    w'.ownsRow b1 e1 s1 v1 n1 x1 := by
  refine h1.kept hg ?_
  rcases h1.2 with ⟨rfl, _⟩ | ⟨g1, c1, cur1, rfl, _, hh1, _⟩
  · exact .inl rfl
  · right
    rcases h2.2 with ⟨rfl, _⟩ | ⟨g2, c2, cur2, rfl, _, hh2, _⟩
    · simp [Value.ownBlock]
    · intro hb
      simp only [Value.ownBlock, Option.some.injEq] at hb
      subst hb
      rw [hh1] at hh2
      injection hh2 with hh2
      injection hh2 with _ h
      exact hne h
/-- Blocks of one's own stay when a row of another type grows. -/
theorem Bag.grown {w wk v' : World} {ls : List (Nat × TypeId × List Value)} {base sz : Nat} {e : TypeId} {v : Value} {n : Nat} {vs : List Value} (h : Bag w wk ls) (hown : wk.ownsRow base e sz v n vs) (hne : ∀ p ∈ ls, p.2.1 ≠ e) (hb : w.heap.size ≤ base) (hg : wk.grownBy v' v.ownBlock) : Bag w v' ls :=
  ⟨h.lat.grownBy hg (fun k hk => Nat.le_trans hb (hown.lt k hk).1), fun p hp => blk_grownK (h.blk p hp) hown (hne p hp) hg, h.low, h.nd⟩
end Go.Proofs.Ytallecbmnpcepaa
