/-
  keys.Schedule: what it makes, in plain lists; the rows that it keeps.
-/
import Derived.Test.YtjohieongjnemaaKeys3
import Derived.Test.YtjohieongjnemaaRowK
namespace Go.Proofs.Ytjohieongjnemaa
open Go.RowKit
open Go.BigFrame

/-! ### The schedule in plain lists -/
/-- What stands ahead of hop k: its public value, and the scalars. -/
def stA (x : List UInt8) (ps : List (List UInt8)) : Nat → List UInt8 × List (List UInt8)
  | 0 => (multB x (nb 9), [x])
  | k + 1 => (multB (derB (chainR (ps.getD k []) (stA x ps k).2).1 sBlind) (stA x ps k).1, (stA x ps k).2 ++ [derB (chainR (ps.getD k []) (stA x ps k).2).1 sBlind])
def secA (x : List UInt8) (ps : List (List UInt8)) (k : Nat) : List UInt8 := (chainR (ps.getD k []) (stA x ps k).2).1
def errA (x : List UInt8) (ps : List (List UInt8)) (k : Nat) : Nat := (chainR (ps.getD k []) (stA x ps k).2).2
def stepA (x : List UInt8) (ps : List (List UInt8)) (k : Nat) : List UInt8 := stepL (stA x ps k).1 (secA x ps k)
def goE (x : List UInt8) (ps : List (List UInt8)) : Nat → Nat → Nat
  | 0, _ => 0
  | r + 1, k => if errA x ps k = 0 then goE x ps r (k + 1) else errA x ps k
def fitS (x : List UInt8) (ps : List (List UInt8)) : Prop := x.length = 32 ∧ 1 ≤ ps.length ∧ ps.length ≤ 5 ∧ ∀ p ∈ ps, p.length = 32
open Classical in
noncomputable def schedE (x : List UInt8) (ps : List (List UInt8)) : Nat := if fitS x ps then goE x ps ps.length 0 else 2
/-- The first k steps. -/
def stepsA (x : List UInt8) (ps : List (List UInt8)) (k : Nat) : List (List UInt8) := (List.range k).map (stepA x ps)
theorem stA_fst_length (x : List UInt8) (ps : List (List UInt8)) (k : Nat) : (stA x ps k).1.length = 32 := by
  cases k <;> exact multB_length _ _
theorem secA_length (x : List UInt8) (ps : List (List UInt8)) (k : Nat) : (secA x ps k).length = 32 := chainR_length _ _
theorem stepA_length (x : List UInt8) (ps : List (List UInt8)) (k : Nat) : (stepA x ps k).length = 192 := stepL_length _ _ (stA_fst_length x ps k) (secA_length x ps k)
theorem stA_snd_length (x : List UInt8) (ps : List (List UInt8)) : ∀ k, (stA x ps k).2.length = k + 1
  | 0 => rfl
  | k + 1 => by
    rw [stA]
    simp [stA_snd_length x ps k]
theorem stA_snd_32 (x : List UInt8) (hx : x.length = 32) (ps : List (List UInt8)) : ∀ k, ∀ p ∈ (stA x ps k).2, p.length = 32
  | 0, p, h => by
    rw [stA, List.mem_singleton] at h
    rw [h, hx]
  | k + 1, p, h => by
    rw [stA] at h
    rcases List.mem_append.1 h with h | h
    · exact stA_snd_32 x hx ps k p h
    · rw [List.mem_singleton.1 h, derB_length]
theorem stA_nine (x : List UInt8) (hx : x.length = 32) (ps : List (List UInt8)) : ∀ k, ∃ q, Ed.From9 q ∧ (stA x ps k).1 = nb q
  | 0 => ⟨_, Ed.from9_step Ed.from9_nine x hx, (multB_nb x 9 hx nine_P).1⟩
  | k + 1 => by
    obtain ⟨q, hq, e⟩ := stA_nine x hx ps k
    refine ⟨_, Ed.from9_step hq (derB (chainR (ps.getD k []) (stA x ps k).2).1 sBlind) (derB_length _ _), ?_⟩
    rw [stA, e]
    exact (multB_nb _ q (derB_length _ _) hq.1).1
/-- Blinding a public value never comes to nought. -/
theorem stA_next (x : List UInt8) (hx : x.length = 32) (ps : List (List UInt8)) (k : Nat) (b : List UInt8) (hb : b.length = 32) : multE b (stA x ps k).1 = 0 := by
  obtain ⟨q, hq, e⟩ := stA_nine x hx ps k
  rw [e, (multB_nb b q hb hq.1).2, if_neg (Ed.from9_ne (Ed.from9_step hq b hb))]
theorem stepsA_succ (x : List UInt8) (ps : List (List UInt8)) (k : Nat) : stepsA x ps (k + 1) = stepsA x ps k ++ [stepA x ps k] := by
  rw [stepsA, List.range_succ, List.map_append]
  rfl
theorem stepsA_length (x : List UInt8) (ps : List (List UInt8)) (k : Nat) : (stepsA x ps k).length = k := by simp [stepsA]
theorem stepsA_all (x : List UInt8) (ps : List (List UInt8)) (k : Nat) : ∀ s ∈ stepsA x ps k, s.length = 192 := by
  intro s hs
  obtain ⟨j, _, rfl⟩ := List.mem_map.1 hs
  exact stepA_length x ps j
theorem stepsA_flat (x : List UInt8) (ps : List (List UInt8)) (k : Nat) : (stepsA x ps (k + 1)).flatten.map W8 = (stepsA x ps k).flatten.map W8 ++ (stepA x ps k).map W8 := by
  rw [stepsA_succ, List.flatten_append, List.map_append]
  simp
theorem stepA_pay (x : List UInt8) (ps : List (List UInt8)) (k : Nat) : subB (stepA x ps k) 64 32 = derB (secA x ps k) sPay := stepL_pay _ _
theorem stepA_blind (x : List UInt8) (ps : List (List UInt8)) (k : Nat) : subB (stepA x ps k) 96 32 = derB (secA x ps k) sBlind := stepL_blind _ _
theorem stepA_alpha (x : List UInt8) (ps : List (List UInt8)) (k : Nat) : subB (stepA x ps k) 128 32 = (stA x ps k).1 := stepL_alpha _ _ (stA_fst_length x ps k)

/-! ### The row of scalars -/
/-- A slice in the row of scalars: it came in, or lies in a block of the call's own that is not g8. -/
def ScP (w0 : World) (g8 : Nat) (w : World) (v : Value) (p : List UInt8) : Prop :=
  (∃ A c, v = .slice A 32 c ∧ 32 ≤ c ∧ RdB w0 A 32 p) ∨ (∃ b, v = .slice (some ⟨b, 0, none⟩) 32 32 ∧ b ≠ g8 ∧ p.length = 32 ∧ Blk w b 47 (p.map W8)) ∨ (∃ A c base, v = .slice A 32 c ∧ OwnB w base A 32 c p)
structure ScRow (w0 : World) (g8 : Nat) (w : World) (v : Value) (sc : List (List UInt8)) (vs : List Value) : Prop where
  own : w.ownsRow w0.heap.size 22 1 v sc.length vs
  len : vs.length = sc.length
  each : ∀ (j : Nat) u p, vs[j]? = some u → sc[j]? = some p → ScP w0 g8 w u p
theorem ne32L : (47 : TypeId) ≠ 22 := by decide
theorem ne8L : (5 : TypeId) ≠ 22 := by decide
theorem ne832 : (5 : TypeId) ≠ 47 := by decide
theorem ScP.later {w0 w w' : World} {g8 : Nat} {v : Value} {p : List UInt8} (h : ScP w0 g8 w v p) (j : Later w w') : ScP w0 g8 w' v p := by
  rcases h with h | ⟨b, h1, h2, h3, h4⟩ | ⟨A, c, base, h1, h2⟩
  · exact .inl h
  · exact .inr (.inl ⟨b, h1, h2, h3, h4.later j⟩)
  · exact .inr (.inr ⟨A, c, base, h1, own_later h2 j⟩)
theorem ScP.part {w0 w : World} {g8 : Nat} {v : Value} {p : List UInt8} (h : ScP w0 g8 w v p) (j : Later w0 w) : Part w (fun _ => False) v p := by
  rcases h with ⟨A, c, rfl, hc, h⟩ | ⟨b, rfl, _, h3, h4⟩ | ⟨A, c, base, rfl, h2⟩
  · exact part_rd (h.later j) hc
  · exact part_rd (blk_rdB h4 h3) (Nat.le_refl _)
  · exact part_rd h2.rd h2.cap
/-- Block g8 (32 bytes) is written. -/
theorem ScP.only {w0 w w' : World} {g8 : Nat} {v : Value} {p : List UInt8} {l : List Value} (h : ScP w0 g8 w v p) (hg : Blk w g8 47 l) (ho : Only g8 w w') : ScP w0 g8 w' v p := by
  rcases h with h | ⟨b, h1, h2, h3, h4⟩ | ⟨A, c, base, h1, h2⟩
  · exact .inl h
  · exact .inr (.inl ⟨b, h1, h2, h3, h4.only ho h2⟩)
  · exact .inr (.inr ⟨A, c, base, h1, own_onlyK h2 hg (fun e => ne832 e.symm) ho⟩)
/-- A row of another type grows. -/
theorem ScP.grown {w0 w w' : World} {g8 base sz : Nat} {v v2 : Value} {p : List UInt8} {e : TypeId} {n : Nat} {vs : List Value} (h : ScP w0 g8 w v p) (hown : w.ownsRow base e sz v2 n vs) (h1 : 47 ≠ e) (h2 : 5 ≠ e) (hg : w.grownBy w' v2.ownBlock) : ScP w0 g8 w' v p := by
  rcases h with h | ⟨b, k1, k2, k3, k4⟩ | ⟨A, c, base', k1, k2⟩
  · exact .inl h
  · exact .inr (.inl ⟨b, k1, k2, k3, blk_grownK k4 hown h1 hg⟩)
  · exact .inr (.inr ⟨A, c, base', k1, own_otherK k2 hown h2 hg⟩)
theorem ScRow.later {w0 w w' : World} {g8 : Nat} {v : Value} {sc : List (List UInt8)} {vs : List Value} (h : ScRow w0 g8 w v sc vs) (j : Later w w') : ScRow w0 g8 w' v sc vs :=
  ⟨own_later h.own j, h.len, fun k u p hu hp => (h.each k u p hu hp).later j⟩
theorem ScRow.only {w0 w w' : World} {g8 : Nat} {v : Value} {sc : List (List UInt8)} {vs : List Value} {l : List Value} (h : ScRow w0 g8 w v sc vs) (hg : Blk w g8 47 l) (ho : Only g8 w w') : ScRow w0 g8 w' v sc vs :=
  ⟨own_onlyK h.own hg ne32L ho, h.len, fun k u p hu hp => (h.each k u p hu hp).only hg ho⟩
theorem ScRow.grown {w0 w w' : World} {g8 base sz : Nat} {v v2 : Value} {sc : List (List UInt8)} {us vs : List Value} {e : TypeId} {n : Nat} (h : ScRow w0 g8 w v sc us) (hown : w.ownsRow base e sz v2 n vs) (h0 : 22 ≠ e) (h1 : 47 ≠ e) (h2 : 5 ≠ e) (hg : w.grownBy w' v2.ownBlock) : ScRow w0 g8 w' v sc us :=
  ⟨own_otherK h.own hown h0 hg, h.len, fun k u p hu hp => (h.each k u p hu hp).grown hown h1 h2 hg⟩
/-- One more scalar, appended. -/
theorem ScRow.snoc {w0 w w' : World} {g8 : Nat} {v v' u : Value} {sc : List (List UInt8)} {vs : List Value} {p : List UInt8} (h : ScRow w0 g8 w v sc vs) (hu : ScP w0 g8 w u p) (hg : w.grownBy w' v.ownBlock) (hown : w'.ownsRow w0.heap.size 22 1 v' (sc.length + 1) (vs ++ [u])) : ScRow w0 g8 w' v' (sc ++ [p]) (vs ++ [u]) := by
  refine ⟨by rw [List.length_append]; exact hown, by simp [h.len], fun j x q hx hq => ?_⟩
  by_cases hj : j < vs.length
  · rw [List.getElem?_append_left hj] at hx
    rw [List.getElem?_append_left (by rw [← h.len]; exact hj)] at hq
    exact (h.each j x q hx hq).grown h.own ne32L ne8L hg
  · rw [List.getElem?_append_right (by omega)] at hx
    rw [List.getElem?_append_right (by rw [← h.len]; omega), ← h.len] at hq
    have h0 : j - vs.length = 0 := by
      have := (List.getElem?_eq_some_iff.1 hx).1
      simp at this
      omega
    rw [h0] at hx hq
    cases hx
    cases hq
    exact hu.grown h.own ne32L ne8L hg
theorem ScRow.parts {w0 w : World} {g8 : Nat} {A : Option Addr} {n c : Nat} {sc : List (List UInt8)} {vs : List Value} (h : ScRow w0 g8 w (.slice A n c) sc vs) (hn : sc.length = n) (j : Later w0 w) : Parts w (fun _ => False) A n sc := by
  have ho := h.own
  rw [hn] at ho
  exact ⟨vs, own_rd ho, fun _ _ _ h => h, h.len, fun k u p hu hp => (h.each k u p hu hp).part j⟩
section
variable {P : Program} {ops : Array Oper} {rest : List Oper} {o : Oper} {a : Act} {w : World} {Q : Exit → Act → World → Prop}
/-- 'make([]T, 0, n)', T of several cells alike. -/
theorem wpList_make_room (hgd : o.guard = none) (l c : Operand) (t : TypeId) (ho : o.op = Op.makeSlice t l c) (e : TypeId) (v : Value) (m bytes : Nat) (ht : P.underlying t = some (.slice e))
    (hinfo : (P.info? e).map (fun i => (i.zero, i.size, i.bytes)) = some (some (.agg (List.replicate m v).toArray), m, bytes)) (hm : 0 < m) (kl kc : IntKind) (C : Int) (n : Nat) (hl : a.eval l = .int kl 0) (hc : a.eval c = .int kc C) (hC : C = (n : Int))
    (hby : 0 < bytes) (hsz : n * bytes ≤ 140737488355328) (h : ∀ w', Blk w' w.heap.size e (List.replicate (n * m) v) → Later w w' → wpList P ops Q rest (a.put o.dst (.slice (some ⟨w.heap.size, 0, none⟩) 0 n)) w') :
    wpList P ops Q (o :: rest) a w := by
  cases hq : P.info? e with
  | none => simp [hq] at hinfo
  | some i =>
    simp only [hq, Option.map_some, Option.some.injEq, Prod.mk.injEq] at hinfo
    obtain ⟨hz, hsize, hbytes⟩ := hinfo
    have hn : n ≤ 140737488355328 := Nat.le_trans (Nat.le_mul_of_pos_right _ hby) hsz
    refine wpList_plain hgd fun K hK => ?_
    have hb : ((i.bytes : Int) * (n : Int)) ≤ 281474976710656 := by
      rw [hbytes, ← Int.natCast_mul, Nat.mul_comm]
      omega
    have hr := run_make (P := P) w t e i _ ht hq hz kl kc 0 n (by omega) (by omega) hb (by omega)
    have hcells : (Value.agg (List.replicate m v).toArray).cells = (List.replicate m v).toArray := rfl
    simp only [Int.toNat_natCast, Int.toNat_zero, hsize, hcells, made_rep m _ v hm] at hr
    subst hC
    unfold Oper.wp
    simp only [execOp, ho, hl, hc, Sem.run_bind, hr, Result.andThen_ok, Sem.run_pure]
    exact hK _ _ (h _ (Blk.new w e _) (later_alloc _ _))
end
end Go.Proofs.Ytjohieongjnemaa
