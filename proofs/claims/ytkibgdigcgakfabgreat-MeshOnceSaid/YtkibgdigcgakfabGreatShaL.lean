/-
  shallotlaw02: awake, ShaSums.
  The law ShaFlows, walked.
  Strings as bytes: '[]byte(s)', 'append(b, s...)'.
  sha.Label, Name; the law ShaLabels, walked.
  The law ShaLabels, walked.
-/
import Derived.Test.YtkibgdigcgakfabGreatShaA
import Derived.Test.YtkibgdigcgakfabGreatHelp
import Derived.Lib.AppendStr
import Derived.Laws.IdiomStrings
namespace Go.Proofs.YtkibgdigcgakfabGreat
open Go.RowKit

set_option maxRecDepth 100000 in
theorem abc_sum : (shaSum ([[97], [], [98, 99]] : List (List UInt8)).flatten)[0]? = some 186 ∧ (shaSum ([[97], [], [98, 99]] : List (List UInt8)).flatten)[1]? = some 120 ∧
    (shaSum ([[97], [], [98, 99]] : List (List UInt8)).flatten)[2]? = some 22 ∧ (shaSum ([[97], [], [98, 99]] : List (List UInt8)).flatten)[31]? = some 173 := by decide +kernel
theorem w8_get {l : List UInt8} {i : Nat} {x : UInt8} (h : l[i]? = some x) : (l.map W8)[i]? = some (W8 x) := by rw [List.getElem?_map, h]; rfl

end Go.Proofs.YtkibgdigcgakfabGreat
namespace Go.Proofs.YtkibgdigcgakfabGreat
open Go.RowKit

theorem ne_hash : (205 : TypeId) ≠ 5 := by decide
theorem HashAt.grown {w w' : World} {g base : Nat} {rest : List Value} {bs : List UInt8} {v : Value} {n : Nat} {vs : List Value} (h : HashAt w g 205 rest bs) (hown : w.ownsRow base 5 1 v n vs) (hg : w.grownBy w' v.ownBlock) : HashAt w' g 205 rest bs := by
  obtain ⟨st, op, h1, h2⟩ := h
  exact ⟨st, op, h1, blk_grown h2 hown ne_hash hg⟩
theorem own_hash {w : World} {g base : Nat} {rest : List Value} {bs : List UInt8} {v : Value} {n : Nat} {vs : List Value} (hown : w.ownsRow base 5 1 v n vs) (h : HashAt w g 205 rest bs) : ∀ b, v.ownBlock = some b → b ≠ g := by
  intro b hb
  obtain ⟨st, op, h1, h2⟩ := h
  rcases hown.2 with ⟨rfl, _⟩ | ⟨g2, c2, cur2, rfl, _, hh2, _⟩
  · simp [Value.ownBlock] at hb
  · simp only [Value.ownBlock, Option.some.injEq] at hb
    subst hb
    exact fun e => (Blk.ne_type (l := cur2.toList) (t := 5) hh2 h2 (fun e => ne_hash e.symm)) e
theorem flatten_one (q : List UInt8) : [q].flatten = q := by simp
theorem own_cut {w : World} {base : Nat} {A : Option Addr} {n m c : Nat} {bs xs ys : List UInt8} (h : w.ownsRow base 5 1 (.slice A n c) n (xs.map W8 ++ ys.map W8)) (hb : xs ++ ys = bs) (hn : n = m) : OwnB w base A m c bs := by
  subst hb
  subst hn
  rw [← List.map_append] at h
  exact h

end Go.Proofs.YtkibgdigcgakfabGreat
namespace Go.Proofs.YtkibgdigcgakfabGreat
open Go.RowKit

def strB (s : ByteArray) : List UInt8 := s.data.toList
theorem strB_length (s : ByteArray) : (strB s).length = s.size := by simp [strB]
theorem strCells_w8 (s : ByteArray) : Lib.strCells s = (strB s).map W8 := rfl
section
variable {P : Program} {ops : Array Oper} {rest : List Oper} {o : Oper} {a : Act} {w : World} {Q : Exit → Act → World → Prop}
/-- '[]byte(s)'. -/
theorem wpList_convert_str (hgd : o.guard = none) (src dst : TypeId) (x : Operand) (ho : o.op = .convert src dst x) (e : TypeId) (hs : P.underlying src = some .string) (hd : P.underlying dst = some (.slice e)) (he : P.underlying e = some (.int .u8))
    (s : ByteArray) (hx : a.eval x = .string s)
    (h : ∀ c w', Later w w' → RdB w' (some ⟨w.heap.size, 0, none⟩) s.size (strB s) → s.size ≤ c → w.heap.size < w'.heap.size → wpList P ops Q rest (a.put o.dst (.slice (some ⟨w.heap.size, 0, none⟩) s.size c)) w') : wpList P ops Q (o :: rest) a w :=
  wpList_plain hgd fun K hK => by
    have hr := run_bytes_of_string (P := P) w src dst e s hs hd he
    unfold Oper.wp execOp
    simp only [ho, hx, Sem.run_bind, hr, Result.andThen_ok, Sem.run_pure]
    refine hK _ _ (h _ _ ((later_drew w).alloc _) ⟨by simp [strB], fun _ => ⟨_, _, rfl, by simp, fun j u hu => ?_⟩⟩ (grownCap_ge w s.size 0 e) (by simp))
    rw [Nat.zero_add]
    have hu' : (s.data.toList.map W8)[j]? = some u := hu
    have hj : j < s.data.size := by have := (List.getElem?_eq_some_iff.1 hu').1; simpa using this
    have hc : (bytesRow s (grownCap w s.size 0 e))[j]? = some u := by
      unfold bytesRow
      rw [Array.getElem?_append_left (by simpa using hj), Array.getElem?_map]
      rw [List.getElem?_map, Array.getElem?_toList] at hu'
      exact hu'
    generalize bytesRow s (grownCap w s.size 0 e) = C at *
    unfold World.cell?
    have hb : (w.drew.alloc (.cells C e (C.size, C.size + 1))).heap[w.heap.size]? = some (.cells C e (C.size, C.size + 1)) := by
      show (w.heap.push _)[w.heap.size]? = _
      simp
    rw [hb]
    exact hc
theorem wpList_append_str (hgd : o.guard = none) (s x : Operand) (t u : TypeId) (ho : o.op = .call { callee := .builtin .append, args := #[s, x], argTypes := #[t, u] })
    (e : TypeId) (ht : P.underlying t = some (.slice e)) (hu : P.underlying u = some .string) (hinfo : (P.info? e).map (fun i => (i.zero, i.size, i.bytes)) = some (some (.int .u8 0), 1, 1))
    (w0 : World) (v : Value) (n : Nat) (vs : List Value) (hown : w.ownsRow w0.heap.size e 1 v n vs) (hl : Later w0 w) (st : ByteArray) (hs : a.eval s = v) (hx : a.eval x = .string st) (hsz : n + st.size ≤ 140737488355328)
    (h : ∀ A' c' w', w'.ownsRow w0.heap.size e 1 (.slice A' (n + st.size) c') (n + st.size) (vs ++ (strB st).map W8) → Later w0 w' → w.grownBy w' v.ownBlock → wpList P ops Q rest (a.put o.dst (.slice A' (n + st.size) c')) w') :
    wpList P ops Q (o :: rest) a w := by
  obtain ⟨i, hi, hz, hsize, hbytes⟩ := info_parts hinfo
  refine wpList_plain hgd fun K hK => ?_
  obtain ⟨v', w', hrun, hown', hg, _⟩ := Lib.run_append_own_string (P := P) w w0.heap.size t u o.type e i ht hu hi hz hsize hbytes v n vs hown st (by unfold maxLen; omega) hsz hl.size
  obtain ⟨A', c', rfl⟩ := own_shape hown'
  unfold Oper.wp execOp
  simp only [ho, resolve, invoke, builtin, Sem.run_bind, Sem.run_pure, Result.andThen_ok, List.map_toArray, List.map_cons, List.map_nil, hs, hx, hrun]
  exact hK _ _ (h A' c' w' hown' (hl.grownBy hg (fun k hk => (hown.lt k hk).1)) hg)
end
end Go.Proofs.YtkibgdigcgakfabGreat
namespace Go.Proofs.YtkibgdigcgakfabGreat
open Go.RowKit

/-- The label's bytes behind its length. -/
def labB (s : ByteArray) : List UInt8 := UInt8.ofInt s.size :: strB s
theorem labB_length (s : ByteArray) : (labB s).length = s.size + 1 := by simp [labB, strB_length]
theorem label_flat (x : UInt8) (l : List UInt8) : [[x], l].flatten = x :: l := by simp
end Go.Proofs.YtkibgdigcgakfabGreat
namespace Go.Proofs.YtkibgdigcgakfabGreat
open Go.RowKit

theorem OwnParts.partsBad {w : World} {base g : Nat} {A : Option Addr} {n c : Nat} {ps : List (List UInt8)} (h : OwnParts w base A n c ps) (hg : g < base) : Parts w (· = g) A n ps := by
  obtain ⟨vs, h1, h2, h3⟩ := h
  exact ⟨vs, own_rd h1, fun _ ad hA hb => by subst hA; have := (h1.lt ad.block rfl).1; omega, h2, fun j v p hv hp => by obtain ⟨A', n', c', e1, e2⟩ := h3 j v p hv hp; subst e1; exact part_own e2 hg⟩
theorem lab_ab : labB ⟨#[97, 98]⟩ = [2, 97, 98] := by decide +kernel
end Go.Proofs.YtkibgdigcgakfabGreat
