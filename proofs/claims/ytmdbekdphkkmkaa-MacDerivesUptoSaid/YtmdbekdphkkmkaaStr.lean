/-
  Strings as bytes: '[]byte(s)', 'append(b, s...)'.
-/
import Derived.Test.YtmdbekdphkkmkaaHelp
import Derived.Lib.AppendStr
import Derived.Laws.IdiomStrings
namespace Go.Proofs.Ytmdbekdphkkmkaa
open Go.RowKit

def strB (s : ByteArray) : List UInt8 := s.data.toList
theorem strB_length (s : ByteArray) : (strB s).length = s.size := by simp [strB]
theorem strCells_w8 (s : ByteArray) : Lib.strCells s = (strB s).map W8 := rfl
section
variable {P : Program} {ops : Array Oper} {rest : List Oper} {o : Oper} {a : Act} {w : World} {Q : Exit → Act → World → Prop}
/-- '[]byte(s)'. -/
theorem wpList_convert_str (hgd : o.guard = none) (src dst : TypeId) (x : Operand) (ho : o.op = .convert src dst x) (e : TypeId) (hs : P.underlying src = some .string) (hd : P.underlying dst = some (.slice e)) (he : P.underlying e = some (.int .u8))
    (s : ByteArray) (hx : a.eval x = .string s)
    (h : ∀ c w', Later w w' → RdB w' (some ⟨w.heap.size, 0, none⟩) s.size (strB s) → s.size ≤ c → w.heap.size < w'.heap.size → wpList P ops Q rest (a.put o.dst (.slice (some ⟨w.heap.size, 0, none⟩) s.size c)) w') : wpList P ops Q (o :: rest) a w :=
  wpList_plain hgd fun K hK => by
    have hr := run_bytes_of_string (P := P) w src dst e s hs hd he
    unfold Oper.wp execOp
    simp only [ho, hx, Sem.run_bind, hr, Result.andThen_ok, Sem.run_pure]
    refine hK _ _ (h _ _ ((later_drew w).alloc _) ⟨by simp [strB], fun _ => ⟨_, _, rfl, by simp, fun j u hu => ?_⟩⟩ (grownCap_ge w s.size 0 e) (by simp))
    rw [Nat.zero_add]
    have hu' : (s.data.toList.map W8)[j]? = some u := hu
    have hj : j < s.data.size := by have := (List.getElem?_eq_some_iff.1 hu').1; simpa using this
    have hc : (bytesRow s (grownCap w s.size 0 e))[j]? = some u := by
      unfold bytesRow
      rw [Array.getElem?_append_left (by simpa using hj), Array.getElem?_map]
      rw [List.getElem?_map, Array.getElem?_toList] at hu'
      exact hu'
    generalize bytesRow s (grownCap w s.size 0 e) = C at *
    unfold World.cell?
    have hb : (w.drew.alloc (.cells C e (C.size, C.size + 1))).heap[w.heap.size]? = some (.cells C e (C.size, C.size + 1)) := by
      show (w.heap.push _)[w.heap.size]? = _
      simp
    rw [hb]
    exact hc
theorem wpList_append_str (hgd : o.guard = none) (s x : Operand) (t u : TypeId) (ho : o.op = .call { callee := .builtin .append, args := #[s, x], argTypes := #[t, u] })
    (e : TypeId) (ht : P.underlying t = some (.slice e)) (hu : P.underlying u = some .string) (hinfo : (P.info? e).map (fun i => (i.zero, i.size, i.bytes)) = some (some (.int .u8 0), 1, 1))
    (w0 : World) (v : Value) (n : Nat) (vs : List Value) (hown : w.ownsRow w0.heap.size e 1 v n vs) (hl : Later w0 w) (st : ByteArray) (hs : a.eval s = v) (hx : a.eval x = .string st) (hsz : n + st.size ≤ 140737488355328)
    (h : ∀ A' c' w', w'.ownsRow w0.heap.size e 1 (.slice A' (n + st.size) c') (n + st.size) (vs ++ (strB st).map W8) → Later w0 w' → w.grownBy w' v.ownBlock → wpList P ops Q rest (a.put o.dst (.slice A' (n + st.size) c')) w') :
    wpList P ops Q (o :: rest) a w := by
  obtain ⟨i, hi, hz, hsize, hbytes⟩ := info_parts hinfo
  refine wpList_plain hgd fun K hK => ?_
  obtain ⟨v', w', hrun, hown', hg, _⟩ := Lib.run_append_own_string (P := P) w w0.heap.size t u o.type e i ht hu hi hz hsize hbytes v n vs hown st (by unfold maxLen; omega) hsz hl.size
  obtain ⟨A', c', rfl⟩ := own_shape hown'
  unfold Oper.wp execOp
  simp only [ho, resolve, invoke, builtin, Sem.run_bind, Sem.run_pure, Result.andThen_ok, List.map_toArray, List.map_cons, List.map_nil, hs, hx, hrun]
  exact hK _ _ (h A' c' w' hown' (hl.grownBy hg (fun k hk => (hown.lt k hk).1)) hg)
end
end Go.Proofs.Ytmdbekdphkkmkaa
