/-
  shallotlaw02: awake, ShaSums.
  The law ShaFlows, walked.
  Strings as bytes: '[]byte(s)', 'append(b, s...)'.
  sha.Label, Name; the law ShaLabels, walked.
  The law ShaLabels, walked.
-/
import Derived.Test.YtdojjnbpidogfaaGreatShaA
import Derived.Test.YtdojjnbpidogfaaGreatHelp
import Derived.Lib.AppendStr
import Derived.Laws.IdiomStrings
namespace Go.Proofs.YtdojjnbpidogfaaGreat
open Go.RowKit

theorem w8_get {l : List UInt8} {i : Nat} {x : UInt8} (h : l[i]? = some x) : (l.map W8)[i]? = some (W8 x) := by rw [List.getElem?_map, h]; rfl

end Go.Proofs.YtdojjnbpidogfaaGreat
namespace Go.Proofs.YtdojjnbpidogfaaGreat
open Go.RowKit

theorem ne_hash : (260 : TypeId) ≠ 5 := by decide
theorem HashAt.grown {w w' : World} {g base : Nat} {rest : List Value} {bs : List UInt8} {v : Value} {n : Nat} {vs : List Value} (h : HashAt w g 260 rest bs) (hown : w.ownsRow base 5 1 v n vs) (hg : w.grownBy w' v.ownBlock) : HashAt w' g 260 rest bs := by
  obtain ⟨st, op, h1, h2⟩ := h
  exact ⟨st, op, h1, blk_grown h2 hown ne_hash hg⟩
theorem flatten_one (q : List UInt8) : [q].flatten = q := by simp
theorem own_cut {w : World} {base : Nat} {A : Option Addr} {n m c : Nat} {bs xs ys : List UInt8} (h : w.ownsRow base 5 1 (.slice A n c) n (xs.map W8 ++ ys.map W8)) (hb : xs ++ ys = bs) (hn : n = m) : OwnB w base A m c bs := by
  subst hb
  subst hn
  rw [← List.map_append] at h
  exact h

end Go.Proofs.YtdojjnbpidogfaaGreat
namespace Go.Proofs.YtdojjnbpidogfaaGreat
open Go.RowKit

def strB (s : ByteArray) : List UInt8 := s.data.toList
theorem strB_length (s : ByteArray) : (strB s).length = s.size := by simp [strB]
section
variable {P : Program} {ops : Array Oper} {rest : List Oper} {o : Oper} {a : Act} {w : World} {Q : Exit → Act → World → Prop}
/-- '[]byte(s)'. -/
theorem wpList_convert_str (hgd : o.guard = none) (src dst : TypeId) (x : Operand) (ho : o.op = .convert src dst x) (e : TypeId) (hs : P.underlying src = some .string) (hd : P.underlying dst = some (.slice e)) (he : P.underlying e = some (.int .u8))
    (s : ByteArray) (hx : a.eval x = .string s)
    (h : ∀ c w', Later w w' → RdB w' (some ⟨w.heap.size, 0, none⟩) s.size (strB s) → s.size ≤ c → w.heap.size < w'.heap.size → wpList P ops Q rest (a.put o.dst (.slice (some ⟨w.heap.size, 0, none⟩) s.size c)) w') : wpList P ops Q (o :: rest) a w :=
  wpList_plain hgd fun K hK => by
    have hr := run_bytes_of_string (P := P) w src dst e s hs hd he
    unfold Oper.wp execOp
    simp only [ho, hx, Sem.run_bind, hr, Result.andThen_ok, Sem.run_pure]
    refine hK _ _ (h _ _ ((later_drew w).alloc _) ⟨by simp [strB], fun _ => ⟨_, _, rfl, by simp, fun j u hu => ?_⟩⟩ (grownCap_ge w s.size 0 e) (by simp))
    rw [Nat.zero_add]
    have hu' : (s.data.toList.map W8)[j]? = some u := hu
    have hj : j < s.data.size := by have := (List.getElem?_eq_some_iff.1 hu').1; simpa using this
    have hc : (bytesRow s (grownCap w s.size 0 e))[j]? = some u := by
      unfold bytesRow
      rw [Array.getElem?_append_left (by simpa using hj), Array.getElem?_map]
      rw [List.getElem?_map, Array.getElem?_toList] at hu'
      exact hu'
    generalize bytesRow s (grownCap w s.size 0 e) = C at *
    unfold World.cell?
    have hb : (w.drew.alloc (.cells C e (C.size, C.size + 1))).heap[w.heap.size]? = some (.cells C e (C.size, C.size + 1)) := by
      show (w.heap.push _)[w.heap.size]? = _
      simp
    rw [hb]
    exact hc
end
end Go.Proofs.YtdojjnbpidogfaaGreat
namespace Go.Proofs.YtdojjnbpidogfaaGreat
open Go.RowKit

end Go.Proofs.YtdojjnbpidogfaaGreat
namespace Go.Proofs.YtdojjnbpidogfaaGreat
open Go.RowKit

end Go.Proofs.YtdojjnbpidogfaaGreat

