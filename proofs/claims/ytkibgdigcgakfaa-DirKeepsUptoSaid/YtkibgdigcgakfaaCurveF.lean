/-
  curve.NewPair, Pair.Shared; shallotlaw06: CurveCommutes.
-/
import Derived.Test.YtkibgdigcgakfaaCurveD
import Derived.Test.YtkibgdigcgakfaaBagMore
import Derived.Test.YtkibgdigcgakfaaCurveC
import Derived.Test.YtkibgdigcgakfaaStrP
import Derived.Test.YtkibgdigcgakfaaEd2
namespace Go.Proofs.Ytkibgdigcgakfaa
open Go.RowKit
open Go.BigFrame

/-- The pair of a private key. -/
def pairL (ks : List UInt8) : List UInt8 := if multE ks (nb 9) = 0 then ks ++ multB ks (nb 9) else List.replicate 64 0
theorem pairL_length (ks : List UInt8) : (pairL ks).length = 64 := by
  unfold pairL
  split
  · rename_i h
    rw [List.length_append, multB_length, (multE_len h).1]
  · simp
section
variable {ops : Array Oper} {rest : List Oper} {o : Oper} {a : Act} {w : World} {Q : Exit → Act → World → Prop}
end
theorem spliced_low (ks M : List UInt8) (h : ks.length = 32) : spliced ((List.replicate 32 (0 : UInt8) ++ M).map W8) 0 ((ks.map W8).take 32) = (ks ++ M).map W8 := by
  rw [List.take_of_length_le (by rw [List.length_map]; omega), spliced, List.length_map, h, List.map_append, List.map_append, List.take_zero, List.nil_append, Nat.zero_add, List.drop_left' (by simp)]
theorem multQ_nb (ks : List UInt8) (q : Nat) (h : q < P25) : multQ ks (nb q) = Ed.multN q (clampB ks) := by
  rw [multQ, readN_nb q h]
  rfl
theorem multB_nb (ks : List UInt8) (q : Nat) (hk : ks.length = 32) (h : q < P25) : multB ks (nb q) = nb (Ed.multN q (clampB ks)) ∧ multE ks (nb q) = if Ed.multN q (clampB ks) = 0 then 5 else 0 := by
  unfold multB multE
  rw [multQ_nb ks q h, if_pos ⟨hk, nb_length q⟩, if_pos ⟨hk, nb_length q⟩]
  exact ⟨rfl, rfl⟩
theorem chain_two (us a b : List UInt8) (hu : us.length = 32) (ha : a.length = 32) (hb : b.length = 32) :
    chainR us [a, b] = if Ed.multN (Ed.multN (readN us) (clampB a)) (clampB b) = 0 then (List.replicate 32 0, 5) else (nb (Ed.multN (Ed.multN (readN us) (clampB a)) (clampB b)), 0) := by
  have h1 := multB_nb a (readN us) ha (readN_P us)
  have hlt := Ed.multN_lt (readN us) (clampB a)
  rw [chainR, if_pos ⟨hu, by simp [ha, hb]⟩, chainAt, h1.2]
  generalize hq : Ed.multN (readN us) (clampB a) = q at *
  by_cases h0 : q = 0
  · have h3 : Ed.multN q (clampB b) = 0 := Ed.multN_nought (by rw [h0]; exact Ed.toF_zero) _
    simp only [h0, if_true] at h3 ⊢
    rw [if_neg (by decide), if_pos h3]
  · have h2 := multB_nb b q hb hlt
    simp only [h0, if_false, if_true]
    rw [h1.1, chainAt, h2.1, h2.2, chainAt]
    generalize Ed.multN q (clampB b) = q2
    by_cases h3 : q2 = 0
    · simp [h3]
    · simp [h3]
theorem chain_comm (us a b : List UInt8) (hu : us.length = 32) (ha : a.length = 32) (hb : b.length = 32) : chainR us [a, b] = chainR us [b, a] := by
  rw [chain_two us a b hu ha hb, chain_two us b a hu hb ha, Ed.multN_comm]
theorem chain_errs (us a b : List UInt8) (hu : us.length = 32) (ha : a.length = 32) (hb : b.length = 32) : (chainR us [a, b]).2 = 0 ∨ (chainR us [a, b]).2 = 5 := by
  rw [chain_two us a b hu ha hb]
  split
  · exact .inr rfl
  · exact .inl rfl
theorem nine_P : 9 < P25 := by decide
theorem pub_ok (ks : List UInt8) (hk : ks.length = 32) : multE ks (nb 9) = 0 := by
  rw [(multB_nb ks 9 hk nine_P).2, if_neg (Ed.from9_ne (Ed.from9_step Ed.from9_nine ks hk))]
theorem shared_ok (a b : List UInt8) (ha : a.length = 32) (hb : b.length = 32) :
    multE a (multB b (nb 9)) = 0 ∧ multB a (multB b (nb 9)) = multB b (multB a (nb 9)) := by
  have h1 := multB_nb b 9 hb nine_P
  have h2 := multB_nb a 9 ha nine_P
  have h3 := multB_nb a _ ha (Ed.multN_lt 9 (clampB b))
  have h4 := multB_nb b _ hb (Ed.multN_lt 9 (clampB a))
  rw [h1.1, h2.1, h3.1, h3.2, h4.1, Ed.multN_comm, if_neg (Ed.from9_ne (Ed.from9_step (Ed.from9_step Ed.from9_nine a ha) b hb))]
  exact ⟨rfl, rfl⟩
theorem parts_two {w : World} {g : Nat} {t : TypeId} {v1 v2 : Value} {p1 p2 : List UInt8} (hb : Blk w g t [v1, v2]) (h1 : Part w (fun _ => False) v1 p1) (h2 : Part w (fun _ => False) v2 p2) : Parts w (fun _ => False) (some ⟨g, 0, none⟩) 2 [p1, p2] := by
  refine ⟨[v1, v2], ⟨rfl, fun _ => ⟨g, 0, rfl, hb.lt, fun j u hu => by rw [Nat.zero_add]; exact hb.cellD j hu⟩⟩, fun _ _ _ h => h, rfl, ?_⟩
  intro j v p hv hp
  match j with
  | 0 => cases hv; cases hp; exact h1
  | 1 => cases hv; cases hp; exact h2
  | j + 2 => simp at hv
theorem makes_cell32 {ops : Array Oper} {o : Oper} {a : Act} (hw : Region.wanted o (yielded ops a.tmps) = true) (ho : o.op = .alloc 48) :
    Makes Try.prog ops o (fun g => .pointer (some ⟨g, 0, none⟩)) (.cells (List.replicate 32 (.int .u8 0)).toArray 48) a :=
  ⟨hw, fun w => by
    unfold execOp
    rw [ho]
    simp [go_sem]⟩
theorem blk_rdB_high {w : World} {g : Nat} {t : TypeId} {K ks qs : List UInt8} {n : Nat} (h : Blk w g t (K.map W8)) (e : K = ks ++ qs) (hk : ks.length = 32) (hn : qs.length = n) : RdB w (some ⟨g, 32, none⟩) n qs := by
  subst e
  rw [List.map_append] at h
  refine ⟨by rw [List.length_map, hn], fun _ => ⟨g, 32, rfl, h.lt, fun j u hu => h.cellD _ ?_⟩⟩
  rw [List.getElem?_append_right (by rw [List.length_map]; omega), List.length_map, hk, show 32 + j - 32 = j by omega]
  exact hu
end Go.Proofs.Ytkibgdigcgakfaa
