/-
  MeshLetters: its walk.
-/
import Derived.Test.YtkibgdigcgakfabGreatMshN
import Derived.Test.YtkibgdigcgakfabGreatMshQ
import Derived.Test.YtkibgdigcgakfabGreatMshE
namespace Go.Proofs.YtkibgdigcgakfabGreat
open Go.RowKit
open Go.BigFrame

theorem whole_le {ks : List Prt} (h : KeptOk ks) : (whole ks).length ≤ 7200 := by
  have h1 : ∀ i, (daAt ks i).length ≤ 450 := by
    intro i
    unfold daAt
    cases hf : ks.find? (fun q => q.ix == (i : Int)) with
    | none => simp
    | some q => simpa using (prtE_ok (h.good q (List.mem_of_find?_eq_some hf)).2).2.2.2.2
  have h2 : ∀ n, ((List.range n).flatMap (daAt ks)).length ≤ n * 450 := by
    intro n
    induction n with
    | zero => simp
    | succ n ih =>
      have := h1 n
      rw [List.range_succ, List.flatMap_append, List.length_append]
      simp only [List.flatMap_cons, List.flatMap_nil, List.append_nil]
      omega
  have h3 : ks.length ≤ 16 := by
    cases ks with
    | nil => simp
    | cons q ks =>
      have h4 := prtE_ok (h.good q (by simp)).2
      have := h.le (c := q.ct) (fun r hr => h.same r hr q (by simp)) (by omega)
      omega
  have := h2 ks.length
  rw [whole_eq h]
  omega
theorem ltrOf_len (qs : List Arr) (a : Arr) : (ltrOf qs a).length ≤ 1 := by
  unfold ltrOf
  split <;> simp
theorem ltrOf_tx (qs : List Arr) (a : Arr) : ∀ l ∈ ltrOf qs a, l.tx.length ≤ 7200 := by
  intro l hl
  unfold ltrOf at hl
  split at hl
  · rename_i h
    obtain rfl : l = _ := by simpa using hl
    have hk := (keptOk_by qs (a.to, a.pt.id)).snoc (id := a.pt.id) (p := a.pt)
    rw [tkK, if_pos h.2.2.1] at hk
    exact whole_le hk
  · cases hl
theorem ltrs_len (qs : List Arr) : ∀ k, (ltrs qs k).length ≤ k
  | 0 => by simp [ltrs]
  | k + 1 => by
    have ih := ltrs_len qs k
    unfold ltrs at ih ⊢
    rw [List.range_succ, List.flatMap_append, List.length_append]
    simp only [List.flatMap_cons, List.flatMap_nil, List.append_nil]
    split
    · have := ltrOf_len (qs.take k) (by assumption)
      omega
    · rw [List.length_nil]
      omega
theorem ltrs_tx (qs : List Arr) (k : Nat) : ∀ l ∈ ltrs qs k, l.tx.length ≤ 7200 := by
  intro l hl
  obtain ⟨i, _, hi⟩ := List.mem_flatMap.1 hl
  split at hi
  · exact ltrOf_tx _ _ l hi
  · cases hi
theorem RdF_takeN {α : Type} {F : α → List Value} {sz : Nat} {d : α} {w : World} {A : Option Addr} {n m : Nat} {xs : List α} (h : RdF F sz d w A n xs) (hm : m ≤ n) : RdF F sz d w A m (xs.take m) := by
  refine ⟨by rw [List.length_take, h.1]; omega, fun h0 => ?_⟩
  obtain ⟨b, o, hA, hb, hc⟩ := h.2 (by omega)
  refine ⟨b, o, hA, hb, fun j i v hj hv => hc j i v (by omega) ?_⟩
  rw [List.getD_eq_getElem?_getD, List.getElem?_take, if_pos hj] at hv
  rw [List.getD_eq_getElem?_getD]
  exact hv
theorem ArC_one (x : Arw) : ∀ u ∈ ArC x, u.oneCell' = true := AvC_oneV _ _ _ _
def Arw.av (x : Arw) : Arv := ⟨x.ar, .slice x.va x.vn x.vc⟩
theorem ArC_av (gs : List Arw) : (gs.map Arw.av).flatMap AvC = gs.flatMap ArC := by
  rw [List.flatMap_map]
  rfl
def aw0 : Arw := ⟨⟨prt0, 0, 0, 0, zero16⟩, none, 0, 0⟩
theorem infoAw : (Tryz.prog.info? 36).map (fun i => (i.zero, i.size, i.bytes)) = some (some (.agg (ArC aw0).toArray), 24, 96) := by kernel_rfl
def AwOk (w : World) (base : Nat) (g : Arw) : Prop := OwnB w base g.va g.vn g.vc g.ar.pt.da
theorem AwOk.av {w : World} {base : Nat} {g : Arw} (h : AwOk w base g) : AvOk w g.av := ⟨g.va, g.vn, g.vc, rfl, h.cap, h.rd⟩
end Go.Proofs.YtkibgdigcgakfabGreat
