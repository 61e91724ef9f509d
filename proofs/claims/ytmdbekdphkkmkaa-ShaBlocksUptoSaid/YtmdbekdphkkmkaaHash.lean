/-
  sha.Hash: what it holds behind so many bytes; its methods; sha.Sum.
-/
import Derived.Test.YtmdbekdphkkmkaaSha2
import Derived.Test.YtmdbekdphkkmkaaBytes
namespace Go.Proofs.Ytmdbekdphkkmkaa
open Go.RowKit

/-- The state behind n whole blocks. -/
def shaFold (bs : List UInt8) : Nat → S8
  | 0 => shaInit
  | n + 1 => shaComp (shaFold bs n) ((bs.drop (64 * n)).take 64)
theorem shaFold_append (bs x : List UInt8) (n : Nat) (h : 64 * n ≤ bs.length) : shaFold (bs ++ x) n = shaFold bs n := by
  induction n with
  | zero => rfl
  | succ n ih =>
    rw [shaFold, shaFold, ih (by omega), List.drop_append_of_le_length (by omega), List.take_append_of_le_length (by simp; omega)]
def hCells (st : S8) (op : List UInt8) (n : Nat) : List Value := st.list ++ (op.map W8 ++ [.int .i64 n])
structure HOk (bs : List UInt8) (st : S8) (op : List UInt8) : Prop where
  len : op.length = 64
  open_ : op.take (bs.length % 64) = bs.drop (bs.length / 64 * 64)
  st : 64 ≤ bs.length → st = shaFold bs (bs.length / 64)
/-- At the head of block g lies a Hash into which these bytes were written. -/
def HashAt (w : World) (g : Nat) (t : TypeId) (rest : List Value) (bs : List UInt8) : Prop := ∃ st op, HOk bs st op ∧ Blk w g t (hCells st op bs.length ++ rest)
theorem HashAt.later {w w' : World} {g : Nat} {t : TypeId} {rest : List Value} {bs : List UInt8} (h : HashAt w g t rest bs) (hl : Later w w') : HashAt w' g t rest bs := by
  obtain ⟨st, op, h1, h2⟩ := h
  exact ⟨st, op, h1, h2.later hl⟩
theorem HashAt.only {w w' : World} {g k : Nat} {t : TypeId} {rest : List Value} {bs : List UInt8} (h : HashAt w g t rest bs) (ho : Only k w w') (hne : g ≠ k) : HashAt w' g t rest bs := by
  obtain ⟨st, op, h1, h2⟩ := h
  exact ⟨st, op, h1, h2.only ho hne⟩
theorem HashAt.lt {w : World} {g : Nat} {t : TypeId} {rest : List Value} {bs : List UInt8} (h : HashAt w g t rest bs) : g < w.heap.size := by
  obtain ⟨st, op, h1, h2⟩ := h
  exact h2.lt

section
variable {bs : List UInt8} {st : S8} {op : List UInt8}
/-- The open block behind a copy. -/
def opened (op : List UInt8) (f : Nat) (x : List UInt8) : List UInt8 := op.take f ++ x ++ op.drop (f + x.length)
theorem opened_length (f : Nat) (x : List UInt8) (h : f + x.length ≤ op.length) : (opened op f x).length = op.length := by
  simp [opened]
  omega
theorem HOk.part (h : HOk bs st op) (x : List UInt8) (hx : bs.length % 64 + x.length < 64) : HOk (bs ++ x) st (opened op (bs.length % 64) x) := by
  have hl := h.len
  have e1 : (bs ++ x).length % 64 = bs.length % 64 + x.length := by rw [List.length_append]; omega
  have e2 : (bs ++ x).length / 64 = bs.length / 64 := by rw [List.length_append]; omega
  refine ⟨by rw [opened_length _ _ (by omega), hl], ?_, fun h64 => ?_⟩
  · rw [e1, e2, List.drop_append_of_le_length (by omega), ← h.open_, opened, List.take_append_of_le_length (by simp; omega), List.take_of_length_le (by simp; omega)]
  · rw [e2, shaFold_append _ _ _ (by omega)]
    exact h.st (by rw [List.length_append] at h64; omega)
/-- The state ahead of the open block. -/
def ahead (bs : List UInt8) (st : S8) : S8 := if bs.length / 64 = 0 then shaInit else st
theorem HOk.full (h : HOk bs st op) (x : List UInt8) (hx : bs.length % 64 + x.length = 64) :
    HOk (bs ++ x) (shaComp (ahead bs st) (opened op (bs.length % 64) x)) (opened op (bs.length % 64) x) := by
  have hl := h.len
  have e1 : (bs ++ x).length % 64 = 0 := by rw [List.length_append]; omega
  have e2 : (bs ++ x).length / 64 = bs.length / 64 + 1 := by rw [List.length_append]; omega
  have eo : opened op (bs.length % 64) x = (bs ++ x).drop (64 * (bs.length / 64)) := by
    rw [List.drop_append_of_le_length (by omega), Nat.mul_comm, ← h.open_, opened, List.drop_of_length_le (by omega), List.append_nil]
  refine ⟨by rw [opened_length _ _ (by omega), hl], ?_, fun _ => ?_⟩
  · rw [e1, e2, List.take_zero, List.drop_of_length_le (by rw [List.length_append]; omega)]
  · rw [e2, shaFold, ← eo, List.take_of_length_le (by rw [opened_length _ _ (by omega)]; omega)]
    congr 1
    unfold ahead
    by_cases hq : bs.length / 64 = 0
    · rw [if_pos hq, hq]
      rfl
    · rw [if_neg hq, shaFold_append _ _ _ (by omega)]
      exact h.st (by omega)
end
theorem hCells_length (st : S8) (op : List UInt8) (n : Nat) (h : op.length = 64) : (hCells st op n).length = 73 := by simp [hCells, S8.list, h]

set_option maxHeartbeats 1000000 in
theorem before_any (g : Nat) (t : TypeId) (st : S8) (tail : List Value) (cnt : Int) (w : World) (hb : Blk w g t (st.list ++ tail)) :
    Calls Try.prog 80 #[.pointer (some ⟨g, 0, none⟩), .int .i64 cnt] w fun e w' => e = .returned (.agg (if cnt < 64 then shaInit else st).list.toArray) ∧ Later w w' := by
  by_cases hc : cnt < 64
  · rw [if_pos hc]
    go_enter Try.func80, Try.ntmps80
    go_wp2_with (first
      | (go_at_call 19; refine (start_any _).mono ?_; rintro e w1 ⟨rfl, hl1⟩)
      | (refine wpList_store_agg rfl rfl 31 _ _ rfl w.heap.size 0 31 (List.replicate 8 (W32 0)) shaInit.list ?b ?hx ?hy ?hi ?hf ?h1 ?_; (case hx => rfl); (case hy => rfl); (case hi => kernel_rfl); (case hf => decide); (case h1 => exact s8_one _); (case b => exact (Blk.new _ _ _).later hl1); intro w2 hb2 ho2))
    rw [spliced_all _ _ (by rfl)] at hb2
    exact bodyPost_ret (results_blk rfl _ _ _ _ shaInit.list _ hb2 rfl Try.underlying31 rfl (by kernel_rfl)) rfl ⟨rfl, (((Later.refl w).alloc _).trans hl1).only ho2 (Nat.le_refl _)⟩
  · rw [if_neg hc]
    go_enter Try.func80, Try.ntmps80
    go_wp2_with (first
      | (refine wpList_load_agg rfl 31 _ rfl g 0 st.list ?hc ?hx _ Try.underlying31 rfl ?hi ?_; (case hx => rfl); (case hi => kernel_rfl); (case hc => intro j v hv; rw [Nat.zero_add]; exact (hb.later (later_alloc _ _)).cellD j (by rw [List.getElem?_append_left (List.getElem?_eq_some_iff.1 hv).1]; exact hv)))
      | (refine wpList_store_agg rfl rfl 31 _ _ rfl w.heap.size 0 31 (List.replicate 8 (W32 0)) st.list ?b ?hx ?hy ?hi ?hf ?h1 ?_; (case hx => rfl); (case hy => rfl); (case hi => kernel_rfl); (case hf => simp [S8.list]); (case h1 => exact s8_one _); (case b => exact Blk.new _ _ _); intro w2 hb2 ho2))
    rw [spliced_all _ _ (by rfl)] at hb2
    exact bodyPost_ret (results_blk rfl _ _ _ _ st.list _ hb2 rfl Try.underlying31 rfl (by kernel_rfl)) rfl ⟨rfl, ((Later.refl w).alloc _).only ho2 (Nat.le_refl _)⟩
end Go.Proofs.Ytmdbekdphkkmkaa
