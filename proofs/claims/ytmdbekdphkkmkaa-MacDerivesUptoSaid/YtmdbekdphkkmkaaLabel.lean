/-
  sha.Label, Name; the law ShaLabels, walked.
-/
import Derived.Test.YtmdbekdphkkmkaaStr
import Derived.Test.YtmdbekdphkkmkaaFlows
namespace Go.Proofs.Ytmdbekdphkkmkaa
open Go.RowKit

/-- The label's bytes behind its length. -/
def labB (s : ByteArray) : List UInt8 := UInt8.ofInt s.size :: strB s
theorem labB_length (s : ByteArray) : (labB s).length = s.size + 1 := by simp [labB, strB_length]
theorem zeroLab (s : ByteArray) : Try.zeroCells66.setIfInBounds 73 (Value.string s) = (hCells zeroS8 (List.replicate 64 0) 0 ++ [Value.string s]).toArray := by kernel_rfl
theorem hashAt_lab (w : World) (s : ByteArray) : HashAt (w.alloc (.cells (Try.zeroCells66.setIfInBounds 73 (Value.string s)) 66)) w.heap.size 66 [Value.string s] [] :=
  ⟨zeroS8, List.replicate 64 0, hok_nil, by rw [zeroLab]; exact Blk.new _ _ _⟩
theorem label_flat (x : UInt8) (l : List UInt8) : [[x], l].flatten = x :: l := by simp
set_option maxRecDepth 100000 in
set_option maxHeartbeats 1000000 in
theorem label_ok (s : ByteArray) (hs : s.size ≤ 255) (w : World) : Calls Try.prog 40 #[.string s] w fun e w' =>
    e = .returned (.tuple #[.pointer (some ⟨w.heap.size, 0, none⟩), .int .i64 0]) ∧ HashAt w' w.heap.size 66 [.string s] (labB s) ∧ Later w w' := by
  have hsl := strB_length s
  have hf := hid (label_flat (UInt8.ofInt s.size) (strB s))
  go_enter Try.func40, Try.ntmps40
  go_wp2_with (first
    | (refine wpList_convert_str rfl _ _ _ rfl 5 Try.underlying9 Try.underlying22 Try.underlying5 s rfl ?_; intro c1 w1 hl1 hr1 hc1 hz1; simp only [World.size_alloc] at hr1 hz1)
    | (go_at_call 34; refine (write_any w.heap.size 66 [Value.string s] [] (some ⟨w1.heap.size, 0, none⟩) 2 2 [[UInt8.ofInt s.size], strB s] _ ?hh ?hx (by omega) ?hlen).mono ?_
       (case hh => exact (((hashAt_lab w s).later (later_alloc _ _)).later hl1).later (later_alloc _ _))
       (case hx => exact parts_bad ((Blk.new w1 22 _).rd rfl) (avoid_lt (by omega)) ⟨⟨_, 1, 1, rfl, Nat.le_refl _, (((Blk.new' _ 5 [W8 (UInt8.ofInt s.size)] (by simp)).later hl1).later (later_alloc _ _)).rd rfl, avoid_lt (by omega)⟩, ⟨_, s.size, c1, rfl, hc1, hr1.later (later_alloc _ _), avoid_lt (by omega)⟩, trivial⟩)
       (case hlen => rw [hf.out]; simp [hsl]; omega)
       rintro e w4 ⟨rfl, hh4, ho4⟩
       rw [hf.out, List.nil_append] at hh4))
  go_ret2
  exact ⟨rfl, hh4, ((((Later.refl w).alloc _).alloc _).trans hl1 |>.alloc _).only ho4 (Nat.le_refl _)⟩
theorem label_bad (s : ByteArray) (hs : 255 < s.size) (w : World) : Calls Try.prog 40 #[.string s] w fun e w' => e = .returned (.tuple #[.pointer none, .int .i64 2]) ∧ w' = w := by
  go_enter Try.func40, Try.ntmps40
  go_wp2
  go_ret2
  exact ⟨rfl, rfl⟩
theorem name_any (g : Nat) (t : TypeId) (s : ByteArray) (bs : List UInt8) (w : World) (hh : HashAt w g t [Value.string s] bs) :
    Calls Try.prog 41 #[.pointer (some ⟨g, 0, none⟩)] w fun e w' => e = .returned (.string s) ∧ w' = w := by
  obtain ⟨st, op, h1, h2⟩ := hh
  have d0 := h2.cellD 73 (u := Value.string s) (by rw [List.getElem?_append_right (by rw [hCells_length _ _ _ h1.len]; omega), hCells_length _ _ _ h1.len]; rfl)
  go_enter Try.func41, Try.ntmps41
  go_wp2
  go_ret
  exact ⟨rfl, rfl⟩
end Go.Proofs.Ytmdbekdphkkmkaa
