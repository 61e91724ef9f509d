/-
  Lists of bytes; shallotref01's Equal, Copy.
-/
import Derived.Test.YtkibgdigcgakfaaProg
import Derived.Test.YtkibgdigcgakfaaMem
namespace Go.Proofs.Ytkibgdigcgakfaa
open Go.RowKit

theorem info8 : (Try.prog.info? 5).map (fun i => (i.zero, i.size, i.bytes)) = some (some (.int .u8 0), 1, 1) := by kernel_rfl
theorem size8 : (Try.prog.info? 5).map (·.size) = some 1 := by kernel_rfl
@[go_sem high] theorem cut8 (A : Option Addr) (n c : Nat) (kl kh : IntKind) (l h : Nat) (h1 : l ≤ h) (h2 : h ≤ c) (W : World) :
    (Instr.sliceAt 31 (.slice A n c) (some (.int kl (l : Int))) (some (.int kh (h : Int))) none).run Try.prog W = .ok (.slice (cutA A l c) (h - l) (c - l)) W := run_nat_cut Try.underlying31 size8 A n c kl kh l h h1 h2 W
@[go_sem high] theorem cut8_from (A : Option Addr) (n c : Nat) (kl : IntKind) (l : Nat) (h1 : l ≤ n) (W : World) :
    (Instr.sliceAt 31 (.slice A n c) (some (.int kl (l : Int))) none none).run Try.prog W = .ok (.slice (cutA A l c) (n - l) (c - l)) W := run_nat_from Try.underlying31 size8 A n c kl l h1 W
@[go_sem high] theorem cut8_to (A : Option Addr) (n c : Nat) (kh : IntKind) (h : Nat) (h2 : h ≤ c) (W : World) :
    (Instr.sliceAt 31 (.slice A n c) none (some (.int kh (h : Int))) none).run Try.prog W = .ok (.slice A h c) W := run_nat_to Try.underlying31 size8 A n c kh h h2 W
@[go_sem high] theorem arr64_from (b o : Nat) (kl : IntKind) (l : Nat) (h1 : l < 64) (W : World) :
    (Instr.sliceAt 93 (.pointer (some ⟨b, o, none⟩)) (some (.int kl (l : Int))) none none).run Try.prog W = .ok (.slice (some ⟨b, o + l, none⟩) (64 - l) (64 - l)) W := run_arr_from Try.underlying93 size8 b o kl l h1 W
@[go_sem high] theorem arr64_all (b o : Nat) (W : World) :
    (Instr.sliceAt 93 (.pointer (some ⟨b, o, none⟩)) none none none).run Try.prog W = .ok (.slice (some ⟨b, o, none⟩) 64 64) W := run_arr_all Try.underlying93 size8 b o W
@[go_sem high] theorem arr32_all (b o : Nat) (W : World) :
    (Instr.sliceAt 48 (.pointer (some ⟨b, o, none⟩)) none none none).run Try.prog W = .ok (.slice (some ⟨b, o, none⟩) 32 32) W := run_arr_all Try.underlying48 size8 b o W
theorem bool_ret {b c : Bool} (h : b = c) : Ending.returned (.bool b) = .returned (.bool c) := by rw [h]

theorem map_set8 (l : List UInt8) (i : Nat) (x : UInt8) : (l.map W8).set i (W8 x) = (l.set i x).map W8 := by rw [List.map_set]
theorem own_eq {w : World} {base : Nat} {e : TypeId} {v : Value} {n m : Nat} {xs ys : List Value} (h : w.ownsRow base e 1 v n xs) (hn : n = m) (hx : xs = ys) : w.ownsRow base e 1 v m ys := by subst hn; subst hx; exact h
/-- A slice of bytes of the call's own. -/
def OwnB (w : World) (base : Nat) (A : Option Addr) (n c : Nat) (bs : List UInt8) : Prop := w.ownsRow base 5 1 (.slice A n c) n (bs.map W8)
theorem OwnB.rd {w : World} {base : Nat} {A : Option Addr} {n c : Nat} {bs : List UInt8} (h : OwnB w base A n c bs) : RdB w A n bs := own_rd h
theorem OwnB.later {w w' : World} {base : Nat} {A : Option Addr} {n c : Nat} {bs : List UInt8} (h : OwnB w base A n c bs) (hl : Later w w') : OwnB w' base A n c bs := own_later h hl
theorem OwnB.mono {w : World} {base base' : Nat} {A : Option Addr} {n c : Nat} {bs : List UInt8} (h : OwnB w base A n c bs) (hb : base' ≤ base) : OwnB w base' A n c bs := own_mono h hb
theorem OwnB.len {w : World} {base : Nat} {A : Option Addr} {n c : Nat} {bs : List UInt8} (h : OwnB w base A n c bs) : bs.length = n := h.rd.len

end Go.Proofs.Ytkibgdigcgakfaa
