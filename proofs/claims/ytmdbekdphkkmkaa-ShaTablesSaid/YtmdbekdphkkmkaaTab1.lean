/-
  shallotref02: at, digits (lists of digits of 16 bits in words of 64).
-/
import Derived.Test.YtmdbekdphkkmkaaMem2
import Derived.Test.YtmdbekdphkkmkaaDigits
import Derived.Test.YtmdbekdphkkmkaaParts
namespace Go.Proofs.Ytmdbekdphkkmkaa
open Go.RowKit
open Go.BigFrame

set_option maxRecDepth 100000 in
theorem at_02 (A : Option Addr) (n c i : Nat) (ds : List UInt64) (w : World) (hr : Rd w A n (ds.map W64)) (hi : i ≤ 4096) (hn : n ≤ 4096) :
    Calls Try.prog 78 #[.slice A n c, .int .i64 i] w fun e w' => e = .returned (W64 (ds.getD i 0)) ∧ Later w w' := by
  have hl : ds.length = n := by have := hr.1; rwa [List.length_map] at this
  by_cases h : i < n
  · obtain ⟨b, o, rfl, hb, hc⟩ := hr.2 (by omega)
    have hcell : w.cell? ⟨b, o + i, none⟩ = some (W64 (ds.getD i 0)) := hc i _ (by rw [List.getElem?_map, List.getD_eq_getElem?_getD, List.getElem?_eq_getElem (by omega)]; rfl)
    generalize ds.getD i 0 = z at *
    clear hc hr
    go_enter Try.func78, Try.ntmps78
    go_wp2
    go_ret
    exact ⟨rfl, Later.refl w⟩
  · have hz : ds.getD i 0 = 0 := by rw [List.getD_eq_getElem?_getD, List.getElem?_eq_none (by omega)]; rfl
    rw [hz]
    go_enter Try.func78, Try.ntmps78
    go_wp2
    go_ret
    exact ⟨rfl, Later.refl w⟩
/-- The digits of a number, as words. -/
def digs (k n : Nat) : List UInt64 := (dig 65536 k n).map UInt64.ofNat
theorem digs_length (k n : Nat) : (digs k n).length = k := by rw [digs, List.length_map, dig_length]
theorem digs_snoc (k n : Nat) : digs (k + 1) n = digs k n ++ [UInt64.ofNat (n / 65536 ^ k % 65536)] := by rw [digs, dig_snoc, List.map_append]; rfl
theorem info64t : (Try.prog.info? 92).map (fun i => (i.zero, i.size, i.bytes)) = some (some (.int .u64 0), 1, 8) := by kernel_rfl
set_option maxRecDepth 100000 in
theorem digits_02 (n : UInt64) (w : World) :
    Calls Try.prog 76 #[W64 n] w fun e w' => ∃ (k : Nat) (A : Option Addr) (c : Nat), e = .returned (.slice A k c) ∧ k ≤ 4 ∧ n.toNat < 65536 ^ k ∧ w'.ownsRow w.heap.size 92 1 (.slice A k c) k ((digs k n.toNat).map W64) ∧ Later w w' := by
  go_enter Try.func76, Try.ntmps76
  go_wp2
  go_loopw [0, 3] (fun x out wr => ∃ (k : Nat) (A : Option Addr) (c : Nat), k ≤ 4 ∧ x = W64 (UInt64.ofNat (n.toNat / 65536 ^ k)) ∧ out = .slice A k c ∧ wr.ownsRow w.heap.size 92 1 (.slice A k c) k ((digs k n.toNat).map W64) ∧ Later w wr) (fun x _ _ => (intOf x).toNat)
  case atStart => exact ⟨0, _, _, by omega, by simp, rfl, own_nil _ _ _, Later.refl w⟩
  case round =>
    obtain ⟨k, A, c, hk, rfl, rfl, hown, hl⟩ := hrel
    obtain ⟨z, hz⟩ : ∃ z : UInt64, z = UInt64.ofNat (n.toNat / 65536 ^ k) := ⟨_, rfl⟩
    have hlt : n.toNat / 65536 ^ k < 18446744073709551616 := Nat.lt_of_le_of_lt (Nat.div_le_self _ _) n.toNat_lt
    have hzn : z.toNat = n.toNat / 65536 ^ k := by rw [hz, UInt64.toNat_ofNat', Nat.mod_eq_of_lt hlt]
    rw [← hz]
    replace hz := hid hz
    replace hzn := hid hzn
    have hs := hid (digs_snoc k n.toNat)
    by_cases h0 : z.toNat = 0
    · have hz0 : z = 0 := UInt64.toNat_inj.1 h0
      subst hz0
      go_wp2
      go_ret
      refine ⟨k, A, c, rfl, hk, ?_, hown, hl⟩
      have := Nat.div_eq_zero_iff.1 (hzn.out.symm.trans h0)
      rcases this with h | h
      · exact absurd h (Nat.pos_iff_ne_zero.1 (Nat.pow_pos (by decide)))
      · exact h
    · have hk4 : k < 4 := by
        rcases Nat.lt_or_ge k 4 with h | h
        · exact h
        · obtain rfl : k = 4 := by omega
          exact absurd (hzn.out.trans (Nat.div_eq_of_lt n.toNat_lt)) h0
      have hgt : (0 : UInt64) < z := by rw [UInt64.lt_iff_toNat_lt]; simp; omega
      go_wp2_with (first
        | (refine wpList_append_rd rfl _ _ _ rfl 92 _ 8 Try.underlying105 info64t rfl w _ k _ (own_later hown (later_alloc _ _)) (hl.alloc _) _ 1 1 _ (own_rd (own_new wr _ [_] (by simp))) (w64_one [_]) rfl rfl (by omega) (by omega) ?_; intro A2 c2 w2 hown2 hl2 hg2 _))
      go_roundw
      case rel =>
        refine ⟨k + 1, A2, c2, by omega, ?_, rfl, ?_, hl2⟩
        · congr 1
          apply UInt64.toNat_inj.1
          rw [UInt64.toNat_div, hzn.out, UInt64.toNat_ofNat', Nat.pow_succ, ← Nat.div_div_eq_div_mul, Nat.mod_eq_of_lt (Nat.lt_of_le_of_lt (Nat.div_le_self _ _) hlt)]
          rfl
        · rw [hs.out, List.map_append]
          have e : UInt64.ofNat (n.toNat / 65536 ^ k % 65536) = z % 65536 := by
            apply UInt64.toNat_inj.1
            rw [UInt64.toNat_mod, hzn.out, UInt64.toNat_ofNat', Nat.mod_eq_of_lt (Nat.lt_trans (Nat.mod_lt _ (by decide)) (by decide))]
            rfl
          rw [e]
          exact hown2
      case measure =>
        show ((z / 65536).toNat : Int).toNat < (z.toNat : Int).toNat
        rw [UInt64.toNat_div, show (65536 : UInt64).toNat = 65536 from rfl]
        omega
end Go.Proofs.Ytmdbekdphkkmkaa
