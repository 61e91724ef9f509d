/-
  Maps keyed by a node's number and a message's.
-/
import Derived.Test.YtkibgdigcgakfabGreatProg
import Derived.Test.YtkibgdigcgakfabGreatPMap
namespace Go.Proofs.YtkibgdigcgakfabGreat
open Go.RowKit Go.Maps

theorem rowAd : (66 : Nat) < Tryz.prog.types.size := of_decide_eq_true (by kernel_rfl)
theorem deepAd : Tryz.prog.keyTypeAt (Tryz.prog.types.size + 1) 66 = true := by kernel_rfl
theorem wideAd : (match Tryz.prog.underlying 66 with | some (.array _ _) | some (.struct _) => true | _ => false) = true := by kernel_rfl
theorem laidAd : laidOutB Tryz.prog = true := by kernel_rfl
set_option maxRecDepth 100000 in
theorem lawAd : Keyed Tryz.prog 66 := Keyed.of_law (deep_law_laid laidAd (m := 3) (by omega) rowAd (by kernel_rfl) wideAd)
theorem cellsAd : Tryz.prog.cellsOf 66 = 2 := by kernel_rfl
theorem cells64 : Tryz.prog.cellsOf 22 = 1 := by kernel_rfl
theorem wf64 (x : UInt64) : (Lit.int .u64 (x.toNat : Int)).wf = true := by
  have := x.toNat_lt
  simp [Lit.wf, IntKind.min, IntKind.max, IntKind.signed, IntKind.bits]
  omega
theorem keyLits64 (d : Nat) (x : UInt64) : Tryz.prog.keyLits (d + 1) 22 [W64 x] = some [.int .u64 (x.toNat : Int)] := by
  unfold Program.keyLits
  rw [Tryz.underlying22]
  simp [W64, wf64]
theorem keyLitsAd (d : Nat) (x y : UInt64) : Tryz.prog.keyLits (d + 2) 66 [W64 x, W64 y] = some [.int .u64 (x.toNat : Int), .int .u64 (y.toNat : Int)] := by
  unfold Program.keyLits
  rw [Tryz.underlying66]
  simp [cellsAd, cells64, keyLits64]
def addrK : PKey Tryz.prog 66 (UInt64 × UInt64) where
  kv x := .agg #[W64 x.1, W64 x.2]
  kl x := .string (keyBytes [.int .u64 (x.1.toNat : Int), .int .u64 (x.2.toNat : Int)])
  ok x := by
    have hf : (Value.agg #[W64 x.1, W64 x.2]).formed Tryz.prog 66 = true := by
      simp [Value.formed, Tryz.underlying66, cellsAd]
    unfold keyOf
    rw [Tryz.underlying66]
    have hk : Tryz.prog.keyType 66 = true := deepAd
    obtain ⟨d, hd⟩ : ∃ d, Tryz.prog.types.size + 1 = d + 2 := ⟨Tryz.prog.types.size - 1, by have := rowAd; omega⟩
    simp only [hk, hf, Bool.and_self, if_true, hd]
    show (Tryz.prog.keyLits (d + 2) 66 [W64 x.1, W64 x.2]).map _ = _
    rw [keyLitsAd]
    rfl
  inj x y h := by
    have h1 : [W64 x.1, W64 x.2] = [W64 y.1, W64 y.2] := congrArg Array.toList (Value.agg.inj h)
    have h2 : W64 x.1 = W64 y.1 := (List.cons.inj h1).1
    have h3 : W64 x.2 = W64 y.2 := (List.cons.inj (List.cons.inj h1).2).1
    have e : ∀ a b : UInt64, W64 a = W64 b → a = b := fun a b h => by
      have : (a.toNat : Int) = b.toNat := by simpa [W64] using h
      exact UInt64.toNat_inj.1 (by omega)
    exact Prod.ext (e _ _ h2) (e _ _ h3)
  law := lawAd
end Go.Proofs.YtkibgdigcgakfabGreat
