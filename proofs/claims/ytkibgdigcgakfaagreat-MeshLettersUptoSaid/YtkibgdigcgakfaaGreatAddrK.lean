/-
  Maps keyed by a node's number and a message's.
-/
import Derived.Test.YtkibgdigcgakfaaGreatProg
import Derived.Test.YtkibgdigcgakfaaGreatPMap
namespace Go.Proofs.YtkibgdigcgakfaaGreat
open Go.RowKit Go.Maps

theorem rowAd : (56 : Nat) < Tryz.prog.types.size := of_decide_eq_true (by kernel_rfl)
theorem deepAd : Tryz.prog.keyTypeAt (Tryz.prog.types.size + 1) 56 = true := by kernel_rfl
theorem wideAd : (match Tryz.prog.underlying 56 with | some (.array _ _) | some (.struct _) => true | _ => false) = true := by kernel_rfl
theorem laidAd : laidOutB Tryz.prog = true := by kernel_rfl
set_option maxRecDepth 100000 in
theorem lawAd : Keyed Tryz.prog 56 := Keyed.of_law (deep_law_laid laidAd (m := 3) (by omega) rowAd (by kernel_rfl) wideAd)
theorem cellsAd : Tryz.prog.cellsOf 56 = 2 := by kernel_rfl
theorem cells64 : Tryz.prog.cellsOf 25 = 1 := by kernel_rfl
theorem wf64 (x : UInt64) : (Lit.int .u64 (x.toNat : Int)).wf = true := by
  have := x.toNat_lt
  simp [Lit.wf, IntKind.min, IntKind.max, IntKind.signed, IntKind.bits]
  omega
theorem keyLits64 (d : Nat) (x : UInt64) : Tryz.prog.keyLits (d + 1) 25 [W64 x] = some [.int .u64 (x.toNat : Int)] := by
  unfold Program.keyLits
  rw [Tryz.underlying25]
  simp [W64, wf64]
theorem keyLitsAd (d : Nat) (x y : UInt64) : Tryz.prog.keyLits (d + 2) 56 [W64 x, W64 y] = some [.int .u64 (x.toNat : Int), .int .u64 (y.toNat : Int)] := by
  unfold Program.keyLits
  rw [Tryz.underlying56]
  simp [cellsAd, cells64, keyLits64]
def addrK : PKey Tryz.prog 56 (UInt64 × UInt64) where
  kv x := .agg #[W64 x.1, W64 x.2]
  kl x := .string (keyBytes [.int .u64 (x.1.toNat : Int), .int .u64 (x.2.toNat : Int)])
  ok x := by
    have hf : (Value.agg #[W64 x.1, W64 x.2]).formed Tryz.prog 56 = true := by
      simp [Value.formed, Tryz.underlying56, cellsAd]
    unfold keyOf
    rw [Tryz.underlying56]
    have hk : Tryz.prog.keyType 56 = true := deepAd
    obtain ⟨d, hd⟩ : ∃ d, Tryz.prog.types.size + 1 = d + 2 := ⟨Tryz.prog.types.size - 1, by have := rowAd; omega⟩
    simp only [hk, hf, Bool.and_self, if_true, hd]
    show (Tryz.prog.keyLits (d + 2) 56 [W64 x.1, W64 x.2]).map _ = _
    rw [keyLitsAd]
    rfl
  inj x y h := by
    have h1 : [W64 x.1, W64 x.2] = [W64 y.1, W64 y.2] := congrArg Array.toList (Value.agg.inj h)
    have h2 : W64 x.1 = W64 y.1 := (List.cons.inj h1).1
    have h3 : W64 x.2 = W64 y.2 := (List.cons.inj (List.cons.inj h1).2).1
    have e : ∀ a b : UInt64, W64 a = W64 b → a = b := fun a b h => by
      have : (a.toNat : Int) = b.toNat := by simpa [W64] using h
      exact UInt64.toNat_inj.1 (by omega)
    exact Prod.ext (e _ _ h2) (e _ _ h3)
  law := lawAd
end Go.Proofs.YtkibgdigcgakfaaGreat
