/-
  curve's ladder: exchange.
-/
import Derived.Test.YtmdjhbiiifnfiaaCurve1
import Derived.BigRegion
namespace Go.Proofs.Ytmdjhbiiifnfiaa
open Go.RowKit

set_option maxRecDepth 100000 in
set_option maxHeartbeats 8000000 in
theorem exchange_any (g : Nat) (t : TypeId) (x1 x2 z2 x3 z3 : Nat) (w : World) (hb : Blk w g t (L5 x1 x2 z2 x3 z3)) :
    Calls Try.prog 70 #[.pointer (some ⟨g, 0, none⟩)] w fun e w' => e = .returned (.tuple #[]) ∧ Blk w' g t (L5 x1 x3 z3 x2 z2) ∧ Only g w w' := by
  have e0 : L5 x1 x2 z2 x3 z3 = [n64 (lim x1 0), n64 (lim x1 1), n64 (lim x1 2), n64 (lim x1 3), n64 (lim x2 0), n64 (lim x2 1), n64 (lim x2 2), n64 (lim x2 3), n64 (lim z2 0), n64 (lim z2 1), n64 (lim z2 2), n64 (lim z2 3), n64 (lim x3 0), n64 (lim x3 1), n64 (lim x3 2), n64 (lim x3 3), n64 (lim z3 0), n64 (lim z3 1), n64 (lim z3 2), n64 (lim z3 3)] := by simp only [L5, EL_four]; rfl
  have hb' := hb
  rw [e0] at hb'
  have HB := hid hb'
  clear e0 hb
  have c4 := hb'.cellD 4 rfl; have c5 := hb'.cellD 5 rfl; have c6 := hb'.cellD 6 rfl; have c7 := hb'.cellD 7 rfl
  have c8 := hb'.cellD 8 rfl; have c9 := hb'.cellD 9 rfl; have c10 := hb'.cellD 10 rfl; have c11 := hb'.cellD 11 rfl
  have c12 := hb'.cellD 12 rfl; have c13 := hb'.cellD 13 rfl; have c14 := hb'.cellD 14 rfl; have c15 := hb'.cellD 15 rfl
  have c16 := hb'.cellD 16 rfl; have c17 := hb'.cellD 17 rfl; have c18 := hb'.cellD 18 rfl; have c19 := hb'.cellD 19 rfl
  have f4 := hb'.frozen 4; have f5 := hb'.frozen 5; have f6 := hb'.frozen 6; have f7 := hb'.frozen 7
  have f8 := hb'.frozen 8; have f9 := hb'.frozen 9; have f10 := hb'.frozen 10; have f11 := hb'.frozen 11
  have f12 := hb'.frozen 12; have f13 := hb'.frozen 13; have f14 := hb'.frozen 14; have f15 := hb'.frozen 15
  have f16 := hb'.frozen 16; have f17 := hb'.frozen 17; have f18 := hb'.frozen 18; have f19 := hb'.frozen 19
  clear hb'
  go_enter Try.func70, Try.ntmps70
  go_wp2_with fail
  go_region
  have hfin := ((((((((((((((((HB.out.set_ 4 (n64 (lim x3 0))).set_ 5 (n64 (lim x3 1))).set_ 6 (n64 (lim x3 2))).set_ 7 (n64 (lim x3 3))).set_ 8 (n64 (lim z3 0))).set_ 9 (n64 (lim z3 1))).set_ 10 (n64 (lim z3 2))).set_ 11 (n64 (lim z3 3))).set_ 12 (n64 (lim x2 0))).set_ 13 (n64 (lim x2 1))).set_ 14 (n64 (lim x2 2))).set_ 15 (n64 (lim x2 3))).set_ 16 (n64 (lim z2 0))).set_ 17 (n64 (lim z2 1))).set_ 18 (n64 (lim z2 2))).set_ 19 (n64 (lim z2 3))).drew
  have hon := Only.later (c := World.drew _) (((((((((((((((((World.grownBy.refl w _).trans (only_setCell _ g 4 (n64 (lim x3 0)))).trans (only_setCell _ g 5 (n64 (lim x3 1)))).trans (only_setCell _ g 6 (n64 (lim x3 2)))).trans (only_setCell _ g 7 (n64 (lim x3 3)))).trans (only_setCell _ g 8 (n64 (lim z3 0)))).trans (only_setCell _ g 9 (n64 (lim z3 1)))).trans (only_setCell _ g 10 (n64 (lim z3 2)))).trans (only_setCell _ g 11 (n64 (lim z3 3)))).trans (only_setCell _ g 12 (n64 (lim x2 0)))).trans (only_setCell _ g 13 (n64 (lim x2 1)))).trans (only_setCell _ g 14 (n64 (lim x2 2)))).trans (only_setCell _ g 15 (n64 (lim x2 3)))).trans (only_setCell _ g 16 (n64 (lim z2 0)))).trans (only_setCell _ g 17 (n64 (lim z2 1)))).trans (only_setCell _ g 18 (n64 (lim z2 2)))).trans (only_setCell _ g 19 (n64 (lim z2 3)))) (later_drew _)
  have e1 : L5 x1 x3 z3 x2 z2 = [n64 (lim x1 0), n64 (lim x1 1), n64 (lim x1 2), n64 (lim x1 3), n64 (lim x3 0), n64 (lim x3 1), n64 (lim x3 2), n64 (lim x3 3), n64 (lim z3 0), n64 (lim z3 1), n64 (lim z3 2), n64 (lim z3 3), n64 (lim x2 0), n64 (lim x2 1), n64 (lim x2 2), n64 (lim x2 3), n64 (lim z2 0), n64 (lim z2 1), n64 (lim z2 2), n64 (lim z2 3)] := by simp only [L5, EL_four]; rfl
  clear HB c4 c5 c6 c7 c8 c9 c10 c11 c12 c13 c14 c15 c16 c17 c18 c19 f4 f5 f6 f7 f8 f9 f10 f11 f12 f13 f14 f15 f16 f17 f18 f19
  refine bodyPost_end (results_none rfl _ _ _) rfl ⟨rfl, ?_, hon⟩
  rw [e1]
  exact hfin
end Go.Proofs.Ytmdjhbiiifnfiaa
