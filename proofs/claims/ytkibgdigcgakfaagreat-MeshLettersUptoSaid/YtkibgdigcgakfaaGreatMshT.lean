/-
  shallotref11.Twin; shallotlaw17.arrival.
-/
import Derived.Test.YtkibgdigcgakfaaGreatFrmA
import Derived.Test.YtkibgdigcgakfaaGreatMeshC
import Derived.Test.YtkibgdigcgakfaaGreatMshS
namespace Go.Proofs.YtkibgdigcgakfaaGreat
open Go.RowKit
open Go.BigFrame

set_option maxRecDepth 100000 in
theorem twin11_any (p : Prt) (A : Option Addr) (n c : Nat) (w : World) (hr : RdB w A n p.da) (hn : n ≤ 1048576) :
    Calls Tryz.prog 11 #[.agg (PaC p (.slice A n c)).toArray] w fun e w' => ∃ A' c', e = .returned (.agg (PaC p (.slice A' n c')).toArray) ∧ OwnB w' w.heap.size A' n c' p.da ∧ Later w w' := by
  have B1 := bag_new w 28 (PaC p (.slice A n c))
  have B2 : Bag w ((w.alloc (.cells (PaC p (.slice A n c)).toArray 28)).alloc (.cells pz0.toArray 28)) [((w.alloc (.cells (PaC p (.slice A n c)).toArray 28)).heap.size, 28, pz0), (w.heap.size, 28, PaC p (.slice A n c))] :=
    B1.add (later_alloc _ _) (by simp) (by simp) (Blk.new _ _ _)
  have d4 := (prt_cells (B2.nth 1 rfl)).2.2.2.2
  go_enter Tryz.func11, Tryz.ntmps11
  go_wp2_with fail
  refine (copy_any A n c p.da _ (hr.later B2.lat) (by omega)).mono ?_
  rintro e w3 ⟨A3, c3, rfl, hown3, l3⟩
  have B3 := B2.later l3
  have hs2 : ((w.alloc (.cells (PaC p (.slice A n c)).toArray 28)).alloc (.cells pz0.toArray 28)).heap.size = w.heap.size + 2 := by simp
  have hs1 : (w.alloc (.cells (PaC p (.slice A n c)).toArray 28)).heap.size = w.heap.size + 1 := by simp
  rw [hs2] at hown3
  go_wp2_with (first
    | (refine wpList_store_in rfl rfl _ _ _ rfl w.heap.size 4 _ _ (B3.nth 1 rfl) rfl (by rw [PaC_length]; omega) rfl (by kernel_rfl) ?_; intro v4 w4 hv4 hb4 ho4; simp [go_sem] at hv4; subst hv4
       have hq4 := (B3.nth 0 rfl).only ho4 (by omega)
       rw [hs1] at hq4)
    | (refine load_Pa ?hw _ rfl (show Blk w4 w.heap.size 28 (PaC p (.slice A3 n c3)) from hb4) rfl ?_; (case hw => rfl))
    | (refine store_Pa (p := p) (v := .slice A3 n c3) rfl rfl _ _ rfl hq4 rfl rfl rfl rfl ?_; intro w5 hb5 ho5)
    | fail)
  have o4 := own_grown hown3 ho4 (fun k hk => .inl (by simp only [Option.some.injEq] at hk; omega))
  have o5 := own_grown o4 ho5 (fun k hk => .inl (by simp only [Option.some.injEq] at hk; omega))
  exact bodyPost_ret (results_blk rfl _ _ _ _ _ _ hb5 rfl Tryz.underlying28 rfl (by rw [PaC_length]; exact size5p)) rfl ⟨A3, c3, rfl, own_mono o5 (by omega), (B3.lat.only ho4 (Nat.le_refl _)).only ho5 (by omega)⟩
/-- An arrival of the program; va, vn, vc: its part's data. -/
structure Arw where
  ar : Arr
  va : Option Addr
  vn : Nat
  vc : Nat
def ArC (x : Arw) : List Value := AvC ⟨x.ar, .slice x.va x.vn x.vc⟩
theorem ArC_length (x : Arw) : (ArC x).length = 24 := AvC_length _
theorem zeroAw : (Tryz.prog.info? 33).bind (·.zero) = some (.agg (AvC av0).toArray) := by kernel_rfl
theorem built_aw (ar : Arr) (A : Option Addr) (n c : Nat) : Tryz.prog.built 33 [(0, .agg (PaC ar.pt (.slice A n c)).toArray), (1, W8 ar.kd), (2, W64 ar.to), (3, .int .i64 ar.tk), (4, .agg (ar.ma.val.map W8).toArray)] = some (AvC ⟨ar, .slice A n c⟩).toArray := by
  have hm := ar.ma.2
  rw [built_struct (pl := [(0, 5), (5, 1), (6, 1), (7, 1), (8, 16)]) Tryz.underlying33 zeroAw (by kernel_rfl), fill_cons (vs := PaC ar.pt (.slice A n c)) (off := 0) rfl rfl (by rw [AvC_length]; simp [PaC]), fill_cons (vs := [W8 ar.kd]) (off := 5) rfl rfl (by simp [AvC, PaC, spliced, av0, zero16]),
    fill_cons (vs := [W64 ar.to]) (off := 6) rfl rfl (by simp [AvC, PaC, spliced, av0, zero16]), fill_cons (vs := [.int .i64 ar.tk]) (off := 7) rfl rfl (by simp [AvC, PaC, spliced, av0, zero16]), fill_cons (vs := ar.ma.val.map W8) (off := 8) rfl (by simp [hm]) (by simp [AvC, PaC, spliced, av0, zero16, hm]), fill_nil]
  congr 2
  simp [AvC, PaC, spliced, av0, zero16, hm]
end Go.Proofs.YtkibgdigcgakfaaGreat
