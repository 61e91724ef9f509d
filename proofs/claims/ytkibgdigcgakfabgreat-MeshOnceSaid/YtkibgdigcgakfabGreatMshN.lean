/-
  shallotlaw17.awake.
-/
import Derived.Test.YtkibgdigcgakfabGreatMshK
import Derived.Test.YtkibgdigcgakfabGreatMshL
namespace Go.Proofs.YtkibgdigcgakfabGreat
open Go.RowKit
open Go.BigFrame

abbrev tz0 : List Value := [.slice none 0 0, .slice none 0 0, .int .i64 0]
abbrev em9 : List Value := [.int .i64 (-1), .int .u64 0, .slice none 0 0]
theorem built_em9 : Tryz.prog.built 61 [(0, .int .i64 (-1))] = some em9.toArray := by kernel_rfl
theorem built_tz0 : Tryz.prog.built 50 [] = some tz0.toArray := by kernel_rfl
theorem size3t : (Tryz.prog.info? 50).map (·.size) = some 3 := by kernel_rfl
theorem tz0_one : ∀ u ∈ tz0, u.oneCell' = true := by
  intro u hu
  simp only [List.mem_cons, List.not_mem_nil, or_false] at hu
  rcases hu with rfl | rfl | rfl <;> rfl
theorem infoAw2 : (Tryz.prog.info? 36).map (fun i => (i.zero, i.size)) = some (some (.agg (AvC av0).toArray), 24) := by kernel_rfl
set_option maxRecDepth 100000 in
theorem carry_neg (w : World) : Calls Tryz.prog 14 #[.slice none 0 0, .agg em9.toArray] w fun e w' => e = .returned (.tuple #[.agg tz0.toArray, .int .i64 1]) ∧ Later w w' := by
  have B1 := bag_new w 61 em9
  have B2 := B1.add (later_alloc _ (.cells tz0.toArray 50)) (k := w.heap.size + 1) (by simp) (by omega) (Blk.new' _ _ tz0 (by simp))
  have e0 := (B2.nth 1 rfl).cellD 0 (u := .int .i64 (-1)) rfl
  have hb := hid built_tz0
  go_enter Tryz.func14, Tryz.ntmps14
  go_wp2_with (first
    | (refine wpList_build_w ?hw 50 _ rfl tz0 (by simp only [List.map_toArray, List.map_nil]; exact hb.out) ?_; (case hw => rfl))
    | (refine wpList_store_blk rfl rfl _ _ _ rfl (w.heap.size + 1) _ _ tz0 (B2.nth 0 rfl) rfl rfl 3 size3t rfl rfl tz0_one ?_; intro w5 hb5 ho5)
    | fail)
  exact bodyPost_ret (results_blk_tmp rfl _ _ _ _ _ _ hb5 rfl Tryz.underlying50 rfl size3t) rfl ⟨rfl, B2.lat.only ho5 (by omega)⟩
theorem AvC_rd {w : World} {g : Nat} {t : TypeId} {x : Arv} (h : Blk w g t (AvC x)) : RdF AvC 24 av0 w (some ⟨g, 0, none⟩) 1 [x] :=
  blk_rdF AvC_length (by rw [show [x].flatMap AvC = AvC x by simp]; exact h) rfl
theorem map_oneM {α β : Type} (f : α → β) {l : List α} {b : β} (h : l.map f = [b]) : ∃ y, l = [y] ∧ f y = b := by
  rcases l with _ | ⟨y, _ | ⟨z, zs⟩⟩
  · simp at h
  · exact ⟨y, rfl, by simpa using h⟩
  · simp at h
abbrev aa9 (g : Nat) : List Value := [.int .u8 1, .int .u64 5, .int .i64 0, .int .i64 1, .slice (some ⟨g, 0, none⟩) 1 1, .int .u8 2, .int .u64 3, .int .i64 7, .int .u8 0, .int .u8 0, .int .u8 0, .int .u8 0, .int .u8 0, .int .u8 0, .int .u8 0, .int .u8 0, .int .u8 0, .int .u8 0, .int .u8 0, .int .u8 0, .int .u8 0, .int .u8 0, .int .u8 0, .int .u8 0]
theorem aa9_eq (g : Nat) : aa9 g = AvC ⟨ar9, .slice (some ⟨g, 0, none⟩) 1 1⟩ := by rfl
set_option maxRecDepth 100000 in
set_option maxHeartbeats 4000000 in
theorem awake17 (w : World) : Calls Tryz.prog 5 #[] w fun e w' => e = .returned (.bool true) ∧ Later w w' := by
  have B1 := bag_new w 5 [.int .u8 9]
  have B2 := B1.add (later_alloc _ (.cells (aa9 w.heap.size).toArray 36)) (k := w.heap.size + 1) (by simp) (by omega) (Blk.new' _ _ (aa9 w.heap.size) (by simp))
  have hx := AvC_rd (x := ⟨ar9, .slice (some ⟨w.heap.size, 0, none⟩) 1 1⟩) (aa9_eq w.heap.size ▸ (B2.nth 0 rfl))
  have hr9 := blk_head (bs := [9]) (rest := []) (B2.nth 1 rfl) rfl
  have hok : ∀ x ∈ [(⟨ar9, .slice (some ⟨w.heap.size, 0, none⟩) 1 1⟩ : Arv)], AvOk ((w.alloc (.cells [.int .u8 9].toArray 5)).alloc (.cells (aa9 w.heap.size).toArray 36)) x := by
    intro x hx
    obtain rfl : x = _ := by simpa using hx
    exact ⟨_, 1, 1, rfl, Nat.le_refl _, hr9⟩
  have HL := hid (letters_any (some ⟨w.heap.size + 1, 0, none⟩) 1 1 _ _ hx hok (by omega))
  have j2 := B2.lat
  clear hx hr9 hok B1 B2
  go_enter Tryz.func5, Tryz.ntmps5
  go_wp2_with fail
  refine HL.out.mono ?_
  clear HL
  rintro e w1 ⟨v, ys, rfl, ⟨bm, k, f, K, S⟩, hys⟩
  obtain ⟨y, rfl, hy⟩ : ∃ y, ys = [y] ∧ y.lt = ⟨3, 5, 7, [9]⟩ := by
    exact map_oneM _ (hys.trans ltrs9)
  obtain ⟨lt, va, vn, vc⟩ := y
  simp only at hy
  subst hy
  have htx := S.txt _ (List.mem_singleton.2 rfl)
  simp only at htx
  obtain rfl : 1 = vn := htx.len
  have hown := S.own
  simp only [List.flatMap_cons, List.flatMap_nil, List.append_nil, List.length_singleton] at hown
  have j1 := S.lat
  clear S hys
  rcases hown.2 with ⟨_, h⟩ | ⟨g, cap, cur, rfl, _⟩
  · omega
  go_wp2_with fail
  refine (carry_neg w1).mono ?_
  rintro e w2 ⟨rfl, l2⟩
  go_wp2_with (first
    | (refine wpList_store_blk rfl rfl _ _ _ rfl w2.heap.size _ _ tz0 (Blk.new w2 _ tz0) rfl rfl 3 size3t rfl rfl tz0_one ?_; intro w5 hb5 ho5
       have l5 : Later w1 w5 := l2.trans ((later_alloc w2 _).only ho5 (Nat.le_refl _))
       have hown5 := own_laterF hown l5
       have q0 : w5.cell? ⟨g, 0, none⟩ = some (W64 3) := hown5.cells (g := g) rfl 0 _ rfl
       have q1 : w5.cell? ⟨g, 1, none⟩ = some (W64 5) := hown5.cells (g := g) rfl 1 _ rfl
       have q2 : w5.cell? ⟨g, 2, none⟩ = some (.int .i64 7) := hown5.cells (g := g) rfl 2 _ rfl
       have q3 : w5.cell? ⟨g, 3, none⟩ = some (.slice va 1 vc) := hown5.cells (g := g) rfl 3 _ rfl)
    | fail)
  refine (equal_any va (some ⟨w5.heap.size, 0, none⟩) 1 1 vc 1 [9] [9] _ ((htx.rd.later l5).later (later_alloc w5 _)) (blk_head (bs := [9]) (rest := []) (Blk.new w5 5 [.int .u8 9]) rfl) (by omega) (by omega)).mono ?_
  rintro e w6 ⟨rfl, l6⟩
  simp only [decide_true]
  go_wp2_with fail
  go_ret
  exact ⟨rfl, ((j2.trans j1).trans l5).trans ((later_alloc w5 _).trans l6)⟩
end Go.Proofs.YtkibgdigcgakfabGreat
