/-
  shallotref11.Whole.
-/
import Derived.Test.YtkibgdigcgakfaaGreatMshR
import Derived.Test.YtkibgdigcgakfaaGreatMacP
namespace Go.Proofs.YtkibgdigcgakfaaGreat
open Go.RowKit
open Go.BigFrame

def PvOk (w : World) (x : Pv) : Prop := x.vn ≤ x.vc ∧ RdB w x.va x.vn x.p.da
theorem PvOk.later {w w' : World} {x : Pv} (h : PvOk w x) (hl : Later w w') : PvOk w' x := ⟨h.1, h.2.later hl⟩
set_option maxRecDepth 100000 in
set_option maxHeartbeats 4000000 in
theorem whole_ref (A : Option Addr) (n c : Nat) (xs : List Pv) (w : World) (hx : RdF PvC 5 pvz w A n xs) (hok : ∀ x ∈ xs, PvOk w x) (hda : ∀ x ∈ xs, x.p.da.length ≤ 450) (hn : n ≤ 16) :
    Calls Tryz.prog 16 #[.slice A n c] w fun e w' => ∃ A' m c', e = .returned (.slice A' m c') ∧ OwnB w' w.heap.size A' m c' (whole (xs.map Pv.p)) ∧ Later w w' := by
  have hxl := hx.1
  have hml : (xs.map Pv.p).length = n := by rw [List.length_map]; exact hxl
  have hda' : ∀ q ∈ xs.map Pv.p, q.da.length ≤ 450 := by
    intro q hq
    obtain ⟨x, hx, rfl⟩ := List.mem_map.1 hq
    exact hda x hx
  have hP := hid (fun i k => atP_le hda' (by omega) i k)
  have hI := hid (fun i => wholeI_le hda' (by omega) i)
  have hIs := hid (fun i => wholeI_succ (xs.map Pv.p) i)
  have hIa := hid (wholeI_all (xs.map Pv.p))
  rw [hml] at hIs hIa
  have hat : Hid (∀ i k, k < n → atP (xs.map Pv.p) i (k + 1) = atP (xs.map Pv.p) i k ++ (if ((xs.getD k pvz).p.ix == (i : Int)) = true then (xs.getD k pvz).p.da else [])) := hid fun i k hk => by
    refine atP_succ _ _ ?_
    rw [List.getElem?_map, List.getD_eq_getElem?_getD, List.getElem?_eq_getElem (by omega)]
    rfl
  have hat0 : Hid (∀ i, atP (xs.map Pv.p) i 0 = []) := hid fun i => rfl
  clear hml hda'
  generalize xs.map Pv.p = ks at *
  generalize whole ks = W at *
  go_enter Tryz.func16, Tryz.ntmps16
  go_wp2
  go_loopw [3, 4] (fun ov iv wr => ∃ (i : Nat) (A' : Option Addr) (m c' : Nat), i ≤ n ∧ iv = .int .i64 i ∧ ov = .slice A' m c' ∧ OwnB wr w.heap.size A' m c' (wholeI ks i) ∧ Later w wr) (fun _ iv _ => n - (intOf iv).toNat)
  case atStart => exact ⟨0, none, 0, 0, by omega, rfl, rfl, own_nil w _ _, Later.refl w⟩
  case round =>
    obtain ⟨i, A1, m1, c1, hi, rfl, rfl, hown, L⟩ := hrel
    by_cases hlt : i < n
    · go_wp2_with fail
      go_loopw [3, 5] (fun ov kv w2 => ∃ (k : Nat) (A' : Option Addr) (m c' : Nat), k ≤ n ∧ kv = .int .i64 k ∧ ov = .slice A' m c' ∧ OwnB w2 w.heap.size A' m c' (wholeI ks i ++ atP ks i k) ∧ Later w w2) (fun _ kv _ => n - (intOf kv).toNat)
      case atStart => exact ⟨0, A1, m1, c1, by omega, rfl, rfl, by rw [hat0.out, List.append_nil]; exact hown, L⟩
      case round =>
        clear hown L
        obtain ⟨k, A2, m2, c2, hk, rfl, rfl, hown, L⟩ := hrel
        by_cases hlk : k < n
        · obtain ⟨b, o, rfl, hb, hc⟩ := (hx.later L).at_ hlk
          have hmem : xs.getD k pvz ∈ xs := by
            rw [List.getD_eq_getElem?_getD, List.getElem?_eq_getElem (by omega)]
            exact List.getElem_mem _
          have hs := hat.out i k hlk
          obtain ⟨hnc, hrd⟩ := (hok _ hmem).later L
          have hd4 := hda _ hmem
          have hml := hown.len
          have h1 := hP.out i k
          have h2 := hI.out i
          have hle : m2 ≤ 17 * 7200 := by
            rw [← hml, List.length_append]
            have := Nat.mul_le_mul_right 7200 (show i ≤ 16 by omega)
            omega
          generalize xs.getD k pvz = x at *
          obtain ⟨p, va, vn, vc⟩ := x
          simp only at hs hrd hd4 hnc
          have hrl := hrd.len
          have q2 := hc 2 _ rfl
          have q4 := hc 4 _ rfl
          have HS := hid hs
          have HM := hid hml
          clear hs hml h1 h2 hmem hc
          by_cases hix : p.ix = (i : Int)
          · have hb1 : (p.ix == (i : Int)) = true := by simp [hix]
            have hs2 := hid (HS.out.trans (by rw [if_pos hb1]))
            go_wp2_with (first
              | (refine wpList_append_rd rfl _ _ _ rfl 5 _ 1 Tryz.underlying26 info8 rfl w _ m2 _ hown L va vn vc _ hrd (w8_one _) rfl rfl (by omega) (by omega) ?_; intro A3 c3 w3 hown3 hl3 hg3 _)
              | fail)
            exact ⟨⟨k + 1, A3, m2 + vn, c3, by omega, by go_num, rfl, by rw [hs2.out, ← List.append_assoc]; exact own_cut hown3 rfl rfl, hl3⟩, by simp [intOf]; omega⟩
          · have hb1 : (p.ix == (i : Int)) = false := by simpa using hix
            have hs2 := hid (HS.out.trans (by rw [if_neg (by rw [hb1]; decide), List.append_nil]))
            go_wp2_with fail
            exact ⟨⟨k + 1, A2, m2, c2, by omega, by go_num, rfl, by rw [hs2.out]; exact hown, L⟩, by simp [intOf]; omega⟩
        · obtain rfl : k = n := by omega
          go_wp2_with fail
          exact ⟨⟨i + 1, A2, m2, c2, by omega, by go_num, rfl, by rw [hIs.out]; exact hown, L⟩, by simp [intOf]; omega⟩
    · obtain rfl : i = n := by omega
      go_wp2_with fail
      go_ret
      exact ⟨A1, m1, c1, rfl, by rw [← hIa.out]; exact hown, L⟩
end Go.Proofs.YtkibgdigcgakfaaGreat
