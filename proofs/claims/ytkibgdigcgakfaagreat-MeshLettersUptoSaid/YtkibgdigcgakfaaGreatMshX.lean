/-
  MeshLetters: its walk.
-/
import Derived.Test.YtkibgdigcgakfaaGreatMshN
import Derived.Test.YtkibgdigcgakfaaGreatMshQ
import Derived.Test.YtkibgdigcgakfaaGreatMshE
namespace Go.Proofs.YtkibgdigcgakfaaGreat
open Go.RowKit
open Go.BigFrame

theorem whole_le {ks : List Prt} (h : KeptOk ks) : (whole ks).length ≤ 7200 := by
  have h1 : ∀ i, (daAt ks i).length ≤ 450 := by
    intro i
    unfold daAt
    cases hf : ks.find? (fun q => q.ix == (i : Int)) with
    | none => simp
    | some q => simpa using (prtE_ok (h.good q (List.mem_of_find?_eq_some hf)).2).2.2.2.2
  have h2 : ∀ n, ((List.range n).flatMap (daAt ks)).length ≤ n * 450 := by
    intro n
    induction n with
    | zero => simp
    | succ n ih =>
      have := h1 n
      rw [List.range_succ, List.flatMap_append, List.length_append]
      simp only [List.flatMap_cons, List.flatMap_nil, List.append_nil]
      omega
  have h3 : ks.length ≤ 16 := by
    cases ks with
    | nil => simp
    | cons q ks =>
      have h4 := prtE_ok (h.good q (by simp)).2
      have := h.le (c := q.ct) (fun r hr => h.same r hr q (by simp)) (by omega)
      omega
  have := h2 ks.length
  rw [whole_eq h]
  omega
theorem ltrOf_len (qs : List Arr) (a : Arr) : (ltrOf qs a).length ≤ 1 := by
  unfold ltrOf
  split <;> simp
theorem ltrOf_tx (qs : List Arr) (a : Arr) : ∀ l ∈ ltrOf qs a, l.tx.length ≤ 7200 := by
  intro l hl
  unfold ltrOf at hl
  split at hl
  · rename_i h
    obtain rfl : l = _ := by simpa using hl
    have hk := (keptOk_by qs (a.to, a.pt.id)).snoc (id := a.pt.id) (p := a.pt)
    rw [tkK, if_pos h.2.2.1] at hk
    exact whole_le hk
  · cases hl
theorem ltrs_len (qs : List Arr) : ∀ k, (ltrs qs k).length ≤ k
  | 0 => by simp [ltrs]
  | k + 1 => by
    have ih := ltrs_len qs k
    unfold ltrs at ih ⊢
    rw [List.range_succ, List.flatMap_append, List.length_append]
    simp only [List.flatMap_cons, List.flatMap_nil, List.append_nil]
    split
    · have := ltrOf_len (qs.take k) (by assumption)
      omega
    · rw [List.length_nil]
      omega
theorem ltrs_tx (qs : List Arr) (k : Nat) : ∀ l ∈ ltrs qs k, l.tx.length ≤ 7200 := by
  intro l hl
  obtain ⟨i, _, hi⟩ := List.mem_flatMap.1 hl
  split at hi
  · exact ltrOf_tx _ _ l hi
  · cases hi
theorem RdF_takeN {α : Type} {F : α → List Value} {sz : Nat} {d : α} {w : World} {A : Option Addr} {n m : Nat} {xs : List α} (h : RdF F sz d w A n xs) (hm : m ≤ n) : RdF F sz d w A m (xs.take m) := by
  refine ⟨by rw [List.length_take, h.1]; omega, fun h0 => ?_⟩
  obtain ⟨b, o, hA, hb, hc⟩ := h.2 (by omega)
  refine ⟨b, o, hA, hb, fun j i v hj hv => hc j i v (by omega) ?_⟩
  rw [List.getD_eq_getElem?_getD, List.getElem?_take, if_pos hj] at hv
  rw [List.getD_eq_getElem?_getD]
  exact hv
theorem ArC_one (x : Arw) : ∀ u ∈ ArC x, u.oneCell' = true := AvC_oneR _ rfl
def Arw.av (x : Arw) : Arv := ⟨x.ar, .slice x.va x.vn x.vc⟩
theorem ArC_av (gs : List Arw) : (gs.map Arw.av).flatMap AvC = gs.flatMap ArC := by
  rw [List.flatMap_map]
  rfl
def aw0 : Arw := ⟨⟨prt0, 0, 0, 0, zero16⟩, none, 0, 0⟩
theorem infoAw : (Tryz.prog.info? 33).map (fun i => (i.zero, i.size, i.bytes)) = some (some (.agg (ArC aw0).toArray), 24, 96) := by kernel_rfl
def AwOk (w : World) (base : Nat) (g : Arw) : Prop := OwnB w base g.va g.vn g.vc g.ar.pt.da
theorem AwOk.av {w : World} {base : Nat} {g : Arw} (h : AwOk w base g) : AvOk w g.av := ⟨g.va, g.vn, g.vc, rfl, h.cap, h.rd⟩
set_option maxRecDepth 100000 in
set_option maxHeartbeats 4000000 in
theorem meshLetters_walk (A : Option Addr) (n0 c : Nat) (xs0 : List Arv) (w : World) (hx0 : RdF AvC 24 av0 w A n0 xs0) (hnc : n0 ≤ c) (hok0 : ∀ y ∈ xs0, AvOk w y ∧ y.ar.pt.da.length ≤ 1048576) :
    Calls Tryz.prog 3 #[.slice A n0 c] w fun e w' => e = .returned (.bool true) ∧ Later w w' := by
  obtain ⟨n, xs, hB, hn6, hx, hok⟩ : ∃ (n : Nat) (xs : List Arv), ((decide ((60 : Int) < (n0 : Int)) = false ∧ n = n0) ∨ (decide ((60 : Int) < (n0 : Int)) = true ∧ ∀ W, (Instr.sliceAt 22 (.slice A n0 c) none (some (.int .i64 60)) none).run Tryz.prog W = .ok (.slice A n c) W)) ∧ n ≤ 60 ∧ RdF AvC 24 av0 w A n xs ∧ (∀ y ∈ xs, AvOk w y ∧ y.ar.pt.da.length ≤ 1048576) := by
    by_cases h : n0 ≤ 60
    · exact ⟨n0, xs0, .inl ⟨decide_eq_false (by omega), rfl⟩, h, hx0, hok0⟩
    · refine ⟨60, xs0.take 60, .inr ⟨decide_eq_true (by omega), fun W => ?_⟩, by omega, RdF_takeN hx0 (by omega), fun y hy => hok0 y (List.mem_of_mem_take hy)⟩
      have g3 : (60 : Nat) ≤ c := by omega
      simp [go_sem]
      intro h'
      omega
  have hxl := hx.1
  clear hx0 hok0
  rcases hB with ⟨hdec, rfl⟩ | ⟨hdec, hcut⟩
  all_goals
    go_enter Tryz.func3, Tryz.ntmps3
    go_wp2_with fail
    (with_reducible refine (awake17 _).mono ?_); rintro e w1 ⟨rfl, j1⟩
    go_wp2_with fail
    clear hdec
    go_loopw [3, 15] (fun v3 i wr => ∃ (k : Nat) (gs : List Arw) (A' : Option Addr) (c' : Nat), k ≤ n ∧ i = .int .i64 k ∧ v3 = .slice A' k c' ∧ gs.length = k ∧ Later w wr ∧ wr.ownsRow w.heap.size 33 24 (.slice A' k c') k (gs.flatMap ArC) ∧ Hid (gs.map (·.ar) = (xs.map (·.ar)).take k) ∧ ∀ g ∈ gs, AwOk wr w.heap.size g) (fun _ i _ => n - (intOf i).toNat)
    case atStart => exact ⟨0, [], none, 0, by omega, rfl, rfl, rfl, j1, ⟨by simp, .inl ⟨rfl, rfl⟩⟩, hid rfl, by simp⟩
    case round =>
      clear j1
      obtain ⟨k, gs, A2, c2, hk, rfl, rfl, hgl, L, hown, hgs, hgo⟩ := hrel
      by_cases hlt : k < n
      · obtain ⟨b, o, rfl, hb, hc⟩ := (hx.later L).at_ hlt
        have hmem : xs.getD k av0 ∈ xs := by
          rw [List.getD_eq_getElem?_getD, List.getElem?_eq_getElem (by omega)]
          exact List.getElem_mem _
        have htk : Hid ((xs.map (·.ar)).take (k + 1) = (xs.map (·.ar)).take k ++ [(xs.getD k av0).ar]) := hid (by
          rw [List.take_add_one, List.getElem?_map, List.getD_eq_getElem?_getD, List.getElem?_eq_getElem (by omega)]
          rfl)
        obtain ⟨⟨A5, n5, c5, hva, hnc5, hrd5⟩, hln5⟩ := hok _ hmem
        rw [hrd5.len] at hln5
        generalize xs.getD k av0 = x at *
        obtain ⟨ar, va⟩ := x
        simp only at hva hrd5 hln5
        subst hva
        clear hmem
        go_wp2_with (first
          | (refine wpList_load_at ?hw _ _ rfl b (o + k * 24) (AvC ⟨ar, .slice A5 n5 c5⟩) hc rfl _ Tryz.underlying31 rfl (by rw [AvC_length]; exact size24r) ?_; (case hw => rfl))
          | (refine wpList_store_blk rfl rfl _ _ _ rfl wr.heap.size _ _ (AvC ⟨ar, .slice A5 n5 c5⟩) (Blk.new wr _ (AvC av0)) rfl rfl 24 size24r (AvC_length _) (AvC_length av0) (AvC_oneR _ rfl) ?_; intro w2 hb2 ho2
             have l2 : Later wr w2 := (later_alloc wr _).only ho2 (Nat.le_refl _))
          | (refine wpList_load_at ?hw _ _ rfl wr.heap.size 0 (AvC ⟨ar, .slice A5 n5 c5⟩) (fun j v hv => by rw [Nat.zero_add]; exact hb2.cellD j hv) rfl _ Tryz.underlying31 rfl (by rw [AvC_length]; exact size24r) ?_; (case hw => rfl))
          | fail)
        refine (arrival_any ar A5 n5 c5 w2 (hrd5.later (L.trans l2)) hln5).mono ?_
        rintro e w3 ⟨A6, c6, rfl, hown6, l3⟩
        have l23 := l2.trans l3
        go_wp2_with (first
          | (refine build_oneC ?hw 24 _ rfl 33 24 _ (AvC ⟨ar, .slice A6 n5 c6⟩) Tryz.underlying24 infoAw2 (by omega) (by omega) (AvC_length _) rfl ?_; (case hw => rfl))
          | (refine wpList_append_f (F := ArC) (d := aw0) ArC_length ArC_one (by omega) rfl _ _ _ rfl 33 _ 96 Tryz.underlying24 infoAw rfl w _ _ _ (own_laterF hown (l23.trans (later_alloc _ _))) (L.trans (l23.trans (later_alloc _ _))) (some ⟨w3.heap.size, 0, none⟩) 1 1 [⟨ar, A6, n5, c6⟩] (blk_rdF ArC_length (show Blk (w3.alloc (.cells (ArC ⟨ar, A6, n5, c6⟩).toArray 33)) w3.heap.size 33 ([(⟨ar, A6, n5, c6⟩ : Arw)].flatMap ArC) by simp only [List.flatMap_cons, List.flatMap_nil, List.append_nil]; exact Blk.new w3 _ _) rfl) rfl rfl (by omega) (by omega) ?_; intro A8 c8 w8 hown8 hl8 hg8)
          | fail)
        have hgo8 : ∀ g ∈ gs ++ [⟨ar, A6, n5, c6⟩], AwOk w8 w.heap.size g := by
          intro g hg
          have hr := own_laterF hown (l23.trans (later_alloc w3 (.cells (ArC ⟨ar, A6, n5, c6⟩).toArray 33)))
          rcases List.mem_append.1 hg with hg | hg
          · exact own_otherK (own_later (hgo g hg) (l23.trans (later_alloc _ _))) hr (by decide) hg8
          · obtain rfl : g = ⟨ar, A6, n5, c6⟩ := by simpa using hg
            exact own_otherK (own_later (own_mono hown6 (L.trans l2).size) (later_alloc _ _)) hr (by decide) hg8
        exact ⟨⟨k + 1, gs ++ [⟨ar, A6, n5, c6⟩], A8, c8, by omega, by go_num, rfl, by simp [hgl], hl8, by simpa using hown8, hid (by rw [List.map_append, hgs.out, htk.out]; rfl), hgo8⟩, by simp [intOf]; omega⟩
      · obtain rfl : k = n := by omega
        have hm1 : (gs.map Arw.av).map (·.ar) = xs.map (·.ar) := by
          rw [List.map_map, List.take_of_length_le (by rw [List.length_map]; omega)] at *
          exact hgs.out
        have hLe := hid (letters_any A2 k c2 (gs.map Arw.av) wr (own_rdF (d := av0) AvC_length (by rw [ArC_av]; exact hown) (by rw [List.length_map]; exact hgl)) (fun x hx => by
          obtain ⟨g, hg, rfl⟩ := List.mem_map.1 hx
          exact (hgo g hg).av) (by omega))
        rw [hm1] at hLe
        have hRe := hid (fun (w' : World) (l : Later w w') => letters_ref A k c xs w' (hx.later l) (fun y hy => (hok y hy).1.later l) (by omega))
        have hll := ltrs_len (xs.map (·.ar)) k
        have hlt7 := hid (ltrs_tx (xs.map (·.ar)) k)
        generalize ltrs (xs.map (·.ar)) k = M at *
        clear hm1 hgs hgo
        go_wp2_with fail
        refine hLe.out.mono ?_
        rintro e w5 ⟨v5, ys, rfl, ⟨bm, k5, f, K, S⟩, hys⟩
        go_wp2_with fail
        refine (hRe.out w5 (L.trans S.lat)).mono ?_
        rintro e w6 ⟨v6, zs, rfl, R, hzs⟩
        have S6 := S.later R.lat
        obtain ⟨A7, c7, rfl, _⟩ := own_shapeF S6.own
        obtain ⟨A8, c8, rfl, _⟩ := own_shapeF R.own
        have hyz : ys.length = zs.length := by
          have := congrArg List.length (hys.trans hzs.symm)
          simpa using this
        have hyM : ys.length = M.length := by
          have := congrArg List.length hys
          simpa using this
        have hLy : LtRow w6 A7 ys.length ys := ⟨own_rdF (d := lv0) LtC_length S6.own rfl, fun y hy => ⟨(S6.txt y hy).rd, by
          have := hlt7.out y.lt (by rw [← hys]; exact List.mem_map.2 ⟨y, hy, rfl⟩)
          have := (S6.txt y hy).len
          omega⟩⟩
        have hLz : LtRow w6 A8 ys.length zs := ⟨own_rdF (d := lv0) LtC_length (by rw [hyz]; exact R.own) hyz.symm, fun y hy => ⟨(R.txt y hy).rd, by
          have := hlt7.out y.lt (by rw [← hzs]; exact List.mem_map.2 ⟨y, hy, rfl⟩)
          have := (R.txt y hy).len
          omega⟩⟩
        have hSm := hid (same17_ok A7 A8 ys.length c7 c8 ys zs w6 hLy hLz (by omega) (hys.trans hzs.symm))
        have lz := S.lat.trans R.lat
        rw [hyz] at hSm
        clear hLy hLz hyM hys hzs S S6 R hlt7
        go_wp2_with fail
        first
        | (refine hSm.out.mono ?_)
        | (rw [hyz]; refine hSm.out.mono ?_)
        rintro e w7 ⟨rfl, l7⟩
        go_wp2_with fail
        go_ret
        exact ⟨rfl, L.trans (lz.trans l7)⟩
end Go.Proofs.YtkibgdigcgakfaaGreat
