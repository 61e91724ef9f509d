/-
  Peel: plain; relay.Peel.
  shallotref15.Peel.
-/
import Derived.Test.YtdojjnbpidogfaaGreatRly1
namespace Go.Proofs.YtdojjnbpidogfaaGreat
open Go.RowKit
open Go.BigFrame

/-! ### What is peeled -/
structure Pel where
  c : Cmd
  P : Y768
  B : List UInt8
def zeroY : Y768 := ⟨z768, z768_length⟩
def pel0 : Pel := ⟨cmd0, zeroY, []⟩
def unwY (k : List UInt8) (p : Y768) : Y768 := ⟨unwP k p.val, unwP_length k p.val p.2⟩
def unwL (k : List UInt8) (p : Y768) : Pel := ⟨unwC k p.val, unwY k p, unwB k p.val⟩
def pelL : List (List UInt8) → Y768 → List Pel
  | [], _ => []
  | k :: ks, p => if unwE k p.val = 0 then unwL k p :: (if (unwC k p.val).kd = 1 then pelL ks (unwY k p) else []) else []
def pelE : List (List UInt8) → Y768 → Nat
  | [], _ => 0
  | k :: ks, p => if unwE k p.val = 0 then (if (unwC k p.val).kd = 1 then pelE ks (unwY k p) else 0) else unwE k p.val
theorem drop_cons {ks : List (List UInt8)} {k : Nat} (h : k < ks.length) : ks.drop k = ks.getD k [] :: ks.drop (k + 1) := by
  rw [List.drop_eq_getElem_cons h, List.getD_eq_getElem?_getD, List.getElem?_eq_getElem h]
  rfl
section
variable {ks : List (List UInt8)} {k : Nat} {q : Y768}
theorem pel_end (h : ks.length ≤ k) : pelL (ks.drop k) q = [] ∧ pelE (ks.drop k) q = 0 := by
  rw [List.drop_eq_nil_of_le h]
  exact ⟨rfl, rfl⟩
theorem pel_bad (h : k < ks.length) (he : unwE (ks.getD k []) q.val ≠ 0) : pelL (ks.drop k) q = [] ∧ pelE (ks.drop k) q = unwE (ks.getD k []) q.val := by
  rw [drop_cons h, pelL, pelE, if_neg he, if_neg he]
  exact ⟨rfl, rfl⟩
theorem pel_last (h : k < ks.length) (he : unwE (ks.getD k []) q.val = 0) (hk : ¬ (unwC (ks.getD k []) q.val).kd = 1) : pelL (ks.drop k) q = [unwL (ks.getD k []) q] ∧ pelE (ks.drop k) q = 0 := by
  rw [drop_cons h, pelL, pelE, if_pos he, if_pos he, if_neg hk, if_neg hk]
  exact ⟨rfl, rfl⟩
theorem pel_next (h : k < ks.length) (he : unwE (ks.getD k []) q.val = 0) (hk : (unwC (ks.getD k []) q.val).kd = 1) : pelL (ks.drop k) q = unwL (ks.getD k []) q :: pelL (ks.drop (k + 1)) (unwY (ks.getD k []) q) ∧ pelE (ks.drop k) q = pelE (ks.drop (k + 1)) (unwY (ks.getD k []) q) := by
  rw [drop_cons h, pelL, pelE, if_pos he, if_pos he, if_pos hk, if_pos hk]
  exact ⟨rfl, rfl⟩
end
theorem pelL_length : ∀ (ks : List (List UInt8)) (p : Y768), (pelL ks p).length ≤ ks.length
  | [], _ => Nat.le_refl _
  | k :: ks, p => by
    rw [pelL]
    split
    · split
      · have := pelL_length ks (unwY k p)
        simp only [List.length_cons]
        omega
      · simp
    · simp
/-- As a value has it. -/
structure PelV where
  c : Cmd
  P : Y768
  A : Option Addr
  n : Nat
  cp : Nat
def pelv0 : PelV := ⟨cmd0, zeroY, none, 0, 0⟩
def VC (x : PelV) : List Value := PC x.c x.P.val (.slice x.A x.n x.cp)
theorem VC_length (x : PelV) : (VC x).length = 789 := PC_length _ x.P.2 _
theorem VC_one (x : PelV) : ∀ u ∈ VC x, u.oneCell' = true := PC_one _ _ rfl
def PelOk (w : World) (base : Nat) (x : PelV) (y : Pel) : Prop := x.c = y.c ∧ x.P = y.P ∧ x.n = y.B.length ∧ OwnB w base x.A x.n x.cp y.B
def PelRow (w : World) (base : Nat) : List PelV → List Pel → Prop
  | [], [] => True
  | x :: xs, y :: ys => PelOk w base x y ∧ PelRow w base xs ys
  | _, _ => False
theorem PelRow.len {w : World} {base : Nat} : ∀ {xs : List PelV} {ys : List Pel}, PelRow w base xs ys → xs.length = ys.length
  | [], [], _ => rfl
  | x :: xs, y :: ys, h => by rw [List.length_cons, List.length_cons, PelRow.len h.2]
theorem PelRow.snoc {w : World} {base : Nat} {x : PelV} {y : Pel} : ∀ {xs : List PelV} {ys : List Pel}, PelRow w base xs ys → PelOk w base x y → PelRow w base (xs ++ [x]) (ys ++ [y])
  | [], [], _, h => ⟨h, trivial⟩
  | _ :: _, _ :: _, h, h' => ⟨h.1, PelRow.snoc h.2 h'⟩
theorem PelRow.mono {w w' : World} {base : Nat} (hw : ∀ A n c B, OwnB w base A n c B → OwnB w' base A n c B) : ∀ {xs : List PelV} {ys : List Pel}, PelRow w base xs ys → PelRow w' base xs ys
  | [], [], _ => trivial
  | _ :: _, _ :: _, h => ⟨⟨h.1.1, h.1.2.1, h.1.2.2.1, hw _ _ _ _ h.1.2.2.2⟩, PelRow.mono hw h.2⟩
theorem PelRow.at_ {w : World} {base : Nat} : ∀ {xs : List PelV} {ys : List Pel} (i : Nat), PelRow w base xs ys → i < ys.length → PelOk w base (xs.getD i pelv0) (ys.getD i pel0)
  | [], [], i, _, h => absurd h (by simp)
  | _ :: _, _ :: _, 0, h, _ => h.1
  | _ :: _, _ :: _, i + 1, h, hi => by
    have := PelRow.at_ i h.2 (by simpa using hi)
    simpa using this
theorem PelRow.later {w w' : World} {base : Nat} {xs : List PelV} {ys : List Pel} (h : PelRow w base xs ys) (hl : Later w w') : PelRow w' base xs ys := h.mono fun _ _ _ _ h => own_later h hl
/-- A block that is not the row's is written. -/
theorem own_onlyN {w w' : World} {base k sz : Nat} {e : TypeId} {v : Value} {n : Nat} {vs : List Value} (h : w.ownsRow base e sz v n vs) (ho : Only k w w') (hne : ∀ b, v.ownBlock = some b → b ≠ k) : w'.ownsRow base e sz v n vs := by
  refine h.kept ho ?_
  cases hb : v.ownBlock with
  | none => exact .inl rfl
  | some b => exact .inr fun he => hne b hb (by injection he)
theorem own_neN {w : World} {base g sz n : Nat} {e t : TypeId} {v : Value} {vs l : List Value} (h : w.ownsRow base e sz v n vs) (hb : Blk w g t l) (hne : t ≠ e) : v.ownBlock ≠ some g := by
  intro hv
  rcases h.2 with ⟨rfl, _⟩ | ⟨g2, c2, cur2, rfl, _, hh2, _⟩
  · simp [Value.ownBlock] at hv
  · simp only [Value.ownBlock, Option.some.injEq] at hv
    subst hv
    exact hb.ne_type (l' := cur2.toList) (t' := e) hh2 hne rfl
/-- Blocks that are not the row's stay when it grows. -/
theorem Bag.grownNe {w wk v' : World} {ls : List (Nat × TypeId × List Value)} {row : Option Nat} (h : Bag w wk ls) (hne : ∀ p ∈ ls, row ≠ some p.1) (hb : ∀ k, row = some k → w.heap.size ≤ k) (hg : wk.grownBy v' row) : Bag w v' ls :=
  ⟨h.lat.grownBy hg hb, fun p hp => (hg.block p.1 (h.blk p hp).lt (fun e => hne p hp e.symm)).trans (h.blk p hp), h.low, h.nd⟩
theorem infoPe : (Tryz.prog.info? 46).map (fun i => (i.zero, i.size, i.bytes)) = some (some (.agg (VC pelv0).toArray), 789, 824) := by
  rw [VC, show pelv0.P.val = z768 from rfl, PC, z768, List.map_replicate]
  kernel_rfl
theorem infoPe2 : (Tryz.prog.info? 46).map (fun i => (i.zero, i.size)) = some (some (.agg (VC pelv0).toArray), 789) := by
  rw [VC, show pelv0.P.val = z768 from rfl, PC, z768, List.map_replicate]
  kernel_rfl
theorem blk_oneP (w : World) (t : TypeId) (x : PelV) : Blk (w.alloc (.cells (VC x).toArray t)) w.heap.size t ([x].flatMap VC) := by
  rw [List.flatMap_cons, List.flatMap_nil, List.append_nil]
  exact Blk.new w t _
set_option maxRecDepth 100000 in
set_option maxHeartbeats 4000000 in
theorem rpeel_any (B : Option Addr) (m d : Nat) (ks : List (List UInt8)) (p : Y768) (w : World) (hk : Parts w (fun _ => False) B m ks) (hm : m ≤ 1048576) (hks : ∀ k ∈ ks, k.length ≤ 1048576) :
    Calls Tryz.prog 20 #[.agg (p.val.map W8).toArray, .slice B m d] w fun e w' => ∃ A' c' xs, e = .returned (.tuple #[.slice A' xs.length c', .int .i64 (pelE ks p : Nat)]) ∧ w'.ownsRow w.heap.size 46 789 (.slice A' xs.length c') xs.length (xs.flatMap VC) ∧ PelRow w' w.heap.size xs (pelL ks p) ∧ Later w w' := by
  have hkl := hk.len
  have HZ := hid zcPe
  have C1 := bag_new w 40 (p.val.map W8)
  have hzl : (PC cmd0 z768 nil8).length = 789 := PC_length _ z768_length _
  go_enter Tryz.func20, Tryz.ntmps20
  go_wp2_with fail
  go_loopw [6, 13] (fun v i wr => ∃ (k : Nat) (q : Y768) (xs : List PelV) (ys : List Pel) (A6 : Option Addr) (c6 : Nat), i = .int .i64 k ∧ k ≤ m ∧ v = .slice A6 k c6 ∧ Hid (xs.length = k) ∧ Hid (pelL ks p = ys ++ pelL (ks.drop k) q ∧ pelE ks p = pelE (ks.drop k) q) ∧
    wr.ownsRow w.heap.size 46 789 (.slice A6 k c6) k (xs.flatMap VC) ∧ PelRow wr w.heap.size xs ys ∧ Bag w wr [(w.heap.size, 40, q.val.map W8)]) (fun _ i _ => m - (intOf i).toNat)
  case atStart => exact ⟨0, p, [], [], none, 0, rfl, by omega, rfl, hid rfl, hid ⟨rfl, rfl⟩, World.ownsRow_nil _ _ _ 789, trivial, C1⟩
  case round =>
    clear C1
    obtain ⟨k, q, xs, ys, A6, c6, rfl, hkm, rfl, hxk, hpe, hown, hrow, C1⟩ := hrel
    by_cases hlt : k < m
    · obtain ⟨b, o, Ak, nk, ck, rfl, hb, hck, hcap, hrd, _⟩ := (hk.later C1.lat).at_ hlt
      have hks' := hid (hks (ks.getD k []) (getD_mem' ks k (by omega)))
      have hb0 := hid (fun h => pel_bad (ks := ks) (k := k) (q := q) (by omega) h)
      have hb1 := hid (fun h1 h2 => pel_last (ks := ks) (k := k) (q := q) (by omega) h1 h2)
      have hb2 := hid (fun h1 h2 => pel_next (ks := ks) (k := k) (q := q) (by omega) h1 h2)
      go_wp2_with (first
        | (refine load_Pk rfl _ rfl (C1.nth 0 rfl) q.2 rfl ?_)
        | fail)
      (refine (unwrap_any _ _ _ _ _ _ hrd (by have := hks'.out; have := hrd.len; omega) q.2).mono ?_); rintro e w2 ⟨A2, c2, rfl, o2, j2⟩
      have hq : Hid (unwY (ks.getD k []) q = ⟨unwP (ks.getD k []) q.val, unwP_length _ _ q.2⟩ ∧ unwL (ks.getD k []) q = ⟨unwC (ks.getD k []) q.val, unwY (ks.getD k []) q, unwB (ks.getD k []) q.val⟩) := hid ⟨rfl, rfl⟩
      have hPl := unwP_length (ks.getD k []) q.val q.2
      have C2 := C1.later j2
      have own2 := own_laterK hown j2
      have row2 := hrow.later j2
      have hgt : w.heap.size ≤ wr.heap.size := C1.lat.size
      replace o2 := own_mono o2 hgt
      clear hown hrow C1 j2 hrd hck
      generalize hUE : unwE (ks.getD k []) q.val = UE at *
      generalize hUC : unwC (ks.getD k []) q.val = UC at *
      generalize hUB : unwB (ks.getD k []) q.val = UB at *
      clear hUE hUC hUB
      obtain ⟨UY, hUY⟩ : ∃ UY : Y768, UY.val = unwP (ks.getD k []) q.val := ⟨⟨_, hPl⟩, rfl⟩
      have hUY2 : unwY (ks.getD k []) q = UY := Subtype.ext hUY.symm
      rw [hUY2] at hb2 hq
      rw [← hUY] at hPl ⊢
      have hL := hid hq.out.2
      clear hq hUY hUY2
      generalize unwL (ks.getD k []) q = UL at *
      by_cases h0 : UE = 0
      · subst h0
        have hx2 : ∀ b, (Value.slice A6 k c6).ownBlock = some b → b < w2.heap.size := fun b hb => (World.ownsRow.lt own2 b hb).2
        have hnb : Blk (w2.alloc (.cells Tryz.zeroCells46 46)) w2.heap.size 46 Tryz.zeroCells46.toList := Blk.new w2 _ _
        replace own2 := own_laterK own2 (later_alloc w2 (.cells Tryz.zeroCells46 46))
        replace o2 := own_later o2 (later_alloc w2 (.cells Tryz.zeroCells46 46))
        replace row2 := row2.later (later_alloc w2 (.cells Tryz.zeroCells46 46))
        go_wp2_with (first
          | (refine store_PC rfl rfl _ _ rfl ((Blk.new w2 _ Tryz.zeroCells46.toList).cast HZ.out) rfl rfl hPl rfl hzl ?_; intro w3 hb3 ho3
             have C3 := C2.push (later_alloc _ _) (Nat.le_refl _) ho3 hb3
             have own3 := own_onlyN own2 ho3 (fun b hb => Nat.ne_of_lt (hx2 b hb))
             have o3 := own_onlyK o2 hnb (by decide) ho3
             have row3 := row2.mono (fun A n c B h => own_onlyK h hnb (by decide) ho3)
             clear hnb own2 row2 o2 C2 hb3 ho3)
          | (refine load_PC rfl _ rfl (C3.nth 0 rfl) hPl rfl ?_)
          | (refine build_oneC rfl 62 _ rfl 46 789 _ (PC UC UY.val (.slice A2 UB.length c2)) Tryz.underlying62 infoPe2 (by omega) (by omega) (PC_length _ hPl _) rfl ?_
             have hone : Blk (w3.alloc (.cells (PC UC UY.val (.slice A2 UB.length c2)).toArray 46)) w3.heap.size 46 ([(⟨UC, UY, A2, UB.length, c2⟩ : PelV)].flatMap VC) := blk_oneP w3 46 ⟨UC, UY, A2, UB.length, c2⟩)
          | (refine wpList_append_f VC_length VC_one (by omega) rfl _ _ _ rfl 46 _ 824 Tryz.underlying62 infoPe (by show (VC pelv0).toArray.size = 789; rw [List.size_toArray, VC_length]) w _ k _ (own_laterK own3 (later_alloc _ _)) (C3.lat.alloc _) _ 1 1 [⟨UC, UY, A2, UB.length, c2⟩] (blk_rdF (d := pelv0) VC_length hone rfl) rfl rfl (by omega) (by omega) ?_; intro A4 c4 w4 hown4 hl4 hg4
             have C4 := (C3.later (later_alloc w3 (.cells (PC UC UY.val (.slice A2 UB.length c2)).toArray 46))).grownNe (fun p hp => by
               simp only [List.mem_cons, List.not_mem_nil, or_false] at hp
               rcases hp with rfl | rfl
               · exact fun hb => Nat.ne_of_lt (hx2 _ hb) rfl
               · exact own_neN own3 (C3.nth 1 rfl) (by decide)) (fun b hb => (World.ownsRow.lt own3 b hb).1) hg4
             have o4 := own_otherK (own_later o3 (later_alloc w3 (.cells (PC UC UY.val (.slice A2 UB.length c2)).toArray 46))) (own_laterK own3 (later_alloc w3 (.cells (PC UC UY.val (.slice A2 UB.length c2)).toArray 46))) (by decide) hg4
             have row4 := (row3.later (later_alloc w3 (.cells (PC UC UY.val (.slice A2 UB.length c2)).toArray 46))).mono (fun A n c B h => own_otherK h (own_laterK own3 (later_alloc w3 (.cells (PC UC UY.val (.slice A2 UB.length c2)).toArray 46))) (by decide) hg4)
             clear own3 o3 row3 C3 hone hg4 hl4)
          | (refine load_told rfl _ rfl (C4.nth 0 rfl) rfl ?_)
          | fail)
        have row5 := PelRow.snoc (x := ⟨UC, UY, A2, UB.length, c2⟩) (y := UL) row4 (by rw [hL.out]; exact ⟨rfl, rfl, rfl, o4⟩)
        have hxl : Hid ((xs ++ [(⟨UC, UY, A2, UB.length, c2⟩ : PelV)]).length = k + 1) := hid (by rw [List.length_append, hxk.out]; rfl)
        have hown5 : w4.ownsRow w.heap.size 46 789 (.slice A4 (k + 1) c4) (k + 1) ((xs ++ [(⟨UC, UY, A2, UB.length, c2⟩ : PelV)]).flatMap VC) := by rw [List.flatMap_append]; exact hown4
        clear row4 o4 hown4 hxk hL
        generalize xs ++ [(⟨UC, UY, A2, UB.length, c2⟩ : PelV)] = xs' at *
        (with_reducible refine (last_any UC _).mono ?_); rintro e w6 ⟨rfl, l6⟩
        have C6 := C4.later l6
        have own6 := own_laterK hown5 l6
        have row6 := row5.later l6
        clear C4 hown5 row5 l6
        cases hk1 : (UC.kd == 1)
        · have hkn : ¬ UC.kd = 1 := by simpa using hk1
          obtain ⟨g1, g2⟩ := hb1.out (by trivial) hkn
          have hE : Hid (pelL ks p = ys ++ [UL] ∧ pelE ks p = 0) := hid ⟨by rw [hpe.out.1, g1], by rw [hpe.out.2, g2]⟩
          clear g1 g2 hkn hb0 hb1 hb2 hpe
          go_wp2
          go_ret2
          exact ⟨A4, c4, xs', by rw [hE.out.2, hxl.out]; rfl, by rw [hxl.out]; exact own6, by rw [hE.out.1]; exact row6, C6.lat⟩
        · have hky : UC.kd = 1 := by simpa using hk1
          obtain ⟨g1, g2⟩ := hb2.out (by trivial) hky
          have hE : Hid (pelL ks p = (ys ++ [UL]) ++ pelL (ks.drop (k + 1)) UY ∧ pelE ks p = pelE (ks.drop (k + 1)) UY) := hid ⟨by rw [hpe.out.1, g1, List.append_assoc]; rfl, by rw [hpe.out.2, g2]⟩
          clear g1 g2 hky hb0 hb1 hb2 hpe
          go_wp2_with (first
            | (refine load_PCp rfl _ rfl (C6.nth 0 rfl) hPl rfl ?_)
            | (refine store_Pk rfl rfl _ _ rfl (C6.nth 1 rfl) rfl rfl hPl (by rw [List.length_map, q.2]) ?_; intro w7 hb7 ho7
               have C7 := C6.write 1 rfl ho7 hb7
               have own7 := own_onlyK own6 (C6.nth 1 rfl) (by decide) ho7
               have row7 := row6.mono (fun A n c B h => own_onlyK h (C6.nth 1 rfl) (by decide) ho7))
            | fail)
          exact ⟨⟨k + 1, UY, xs', _, A4, c4, by go_num, by omega, rfl, hxl, hE, own7, row7, C7.drop 1⟩, by simp [intOf]; omega⟩
      · have hne : ((UE : Int) != 0) = true := by simp; omega
        obtain ⟨g1, g2⟩ := hb0.out h0
        have hE : Hid (pelL ks p = ys ∧ pelE ks p = UE) := hid ⟨by rw [hpe.out.1, g1, List.append_nil], by rw [hpe.out.2, g2]⟩
        have hx2 : ∀ b, (Value.slice A6 k c6).ownBlock = some b → b < w2.heap.size := fun b hb => (World.ownsRow.lt own2 b hb).2
        have hnb : Blk (w2.alloc (.cells Tryz.zeroCells46 46)) w2.heap.size 46 Tryz.zeroCells46.toList := Blk.new w2 _ _
        replace own2 := own_laterK own2 (later_alloc w2 (.cells Tryz.zeroCells46 46))
        replace row2 := row2.later (later_alloc w2 (.cells Tryz.zeroCells46 46))
        clear g1 g2 hb0 hb1 hb2 hpe h0
        go_wp2_with (first
          | (refine store_PC rfl rfl _ _ rfl ((Blk.new w2 _ Tryz.zeroCells46.toList).cast HZ.out) rfl rfl hPl rfl hzl ?_; intro w3 hb3 ho3
             have C3 := C2.push (later_alloc _ _) (Nat.le_refl _) ho3 hb3
             have own3 := own_onlyN own2 ho3 (fun b hb => Nat.ne_of_lt (hx2 b hb))
             have row3 := row2.mono (fun A n c B h => own_onlyK h hnb (by decide) ho3))
          | fail)
        go_ret2
        exact ⟨A6, c6, xs, by rw [hE.out.2, hxk.out]; rfl, by rw [hxk.out]; exact own3, by rw [hE.out.1]; exact row3, C3.lat⟩
    · obtain rfl : k = m := by omega
      obtain ⟨g1, g2⟩ := pel_end (ks := ks) (k := k) (q := q) (by omega)
      have hE : Hid (pelL ks p = ys ∧ pelE ks p = 0) := hid ⟨by rw [hpe.out.1, g1, List.append_nil], by rw [hpe.out.2, g2]⟩
      clear g1 g2 hpe
      go_wp2
      go_ret2
      exact ⟨A6, c6, xs, by rw [hE.out.2, hxk.out]; rfl, by rw [hxk.out]; exact hown, by rw [hE.out.1]; exact hrow, C1.lat⟩
end Go.Proofs.YtdojjnbpidogfaaGreat
namespace Go.Proofs.YtdojjnbpidogfaaGreat
open Go.RowKit
open Go.BigFrame

/-- Two lists, element by element. -/
def All2 {α β : Type} (R : α → β → Prop) : List α → List β → Prop
  | [], [] => True
  | x :: xs, y :: ys => R x y ∧ All2 R xs ys
  | _, _ => False
section
variable {α β : Type} {R R' : α → β → Prop}
theorem All2.len : ∀ {xs : List α} {ys : List β}, All2 R xs ys → xs.length = ys.length
  | [], [], _ => rfl
  | x :: xs, y :: ys, h => by rw [List.length_cons, List.length_cons, All2.len h.2]
theorem All2.snoc {x : α} {y : β} : ∀ {xs : List α} {ys : List β}, All2 R xs ys → R x y → All2 R (xs ++ [x]) (ys ++ [y])
  | [], [], _, h => ⟨h, trivial⟩
  | _ :: _, _ :: _, h, h' => ⟨h.1, All2.snoc h.2 h'⟩
theorem All2.mono (hR : ∀ x y, R x y → R' x y) : ∀ {xs : List α} {ys : List β}, All2 R xs ys → All2 R' xs ys
  | [], [], _ => trivial
  | _ :: _, _ :: _, h => ⟨hR _ _ h.1, All2.mono hR h.2⟩
theorem All2.at_ (d : α) (e : β) : ∀ {xs : List α} {ys : List β} (i : Nat), All2 R xs ys → i < ys.length → R (xs.getD i d) (ys.getD i e)
  | [], [], i, _, h => absurd h (by simp)
  | _ :: _, _ :: _, 0, h, _ => h.1
  | _ :: _, _ :: _, i + 1, h, hi => by
    have := All2.at_ d e i h.2 (by simpa using hi)
    simpa using this
end
structure RefV where
  c : Cmd
  Q : Option Addr
  nq : Nat
  cq : Nat
  A : Option Addr
  n : Nat
  cp : Nat
def refv0 : RefV := ⟨cmd0, none, 0, 0, none, 0, 0⟩
def VR (x : RefV) : List Value := RCc x.c (.slice x.Q x.nq x.cq) (.slice x.A x.n x.cp)
theorem VR_length (x : RefV) : (VR x).length = 22 := RCc_length _ _ _
theorem VR_one (x : RefV) : ∀ u ∈ VR x, u.oneCell' = true := RCc_one _ rfl rfl
def RefOk (w : World) (base : Nat) (x : RefV) (y : Pel) : Prop := x.c = y.c ∧ x.n = y.B.length ∧ OwnB w base x.A x.n x.cp y.B ∧ ∃ Q, OwnB w base x.Q x.nq x.cq Q ∧ ((x.nq = 0 ∧ y.P.val = z768) ∨ (x.nq = 768 ∧ Q = y.P.val))
theorem RefOk.mono {w w' : World} {base : Nat} {x : RefV} {y : Pel} (hw : ∀ A n c B, OwnB w base A n c B → OwnB w' base A n c B) (h : RefOk w base x y) : RefOk w' base x y := by
  obtain ⟨h1, h2, h3, Q, h4, h5⟩ := h
  exact ⟨h1, h2, hw _ _ _ _ h3, Q, hw _ _ _ _ h4, h5⟩
theorem refs_mono {w w' : World} {base : Nat} {xs : List RefV} {ys : List Pel} (hw : ∀ A n c B, OwnB w base A n c B → OwnB w' base A n c B) (h : All2 (RefOk w base) xs ys) : All2 (RefOk w' base) xs ys := h.mono fun _ _ h => h.mono hw
theorem refs_later {w w' : World} {base : Nat} {xs : List RefV} {ys : List Pel} (h : All2 (RefOk w base) xs ys) (hl : Later w w') : All2 (RefOk w' base) xs ys := refs_mono (fun _ _ _ _ h => own_later h hl) h
theorem infoRe : (Tryz.prog.info? 30).map (fun i => (i.zero, i.size, i.bytes)) = some (some (.agg (VR refv0).toArray), 22, 80) := by kernel_rfl
theorem infoRe2 : (Tryz.prog.info? 30).map (fun i => (i.zero, i.size)) = some (some (.agg (VR refv0).toArray), 22) := by kernel_rfl
theorem blk_oneRf (w : World) (t : TypeId) (x : RefV) : Blk (w.alloc (.cells (VR x).toArray t)) w.heap.size t ([x].flatMap VR) := by
  rw [List.flatMap_cons, List.flatMap_nil, List.append_nil]
  exact Blk.new w t _
set_option maxRecDepth 100000 in
set_option maxHeartbeats 4000000 in
theorem rpeel_ref (A B : Option Addr) (c m d : Nat) (ks : List (List UInt8)) (p : Y768) (w : World) (hp : RdB w A 768 p.val) (hc : 768 ≤ c) (hk : Parts w (fun _ => False) B m ks) (hm : m ≤ 1048576) (hks : ∀ k ∈ ks, k.length ≤ 1048576) :
    Calls Tryz.prog 22 #[.slice A 768 c, .slice B m d] w fun e w' => ∃ A' c' xs, e = .returned (.tuple #[.slice A' xs.length c', .int .i64 (pelE ks p : Nat)]) ∧ w'.ownsRow w.heap.size 30 22 (.slice A' xs.length c') xs.length (xs.flatMap VR) ∧ All2 (RefOk w' w.heap.size) xs (pelL ks p) ∧ Later w w' := by
  have hkl := hk.len
  have hz0 : re0.length = 22 := rfl
  have hz32 : (List.replicate 32 (Value.int .u8 0)).length = 32 := rfl
  go_enter Tryz.func22, Tryz.ntmps22
  go_wp2_with fail
  go_loopw [0, 6, 7] (fun u v i wr => ∃ (k : Nat) (q : Y768) (xs : List RefV) (ys : List Pel) (A6 A0 : Option Addr) (c6 c0 : Nat), i = .int .i64 k ∧ k ≤ m ∧ v = .slice A6 k c6 ∧ u = .slice A0 768 c0 ∧ 768 ≤ c0 ∧ (RdB w A0 768 q.val ∨ OwnB wr w.heap.size A0 768 c0 q.val) ∧ Hid (xs.length = k) ∧ Hid (pelL ks p = ys ++ pelL (ks.drop k) q ∧ pelE ks p = pelE (ks.drop k) q) ∧
    wr.ownsRow w.heap.size 30 22 (.slice A6 k c6) k (xs.flatMap VR) ∧ All2 (RefOk wr w.heap.size) xs ys ∧ Later w wr) (fun _ _ i _ => m - (intOf i).toNat)
  case atStart => exact ⟨0, p, [], [], none, A, 0, c, rfl, by omega, rfl, rfl, hc, .inl hp, hid rfl, hid ⟨rfl, rfl⟩, World.ownsRow_nil _ _ _ 22, trivial, Later.refl w⟩
  case round =>
    obtain ⟨k, q, xs, ys, A6, A0, c6, c0, rfl, hkm, rfl, rfl, hc0, hq0, hxk, hpe, hown, hrow, L⟩ := hrel
    by_cases hlt : k < m
    · obtain ⟨b, o, Ak, nk, ck, rfl, hb, hck, hcap, hrd, _⟩ := (hk.later L).at_ hlt
      have hks' := hid (hks (ks.getD k []) (getD_mem' ks k (by omega)))
      have hb0 := hid (fun h => pel_bad (ks := ks) (k := k) (q := q) (by omega) h)
      have hb1 := hid (fun h1 h2 => pel_last (ks := ks) (k := k) (q := q) (by omega) h1 h2)
      have hb2 := hid (fun h1 h2 => pel_next (ks := ks) (k := k) (q := q) (by omega) h1 h2)
      have hqr : RdB wr A0 768 q.val := hq0.elim (fun h => h.later L) OwnB.rd
      clear hq0
      go_wp2_with fail
      (refine (unwrapR_any _ _ _ _ _ _ _ _ hrd (by have := hks'.out; have := hrd.len; omega) hqr hc0).mono ?_); rintro e w2 ⟨A1, c1, A2, c2, rfl, o1, o2, j2⟩
      have hq : Hid (unwL (ks.getD k []) q = ⟨unwC (ks.getD k []) q.val, unwY (ks.getD k []) q, unwB (ks.getD k []) q.val⟩ ∧ (unwY (ks.getD k []) q).val = unwP (ks.getD k []) q.val) := hid ⟨rfl, rfl⟩
      have hQc := hid (unwQ_cases (ks.getD k []) q.val q.2)
      have hSl : (unwS (ks.getD k []) q.val).length = 32 := by
        unfold unwS
        split
        · exact subB_length (by rw [peelB_length]; omega)
        · exact List.length_replicate
      have C2 := (Bag.none w).later (L.trans j2)
      have own2 := own_laterK hown j2
      have row2 := refs_later hrow j2
      have hgt : w.heap.size ≤ wr.heap.size := L.size
      replace o1 := own_mono o1 hgt
      replace o2 := own_mono o2 hgt
      have hQk : Hid ((unwC (ks.getD k []) q.val).kd = 1 → unwE (ks.getD k []) q.val = 0 → unwQ (ks.getD k []) q.val = unwP (ks.getD k []) q.val) := hid (fun h1 h2 => by rw [unwQ, if_pos ⟨h2, h1⟩])
      rw [← hq.out.2] at hQc hQk
      clear hown hrow L j2 hrd hck hqr
      generalize unwE (ks.getD k []) q.val = UE at *
      generalize unwC (ks.getD k []) q.val = UC at *
      generalize unwB (ks.getD k []) q.val = UB at *
      generalize unwQ (ks.getD k []) q.val = UQ at *
      generalize unwS (ks.getD k []) q.val = US at *
      generalize unwY (ks.getD k []) q = UY at *
      have hL := hid hq.out.1
      clear hq
      generalize unwL (ks.getD k []) q = UL at *
      have Ca := C2.fresh (later_alloc w2 (.cells re0.toArray 30)) (Nat.le_refl _) (Blk.new w2 _ re0)
      have Cb := Ca.add (later_alloc _ (.cells (List.replicate 32 (Value.int .u8 0)).toArray 31)) (k := w2.heap.size + 1) (fun q hq e => by
        have := (Ca.blk q hq).lt
        simp at this
        omega) (by have := C2.lat.size; omega) (Blk.new' _ _ (List.replicate 32 (Value.int .u8 0)) (by simp))
      have hx2 : ∀ b, (Value.slice A6 k c6).ownBlock = some b → b < w2.heap.size := fun b hb => (World.ownsRow.lt own2 b hb).2
      have jn := (later_alloc w2 (.cells re0.toArray 30)).trans (later_alloc _ (.cells (List.replicate 32 (Value.int .u8 0)).toArray 31))
      replace own2 := own_laterK own2 jn
      replace o1 := own_later o1 jn
      replace o2 := own_later o2 jn
      replace row2 := refs_later row2 jn
      clear jn Ca C2
      by_cases h0 : UE = 0
      · subst h0
        have hQc' := hid (hQc.out (by trivial))
        clear hQc
        have hone : ∀ w3 : World, Blk (w3.alloc (.cells (RCc UC (.slice A1 UQ.length c1) (.slice A2 UB.length c2)).toArray 30)) w3.heap.size 30 ([(⟨UC, A1, UQ.length, c1, A2, UB.length, c2⟩ : RefV)].flatMap VR) := fun w3 => blk_oneRf w3 30 ⟨UC, A1, UQ.length, c1, A2, UB.length, c2⟩
        have n1 : (UC.kd != 1) = !(UC.kd == 1) := rfl
        cases hk1 : (UC.kd == 1)
        all_goals
          rw [hk1] at n1
          go_wp2_with (first
            | (refine store_RC rfl rfl _ _ rfl (Cb.nth 1 rfl) rfl rfl rfl rfl hz0 ?_; intro w3 hb3 ho3
               have Cc := Cb.write 1 rfl ho3 hb3
               have own3 := own_onlyN own2 ho3 (fun b hb => Nat.ne_of_lt (hx2 b hb))
               have p1 := own_onlyK o1 (Cb.nth 1 rfl) (by decide) ho3
               have p2 := own_onlyK o2 (Cb.nth 1 rfl) (by decide) ho3
               have row3 := refs_mono (fun A n c B h => own_onlyK h (Cb.nth 1 rfl) (by decide) ho3) row2)
            | (refine store_B rfl rfl _ _ rfl (Cc.nth 0 rfl) rfl rfl hSl rfl ?_; intro w4 hb4 ho4
               have Cd := (Cc.write 0 rfl ho4 hb4).drop 1
               have own4 := own_onlyK own3 (Cc.nth 0 rfl) (by decide) ho4
               have r1 := own_onlyK p1 (Cc.nth 0 rfl) (by decide) ho4
               have r2 := own_onlyK p2 (Cc.nth 0 rfl) (by decide) ho4
               have row4 := refs_mono (fun A n c B h => own_onlyK h (Cc.nth 0 rfl) (by decide) ho4) row3
               clear own3 own2 p1 p2 o1 o2 row3 row2 Cb Cc hb3 ho3 hb4 ho4)
            | (refine wpList_load_at rfl 30 _ rfl w2.heap.size 0 (RCc UC (.slice A1 UQ.length c1) (.slice A2 UB.length c2)) (fun j v hv => (Cd.nth 0 rfl).cellD _ (all_cells _ j v hv)) rfl _ Tryz.underlying30 rfl (by rw [RCc_length]; exact size22) ?_)
            | (refine build_oneC rfl 66 _ rfl 30 22 _ (RCc UC (.slice A1 UQ.length c1) (.slice A2 UB.length c2)) Tryz.underlying66 infoRe2 (by omega) (by omega) (RCc_length _ _ _) rfl ?_)
            | (refine wpList_append_f VR_length VR_one (by omega) rfl _ _ _ rfl 30 _ 80 Tryz.underlying66 infoRe rfl w _ k _ (own_laterK own4 (later_alloc _ _)) (Cd.lat.alloc _) _ 1 1 [⟨UC, A1, UQ.length, c1, A2, UB.length, c2⟩] (blk_rdF (d := refv0) VR_length (hone w4) rfl) rfl rfl (by omega) (by omega) ?_; intro A5 c5 w5 hown5 hl5 hg5
               have Ce := (Cd.later (later_alloc w4 (.cells (RCc UC (.slice A1 UQ.length c1) (.slice A2 UB.length c2)).toArray 30))).grownNe (fun p hp => by
                 simp only [List.drop_succ_cons, List.drop_zero, List.set_cons_succ, List.set_cons_zero, List.mem_cons, List.not_mem_nil, or_false] at hp
                 subst hp
                 exact fun hb => Nat.ne_of_lt (hx2 _ hb) rfl) (fun b hb => (World.ownsRow.lt own4 b hb).1) hg5
               have s1 := own_otherK (own_later r1 (later_alloc w4 (.cells (RCc UC (.slice A1 UQ.length c1) (.slice A2 UB.length c2)).toArray 30))) (own_laterK own4 (later_alloc w4 (.cells (RCc UC (.slice A1 UQ.length c1) (.slice A2 UB.length c2)).toArray 30))) (by decide) hg5
               have s2 := own_otherK (own_later r2 (later_alloc w4 (.cells (RCc UC (.slice A1 UQ.length c1) (.slice A2 UB.length c2)).toArray 30))) (own_laterK own4 (later_alloc w4 (.cells (RCc UC (.slice A1 UQ.length c1) (.slice A2 UB.length c2)).toArray 30))) (by decide) hg5
               have row5 := refs_mono (fun A n c B h => own_otherK h (own_laterK own4 (later_alloc w4 (.cells (RCc UC (.slice A1 UQ.length c1) (.slice A2 UB.length c2)).toArray 30))) (by decide) hg5) (refs_later row4 (later_alloc w4 (.cells (RCc UC (.slice A1 UQ.length c1) (.slice A2 UB.length c2)).toArray 30)))
               clear own4 r1 r2 row4 Cd hg5
               have k0 := (Ce.nth 0 rfl).cellD 0 (RCc_cmd _ _ _ 0 _ rfl)
               have k20 := (Ce.nth 0 rfl).cellD 20 (RCc_P _ _ _)
               have y1 := (Ce.nth 0 rfl).lt)
            | fail)
        · have hkn : ¬ UC.kd = 1 := by simpa using hk1
          obtain ⟨g1, g2⟩ := hb1.out (by trivial) hkn
          have hE : Hid (pelL ks p = ys ++ [UL] ∧ pelE ks p = 0) := hid ⟨by rw [hpe.out.1, g1], by rw [hpe.out.2, g2]⟩
          have row6 := All2.snoc (x := (⟨UC, A1, UQ.length, c1, A2, UB.length, c2⟩ : RefV)) (y := UL) row5 (by rw [hL.out]; exact ⟨rfl, rfl, s2, UQ, s1, hQc'.out⟩)
          have hxl : Hid ((xs ++ [(⟨UC, A1, UQ.length, c1, A2, UB.length, c2⟩ : RefV)]).length = k + 1) := hid (by rw [List.length_append, hxk.out]; rfl)
          clear g1 g2 hkn hb0 hb1 hb2 hpe
          go_ret2
          exact ⟨A5, c5, _, by rw [hE.out.2, hxl.out]; rfl, by rw [hxl.out, List.flatMap_append]; exact hown5, by rw [hE.out.1]; exact row6, Ce.lat⟩
        · have hky : UC.kd = 1 := by simpa using hk1
          obtain ⟨g1, g2⟩ := hb2.out (by trivial) hky
          have hE : Hid (pelL ks p = (ys ++ [UL]) ++ pelL (ks.drop (k + 1)) UY ∧ pelE ks p = pelE (ks.drop (k + 1)) UY) := hid ⟨by rw [hpe.out.1, g1, List.append_assoc]; rfl, by rw [hpe.out.2, g2]⟩
          have row6 := All2.snoc (x := (⟨UC, A1, UQ.length, c1, A2, UB.length, c2⟩ : RefV)) (y := UL) row5 (by rw [hL.out]; exact ⟨rfl, rfl, s2, UQ, s1, hQc'.out⟩)
          have hxl : Hid ((xs ++ [(⟨UC, A1, UQ.length, c1, A2, UB.length, c2⟩ : RefV)]).length = k + 1) := hid (by rw [List.length_append, hxk.out]; rfl)
          have hUQ := hQk.out hky (by trivial)
          have h768 : UQ.length = 768 := by rw [hUQ, UY.2]
          have hcap := (show OwnB w5 w.heap.size A1 UQ.length c1 UQ from s1).cap
          rw [hUQ, UY.2] at s1
          rw [h768] at hcap ⊢
          exact ⟨⟨k + 1, UY, _, _, A5, A1, c5, c1, by go_num, by omega, rfl, rfl, hcap, .inr s1, hxl, hE, by rw [List.flatMap_append]; exact hown5, row6, Ce.lat⟩, by simp [intOf]; omega⟩
      · have hne : ((UE : Int) != 0) = true := by simp; omega
        obtain ⟨g1, g2⟩ := hb0.out h0
        have hE : Hid (pelL ks p = ys ∧ pelE ks p = UE) := hid ⟨by rw [hpe.out.1, g1, List.append_nil], by rw [hpe.out.2, g2]⟩
        clear g1 g2 hb0 hb1 hb2 hpe h0
        go_wp2_with (first
          | (refine store_RC rfl rfl _ _ rfl (Cb.nth 1 rfl) rfl rfl rfl rfl hz0 ?_; intro w3 hb3 ho3
             have Cc := Cb.write 1 rfl ho3 hb3
             have own3 := own_onlyN own2 ho3 (fun b hb => Nat.ne_of_lt (hx2 b hb))
             have p1 := own_onlyK o1 (Cb.nth 1 rfl) (by decide) ho3
             have p2 := own_onlyK o2 (Cb.nth 1 rfl) (by decide) ho3
             have row3 := refs_mono (fun A n c B h => own_onlyK h (Cb.nth 1 rfl) (by decide) ho3) row2)
          | (refine store_B rfl rfl _ _ rfl (Cc.nth 0 rfl) rfl rfl hSl rfl ?_; intro w4 hb4 ho4
             have Cd := (Cc.write 0 rfl ho4 hb4).drop 1
             have own4 := own_onlyK own3 (Cc.nth 0 rfl) (by decide) ho4
             have r1 := own_onlyK p1 (Cc.nth 0 rfl) (by decide) ho4
             have r2 := own_onlyK p2 (Cc.nth 0 rfl) (by decide) ho4
             have row4 := refs_mono (fun A n c B h => own_onlyK h (Cc.nth 0 rfl) (by decide) ho4) row3
             clear own3 own2 p1 p2 o1 o2 row3 row2 Cb Cc hb3 ho3 hb4 ho4)
          | fail)
        go_ret2
        exact ⟨A6, c6, xs, by rw [hE.out.2, hxk.out]; rfl, by rw [hxk.out]; exact own4, by rw [hE.out.1]; exact row4, Cd.lat⟩
    · obtain rfl : k = m := by omega
      obtain ⟨g1, g2⟩ := pel_end (ks := ks) (k := k) (q := q) (by omega)
      have hE : Hid (pelL ks p = ys ∧ pelE ks p = 0) := hid ⟨by rw [hpe.out.1, g1, List.append_nil], by rw [hpe.out.2, g2]⟩
      clear g1 g2 hpe
      go_wp2
      go_ret2
      exact ⟨A6, c6, xs, by rw [hE.out.2, hxk.out]; rfl, by rw [hxk.out]; exact hown, by rw [hE.out.1]; exact hrow, L⟩
end Go.Proofs.YtdojjnbpidogfaaGreat

