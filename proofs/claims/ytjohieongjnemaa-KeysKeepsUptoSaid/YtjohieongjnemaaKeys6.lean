/-
  shallotref12.Schedule.
-/
import Derived.Test.YtjohieongjnemaaKeys5
import Derived.Test.YtjohieongjnemaaCurveG
namespace Go.Proofs.Ytjohieongjnemaa
open Go.RowKit
open Go.BigFrame

theorem infoSR : (Try.prog.info? 66).map (fun i => (i.zero, i.size, i.bytes)) = some (some (.agg (List.replicate 192 (W8 0)).toArray), 192, 192) := by kernel_rfl
theorem infoSR2 : (Try.prog.info? 66).map (fun i => (i.zero, i.size)) = some (some (.agg (List.replicate 192 (W8 0)).toArray), 192) := by kernel_rfl
theorem ne32R : (47 : TypeId) ≠ 66 := by decide
theorem ne8R : (5 : TypeId) ≠ 66 := by decide
theorem neLR : (22 : TypeId) ≠ 66 := by decide
theorem neKR : (49 : TypeId) ≠ 66 := by decide
theorem neRL : (66 : TypeId) ≠ 22 := by decide
theorem zcRl : Try.zeroCells66.toList.length = 192 := by rw [zc192R, List.length_map, List.length_replicate]
theorem zcKl : Try.zeroCells49.toList.length = 128 := by kernel_rfl
theorem k4_blind (s : List UInt8) : subB (k4 s) 96 32 = derB s sBlind := by
  rw [k4, show derB s sMac ++ (derB s sStream ++ (derB s sPay ++ derB s sBlind)) = (derB s sMac ++ (derB s sStream ++ derB s sPay)) ++ derB s sBlind by simp only [List.append_assoc],
    subB_last _ _ _ _ (by simp [derB_length]) (derB_length _ _)]
set_option maxRecDepth 100000 in
set_option maxHeartbeats 8000000 in
theorem kschedule_ref (A B : Option Addr) (n c m d : Nat) (x : List UInt8) (ps : List (List UInt8)) (w : World) (hx : RdB w A n x) (hn : n ≤ 35184372088832) (hp : Parts w (fun _ => False) B m ps) (hm : m ≤ 140737488355328) :
    Calls Try.prog 36 #[.slice A n c, .slice B m d] w fun e w' => Later w w' ∧ ((schedE x ps ≠ 0 ∧ e = .returned (.tuple #[.slice none 0 0, .int .i64 (schedE x ps : Nat)])) ∨
      (schedE x ps = 0 ∧ ∃ A' c', e = .returned (.tuple #[.slice A' m c', .int .i64 0]) ∧ m ≤ c' ∧ RdK 192 w' A' m (stepsA x ps m))) := by
  have hxl := hx.len
  have hpsl := hp.len
  by_cases hok : n = 32 ∧ 1 ≤ m ∧ m ≤ 5
  · obtain ⟨rfl, hm1, hm5⟩ := hok
    have k1 : ((m : Int) == 0) = false := by simp; omega
    have k2 : decide ((5 : Int) < (m : Int)) = false := decide_eq_false (by omega)
    have hF := hid (fun (h : ∀ p ∈ ps, p.length = 32) => schedE_fit (x := x) (ps := ps) ⟨hxl, by omega, by omega, h⟩)
    have hB := hid (fun (h : ¬ ∀ p ∈ ps, p.length = 32) => schedE_bad (x := x) (ps := ps) (fun f => h f.2.2.2))
    have hbadk := hid (fun k (h : k < ps.length) (hk : (ps.getD k []).length ≠ 32) (ha : ∀ p ∈ ps, p.length = 32) => hk (ha _ (getD_mem' ps k h)))
    have hPub := hid (fun (w : World) h => public_ref A 32 c x w h (by omega))
    have h0l := multB_length x (nb 9)
    have hst0 : Hid ((stA x ps 0).1 = multB x (nb 9) ∧ (stA x ps 0).2 = [x]) := hid ⟨rfl, rfl⟩
    generalize schedE x ps = E0 at *
    generalize multB x (nb 9) = al0 at *
    generalize multE x (nb 9) = e0 at *
    go_enter Try.func36, Try.ntmps36
    go_wp2_with fail
    go_loopw [6] (fun i wr => ∃ k : Nat, k ≤ m ∧ i = .int .i64 k ∧ Hid (∀ j, j < k → (ps.getD j []).length = 32) ∧ Later w wr) (fun i _ => m - (intOf i).toNat)
    case atStart => exact ⟨0, by omega, rfl, hid (fun j h => by omega), Later.refl w⟩
    case round =>
      obtain ⟨k, hk, rfl, hall, L⟩ := hrel
      by_cases hlt : k < m
      · obtain ⟨b, o, Ak, nk, ck, rfl, hb, hck, hcap, hrd, _⟩ := (hp.later L).at_ hlt
        have hlen := hrd.len
        have hb2 := hid (fun h => hB.out (hbadk.out k (by omega) h))
        rw [hlen] at hb2
        have hstep : Hid (nk = 32 → ∀ j, j < k + 1 → (ps.getD j []).length = 32) := hid (fun h j hj => by
          by_cases e : j = k
          · rw [e, hlen, h]
          · exact hall.out j (by omega))
        clear hrd hlen
        by_cases h32 : nk = 32
        · have hne : ((nk : Int) != 32) = false := by simp; omega
          go_wp2_with fail
          refine ⟨⟨k + 1, by omega, by go_num, hid (hstep.out h32), L⟩, by simp only [intOf]; omega⟩
        · have hne : ((nk : Int) != 32) = true := by simp; omega
          go_wp2_with fail
          go_ret2
          exact ⟨L, .inl (by rw [hb2.out h32]; exact ⟨by decide, rfl⟩)⟩
      · have hall' := all_getD ps (fun j hj => hall.out j (by omega))
        have hE := hF.out hall'
        have HE := hid hE
        have HA := hid hall'
        clear hF hB hbadk hall hall' hE
        go_wp2_with fail
        (with_reducible refine (hPub.out _ (hx.later L)).mono ?_); rintro e w1 ⟨rfl, j1⟩
        go_wp2_with (first
          | (refine store_B rfl rfl _ _ rfl (Blk.new w1 _ (List.replicate 32 (.int .u8 0))) rfl rfl h0l rfl ?_; intro w2 hb2 ho2)
          | fail)
        have L1 := L.trans j1
        have hg8 : w.heap.size ≤ w1.heap.size := L1.size
        have L2 := (L1.trans (later_alloc w1 (.cells (List.replicate 32 (Value.int .u8 0)).toArray 47))).only ho2 hg8
        (with_reducible refine (copy_any A 32 c x _ (hx.later L2) (by omega)).mono ?_); rintro e w3 ⟨A3, c3, rfl, o3, j3⟩
        go_wp2_with fail
        have a3 := later_alloc w3 (.cells #[.slice A3 32 c3] 22)
        have hal := (hb2.later j3).later a3
        have L3 := L2.trans j3
        have L4 := L3.trans a3
        have hsc : ScRow w w1.heap.size (w3.alloc (.cells #[.slice A3 32 c3] 22)) (.slice (some ⟨w3.heap.size, 0, none⟩) 1 1) [x] [.slice A3 32 c3] :=
          ⟨own_mono (own_new w3 22 [.slice A3 32 c3] (by simp)) L3.size, rfl, fun j u p hu hp => by
            have hj : j = 0 := by have := (List.getElem?_eq_some_iff.1 hu).1; simpa using this
            subst hj
            cases hu
            cases hp
            exact .inr (.inr ⟨A3, c3, _, rfl, own_later o3 a3⟩)⟩
        clear hb2 ho2 o3 j3 a3 j1 L1 L2 L3 L hPub
        generalize w3.alloc _ = w4 at *
        generalize w1.heap.size = g8 at *
        go_loopw [9, 10, 11] (fun u v i wr => ∃ (k : Nat) (vs : List Value), k ≤ m ∧ i = .int .i64 k ∧ wr.ownsRow w.heap.size 66 192 v k ((stepsA x ps k).flatten.map W8) ∧ ScRow w g8 wr u (stA x ps k).2 vs ∧ Blk wr g8 47 ((stA x ps k).1.map W8) ∧ Later w wr ∧ Hid (E0 = goE x ps (m - k) k)) (fun _ _ i _ => m - (intOf i).toNat)
        case atStart => exact ⟨0, _, by omega, rfl, World.ownsRow_nil w4 _ _ 192, hsc, by rw [hst0.out.1]; exact hal, L4, hid (by rw [HE.out, hpsl]; rfl)⟩
        case round =>
          clear hsc hal L4
          obtain ⟨k, vs, hk, rfl, hrow, hsc, hal, L, HG⟩ := hrel
          by_cases hlt : k < m
          · obtain ⟨b, o, Ak, nk, ck, rfl, hb, hck, hcap, hrd, _⟩ := (hp.later L).at_ hlt
            have hlen := hrd.len
            obtain rfl : nk = 32 := by rw [← hlen]; exact HA.out _ (getD_mem' ps k (by omega))
            have hscl : (stA x ps k).2.length = k + 1 := stA_snd_length x ps k
            have hall := stA_fst_length x ps k
            have cC : Hid (∀ (w : World) B d, RdB w Ak 32 (ps.getD k []) → Parts w (fun _ => False) B (k + 1) (stA x ps k).2 →
                Calls Try.prog 59 #[.slice Ak 32 ck, .slice B (k + 1) d] w fun e w' => e = .returned (.tuple #[.agg ((secA x ps k).map W8).toArray, .int .i64 (errA x ps k : Nat)]) ∧ Later w w') :=
              hid (fun w B d h1 h2 => chain_ref Ak B 32 ck (k + 1) d (ps.getD k []) (stA x ps k).2 w h1 h2 (by omega) (by omega))
            have hsl := secA_length x ps k
            have hTl := stepA_length x ps k
            have F1 := hid (show stepA x ps k = k4 (secA x ps k) ++ ((stA x ps k).1 ++ secA x ps k) from rfl)
            have F2 := hid (show (stA x ps (k + 1)).1 = multB (derB (secA x ps k) sBlind) (stA x ps k).1 from rfl)
            have F3 := hid (show (stA x ps (k + 1)).2 = (stA x ps k).2 ++ [derB (secA x ps k) sBlind] from rfl)
            have F4 := stepA_blind x ps k
            have F5 := stepA_alpha x ps k
            have F6 := k4_blind (secA x ps k)
            have F7 := hid (stepsA_flat x ps k)
            have F8 := hid (show errA x ps k = 0 → E0 = goE x ps (m - (k + 1)) (k + 1) by
              intro h
              have := HG.out
              rw [show m - k = (m - (k + 1)) + 1 by omega, goE, if_pos h] at this
              exact this)
            have F9 := hid (show errA x ps k ≠ 0 → E0 = errA x ps k by
              intro h
              have := HG.out
              rw [show m - k = (m - (k + 1)) + 1 by omega, goE, if_neg h] at this
              exact this)
            have hbl := derB_length (secA x ps k) sBlind
            obtain ⟨B1, d1, hu, hd1⟩ := own_shapeK hsc.own
            rw [hscl] at hu hd1
            subst hu
            clear HG hlen
            generalize stepA x ps k = T at *
            generalize derB (secA x ps k) sBlind = bl at *
            generalize hS : secA x ps k = S at *
            generalize errA x ps k = e1 at *
            generalize (stA x ps k).1 = al at *
            generalize (stA x ps k).2 = sc at *
            generalize ps.getD k [] = p at *
            by_cases he : e1 = 0
            · subst he
              have G1 := F8.out rfl
              have hOf := hid (fun (w : World) g h => of_ref12 (some ⟨g, 0, none⟩) 32 32 S w h (by omega))
              rw [show ofB S = k4 S by rw [ofB, if_pos hsl], show ofE S = 0 by rw [ofE, if_pos hsl]] at hOf
              have hKl := k4_length S
              have hbs := built_stepR (k4 S) al S hKl hall hsl
              rw [← F1.out] at hbs
              have hNx := hid (fun w => next_ref T bl al hTl F4 F5 w)
              have hNl := multB_length bl al
              rw [← F2.out] at hNx hNl
              clear F1 F2 F8 F9 hS
              generalize k4 S = K at *
              generalize multE bl al = e2 at *
              generalize ha2 : (stA x ps (k + 1)).1 = al2 at *
              have HA2 := hid ha2
              clear ha2
              have hzR := zcRl
              have hzK := zcKl
              have H6 := hid F6
              have HG1 := hid G1
              clear F4 F5 F6 G1
              have hgr : ∀ b, u10.ownBlock = some b → b < wr.heap.size := own_below_K hrow
              go_wp2_with fail
              (with_reducible refine (cC.out _ B1 d1 hrd (hsc.parts hscl L)).mono ?_); rintro e w5 ⟨rfl, j5⟩
              go_wp2_with (first
                | (refine store_B rfl rfl _ _ rfl (Blk.new w5 _ (List.replicate 32 (.int .u8 0))) rfl rfl hsl rfl ?_; intro w6 hb6 ho6
                   have J6 := (j5.trans (later_alloc w5 (.cells (List.replicate 32 (Value.int .u8 0)).toArray 47))).only ho6 j5.size)
                | fail)
              (with_reducible refine (hOf.out _ _ (blk_rdB hb6 hsl)).mono ?_); rintro e w7 ⟨rfl, j7⟩
              go_wp2_with (first
                | (refine store_K rfl rfl _ _ rfl (Blk.new w7 _ Try.zeroCells49.toList) rfl rfl hKl hzK ?_; intro w8 hb8 ho8
                   have J8 := (J6.trans j7).trans ((later_alloc w7 (.cells Try.zeroCells49 49)).only ho8 (Nat.le_refl _))
                   have hal8 := hal.later J8
                   have hs8 := (hb6.later j7).later ((later_alloc w7 (.cells Try.zeroCells49 49)).only ho8 (Nat.le_refl _)))
                | (refine load_K rfl _ rfl hb8 hKl rfl ?_)
                | (refine load_B rfl _ rfl hal8 hall rfl ?_)
                | (refine load_B rfl _ rfl hs8 hsl rfl ?_)
                | (refine wpList_build_is rfl 66 _ rfl (T.map W8) ?hb ?_; (case hb => simp only [List.map_toArray, List.map_cons, List.map_nil]; exact hbs))
                | (refine store_SR rfl rfl _ _ rfl (Blk.new w8 _ Try.zeroCells66.toList) rfl rfl hTl hzR ?_; intro w9 hb9 ho9
                   have J89 : Later w8 w9 := (later_alloc w8 (.cells Try.zeroCells66 66)).only ho9 (Nat.le_refl _)
                   have J9 := (J8.trans J89).trans (later_alloc w9 (.cells (T.map W8).toArray 66)))
                | (refine load_SR rfl _ rfl hb9 hTl rfl ?_)
                | (refine build_one rfl 58 _ rfl 66 192 _ T Try.underlying58 infoSR2 (by omega) (by omega) hTl rfl ?_)
                | (refine wpList_append_s rfl _ _ _ rfl 66 _ 192 192 Try.underlying58 infoSR rfl (by omega) w _ k _ (own_laterK hrow J9) (L.trans J9) w9.heap.size 1 1 66 (T.map W8) (Blk.new _ _ _) (by rw [List.length_map, hTl]) (w8_one T) rfl rfl (by omega) (by omega) ?_; intro v10 w10 hown10 hl10 hg10
                   have hrow9 := own_laterK hrow J9
                   have hsc10 := (hsc.later J9).grown hrow9 neLR ne32R ne8R hg10
                   have hal10 := blk_grownK (hal.later J9) hrow9 ne32R hg10
                   have hK10 := blk_grownK ((hb8.later J89).later (later_alloc w9 (.cells (T.map W8).toArray 66))) hrow9 neKR hg10
                   have hT10 : Blk w10 w8.heap.size 66 (T.map W8) := by
                     have h9 := hb9.later (later_alloc w9 (.cells (T.map W8).toArray 66))
                     refine (hg10.block _ h9.lt ?_).trans h9
                     intro e
                     exact absurd (hgr _ e.symm) (Nat.not_lt.2 J8.size))
                | fail)
              rw [← F7.out] at hown10
              clear hrow hsc hal hb6 ho6 hb8 ho8 hb9 ho9 J6 J8 J89 J9 hal8 hs8 hg10 hrow9 hgr j5 j7 L cC hOf
              (with_reducible refine (copy_any _ 32 32 bl _ (rdB_sub hK10 H6.out hbl) (by omega)).mono ?_); rintro e w11 ⟨A11, c11, rfl, o11, j11⟩
              have a11 := later_alloc w11 (.cells #[.slice A11 32 c11] 22)
              have J11 := j11.trans a11
              have hsc11 := hsc10.later J11
              have hrow11 := own_laterK hown10 J11
              have hal11 := hal10.later J11
              have hT11 := hT10.later J11
              have o12 := own_later o11 a11
              have L11 := hl10.trans J11
              have hsco := hsc11.own
              rw [hscl] at hsco
              clear hsc10 hown10 hal10 hT10 hK10 o11 j11 hl10
              go_wp2_with (first
                | (refine wpList_append_s rfl _ _ _ rfl 22 _ 1 24 Try.underlying36 infoB rfl (by omega) w _ (k + 1) vs hsco L11 w11.heap.size 1 1 22 [.slice A11 32 c11] (Blk.new _ _ _) rfl (by intro u hu; rw [List.mem_singleton.1 hu]; rfl) rfl rfl (by omega) (by omega) ?_; intro v13 w13 hown13 hl13 hg13
                   have hT13 := blk_grownK hT11 hsco neRL hg13)
                | (refine load_SR rfl _ rfl hT13 hTl rfl ?_)
                | fail)
              have hsc13 := hsc11.snoc (p := bl) (.inr (.inr ⟨A11, c11, _, rfl, o12⟩)) hg13 (by rw [hscl]; exact hown13)
              rw [← F3.out] at hsc13
              have hrow13 := own_otherK hrow11 hsco neRL hg13
              have hal13 := blk_grownK hal11 hsco ne32L hg13
              clear hsc11 hrow11 hal11 hT11 o12 L11 hsco hown13 hg13 J11 a11
              (with_reducible refine (hNx.out _).mono ?_); rintro e w14 ⟨rfl, j14⟩
              go_wp2_with (first
                | (refine store_B rfl rfl _ _ rfl (hal13.later j14) rfl rfl hNl (by rw [List.length_map, hall]) ?_; intro w15 hb15 ho15)
                | fail)
              refine ⟨⟨k + 1, _, by omega, by go_num, own_onlyK (own_laterK hrow13 j14) (hal13.later j14) ne32R ho15, (hsc13.later j14).only (hal13.later j14) ho15, by rw [HA2.out]; exact hb15, (hl13.trans j14).only ho15 hg8, HG1⟩, by simp only [intOf]; omega⟩
            · have hE0 := F9.out he
              have hne : ((e1 : Int) != 0) = true := by simp; omega
              go_wp2_with fail
              (with_reducible refine (cC.out _ B1 d1 hrd (hsc.parts hscl L)).mono ?_); rintro e w5 ⟨rfl, j5⟩
              go_wp2_with (first
                | (refine store_B rfl rfl _ _ rfl (Blk.new w5 _ (List.replicate 32 (.int .u8 0))) rfl rfl hsl rfl ?_; intro w6 hb6 ho6)
                | fail)
              go_ret2
              exact ⟨(L.trans (j5.trans (later_alloc w5 _))).only ho6 (L.trans j5).size, .inl ⟨by rw [hE0]; exact he, by rw [hE0]; rfl⟩⟩
          · have hkm : k = m := by omega
            subst hkm
            have hE0 : E0 = 0 := by rw [HG.out, Nat.sub_self]; rfl
            obtain ⟨A9, c9, rfl, hc9⟩ := own_shapeK hrow
            have hrd9 := own_rdK hrow (stepsA_length x ps k) (stepsA_all x ps k)
            go_wp2_with fail
            go_ret2
            exact ⟨L, .inr ⟨hE0, A9, c9, rfl, hc9, hrd9⟩⟩
  · have hE := schedE_bad (x := x) (ps := ps) (fun f => hok ⟨by have := f.1; omega, by have := f.2.1; omega, by have := f.2.2.1; omega⟩)
    rw [hE]
    clear hE
    have key : ((n : Int) != 32) = true ∨ (((n : Int) != 32) = false ∧ ((m : Int) == 0) = true) ∨ (((n : Int) != 32) = false ∧ ((m : Int) == 0) = false ∧ decide ((5 : Int) < (m : Int)) = true) := by
      simp only [bne_iff_ne, bne_eq_false_iff_eq, ne_eq, decide_eq_true_eq, beq_iff_eq, beq_eq_false_iff_ne]
      omega
    rcases key with h1 | ⟨h1, h2⟩ | ⟨h1, h2, h3⟩
    all_goals
      go_enter Try.func36, Try.ntmps36
      go_wp2_with fail
      go_ret2
      exact ⟨Later.refl w, .inl ⟨by decide, rfl⟩⟩
end Go.Proofs.Ytjohieongjnemaa
