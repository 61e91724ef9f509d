/-
  keys.Schedule.
-/
import Derived.Test.YtjohieongjnemaaKeys4
import Derived.Test.YtjohieongjnemaaAppend
namespace Go.Proofs.Ytjohieongjnemaa
open Go.RowKit
open Go.BigFrame

theorem schedE_bad {x : List UInt8} {ps : List (List UInt8)} (h : ¬ fitS x ps) : schedE x ps = 2 := by rw [schedE, if_neg h]
theorem schedE_fit {x : List UInt8} {ps : List (List UInt8)} (h : fitS x ps) : schedE x ps = goE x ps ps.length 0 := by rw [schedE, if_pos h]
theorem infoSt : (Try.prog.info? 63).map (fun i => (i.zero, i.size, i.bytes)) = some (some (.agg (List.replicate 192 (W8 0)).toArray), 192, 192) := by kernel_rfl
theorem infoSt2 : (Try.prog.info? 63).map (fun i => (i.zero, i.size)) = some (some (.agg (List.replicate 192 (W8 0)).toArray), 192) := by kernel_rfl
theorem own_below_K {w : World} {base sz : Nat} {e : TypeId} {v : Value} {n : Nat} {vs : List Value} (h : w.ownsRow base e sz v n vs) : ∀ b, v.ownBlock = some b → b < w.heap.size := fun b hb => (h.lt b hb).2
theorem ne32S : (47 : TypeId) ≠ 63 := by decide
theorem ne8S : (5 : TypeId) ≠ 63 := by decide
theorem neLS : (22 : TypeId) ≠ 63 := by decide
set_option maxRecDepth 100000 in
set_option maxHeartbeats 8000000 in
theorem kschedule_own (A B : Option Addr) (n c m d : Nat) (x : List UInt8) (ps : List (List UInt8)) (w : World) (hx : RdB w A n x) (hc : n ≤ c) (hn : n ≤ 35184372088832) (hp : Parts w (fun _ => False) B m ps) (hm : m ≤ 140737488355328) :
    Calls Try.prog 35 #[.slice A n c, .slice B m d] w fun e w' => Later w w' ∧ ((schedE x ps ≠ 0 ∧ e = .returned (.tuple #[.slice none 0 0, .int .i64 (schedE x ps : Nat)])) ∨
      (schedE x ps = 0 ∧ ∃ A' c', e = .returned (.tuple #[.slice A' m c', .int .i64 0]) ∧ m ≤ c' ∧ RdK 192 w' A' m (stepsA x ps m) ∧ ∀ b o, A' = some ⟨b, o, none⟩ → w.heap.size ≤ b)) := by
  have hxl := hx.len
  have hpsl := hp.len
  by_cases hok : n = 32 ∧ 1 ≤ m ∧ m ≤ 5
  · obtain ⟨rfl, hm1, hm5⟩ := hok
    have k1 : decide ((m : Int) < 1) = false := decide_eq_false (by omega)
    have k2 : decide ((5 : Int) < (m : Int)) = false := decide_eq_false (by omega)
    have hF := hid (fun (h : ∀ p ∈ ps, p.length = 32) => schedE_fit (x := x) (ps := ps) ⟨hxl, by omega, by omega, h⟩)
    have hB := hid (fun (h : ¬ ∀ p ∈ ps, p.length = 32) => schedE_bad (x := x) (ps := ps) (fun f => h f.2.2.2))
    have hbadk := hid (fun k (h : k < ps.length) (hk : (ps.getD k []).length ≠ 32) (ha : ∀ p ∈ ps, p.length = 32) => hk (ha _ (getD_mem' ps k h)))
    have hPub := hid (fun (w : World) h => public_any A 32 c x w h (by omega))
    rw [pub_ok x hxl] at hPub
    have h0l := multB_length x (nb 9)
    have hst0 : Hid ((stA x ps 0).1 = multB x (nb 9) ∧ (stA x ps 0).2 = [x]) := hid ⟨rfl, rfl⟩
    generalize schedE x ps = E0 at *
    generalize multB x (nb 9) = al0 at *
    go_enter Try.func35, Try.ntmps35
    go_wp2_with fail
    go_loopw [33] (fun i wr => ∃ k : Nat, k ≤ m ∧ i = .int .i64 k ∧ Hid (∀ j, j < k → (ps.getD j []).length = 32) ∧ Later w wr) (fun i _ => m - (intOf i).toNat)
    case atStart => exact ⟨0, by omega, rfl, hid (fun j h => by omega), Later.refl w⟩
    case round =>
      obtain ⟨k, hk, rfl, hall, L⟩ := hrel
      by_cases hlt : k < m
      · obtain ⟨b, o, Ak, nk, ck, rfl, hb, hck, hcap, hrd, _⟩ := (hp.later L).at_ hlt
        have hlen := hrd.len
        have hb2 := hid (fun h => hB.out (hbadk.out k (by omega) h))
        rw [hlen] at hb2
        have hstep : Hid (nk = 32 → ∀ j, j < k + 1 → (ps.getD j []).length = 32) := hid (fun h j hj => by
          by_cases e : j = k
          · rw [e, hlen, h]
          · exact hall.out j (by omega))
        clear hrd hlen
        by_cases h32 : nk = 32
        · have hne : ((nk : Int) != 32) = false := by simp; omega
          go_wp2_with fail
          go_roundw
          case rel => exact ⟨k + 1, by omega, by go_num, hid (hstep.out h32), L⟩
          case measure => simp [intOf]; omega
        · have hne : ((nk : Int) != 32) = true := by simp; omega
          go_wp2_with fail
          go_ret2
          exact ⟨L, .inl (by rw [hb2.out h32]; exact ⟨by decide, rfl⟩)⟩
      · have hall' := all_getD ps (fun j hj => hall.out j (by omega))
        have hE := hF.out hall'
        have HE := hid hE
        have HA := hid hall'
        clear hF hB hbadk hall hall' hE
        go_wp2_with fail
        (with_reducible refine (hPub.out _ (hx.later L)).mono ?_); rintro e w1 ⟨rfl, j1⟩
        go_wp2_with (first
          | (refine store_B rfl rfl _ _ rfl (Blk.new w1 _ (List.replicate 32 (.int .u8 0))) rfl rfl h0l rfl ?_; intro w2 hb2 ho2)
          | (refine wpList_make_room rfl _ _ _ rfl 63 (W8 0) 192 192 Try.underlying55 infoSt (by omega) _ _ _ m rfl rfl rfl (by omega) (by omega) ?_; intro w3 hb3 hl3)
          | fail)
        have L1 := L.trans j1
        have hg8 : w.heap.size ≤ w1.heap.size := L1.size
        have L2 := (L1.trans (later_alloc w1 (.cells (List.replicate 32 (Value.int .u8 0)).toArray 47))).only ho2 hg8
        have L3 := L2.trans hl3
        have hrow := own_laterK (own_capK hb3 L2.size (by rw [List.length_replicate]) (by unfold maxLen; omega)) (later_alloc w3 (.cells #[.slice A 32 c] 22))
        have hal := (hb2.later hl3).later (later_alloc w3 (.cells #[.slice A 32 c] 22))
        have L4 := L3.trans (later_alloc w3 (.cells #[.slice A 32 c] 22))
        have hsc : ScRow w w1.heap.size (w3.alloc (.cells #[.slice A 32 c] 22)) (.slice (some ⟨w3.heap.size, 0, none⟩) 1 1) [x] [.slice A 32 c] :=
          ⟨own_mono (own_new w3 22 [.slice A 32 c] (by simp)) L3.size, rfl, fun j u p hu hp => by
            have hj : j = 0 := by have := (List.getElem?_eq_some_iff.1 hu).1; simpa using this
            subst hj
            cases hu
            cases hp
            exact .inl ⟨A, c, rfl, hc, hx⟩⟩
        clear hb2 ho2 hb3 hl3 j1 L1 L2 L3 L hPub
        generalize w3.alloc _ = w4 at *
        generalize w1.heap.size = g8 at *
        go_loopw [10, 11, 56] (fun v u i wr => ∃ (k : Nat) (vs : List Value), k ≤ m ∧ i = .int .i64 k ∧ wr.ownsRow w.heap.size 63 192 v k ((stepsA x ps k).flatten.map W8) ∧ ScRow w g8 wr u (stA x ps k).2 vs ∧ Blk wr g8 47 ((stA x ps k).1.map W8) ∧ Later w wr ∧ Hid (E0 = goE x ps (m - k) k)) (fun _ _ i _ => m - (intOf i).toNat)
        case atStart => exact ⟨0, _, by omega, rfl, hrow, hsc, by rw [hst0.out.1]; exact hal, L4, hid (by rw [HE.out, hpsl]; rfl)⟩
        case round =>
          clear hrow hsc hal L4
          obtain ⟨k, vs, hk, rfl, hrow, hsc, hal, L, HG⟩ := hrel
          by_cases hlt : k < m
          · obtain ⟨b, o, Ak, nk, ck, rfl, hb, hck, hcap, hrd, _⟩ := (hp.later L).at_ hlt
            have hlen := hrd.len
            obtain rfl : nk = 32 := by rw [← hlen]; exact HA.out _ (getD_mem' ps k (by omega))
            have hscl : (stA x ps k).2.length = k + 1 := stA_snd_length x ps k
            have hsc32 := hid (stA_snd_32 x hxl ps k)
            have hall := stA_fst_length x ps k
            have cC : Hid (∀ (w : World) B d, RdB w Ak 32 (ps.getD k []) → Parts w (fun _ => False) B (k + 1) (stA x ps k).2 →
                Calls Try.prog 57 #[.slice Ak 32 ck, .slice B (k + 1) d] w fun e w' => e = .returned (.tuple #[.agg ((secA x ps k).map W8).toArray, .int .i64 (errA x ps k : Nat)]) ∧ Later w w') :=
              hid (fun w B d h1 h2 => chain_any Ak B 32 ck (k + 1) d (ps.getD k []) (stA x ps k).2 w h1 h2 (by omega) (by omega))
            have hsl := secA_length x ps k
            have hTl := stepA_length x ps k
            have F1 := hid (show stepA x ps k = k4 (secA x ps k) ++ ((stA x ps k).1 ++ secA x ps k) from rfl)
            have F2 := hid (show (stA x ps (k + 1)).1 = multB (derB (secA x ps k) sBlind) (stA x ps k).1 from rfl)
            have F3 := hid (show (stA x ps (k + 1)).2 = (stA x ps k).2 ++ [derB (secA x ps k) sBlind] from rfl)
            have F4 := stepA_blind x ps k
            have F5 := stepA_alpha x ps k
            have F6 := stA_next x hxl ps k (derB (secA x ps k) sBlind) (derB_length _ _)
            have F7 := hid (stepsA_flat x ps k)
            have F8 := hid (show errA x ps k = 0 → E0 = goE x ps (m - (k + 1)) (k + 1) by
              intro h
              have := HG.out
              rw [show m - k = (m - (k + 1)) + 1 by omega, goE, if_pos h] at this
              exact this)
            have F9 := hid (show errA x ps k ≠ 0 → E0 = errA x ps k by
              intro h
              have := HG.out
              rw [show m - k = (m - (k + 1)) + 1 by omega, goE, if_neg h] at this
              exact this)
            have hbl := derB_length (secA x ps k) sBlind
            obtain ⟨B1, d1, hu, hd1⟩ := own_shapeK hsc.own
            rw [hscl] at hu hd1
            subst hu
            have hdone := hid (stepsA_all x ps (k + 1))
            clear HG hlen
            generalize stepA x ps k = T at *
            generalize derB (secA x ps k) sBlind = bl at *
            generalize hS : secA x ps k = S at *
            generalize errA x ps k = e1 at *
            generalize (stA x ps k).1 = al at *
            generalize (stA x ps k).2 = sc at *
            generalize ps.getD k [] = p at *
            by_cases he : e1 = 0
            · subst he
              have G1 := F8.out rfl
              have hSt := hid (fun w => stepOf_any al S hall hsl w)
              rw [← F1.out] at hSt
              have hNx := hid (fun w => next_any T bl al hTl F4 F5 w)
              rw [F6] at hNx
              have hNl := multB_length bl al
              rw [← F2.out] at hNx hNl
              clear F1 F2 F6 F8 F9 hS
              generalize ha2 : (stA x ps (k + 1)).1 = al2 at *
              have HA2 := hid ha2
              clear ha2
              have hzc := zc192
              have H4 := hid F4
              have HG1 := hid G1
              clear F4 F5 G1
              go_wp2_with fail
              (with_reducible refine (cC.out _ B1 d1 hrd (hsc.parts hscl L)).mono ?_); rintro e w5 ⟨rfl, j5⟩
              go_wp2_with (first
                | (refine store_B rfl rfl _ _ rfl (Blk.new w5 _ (List.replicate 32 (.int .u8 0))) rfl rfl hsl rfl ?_; intro w6 hb6 ho6
                   have J6 := (j5.trans (later_alloc w5 (.cells (List.replicate 32 (Value.int .u8 0)).toArray 47))).only ho6 j5.size
                   have hal6 := hal.later J6)
                | (refine load_B rfl _ rfl hal6 hall rfl ?_)
                | (refine load_B rfl _ rfl hb6 hsl rfl ?_)
                | fail)
              (with_reducible refine (hSt.out _).mono ?_); rintro e w7 ⟨rfl, j7⟩
              have hgr : ∀ b, u10.ownBlock = some b → b < w7.heap.size := fun b hb => Nat.lt_of_lt_of_le (own_below_K hrow b hb) (J6.trans j7).size
              have hcase : (((k : Int) + 1 == (m : Int)) = true ∧ k + 1 = m) ∨ (((k : Int) + 1 == (m : Int)) = false ∧ k + 1 < m) := by
                simp only [beq_iff_eq, beq_eq_false_iff_ne, ne_eq]
                omega
              rcases hcase with ⟨kl, hlast⟩ | ⟨kl, hlast⟩
              · go_wp2_with (first
                  | (refine store_St rfl rfl _ _ rfl (Blk.new w7 _ Try.zeroCells63.toList) rfl rfl hTl hzc ?_; intro w8 hb8 ho8
                     have J8 := (J6.trans j7).trans ((later_alloc w7 (.cells Try.zeroCells63 63)).only ho8 (Nat.le_refl _))
                     have J8' := J8.trans (later_alloc w8 (.cells (T.map W8).toArray 63)))
                  | (refine load_St rfl _ rfl hb8 hTl rfl ?_)
                  | (refine build_one rfl 55 _ rfl 63 192 _ T Try.underlying55 infoSt2 (by omega) (by omega) hTl rfl ?_)
                  | (refine wpList_append_s rfl _ _ _ rfl 63 _ 192 192 Try.underlying55 infoSt rfl (by omega) w _ k _ (own_laterK hrow J8') (L.trans J8') w8.heap.size 1 1 63 (T.map W8) (Blk.new _ _ _) (by rw [List.length_map, hTl]) (w8_one T) rfl rfl (by omega) (by omega) ?_; intro v9 w9 hown9 hl9 hg9
                     have hT9 : Blk w9 w7.heap.size 63 (T.map W8) := by
                       have h8 := hb8.later (later_alloc w8 (.cells (T.map W8).toArray 63))
                       refine (hg9.block _ h8.lt ?_).trans h8
                       intro e
                       exact absurd (hgr _ e.symm) (Nat.lt_irrefl _))
                  | (refine load_St rfl _ rfl hT9 hTl rfl ?_)
                  | fail)
                have hrow8 := own_laterK hrow J8'
                have hsc9 := (hsc.later J8').grown hrow8 neLS ne32S ne8S hg9
                have hal9 := blk_grownK (hal.later J8') hrow8 ne32S hg9
                have hg8 : w.heap.size ≤ g8 ∨ True := .inr trivial
                clear hrow hsc hal hb8 ho8 J8 J8' hg9 hrow8 hg8 hgr J6 hal6 hb6 ho6 j5 j7 L
                rw [← F7.out] at hown9
                obtain ⟨A9, c9, rfl, hc9⟩ := own_shapeK hown9
                have hrd9 := own_rdK hown9 (stepsA_length x ps (k + 1)) hdone.out
                have hE0 : E0 = 0 := by rw [HG1.out, hlast, Nat.sub_self]; rfl
                rw [hlast] at hrd9 hc9
                go_ret2
                exact ⟨hl9, .inr ⟨hE0, A9, c9, by rw [hlast]; rfl, hc9, hrd9, fun b o e => by subst e; exact (hown9.lt b rfl).1⟩⟩
              · go_wp2_with (first
                  | (refine store_St rfl rfl _ _ rfl (Blk.new w7 _ Try.zeroCells63.toList) rfl rfl hTl hzc ?_; intro w8 hb8 ho8
                     have J8 := (J6.trans j7).trans ((later_alloc w7 (.cells Try.zeroCells63 63)).only ho8 (Nat.le_refl _))
                     have J8' := J8.trans (later_alloc w8 (.cells (T.map W8).toArray 63)))
                  | (refine load_St rfl _ rfl hb8 hTl rfl ?_)
                  | (refine build_one rfl 55 _ rfl 63 192 _ T Try.underlying55 infoSt2 (by omega) (by omega) hTl rfl ?_)
                  | (refine wpList_append_s rfl _ _ _ rfl 63 _ 192 192 Try.underlying55 infoSt rfl (by omega) w _ k _ (own_laterK hrow J8') (L.trans J8') w8.heap.size 1 1 63 (T.map W8) (Blk.new _ _ _) (by rw [List.length_map, hTl]) (w8_one T) rfl rfl (by omega) (by omega) ?_; intro v9 w9 hown9 hl9 hg9
                     have hT9 : Blk w9 w7.heap.size 63 (T.map W8) := by
                       have h8 := hb8.later (later_alloc w8 (.cells (T.map W8).toArray 63))
                       refine (hg9.block _ h8.lt ?_).trans h8
                       intro e
                       exact absurd (hgr _ e.symm) (Nat.lt_irrefl _))
                  | (refine load_St rfl _ rfl hT9 hTl rfl ?_)
                  | fail)
                have hrow8 := own_laterK hrow J8'
                have hsc9 := (hsc.later J8').grown hrow8 neLS ne32S ne8S hg9
                have hal9 := blk_grownK (hal.later J8') hrow8 ne32S hg9
                have hg8 : w.heap.size ≤ g8 ∨ True := .inr trivial
                clear hrow hsc hal hb8 ho8 J8 J8' hg9 hrow8 hg8 hgr J6 hal6 hb6 ho6 j5 j7 L
                rw [← F7.out] at hown9
                (with_reducible refine (hNx.out _).mono ?_); rintro e w10 ⟨rfl, j10⟩
                have hT10 := hT9.later j10
                have hal10 := hal9.later j10
                have hsc10 := hsc9.later j10
                have hrow10 := own_laterK hown9 j10
                have L10 := hl9.trans j10
                have hne : w7.heap.size ≠ g8 := hT10.ne_type hal10 (fun e => ne32S e.symm)
                clear hT9 hal9 hsc9 hown9 hl9 j10 hSt hNx cC
                go_wp2_with (first
                  | (refine store_B rfl rfl _ _ rfl hal10 rfl rfl hNl (by rw [List.length_map, hall]) ?_; intro w11 hb11 ho11
                     have hT11 := hT10.only ho11 hne)
                  | (refine load_Y 96 32 rfl _ rfl hT11 rfl Try.underlying47 rfl size32c H4.out hbl ?_)
                  | (refine store_B rfl rfl _ _ rfl (Blk.new w11 _ (List.replicate 32 (.int .u8 0))) rfl rfl hbl rfl ?_; intro w12 hb12 ho12
                     have hsc11 := hsc10.only hal10 ho11
                     have hrow11 := own_onlyK hrow10 hal10 ne32S ho11
                     have L11 := L10.only ho11 hg8
                     have J12 : Later w11 (w12.alloc (.cells #[.slice (some ⟨w11.heap.size, 0, none⟩) 32 32] 22)) := ((later_alloc w11 (.cells (List.replicate 32 (Value.int .u8 0)).toArray 47)).only ho12 (Nat.le_refl _)).trans (later_alloc _ _)
                     have hsc12 := hsc11.later J12
                     have hrow12 := own_laterK hrow11 J12
                     have hal12 := hb11.later J12
                     have hbl12 := hb12.later (later_alloc w12 (.cells #[.slice (some ⟨w11.heap.size, 0, none⟩) 32 32] 22))
                     have L12 := L11.trans J12
                     have hsco := hsc12.own
                     rw [hscl] at hsco)
                  | (refine wpList_append_s rfl _ _ _ rfl 22 _ 1 24 Try.underlying36 infoB rfl (by omega) w _ (k + 1) vs hsco L12 w12.heap.size 1 1 22 [.slice (some ⟨w11.heap.size, 0, none⟩) 32 32] (Blk.new _ _ _) rfl (by intro u hu; rw [List.mem_singleton.1 hu]; rfl) rfl rfl (by omega) (by omega) ?_; intro v13 w13 hown13 hl13 hg13)
                  | fail)
                have hsc13 := hsc12.snoc (p := bl) (.inr (.inl ⟨w11.heap.size, rfl, by have := hb11.lt; omega, hbl, hbl12⟩)) hg13 (by rw [hscl]; exact hown13)
                rw [← F3.out] at hsc13
                have hrow13 := own_otherK hrow12 hsco (fun e => neLS e.symm) hg13
                have hal13 := blk_grownK hal12 hsco ne32L hg13
                go_roundw
                case rel => exact ⟨k + 1, _, by omega, by go_num, hrow13, hsc13, by rw [HA2.out]; exact hal13, hl13, HG1⟩
                case measure => simp [intOf]; omega
            · have hE0 := F9.out he
              have hne : ((e1 : Int) != 0) = true := by simp; omega
              go_wp2_with fail
              (with_reducible refine (cC.out _ B1 d1 hrd (hsc.parts hscl L)).mono ?_); rintro e w5 ⟨rfl, j5⟩
              go_wp2_with (first
                | (refine store_B rfl rfl _ _ rfl (Blk.new w5 _ (List.replicate 32 (.int .u8 0))) rfl rfl hsl rfl ?_; intro w6 hb6 ho6)
                | fail)
              go_ret2
              exact ⟨(L.trans (j5.trans (later_alloc w5 _))).only ho6 (L.trans j5).size, .inl ⟨by rw [hE0]; exact he, by rw [hE0]; rfl⟩⟩
          · have hkm : k = m := by omega
            subst hkm
            have hE0 : E0 = 0 := by rw [HG.out, Nat.sub_self]; rfl
            obtain ⟨A9, c9, rfl, hc9⟩ := own_shapeK hrow
            have hrd9 := own_rdK hrow (stepsA_length x ps k) (stepsA_all x ps k)
            go_wp2_with fail
            go_ret2
            exact ⟨L, .inr ⟨hE0, A9, c9, rfl, hc9, hrd9, fun b o e => by subst e; exact (hrow.lt b rfl).1⟩⟩
  · have hE := schedE_bad (x := x) (ps := ps) (fun f => hok ⟨by have := f.1; omega, by have := f.2.1; omega, by have := f.2.2.1; omega⟩)
    rw [hE]
    clear hE
    have key : ((n : Int) != 32) = true ∨ (((n : Int) != 32) = false ∧ decide ((m : Int) < 1) = true) ∨ (((n : Int) != 32) = false ∧ decide ((m : Int) < 1) = false ∧ decide ((5 : Int) < (m : Int)) = true) := by
      simp only [bne_iff_ne, bne_eq_false_iff_eq, ne_eq, decide_eq_true_eq, decide_eq_false_iff_not]
      omega
    rcases key with h1 | ⟨h1, h2⟩ | ⟨h1, h2, h3⟩
    all_goals
      go_enter Try.func35, Try.ntmps35
      go_wp2_with fail
      go_ret2
      exact ⟨Later.refl w, .inl ⟨by decide, rfl⟩⟩
theorem kschedule_any (A B : Option Addr) (n c m d : Nat) (x : List UInt8) (ps : List (List UInt8)) (w : World) (hx : RdB w A n x) (hc : n ≤ c) (hn : n ≤ 35184372088832) (hp : Parts w (fun _ => False) B m ps) (hm : m ≤ 140737488355328) :
    Calls Try.prog 35 #[.slice A n c, .slice B m d] w fun e w' => Later w w' ∧ ((schedE x ps ≠ 0 ∧ e = .returned (.tuple #[.slice none 0 0, .int .i64 (schedE x ps : Nat)])) ∨
      (schedE x ps = 0 ∧ ∃ A' c', e = .returned (.tuple #[.slice A' m c', .int .i64 0]) ∧ m ≤ c' ∧ RdK 192 w' A' m (stepsA x ps m))) :=
  (kschedule_own A B n c m d x ps w hx hc hn hp hm).mono fun _ _ h => ⟨h.1, h.2.imp id fun h => ⟨h.1, by obtain ⟨A', c', e, h1, h2, _⟩ := h.2; exact ⟨A', c', e, h1, h2⟩⟩⟩
end Go.Proofs.Ytjohieongjnemaa
