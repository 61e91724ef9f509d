/-
  shallottop: few, ShallotSecrets.
-/
import Derived.Test.YtpijjldkehimfaaKeysB
import Derived.Test.YtpijjldkehimfaaBadLen
namespace Go.Proofs.Ytpijjldkehimfaa
open Go.RowKit
open Go.BigFrame

theorem part_one {w : World} {bad : Nat → Prop} {v : Value} {p : List UInt8} (h : Part w bad v p) : v.oneCell' = true := by
  obtain ⟨A, n, c, rfl, _⟩ := h
  rfl
theorem own_parts {w : World} {base : Nat} {A : Option Addr} {n c : Nat} {vs : List Value} {ps : List (List UInt8)} (h : w.ownsRow base 22 1 (.slice A n c) n vs) (hl : vs.length = ps.length) (he : ∀ (j : Nat) v p, vs[j]? = some v → ps[j]? = some p → Part w (fun _ => False) v p) : Parts w (fun _ => False) A n ps :=
  ⟨vs, own_rd h, fun _ _ _ h => h, hl, he⟩
set_option maxRecDepth 100000 in
set_option maxHeartbeats 4000000 in
theorem few_any (A : Option Addr) (n d m : Nat) (ps : List (List UInt8)) (w : World) (hp : Parts w (fun _ => False) A n ps) (hnd : n ≤ d) (hm : (n ≤ 3 ∧ m = n) ∨ (3 < n ∧ m = 3)) :
    Calls Try.prog 46 #[.slice A n d, .int .i64 3] w fun e w' => ∃ A' c', e = .returned (.slice A' m c') ∧ m ≤ c' ∧ Parts w' (fun _ => False) A' m (ps.take m) ∧ Later w w' := by
  have hm3 : m ≤ 3 := by omega
  have hmn : m ≤ n := by omega
  obtain ⟨vs, hrd, _, hl, hE⟩ := hp.take hmn
  have hone : ∀ u ∈ vs, u.oneCell' = true := by
    intro u hu
    obtain ⟨j, hj⟩ := List.getElem?_of_mem hu
    have hlt : j < (ps.take m).length := by rw [← hl]; exact (List.getElem?_eq_some_iff.1 hj).1
    exact part_one (hE j u _ hj (List.getElem?_eq_getElem hlt))
  rcases hm with ⟨h, rfl⟩ | ⟨h, rfl⟩
  · have hd : decide ((3 : Int) < (m : Int)) = false := decide_eq_false (by omega)
    go_enter Try.func46, Try.ntmps46
    go_wp2_with (first
      | (refine wpList_append_rd rfl _ _ _ rfl 22 _ 24 Try.underlying36 infoB rfl w _ 0 [] (own_new w _ [] (by simp)) (later_alloc _ _) A m d _ (hrd.later (later_alloc _ _)) hone rfl rfl (by omega) (by omega) ?_; intro A3 c3 w3 hown3 hl3 _ _; simp only [Nat.zero_add, List.nil_append] at hown3 ⊢)
      | fail)
    go_ret
    exact ⟨A3, c3, rfl, (own_shapeK hown3).elim fun _ h => h.elim fun _ h => by cases h.1; exact h.2, own_parts hown3 hl (fun j v p hv hp => (hE j v p hv hp).later hl3), hl3⟩
  · have hd : decide ((3 : Int) < (n : Int)) = true := decide_eq_true (by omega)
    go_enter Try.func46, Try.ntmps46
    go_wp2_with (first
      | (refine wpList_append_rd rfl _ _ _ rfl 22 _ 24 Try.underlying36 infoB rfl w _ 0 [] (own_new w _ [] (by simp)) (later_alloc _ _) A 3 d _ (hrd.later (later_alloc _ _)) hone rfl rfl (by omega) (by omega) ?_; intro A3 c3 w3 hown3 hl3 _ _; simp only [Nat.zero_add, List.nil_append] at hown3 ⊢)
      | fail)
    go_ret
    exact ⟨A3, c3, rfl, (own_shapeK hown3).elim fun _ h => h.elim fun _ h => by cases h.1; exact h.2, own_parts hown3 hl (fun j v p hv hp => (hE j v p hv hp).later hl3), hl3⟩
set_option maxRecDepth 100000 in
set_option maxHeartbeats 8000000 in
theorem secrets_walk (A B : Option Addr) (n c m0 d : Nat) (x : List UInt8) (ps0 : List (List UInt8)) (w : World) (hx : RdB w A n x) (hc : n ≤ c) (hp0 : Parts w (fun _ => False) B m0 ps0) (hmd : m0 ≤ d) :
    Calls Try.prog 12 #[.slice A n c, .slice B m0 d] w fun e w' => e = .returned (.bool true) ∧ Later w w' := by
  have hxl := hx.len
  have hpl0 := hp0.len
  have hOf := hid (fun (w : World) => of_keys none 0 0 [] w (rdb_none w) (Nat.le_refl _) (by omega))
  rw [show ofE [] = 2 by rw [ofE, if_neg (by simp)]] at hOf
  have hOl := ofB_length []
  generalize ofB [] = Z0 at *
  have hzK := zcKl
  have hzS := zc192
  by_cases hok : n = 32 ∧ 1 ≤ m0
  · obtain ⟨rfl, hm01⟩ := hok
    have k1 : ((m0 : Int) == 0) = false := by simp; omega
    obtain ⟨m, hm⟩ : ∃ m, (m0 ≤ 3 ∧ m = m0) ∨ (3 < m0 ∧ m = 3) := by
      by_cases h : m0 ≤ 3
      · exact ⟨m0, .inl ⟨h, rfl⟩⟩
      · exact ⟨3, .inr ⟨by omega, rfl⟩⟩
    have hm1 : 1 ≤ m := by omega
    have hm3 : m ≤ 3 := by omega
    have hF := hid (fun (w : World) h => few_any B m0 d m ps0 w h hmd hm)
    have hpl : (ps0.take m).length = m := by rw [List.length_take]; omega
    generalize ps0.take m = ps at *
    go_enter Try.func12, Try.ntmps12
    go_wp2_with fail
    (with_reducible refine (hOf.out _).mono ?_); rintro e w1 ⟨rfl, j1⟩
    go_wp2_with (first
      | (refine store_K rfl rfl _ _ rfl (Blk.new w1 _ Try.zeroCells49.toList) rfl rfl hOl hzK ?_; intro w2 hb2 ho2)
      | fail)
    have L2 : Later w w2 := (j1.trans (later_alloc w1 _)).only ho2 j1.size
    clear hb2 ho2 j1
    (with_reducible refine (hF.out _ (hp0.later L2)).mono ?_); rintro e w3 ⟨B3, d3, rfl, hd3, hp3, j3⟩
    go_wp2_with fail
    have L3 := L2.trans j3
    clear j3 L2 hF hm
    have hsc0 : ScRow w3 0 w3 (.slice none 0 0) (pubsOf (ps.take 0)) [] := ⟨World.ownsRow_nil w3 _ _ 1, rfl, fun j u p hu _ => by simp at hu⟩
    go_loopw [8, 38] (fun v i wr => ∃ (k : Nat) (vs : List Value), k ≤ m ∧ i = .int .i64 k ∧ ScRow w3 0 wr v (pubsOf (ps.take k)) vs ∧ Later w3 wr ∧ Hid (∀ j, j < k → (ps.getD j []).length = 32)) (fun _ i _ => m - (intOf i).toNat)
    case atStart => exact ⟨0, [], by omega, rfl, hsc0, Later.refl _, hid (fun j h => by omega)⟩
    case round =>
      clear hsc0
      obtain ⟨k, vs, hk, rfl, hsc, L, hall⟩ := hrel
      by_cases hlt : k < m
      · obtain ⟨b, o, Ak, nk, ck, rfl, hb, hck, hcap, hrd, _⟩ := (hp3.later L).at_ hlt
        have hlen := hrd.len
        have hscl : (pubsOf (ps.take k)).length = k := by simp [pubsOf]; omega
        have F3 := hid (pubsOf_take ps k (by omega))
        have hstep : Hid (nk = 32 → ∀ j, j < k + 1 → (ps.getD j []).length = 32) := hid (fun h j hj => by
          by_cases e : j = k
          · rw [e, hlen, h]
          · exact hall.out j (by omega))
        by_cases h32 : nk = 32
        · have hall1 := hid (hstep.out h32)
          subst h32
          have hN := hid (fun (w : World) h => newpair_any Ak 32 ck (ps.getD k []) w h (by omega))
          have hP1 : pairL (ps.getD k []) = ps.getD k [] ++ multB (ps.getD k []) (nb 9) := by rw [pairL, if_pos (pub_ok _ hlen)]
          rw [hP1, pub_ok _ hlen] at hN
          have hml := multB_length (ps.getD k []) (nb 9)
          generalize multB (ps.getD k []) (nb 9) = Qk at *
          clear hall hstep hP1
          generalize ps.getD k [] = p at *
          have hKl : (p ++ Qk).length = 64 := by rw [List.length_append]; omega
          obtain ⟨K, hK⟩ : ∃ K, K = p ++ Qk := ⟨_, rfl⟩
          rw [← hK] at hN hKl
          have HK := hid hK
          clear hK
          go_wp2_with fail
          (with_reducible refine (hN.out _ hrd).mono ?_); rintro e w4 ⟨rfl, j4⟩
          go_wp2_with (first
            | (refine store_P rfl rfl _ _ rfl (Blk.new w4 _ (List.replicate 64 (.int .u8 0))) rfl rfl hKl (by simp) ?_; intro w5 hb5 ho5
               have J5 : Later wr w5 := (j4.trans (later_alloc w4 _)).only ho5 j4.size
               have hrq := blk_rdB_high (hb5.later (later_alloc w5 (.cells #[] 5))) HK.out hlen hml)
            | (refine wpList_append_rd rfl _ _ _ rfl 5 _ 1 Try.underlying22 info8 rfl w5 _ 0 [] (own_new w5 _ [] (by simp)) (later_alloc _ _) (some ⟨w4.heap.size, 32, none⟩) 32 32 (Qk.map W8) hrq (w8_one _) rfl rfl (by omega) (by omega) ?_; intro A6 c6 w6 hown6 hl6 _ _; simp only [Nat.zero_add, List.nil_append] at hown6 ⊢
               have a6 := later_alloc w6 (.cells #[.slice A6 32 c6] 22)
               have J7 := (J5.trans hl6).trans a6
               have hsc7 := hsc.later J7
               have L7 := L.trans J7
               have hsco := hsc7.own
               rw [hscl] at hsco
               have o6' : OwnB (w6.alloc (.cells #[.slice A6 32 c6] 22)) w5.heap.size A6 32 c6 Qk := own_later hown6 a6)
            | (refine wpList_append_s rfl _ _ _ rfl 22 _ 1 24 Try.underlying36 infoB rfl (by omega) w3 _ k vs hsco L7 w6.heap.size 1 1 22 [.slice A6 32 c6] (Blk.new _ _ _) rfl (by intro u hu; rw [List.mem_singleton.1 hu]; rfl) rfl rfl (by omega) (by omega) ?_; intro v8 w8 hown8 hl8 hg8)
            | fail)
          have hsc8 := hsc7.snoc (p := Qk) (.inr (.inr ⟨A6, c6, _, rfl, o6'⟩)) hg8 (by rw [hscl]; exact hown8)
          rw [← F3.out] at hsc8
          go_roundw
          case rel => exact ⟨k + 1, _, by omega, by go_num, hsc8, hl8, hall1⟩
          case measure => simp [intOf]; omega
        · have hN := hid (fun (w : World) => newpair_bad Ak nk ck h32 w)
          have hne : ((nk : Int) != 32) = true := by simp; omega
          have hz64 : (List.replicate 64 (0 : UInt8)).length = 64 := by simp
          generalize List.replicate 64 (0 : UInt8) = Z at *
          go_wp2_with fail
          (with_reducible refine (hN.out _).mono ?_); rintro e w4 ⟨rfl, j4⟩
          go_wp2_with (first
            | (refine store_P rfl rfl _ _ rfl (Blk.new w4 _ (List.replicate 64 (.int .u8 0))) rfl rfl hz64 (by simp) ?_; intro w5 hb5 ho5)
            | fail)
          go_ret
          exact ⟨rfl, (((L3.trans L).trans j4).trans (later_alloc w4 _)).only ho5 ((L3.trans L).trans j4).size⟩
      · have hkm : m = k := by omega
        subst hkm
        have hall32 := all_getD ps (fun j hj => hall.out j (by omega))
        have hE := meet_sched x hxl ps hall32 (by omega) (by omega)
        have hN2 := hid (fun j (hj : j < ps.length) => meet_peel x hxl ps hall32 j hj)
        have hN3 := hid (fun j (hj : j < ps.length) => (meet_hop x hxl ps hall32 j hj).2.2)
        have h32 := hid (fun j (hj : j < m) => hall.out j hj)
        rw [List.take_of_length_le (by omega)] at hsc
        have hpq : (pubsOf ps).length = m := by simp [pubsOf]; omega
        obtain ⟨B5, d5, rfl, hd5⟩ := own_shapeK hsc.own
        have hpp := hsc.parts rfl L
        rw [hpq] at hpp
        have hS := hid (fun (w : World) A c h1 hc h2 => kschedule_any A B5 32 c m d5 x (pubsOf ps) w h1 hc (by omega) h2 (by omega))
        rw [hE] at hS
        rw [hpq]
        clear hall hall32 hsc hd5 hE
        go_wp2_with fail
        (with_reducible refine (hS.out _ A c (hx.later (L3.trans L)) hc hpp).mono ?_); rintro e w4 ⟨j4, ⟨h0, _⟩ | ⟨_, A5, c5, rfl, hc5, hr5⟩⟩
        · exact absurd rfl h0
        have L4 := (L3.trans L).trans j4
        replace hp3 := (hp3.later L).later j4
        clear j4 L hpp hS L3
        have hT := hid (stepA_length x (pubsOf ps))
        have hal := hid (stA_fst_length x (pubsOf ps))
        have hnx := hid (fun j w => next_any (stepA x (pubsOf ps) j) _ _ (stepA_length x (pubsOf ps) j) (stepA_blind x (pubsOf ps) j) (stepA_alpha x (pubsOf ps) j) w)
        have hnx0 := hid (fun j => stA_next x hxl (pubsOf ps) j (derB (secA x (pubsOf ps) j) sBlind) (derB_length _ _))
        have hst := hid (fun j => show (stA x (pubsOf ps) (j + 1)).1 = multB (derB (secA x (pubsOf ps) j) sBlind) (stA x (pubsOf ps) j).1 from rfl)
        have hget := hid (fun j (hj : j < m) => stepsA_getD' x (pubsOf ps) m j hj)
        have hPub := hid (fun (w : World) h => public_any A 32 c x w h (by omega))
        rw [pub_ok x hxl] at hPub
        have h0l := multB_length x (nb 9)
        have hst0 : Hid ((stA x (pubsOf ps) 0).1 = multB x (nb 9)) := hid rfl
        generalize multB x (nb 9) = al0 at *
        go_wp2_with fail
        (with_reducible refine (hPub.out _ (hx.later L4)).mono ?_); rintro e w5 ⟨rfl, j5⟩
        go_wp2_with (first
          | (refine store_B rfl rfl _ _ rfl (Blk.new w5 _ (List.replicate 32 (.int .u8 0))) rfl rfl h0l rfl ?_; intro w6 hb6 ho6)
          | fail)
        have J6 : Later w4 w6 := (j5.trans (later_alloc w5 _)).only ho6 j5.size
        have hg12 := j5.size
        have hBg : Bag w w6 [(w5.heap.size, 47, al0.map W8)] := (Bag.none w).push ((L4.trans j5).trans (later_alloc w5 _)) (L4.trans j5).size ho6 hb6
        clear hb6 ho6 j5
        generalize w5.heap.size = g12 at *
        go_loopw [14, 82] (fun e i wr => ∃ j : Nat, j ≤ m ∧ e = .int .i64 0 ∧ i = .int .i64 j ∧ Bag w wr [(g12, 47, (stA x (pubsOf ps) j).1.map W8)] ∧ Later w4 wr) (fun _ i _ => m - (intOf i).toNat)
        case atStart => exact ⟨0, by omega, rfl, rfl, by rw [hst0.out]; exact hBg, J6⟩
        case round =>
          clear hBg J6
          obtain ⟨j, hj, rfl, rfl, B1, LL⟩ := hrel
          by_cases hlt : j < m
          · obtain ⟨b, o, Ak, nk, ck, rfl, hb, hck, hcap, hrd, _⟩ := (hp3.later LL).at_ hlt
            have hl32 := h32.out j hlt
            obtain rfl : nk = 32 := by rw [← hrd.len]; exact hl32
            have hPl := hid (fun (w : World) h1 h2 => peel_any Ak (some ⟨g12, 0, none⟩) 32 ck 32 32 (ps.getD j []) (stA x (pubsOf ps) j).1 w h1 h2 (by omega) (by omega))
            rw [hN2.out j (by omega), hN3.out j (by omega)] at hPl
            have hNx := hid (hnx.out j)
            rw [hnx0.out j, ← hst.out j] at hNx
            obtain ⟨TT, hTT⟩ : ∃ TT : Y192, TT.val = stepA x (pubsOf ps) j := ⟨⟨_, hT.out j⟩, rfl⟩
            obtain ⟨b2, o2, e2, hb2, C2⟩ := hr5.sub hlt
            rw [hget.out j hlt, ← hTT] at C2
            subst e2
            rw [← hTT] at hPl hNx
            have hall := hal.out j
            have hNl := hal.out (j + 1)
            have hTl := TT.2
            have h192 : subB TT.val 0 192 = TT.val := by rw [subB, List.drop_zero, List.take_of_length_le (by omega)]
            obtain ⟨p0, hp0⟩ := sub32 (subB_length (bs := TT.val) (off := 0) (n := 32) (by omega))
            obtain ⟨p2, hp2⟩ := sub32 (subB_length (bs := TT.val) (off := 64) (n := 32) (by omega))
            obtain ⟨p5, hp5⟩ := sub32 (subB_length (bs := TT.val) (off := 160) (n := 32) (by omega))
            have Hp0 := hid hp0.symm
            have Hp2 := hid hp2.symm
            have Hp5 := hid hp5.symm
            have hp0l := p0.2
            have hp2l := p2.2
            have hp5l := p5.2
            have H192 := hid h192
            have HC2 := hid C2
            clear hN2 hN3 hnx hnx0 hst hget hTT hal hT hl32 C2 h192 hr5 hst0 h32 hp0 hp2 hp5
            generalize (stA x (pubsOf ps) j).1 = al at *
            generalize ha2 : (stA x (pubsOf ps) (j + 1)).1 = al2 at *
            have HA2 := hid ha2
            clear ha2
            generalize ps.getD j [] = p at *
            go_wp2_with fail
            (with_reducible refine (hPl.out _ hrd (blk_rdB (B1.nth 0 rfl) hall)).mono ?_); rintro e m4 ⟨rfl, j4⟩
            go_wp2_with (first
              | (refine store_St rfl rfl _ _ rfl (Blk.new m4 _ Try.zeroCells63.toList) rfl rfl hTl hzS ?_; intro m7 hb7 ho7)
              | fail)
            have L7 : Later w4 m7.drew := ((LL.trans j4).trans ((later_alloc m4 _).only ho7 (Nat.le_refl _))).trans (later_drew _)
            have B5 := (B1.push (j4.trans (later_alloc m4 _)) j4.size ho7 hb7).drew
            clear j4 hb7 ho7 LL B1 hPl hrd
            refine wp_region_parts [] [0, 1, 2, 3, 4, 5, 6, 7, 8, 9, 10, 11, 12, 13, 14, 15, 16, 17, 18, 19, 20, 21, 22, 23, 24, 25, 26, 27, 28, 29, 30, 31, 32, 33, 34, 35, 36, 37, 38, 39, 40, 41, 42, 43, 44, 45, 46, 47] [] (by as_aux_lemma => kernel_rfl) (by as_aux_lemma => kernel_rfl) (by intro _ _ d _ _ h; cases d <;> exact h) ?_
            simp only [wpParts, pick, List.getElem?_cons_succ, List.getElem?_cons_zero, Option.toList_some, List.cons_append, List.nil_append]
            repeat (first | go_big_quiet_skip | (go_big_quiet_want; (first | refine quiet_Y 0 192 _ rfl (B5.nth 0 rfl) rfl Try.underlying63 rfl size192 H192.out hTl ?_ | (refine quiet_load_agg 63 _ rfl b2 (o2 + j * 192) (TT.val.map W8) ?hc ?hx _ Try.underlying63 rfl ?hi ?_; (case hx => rfl); (case hi => rw [List.length_map, hTl]; exact size192); (case hc => rintro w' ⟨z, rfl⟩; exact HC2.out _ (L7.trans ⟨z, rfl⟩) 0 192 TT.val H192.out)) | refine quiet_Y 0 32 _ rfl (B5.nth 0 rfl) rfl Try.underlying47 rfl size32c Hp0.out hp0l ?_ | refine quiet_Y 64 32 _ rfl (B5.nth 0 rfl) rfl Try.underlying47 rfl size32c Hp2.out hp2l ?_ | refine quiet_Y 160 32 _ rfl (B5.nth 0 rfl) rfl Try.underlying47 rfl size32c Hp5.out hp5l ?_ | (refine quiet_load_agg 47 _ rfl b2 (o2 + j * 192) (p0.val.map W8) ?hc ?hx _ Try.underlying47 rfl ?hi ?_; (case hx => rfl); (case hi => rw [List.length_map, hp0l]; exact size32c); (case hc => rintro w' ⟨z, rfl⟩; exact HC2.out _ (L7.trans ⟨z, rfl⟩) 0 32 p0.val Hp0.out)) | (refine quiet_load_agg 47 _ rfl b2 (o2 + j * 192 + 64) (p2.val.map W8) ?hc ?hx _ Try.underlying47 rfl ?hi ?_; (case hx => rfl); (case hi => rw [List.length_map, hp2l]; exact size32c); (case hc => rintro w' ⟨z, rfl⟩; exact HC2.out _ (L7.trans ⟨z, rfl⟩) 64 32 p2.val Hp2.out)) | (refine quiet_load_agg 47 _ rfl b2 (o2 + j * 192 + 160) (p5.val.map W8) ?hc ?hx _ Try.underlying47 rfl ?hi ?_; (case hx => rfl); (case hi => rw [List.length_map, hp5l]; exact size32c); (case hc => rintro w' ⟨z, rfl⟩; exact HC2.out _ (L7.trans ⟨z, rfl⟩) 160 32 p5.val Hp5.out))); simp only [Act.put, List.setIfInBounds_toArray, List.set_cons_succ, List.set_cons_zero]; go_big_quiet_on) | (go_big_quiet_step (fail)))
            refine wpQuiet_nil ?_
            go_wp2_with (first
              | (refine load_St rfl _ rfl (B5.nth 0 rfl) hTl rfl ?_)
              | fail)
            (with_reducible refine (hNx.out _).mono ?_); rintro e m8 ⟨rfl, j8⟩
            go_wp2_with (first
              | (refine store_B rfl rfl _ _ rfl ((B5.later j8).nth 1 rfl) rfl rfl hNl (by rw [List.length_map, hall]) ?_; intro m9 hb9 ho9)
              | fail)
            have B7 := ((B5.later j8).write 1 rfl ho9 hb9).drop 1
            go_roundw
            case rel => exact ⟨j + 1, by omega, rfl, by go_num, by rw [HA2.out]; exact B7, (L7.trans j8).only ho9 hg12⟩
            case measure => simp [intOf]; omega
          · have hjm : j = m := by omega
            go_wp2_with fail
            go_ret
            exact ⟨rfl, B1.lat⟩
  · have hbad : ((n : Int) != 32) = true ∨ (((n : Int) != 32) = false ∧ ((m0 : Int) == 0) = true) := by
      simp only [bne_iff_ne, bne_eq_false_iff_eq, ne_eq, beq_iff_eq]
      omega
    rcases hbad with h1 | ⟨h1, h2⟩
    all_goals
      go_enter Try.func12, Try.ntmps12
      go_wp2_with fail
      (with_reducible refine (hOf.out _).mono ?_); rintro e w1 ⟨rfl, j1⟩
      go_wp2_with (first
        | (refine store_K rfl rfl _ _ rfl (Blk.new w1 _ Try.zeroCells49.toList) rfl rfl hOl hzK ?_; intro w2 hb2 ho2)
        | fail)
      go_ret
      exact ⟨rfl, (j1.trans (later_alloc w1 _)).only ho2 j1.size⟩
end Go.Proofs.Ytpijjldkehimfaa
