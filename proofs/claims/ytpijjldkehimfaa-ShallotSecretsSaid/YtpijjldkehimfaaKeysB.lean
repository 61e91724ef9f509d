/-
  shallotlaw12: KeysMeet.
-/
import Derived.Test.YtpijjldkehimfaaKeys8
import Derived.Test.YtpijjldkehimfaaKeysA
import Derived.Test.YtpijjldkehimfaaCurveH
namespace Go.Proofs.Ytpijjldkehimfaa
open Go.RowKit
open Go.BigFrame

theorem stood_step : Try.prog.stoodInHeld 63 = false := by kernel_rfl
theorem eqg_step : Try.prog.eqGuardType Try.prog.depth 63 = false := by kernel_rfl
theorem fields_step : Try.prog.underlying 63 = some (.struct (Try.prog.fieldsOf 63)) := by rw [fields_of Try.underlying63]; exact Try.underlying63
theorem run_eqP_struct {P : Program} {d n k : Nat} {t : TypeId} {f : Field} {fs : List Field} (hf : f.type = t) (hu : P.underlying t = some (.struct (P.fieldsOf t))) (hp : P.stoodInHeld t = false) (hs : (P.info? t).map (·.size) = some n) (hn : f.name ≠ "_") {xs ys : List Value} {p q : List UInt8} (ho : f.offset = k)
    (hx : (xs.drop k).take n = p.map W8) (hy : (ys.drop k).take n = q.map W8) (w : World) (he : (Op.eqFields d (p.map W8).toArray (q.map W8).toArray (P.fieldsOf t).toList).run P w = .ok (p == q) w) :
    (Op.eqFields (d + 1) xs.toArray ys.toArray (f :: fs)).run P w = if p == q then (Op.eqFields (d + 1) xs.toArray ys.toArray fs).run P w else .ok false w := by
  rw [Op.eqFields, if_pos hn]
  simp only [Sem.run_bind, hf, ho, run_part_agg hu rfl hs xs _ hx, run_part_agg hu rfl hs ys _ hy, Result.andThen_ok]
  rw [run_equalIn_struct w d t _ _ hu hp, he]
  simp only [Result.andThen_ok]
  cases p == q <;> simp
set_option maxRecDepth 100000 in
theorem run_eqS (d : Nat) (x y : List UInt8) (hx : x.length = 192) (hy : y.length = 192) (w : World) :
    (Op.eqFields (d + 3) (x.map W8).toArray (y.map W8).toArray (Try.prog.fieldsOf 63).toList).run Try.prog w = .ok (x == y) w := by
  rw [fields_of Try.underlying63]
  have l1 : ∀ off n, off + n ≤ 192 → (subB x off n).length = n := fun off n h => subB_length (by omega)
  have l2 : ∀ off n, off + n ≤ 192 → (subB y off n).length = n := fun off n h => subB_length (by omega)
  rw [run_eqP_struct (k := 0) rfl fields_keys stood_keys size128 (by decide) rfl (take_sub x 0 128) (take_sub y 0 128) w (run_eqk d _ _ (l1 _ _ (by omega)) (l2 _ _ (by omega)) w),
    run_eq32_cons (d := d + 1) (k := 128) rfl (by decide) rfl (take_sub x 128 32) (take_sub y 128 32) (l1 _ _ (by omega)) (l2 _ _ (by omega)), run_eq32_cons (d := d + 1) (k := 160) rfl (by decide) rfl (take_sub x 160 32) (take_sub y 160 32) (l1 _ _ (by omega)) (l2 _ _ (by omega)), run_eq32_nil]
  have h : (x == y) = (subB x 0 128 == subB y 0 128 && (subB x 128 32 == subB y 128 32 && subB x 160 32 == subB y 160 32)) := by
    rw [eq_last x y 160 32 (by omega) (by omega), eq_cut x y 128 32, eq_cut x y 0 128]
    rfl
  rw [h]
  cases subB x 0 128 == subB y 0 128 <;> cases subB x 128 32 == subB y 128 32 <;> cases subB x 160 32 == subB y 160 32 <;> rfl
@[go_sem high] theorem eqGuard_step (op : BinOp) (x y : Operand) (xs ys : Array Value) (w : World) : (eqGuard op 63 x y (.agg xs) (.agg ys)).run Try.prog w = .ok () w := run_eqGuard_agg w op _ x y xs ys eqg_step
@[go_sem high] theorem run_neq_y192 (x y : Y192) (w : World) : (binOp .neq 63 (.agg (x.val.map W8).toArray) (.agg (y.val.map W8).toArray)).run Try.prog w = .ok (.bool (x.val != y.val)) w := by
  rw [run_neq_s fields_step stood_step, run_eqS 9996 _ _ x.2 y.2]
  rfl
set_option maxRecDepth 100000 in
set_option maxHeartbeats 4000000 in
theorem lawPublic_any (A : Option Addr) (n c : Nat) (ks : List UInt8) (w : World) (hk : RdB w A n ks) (hn : n ≤ 140737488355328) :
    Calls Try.prog 45 #[.slice A n c] w fun e w' => e = .returned (.tuple #[.agg ((multB ks (nb 9)).map W8).toArray, .int .i64 (multE ks (nb 9) : Nat)]) ∧ Later w w' := by
  have hP := hid (fun (w : World) h => public_ref A n c ks w h hn)
  have hml := multB_length ks (nb 9)
  generalize multB ks (nb 9) = M at *
  generalize multE ks (nb 9) = e9 at *
  have B0 := bag_new w 47 (List.replicate 32 (Value.int .u8 0))
  go_enter Try.func45, Try.ntmps45
  go_wp2_with fail
  generalize hW : w.alloc _ = w0
  replace B0 : Bag w w0 [(w.heap.size, 47, List.replicate 32 (Value.int .u8 0))] := by rw [← hW]; exact B0
  clear hW
  (with_reducible refine (hP.out _ (hk.later B0.lat)).mono ?_); rintro e w1 ⟨rfl, j1⟩
  go_wp2_with (first
    | (refine store_B rfl rfl _ _ rfl (Blk.new w1 _ (List.replicate 32 (.int .u8 0))) rfl rfl hml rfl ?_; intro w2 hb2 ho2
       have B1 := B0.push (j1.trans (later_alloc w1 _)) j1.size ho2 hb2)
    | (refine load_B rfl _ rfl (B1.nth 0 rfl) hml rfl ?_)
    | (refine store_B rfl rfl _ _ rfl (B1.nth 1 rfl) rfl rfl hml rfl ?_; intro w9 hb9 ho9)
    | fail)
  exact bodyPost_ret (results_blk_tmp rfl _ _ _ _ _ _ hb9 rfl Try.underlying47 rfl (by rw [List.length_map, hml]; exact size32b)) rfl ⟨rfl, (B1.write 1 rfl ho9 hb9).lat⟩
theorem stepsA_getD' (x : List UInt8) (ps : List (List UInt8)) (m k : Nat) (h : k < m) : (stepsA x ps m).getD k [] = stepA x ps k := by
  rw [stepsA, List.getD_eq_getElem?_getD, List.getElem?_map, List.getElem?_range h]
  rfl
theorem multE_bad {ks : List UInt8} (h : ks.length ≠ 32) : multE ks (nb 9) = 2 := by rw [multE, if_neg (fun f => h f.1)]
theorem pubsOf_take (ks : List (List UInt8)) (k : Nat) (h : k < ks.length) : pubsOf (ks.take (k + 1)) = pubsOf (ks.take k) ++ [multB (ks.getD k []) (nb 9)] := by
  rw [take_succ_getD ks k h, pubsOf, List.map_append]
  rfl
theorem makes_step {ops : Array Oper} {o : Oper} {a : Act} (hw : Region.wanted o (yielded ops a.tmps) = true) (ho : o.op = .alloc 63) :
    Makes Try.prog ops o (fun g => .pointer (some ⟨g, 0, none⟩)) (.cells Try.zeroCells63 63) a :=
  ⟨hw, fun w => by
    unfold execOp
    rw [ho]
    simp [go_sem]⟩
set_option maxRecDepth 100000 in
set_option maxHeartbeats 8000000 in
theorem keysMeet_walk (A B : Option Addr) (n c m0 d : Nat) (x : List UInt8) (ps0 : List (List UInt8)) (w : World) (hx : RdB w A n x) (hp0 : Parts w (fun _ => False) B m0 ps0) (hn : n ≤ 1048576) (hmd : m0 ≤ d) (hps0 : ∀ p ∈ ps0, p.length ≤ 140737488355328) :
    Calls Try.prog 10 #[.slice A n c, .slice B m0 d] w fun e w' => e = .returned (.bool true) ∧ Later w w' := by
  obtain ⟨m, ps, hB, hm3, hp, hps⟩ : ∃ (m : Nat) (ps : List (List UInt8)), ((m0 ≤ 3 ∧ m = m0) ∨ (3 < m0 ∧ m = 3)) ∧ m ≤ 3 ∧ Parts w (fun _ => False) B m ps ∧ ∀ p ∈ ps, p.length ≤ 140737488355328 := by
    by_cases h : m0 ≤ 3
    · exact ⟨m0, ps0, .inl ⟨h, rfl⟩, h, hp0, hps0⟩
    · exact ⟨3, ps0.take 3, .inr ⟨by omega, rfl⟩, by omega, hp0.take (by omega), fun p h => hps0 p (List.mem_of_mem_take h)⟩
  have hxl := hx.len
  have hpl := hp.len
  clear hp0 hps0
  have hzS := zc192
  rcases hB with ⟨h4, hB⟩ | ⟨h4, hB⟩
  · subst hB
    have hdec : decide ((3 : Int) < (m : Int)) = false := decide_eq_false (by omega)
    go_enter Try.func10, Try.ntmps10
    go_wp2_with fail
    (with_reducible refine (awake12 _).mono ?_); rintro e w1 ⟨rfl, j1⟩
    go_wp2_with fail
    have hsc0 : ScRow w 0 w1 (.slice none 0 0) (pubsOf (ps.take 0)) [] := ⟨World.ownsRow_nil w1 _ _ 1, rfl, fun j u p hu _ => by simp at hu⟩
    go_loopw [5, 26] (fun v i wr => ∃ (k : Nat) (vs : List Value), k ≤ m ∧ i = .int .i64 k ∧ ScRow w 0 wr v (pubsOf (ps.take k)) vs ∧ Later w wr ∧ Hid (∀ j, j < k → (ps.getD j []).length = 32)) (fun _ i _ => m - (intOf i).toNat)
    case atStart => exact ⟨0, [], by omega, rfl, hsc0, j1, hid (fun j h => by omega)⟩
    case round =>
      clear hsc0 j1
      obtain ⟨k, vs, hk, rfl, hsc, L, hall⟩ := hrel
      by_cases hlt : k < m
      · obtain ⟨b, o, Ak, nk, ck, rfl, hb, hck, hcap, hrd, _⟩ := (hp.later L).at_ hlt
        have hlen := hrd.len
        have hple := hps _ (getD_mem' ps k (by omega))
        have hP := hid (fun (w : World) h => public_ref Ak nk ck (ps.getD k []) w h (by omega))
        have hscl : (pubsOf (ps.take k)).length = k := by simp [pubsOf]; omega
        have F3 := hid (pubsOf_take ps k (by omega))
        have hstep : Hid (nk = 32 → ∀ j, j < k + 1 → (ps.getD j []).length = 32) := hid (fun h j hj => by
          by_cases e : j = k
          · rw [e, hlen, h]
          · exact hall.out j (by omega))
        by_cases h32 : nk = 32
        · rw [pub_ok _ (by omega)] at hP
          have hml := multB_length (ps.getD k []) (nb 9)
          generalize multB (ps.getD k []) (nb 9) = Qk at *
          have hall1 := hid (hstep.out h32)
          subst h32
          clear hall hstep hlen
          generalize ps.getD k [] = p at *
          go_wp2_with fail
          (with_reducible refine (hP.out _ hrd).mono ?_); rintro e w3 ⟨rfl, j3⟩
          go_wp2_with (first
            | (refine store_B rfl rfl _ _ rfl (Blk.new w3 _ (List.replicate 32 (.int .u8 0))) rfl rfl hml rfl ?_; intro w4 hb4 ho4)
            | fail)
          have J4 := (j3.trans (later_alloc w3 (.cells (List.replicate 32 (Value.int .u8 0)).toArray 47))).only ho4 j3.size
          (with_reducible refine (copy_any _ 32 32 Qk _ (blk_rdB hb4 hml) (by omega)).mono ?_); rintro e w5 ⟨A5, c5, rfl, o5, j5⟩
          have a5 := later_alloc w5 (.cells #[.slice A5 32 c5] 22)
          have J5 := (J4.trans j5).trans a5
          have hsc5 := hsc.later J5
          have L5 := L.trans J5
          have hsco := hsc5.own
          rw [hscl] at hsco
          have o5' := own_later o5 a5
          go_wp2_with (first
            | (refine wpList_append_s rfl _ _ _ rfl 22 _ 1 24 Try.underlying36 infoB rfl (by omega) w _ k vs hsco L5 w5.heap.size 1 1 22 [.slice A5 32 c5] (Blk.new _ _ _) rfl (by intro u hu; rw [List.mem_singleton.1 hu]; rfl) rfl rfl (by omega) (by omega) ?_; intro v6 w6 hown6 hl6 hg6)
            | fail)
          have hsc6 := hsc5.snoc (p := Qk) (.inr (.inr ⟨A5, c5, _, rfl, o5'⟩)) hg6 (by rw [hscl]; exact hown6)
          rw [← F3.out] at hsc6
          go_roundw
          case rel => exact ⟨k + 1, _, by omega, by go_num, hsc6, hl6, hall1⟩
          case measure => simp [intOf]; omega
        · rw [multE_bad (by omega)] at hP
          have hml := multB_length (ps.getD k []) (nb 9)
          generalize multB (ps.getD k []) (nb 9) = Qk at *
          generalize ps.getD k [] = p at *
          go_wp2_with fail
          (with_reducible refine (hP.out _ hrd).mono ?_); rintro e w3 ⟨rfl, j3⟩
          go_wp2_with (first
            | (refine store_B rfl rfl _ _ rfl (Blk.new w3 _ (List.replicate 32 (.int .u8 0))) rfl rfl hml rfl ?_; intro w4 hb4 ho4)
            | fail)
          go_ret
          exact ⟨rfl, ((L.trans j3).trans (later_alloc w3 _)).only ho4 (L.trans j3).size⟩
      · have hkm : m = k := by omega
        subst hkm
        have hall32 := all_getD ps (fun j hj => hall.out j (by omega))
        have hM1 := hid (fun hx32 h1 => meet_sched x hx32 ps hall32 h1 (by omega))
        have hM2 := hid (fun hx32 j (hj : j < ps.length) => meet_peel x hx32 ps hall32 j hj)
        have hM3 := hid (fun hx32 j (hj : j < ps.length) => (meet_hop x hx32 ps hall32 j hj).2.2)
        have h32 := hid (fun j (hj : j < m) => hall.out j hj)
        rw [List.take_of_length_le (by omega)] at hsc
        have hpq : (pubsOf ps).length = m := by simp [pubsOf]; omega
        obtain ⟨B5, d5, rfl, hd5⟩ := own_shapeK hsc.own
        have hpp := hsc.parts rfl L
        rw [hpq] at hpp
        have hS := hid (fun (w : World) A c h1 hc h2 => kschedule_any A B5 n c m d5 x (pubsOf ps) w h1 hc (by omega) h2 (by omega))
        have hfit : Hid (schedE x (pubsOf ps) = 0 → x.length = 32 ∧ 1 ≤ m) := hid (fun h => by
          by_cases hf : fitS x (pubsOf ps)
          · exact ⟨hf.1, by have := hf.2.1; omega⟩
          · rw [schedE_bad hf] at h
            cases h)
        rw [hpq]
        clear hall hall32 hsc hd5
        go_wp2_with fail
        (with_reducible refine (copy_any A n c x _ (hx.later L) (by omega)).mono ?_); rintro e w2 ⟨A2, c2, rfl, o2, j2⟩
        go_wp2_with fail
        (with_reducible refine (hS.out _ A2 c2 o2.rd o2.cap (hpp.later j2)).mono ?_); rintro e w3 ⟨j3, hpost⟩
        have L3 := (L.trans j2).trans j3
        clear j2 j3 o2 L hpp hS
        rcases hpost with ⟨hE, rfl⟩ | ⟨hE, A5, c5, rfl, hc5, hr5⟩
        · have hbad : ((n : Int) != 32) = true ∨ (((n : Int) != 32) = false ∧ ((m : Int) == 0) = true) := by
            simp only [bne_iff_ne, bne_eq_false_iff_eq, ne_eq, beq_iff_eq]
            by_cases hn32 : n = 32
            · refine .inr ⟨by omega, ?_⟩
              by_cases hk0 : m = 0
              · omega
              · exact absurd (hM1.out (by omega) (by omega)) hE
            · exact .inl (by omega)
          clear hM1 hM2 hM3 hfit
          generalize schedE x (pubsOf ps) = e1 at *
          have hne : ((e1 : Int) != 0) = true := by simp; omega
          rcases hbad with h1 | ⟨h1, h2⟩
          all_goals
            go_wp2_with fail
            go_ret
            exact ⟨rfl, L3⟩
        · obtain ⟨hx32, hk1⟩ := hfit.out hE
          have hN2 := hid (hM2.out hx32)
          have hN3 := hid (hM3.out hx32)
          have hT := hid (stepA_length x (pubsOf ps))
          have hal := hid (stA_fst_length x (pubsOf ps))
          have hnx := hid (fun j w => next_any (stepA x (pubsOf ps) j) _ _ (stepA_length x (pubsOf ps) j) (stepA_blind x (pubsOf ps) j) (stepA_alpha x (pubsOf ps) j) w)
          have hnx0 := hid (fun j => stA_next x hx32 (pubsOf ps) j (derB (secA x (pubsOf ps) j) sBlind) (derB_length _ _))
          have hst := hid (fun j => show (stA x (pubsOf ps) (j + 1)).1 = multB (derB (secA x (pubsOf ps) j) sBlind) (stA x (pubsOf ps) j).1 from rfl)
          have hget := hid (fun j (hj : j < m) => stepsA_getD' x (pubsOf ps) m j hj)
          have hPub := hid (fun (w : World) h => lawPublic_any A n c x w h (by omega))
          rw [pub_ok x hx32] at hPub
          have h0l := multB_length x (nb 9)
          have hst0 : Hid ((stA x (pubsOf ps) 0).1 = multB x (nb 9)) := hid rfl
          generalize multB x (nb 9) = al0 at *
          clear hM1 hM2 hM3 hfit hE
          go_wp2_with fail
          (with_reducible refine (hPub.out _ (hx.later L3)).mono ?_); rintro e w4 ⟨rfl, j4⟩
          go_wp2_with (first
            | (refine store_B rfl rfl _ _ rfl (Blk.new w4 _ (List.replicate 32 (.int .u8 0))) rfl rfl h0l rfl ?_; intro w5 hb5 ho5)
            | fail)
          have J5 : Later w3 w5 := (j4.trans (later_alloc w4 _)).only ho5 j4.size
          have hg12 := j4.size
          have hBg : Bag w w5 [(w4.heap.size, 47, al0.map W8)] := (Bag.none w).push ((L3.trans j4).trans (later_alloc w4 _)) (L3.trans j4).size ho5 hb5
          clear hb5 ho5 j4
          generalize w4.heap.size = g12 at *
          go_loopw [11, 67] (fun e i wr => ∃ j : Nat, j ≤ m ∧ e = .int .i64 0 ∧ i = .int .i64 j ∧ Bag w wr [(g12, 47, (stA x (pubsOf ps) j).1.map W8)] ∧ Later w3 wr) (fun _ i _ => m - (intOf i).toNat)
          case atStart => exact ⟨0, by omega, rfl, rfl, by rw [hst0.out]; exact hBg, J5⟩
          case round =>
            clear hBg J5
            obtain ⟨j, hj, rfl, rfl, B1, LL⟩ := hrel
            by_cases hlt : j < m
            · obtain ⟨b, o, Ak, nk, ck, rfl, hb, hck, hcap, hrd, _⟩ := (hp.later B1.lat).at_ hlt
              have hl32 := h32.out j hlt
              obtain rfl : nk = 32 := by rw [← hrd.len]; exact hl32
              have hPl := hid (fun (w : World) A c h1 h2 => peel_any A (some ⟨g12, 0, none⟩) 32 c 32 32 (ps.getD j []) (stA x (pubsOf ps) j).1 w h1 h2 (by omega) (by omega))
              rw [hN2.out j (by omega), hN3.out j (by omega)] at hPl
              have hNx := hid (hnx.out j)
              rw [hnx0.out j, ← hst.out j] at hNx
              obtain ⟨TT, hTT⟩ : ∃ TT : Y192, TT.val = stepA x (pubsOf ps) j := ⟨⟨_, hT.out j⟩, rfl⟩
              obtain ⟨b2, o2, e2, hb2, C2⟩ := hr5.sub hlt
              rw [hget.out j hlt, ← hTT] at C2
              subst e2
              rw [← hTT] at hPl hNx
              have hall := hal.out j
              have hNl := hal.out (j + 1)
              have hTl := TT.2
              have h192 : subB TT.val 0 192 = TT.val := by rw [subB, List.drop_zero, List.take_of_length_le (by omega)]
              have H192 := hid h192
              have HC2 := hid C2
              clear hN2 hN3 hnx hnx0 hst hget hTT hal hT hl32 C2 h192 hr5 hst0 h32
              generalize (stA x (pubsOf ps) j).1 = al at *
              generalize ha2 : (stA x (pubsOf ps) (j + 1)).1 = al2 at *
              have HA2 := hid ha2
              clear ha2
              generalize ps.getD j [] = p at *
              go_wp2_with fail
              refine wp_region_makers [0, 2] [([], 1, 1), ([], 1, 3), ([4, 5, 6], 2, 7)] [] [8, 9] [7] (fun _ => (fun g => .pointer (some ⟨g, 0, none⟩), .cells Try.zeroCells63 63)) (by as_aux_lemma => kernel_rfl) (by as_aux_lemma => kernel_rfl) (by intro _ _ d _ _ h; cases d <;> exact h) (by intro _ _ d _ _ h; cases d <;> exact h) ?_
              simp only [pick, List.getElem?_cons_succ, List.getElem?_cons_zero, Option.toList_some, List.cons_append, List.nil_append]
              repeat (go_big_quiet_step (fail))
              refine wpQuiet_nil ?_
              refine ⟨?mk, ?_⟩
              case mk =>
                refine ⟨fun o ho => ?_, trivial⟩
                simp only [List.getElem?_cons_succ, List.getElem?_cons_zero, Option.some.injEq] at ho
                subst ho
                exact makes_step rfl rfl
              simp only [wpPartsM, pick, List.getElem?_cons_succ, List.getElem?_cons_zero, Option.toList_some, List.cons_append, List.nil_append]
              refine wpQuiet_nil ?_
              intro m1 j1
              go_wp2_with fail
              (with_reducible refine (copy_any Ak 32 ck p _ (hrd.later ((later_drew _).trans j1)) (by omega)).mono ?_); rintro e m2 ⟨A7, c7, rfl, o7, j2⟩
              go_wp2_with fail
              try refine ⟨by first | assumption | exact later_drew _ | exact later_alloc _ _ | exact Later.refl _, ?_⟩
              try simp only [wpParts, pick, List.getElem?_cons_succ, List.getElem?_cons_zero, Option.toList_some, List.cons_append, List.nil_append]
              repeat (go_big_quiet_step (fail))
              refine wpQuiet_nil ?_
              intro m3 j3
              go_wp2_with fail
              (with_reducible refine (hPl.out _ A7 c7 (o7.rd.later j3) (blk_rdB ((B1.drew.later (j1.trans (j2.trans j3))).nth 0 rfl) hall)).mono ?_); rintro e m4 ⟨rfl, j4⟩
              go_wp2_with fail
              try refine ⟨by first | assumption | exact later_drew _ | exact later_alloc _ _ | exact Later.refl _, ?_⟩
              try simp only [wpParts, pick, List.getElem?_cons_succ, List.getElem?_cons_zero, Option.toList_some, List.cons_append, List.nil_append]
              repeat (go_big_quiet_step (fail))
              refine wpQuiet_nil ?_
              intro m5 gq j5 hgq _ hbq
              refine wpQuiet_nil ?_
              intro m6 j6
              simp only [Option.bind_some, Act.put, List.setIfInBounds_toArray, List.set_cons_succ, List.set_cons_zero]
              have hB6 : Blk m6 gq 63 Try.zeroCells63.toList := Blk.later (show Blk m5 gq _ _ from hbq) j6
              have jj := ((later_drew _).trans j1).trans ((j2.trans j3).trans (j4.trans (j5.trans j6)))
              clear j1 j2 j3 j4 j5 j6 hbq o7 hPl hrd
              refine store_St rfl rfl _ _ rfl hB6 rfl rfl hTl hzS ?_
              intro m7 hb7 ho7
              have L7 : Later w3 m7.drew := ((LL.trans jj).only ho7 (Nat.le_trans LL.size hgq)).trans (later_drew _)
              have B5 := (B1.push jj hgq ho7 hb7).drew
              clear jj hB6 hgq ho7 hb7 LL B1
              go_wp2_with fail
              refine wp_region_parts [] [0, 1, 2, 3, 4, 5, 6, 7, 8, 9, 10, 11, 12, 13] [] (by as_aux_lemma => kernel_rfl) (by as_aux_lemma => kernel_rfl) (by intro _ _ d _ _ h; cases d <;> exact h) ?_
              simp only [wpParts, pick, List.getElem?_cons_succ, List.getElem?_cons_zero, Option.toList_some, List.cons_append, List.nil_append]
              repeat (first | go_big_quiet_skip | (go_big_quiet_want; (first | refine quiet_Y 0 192 _ rfl (B5.nth 0 rfl) rfl Try.underlying63 rfl size192 H192.out hTl ?_ | (refine quiet_load_agg 63 _ rfl b2 (o2 + j * 192) (TT.val.map W8) ?hc ?hx _ Try.underlying63 rfl ?hi ?_; (case hx => rfl); (case hi => rw [List.length_map, hTl]; exact size192); (case hc => rintro w' ⟨z, rfl⟩; exact HC2.out _ (L7.trans ⟨z, rfl⟩) 0 192 TT.val H192.out))); simp only [Act.put, List.setIfInBounds_toArray, List.set_cons_succ, List.set_cons_zero]; go_big_quiet_on) | (go_big_quiet_step (fail)))
              refine wpQuiet_nil ?_
              go_wp2_with (first
                | (refine load_St rfl _ rfl (B5.nth 0 rfl) hTl rfl ?_)
                | fail)
              (with_reducible refine (hNx.out _).mono ?_); rintro e m8 ⟨rfl, j8⟩
              go_wp2_with (first
                | (refine store_B rfl rfl _ _ rfl ((B5.later j8).nth 1 rfl) rfl rfl hNl (by rw [List.length_map, hall]) ?_; intro m9 hb9 ho9)
                | fail)
              have B7 := ((B5.later j8).write 1 rfl ho9 hb9).drop 1
              go_roundw
              case rel => exact ⟨j + 1, by omega, rfl, by go_num, by rw [HA2.out]; exact B7, (L7.trans j8).only ho9 hg12⟩
              case measure => simp [intOf]; omega
            · have hjk : j = m := by omega
              go_wp2_with fail
              go_ret
              exact ⟨rfl, B1.lat⟩
  · subst hB
    have hdec : decide ((3 : Int) < (m0 : Int)) = true := decide_eq_true (by omega)
    go_enter Try.func10, Try.ntmps10
    go_wp2_with fail
    (with_reducible refine (awake12 _).mono ?_); rintro e w1 ⟨rfl, j1⟩
    go_wp2_with fail
    have hsc0 : ScRow w 0 w1 (.slice none 0 0) (pubsOf (ps.take 0)) [] := ⟨World.ownsRow_nil w1 _ _ 1, rfl, fun j u p hu _ => by simp at hu⟩
    go_loopw [5, 26] (fun v i wr => ∃ (k : Nat) (vs : List Value), k ≤ 3 ∧ i = .int .i64 k ∧ ScRow w 0 wr v (pubsOf (ps.take k)) vs ∧ Later w wr ∧ Hid (∀ j, j < k → (ps.getD j []).length = 32)) (fun _ i _ => 3 - (intOf i).toNat)
    case atStart => exact ⟨0, [], by omega, rfl, hsc0, j1, hid (fun j h => by omega)⟩
    case round =>
      clear hsc0 j1
      obtain ⟨k, vs, hk, rfl, hsc, L, hall⟩ := hrel
      by_cases hlt : k < 3
      · obtain ⟨b, o, Ak, nk, ck, rfl, hb, hck, hcap, hrd, _⟩ := (hp.later L).at_ hlt
        have hlen := hrd.len
        have hple := hps _ (getD_mem' ps k (by omega))
        have hP := hid (fun (w : World) h => public_ref Ak nk ck (ps.getD k []) w h (by omega))
        have hscl : (pubsOf (ps.take k)).length = k := by simp [pubsOf]; omega
        have F3 := hid (pubsOf_take ps k (by omega))
        have hstep : Hid (nk = 32 → ∀ j, j < k + 1 → (ps.getD j []).length = 32) := hid (fun h j hj => by
          by_cases e : j = k
          · rw [e, hlen, h]
          · exact hall.out j (by omega))
        by_cases h32 : nk = 32
        · rw [pub_ok _ (by omega)] at hP
          have hml := multB_length (ps.getD k []) (nb 9)
          generalize multB (ps.getD k []) (nb 9) = Qk at *
          have hall1 := hid (hstep.out h32)
          subst h32
          clear hall hstep hlen
          generalize ps.getD k [] = p at *
          go_wp2_with fail
          (with_reducible refine (hP.out _ hrd).mono ?_); rintro e w3 ⟨rfl, j3⟩
          go_wp2_with (first
            | (refine store_B rfl rfl _ _ rfl (Blk.new w3 _ (List.replicate 32 (.int .u8 0))) rfl rfl hml rfl ?_; intro w4 hb4 ho4)
            | fail)
          have J4 := (j3.trans (later_alloc w3 (.cells (List.replicate 32 (Value.int .u8 0)).toArray 47))).only ho4 j3.size
          (with_reducible refine (copy_any _ 32 32 Qk _ (blk_rdB hb4 hml) (by omega)).mono ?_); rintro e w5 ⟨A5, c5, rfl, o5, j5⟩
          have a5 := later_alloc w5 (.cells #[.slice A5 32 c5] 22)
          have J5 := (J4.trans j5).trans a5
          have hsc5 := hsc.later J5
          have L5 := L.trans J5
          have hsco := hsc5.own
          rw [hscl] at hsco
          have o5' := own_later o5 a5
          go_wp2_with (first
            | (refine wpList_append_s rfl _ _ _ rfl 22 _ 1 24 Try.underlying36 infoB rfl (by omega) w _ k vs hsco L5 w5.heap.size 1 1 22 [.slice A5 32 c5] (Blk.new _ _ _) rfl (by intro u hu; rw [List.mem_singleton.1 hu]; rfl) rfl rfl (by omega) (by omega) ?_; intro v6 w6 hown6 hl6 hg6)
            | fail)
          have hsc6 := hsc5.snoc (p := Qk) (.inr (.inr ⟨A5, c5, _, rfl, o5'⟩)) hg6 (by rw [hscl]; exact hown6)
          rw [← F3.out] at hsc6
          go_roundw
          case rel => exact ⟨k + 1, _, by omega, by go_num, hsc6, hl6, hall1⟩
          case measure => simp [intOf]; omega
        · rw [multE_bad (by omega)] at hP
          have hml := multB_length (ps.getD k []) (nb 9)
          generalize multB (ps.getD k []) (nb 9) = Qk at *
          generalize ps.getD k [] = p at *
          go_wp2_with fail
          (with_reducible refine (hP.out _ hrd).mono ?_); rintro e w3 ⟨rfl, j3⟩
          go_wp2_with (first
            | (refine store_B rfl rfl _ _ rfl (Blk.new w3 _ (List.replicate 32 (.int .u8 0))) rfl rfl hml rfl ?_; intro w4 hb4 ho4)
            | fail)
          go_ret
          exact ⟨rfl, ((L.trans j3).trans (later_alloc w3 _)).only ho4 (L.trans j3).size⟩
      · have hkm : 3 = k := by omega
        subst hkm
        have hall32 := all_getD ps (fun j hj => hall.out j (by omega))
        have hM1 := hid (fun hx32 h1 => meet_sched x hx32 ps hall32 h1 (by omega))
        have hM2 := hid (fun hx32 j (hj : j < ps.length) => meet_peel x hx32 ps hall32 j hj)
        have hM3 := hid (fun hx32 j (hj : j < ps.length) => (meet_hop x hx32 ps hall32 j hj).2.2)
        have h32 := hid (fun j (hj : j < 3) => hall.out j hj)
        rw [List.take_of_length_le (by omega)] at hsc
        have hpq : (pubsOf ps).length = 3 := by simp [pubsOf]; omega
        obtain ⟨B5, d5, rfl, hd5⟩ := own_shapeK hsc.own
        have hpp := hsc.parts rfl L
        rw [hpq] at hpp
        have hS := hid (fun (w : World) A c h1 hc h2 => kschedule_any A B5 n c 3 d5 x (pubsOf ps) w h1 hc (by omega) h2 (by omega))
        have hfit : Hid (schedE x (pubsOf ps) = 0 → x.length = 32 ∧ 1 ≤ 3) := hid (fun h => by
          by_cases hf : fitS x (pubsOf ps)
          · exact ⟨hf.1, by have := hf.2.1; omega⟩
          · rw [schedE_bad hf] at h
            cases h)
        rw [hpq]
        clear hall hall32 hsc hd5
        go_wp2_with fail
        (with_reducible refine (copy_any A n c x _ (hx.later L) (by omega)).mono ?_); rintro e w2 ⟨A2, c2, rfl, o2, j2⟩
        go_wp2_with fail
        (with_reducible refine (hS.out _ A2 c2 o2.rd o2.cap (hpp.later j2)).mono ?_); rintro e w3 ⟨j3, hpost⟩
        have L3 := (L.trans j2).trans j3
        clear j2 j3 o2 L hpp hS
        rcases hpost with ⟨hE, rfl⟩ | ⟨hE, A5, c5, rfl, hc5, hr5⟩
        · have hbad : ((n : Int) != 32) = true ∨ (((n : Int) != 32) = false ∧ ((3 : Int) == 0) = true) := by
            simp only [bne_iff_ne, bne_eq_false_iff_eq, ne_eq, beq_iff_eq]
            by_cases hn32 : n = 32
            · refine .inr ⟨by omega, ?_⟩
              by_cases hk0 : 3 = 0
              · omega
              · exact absurd (hM1.out (by omega) (by omega)) hE
            · exact .inl (by omega)
          clear hM1 hM2 hM3 hfit
          generalize schedE x (pubsOf ps) = e1 at *
          have hne : ((e1 : Int) != 0) = true := by simp; omega
          rcases hbad with h1 | ⟨h1, h2⟩
          all_goals
            go_wp2_with fail
            go_ret
            exact ⟨rfl, L3⟩
        · obtain ⟨hx32, hk1⟩ := hfit.out hE
          have hN2 := hid (hM2.out hx32)
          have hN3 := hid (hM3.out hx32)
          have hT := hid (stepA_length x (pubsOf ps))
          have hal := hid (stA_fst_length x (pubsOf ps))
          have hnx := hid (fun j w => next_any (stepA x (pubsOf ps) j) _ _ (stepA_length x (pubsOf ps) j) (stepA_blind x (pubsOf ps) j) (stepA_alpha x (pubsOf ps) j) w)
          have hnx0 := hid (fun j => stA_next x hx32 (pubsOf ps) j (derB (secA x (pubsOf ps) j) sBlind) (derB_length _ _))
          have hst := hid (fun j => show (stA x (pubsOf ps) (j + 1)).1 = multB (derB (secA x (pubsOf ps) j) sBlind) (stA x (pubsOf ps) j).1 from rfl)
          have hget := hid (fun j (hj : j < 3) => stepsA_getD' x (pubsOf ps) 3 j hj)
          have hPub := hid (fun (w : World) h => lawPublic_any A n c x w h (by omega))
          rw [pub_ok x hx32] at hPub
          have h0l := multB_length x (nb 9)
          have hst0 : Hid ((stA x (pubsOf ps) 0).1 = multB x (nb 9)) := hid rfl
          generalize multB x (nb 9) = al0 at *
          clear hM1 hM2 hM3 hfit hE
          go_wp2_with fail
          (with_reducible refine (hPub.out _ (hx.later L3)).mono ?_); rintro e w4 ⟨rfl, j4⟩
          go_wp2_with (first
            | (refine store_B rfl rfl _ _ rfl (Blk.new w4 _ (List.replicate 32 (.int .u8 0))) rfl rfl h0l rfl ?_; intro w5 hb5 ho5)
            | fail)
          have J5 : Later w3 w5 := (j4.trans (later_alloc w4 _)).only ho5 j4.size
          have hg12 := j4.size
          have hBg : Bag w w5 [(w4.heap.size, 47, al0.map W8)] := (Bag.none w).push ((L3.trans j4).trans (later_alloc w4 _)) (L3.trans j4).size ho5 hb5
          clear hb5 ho5 j4
          generalize w4.heap.size = g12 at *
          go_loopw [11, 67] (fun e i wr => ∃ j : Nat, j ≤ 3 ∧ e = .int .i64 0 ∧ i = .int .i64 j ∧ Bag w wr [(g12, 47, (stA x (pubsOf ps) j).1.map W8)] ∧ Later w3 wr) (fun _ i _ => 3 - (intOf i).toNat)
          case atStart => exact ⟨0, by omega, rfl, rfl, by rw [hst0.out]; exact hBg, J5⟩
          case round =>
            clear hBg J5
            obtain ⟨j, hj, rfl, rfl, B1, LL⟩ := hrel
            by_cases hlt : j < 3
            · obtain ⟨b, o, Ak, nk, ck, rfl, hb, hck, hcap, hrd, _⟩ := (hp.later B1.lat).at_ hlt
              have hl32 := h32.out j hlt
              obtain rfl : nk = 32 := by rw [← hrd.len]; exact hl32
              have hPl := hid (fun (w : World) A c h1 h2 => peel_any A (some ⟨g12, 0, none⟩) 32 c 32 32 (ps.getD j []) (stA x (pubsOf ps) j).1 w h1 h2 (by omega) (by omega))
              rw [hN2.out j (by omega), hN3.out j (by omega)] at hPl
              have hNx := hid (hnx.out j)
              rw [hnx0.out j, ← hst.out j] at hNx
              obtain ⟨TT, hTT⟩ : ∃ TT : Y192, TT.val = stepA x (pubsOf ps) j := ⟨⟨_, hT.out j⟩, rfl⟩
              obtain ⟨b2, o2, e2, hb2, C2⟩ := hr5.sub hlt
              rw [hget.out j hlt, ← hTT] at C2
              subst e2
              rw [← hTT] at hPl hNx
              have hall := hal.out j
              have hNl := hal.out (j + 1)
              have hTl := TT.2
              have h192 : subB TT.val 0 192 = TT.val := by rw [subB, List.drop_zero, List.take_of_length_le (by omega)]
              have H192 := hid h192
              have HC2 := hid C2
              clear hN2 hN3 hnx hnx0 hst hget hTT hal hT hl32 C2 h192 hr5 hst0 h32
              generalize (stA x (pubsOf ps) j).1 = al at *
              generalize ha2 : (stA x (pubsOf ps) (j + 1)).1 = al2 at *
              have HA2 := hid ha2
              clear ha2
              generalize ps.getD j [] = p at *
              go_wp2_with fail
              refine wp_region_makers [0, 2] [([], 1, 1), ([], 1, 3), ([4, 5, 6], 2, 7)] [] [8, 9] [7] (fun _ => (fun g => .pointer (some ⟨g, 0, none⟩), .cells Try.zeroCells63 63)) (by as_aux_lemma => kernel_rfl) (by as_aux_lemma => kernel_rfl) (by intro _ _ d _ _ h; cases d <;> exact h) (by intro _ _ d _ _ h; cases d <;> exact h) ?_
              simp only [pick, List.getElem?_cons_succ, List.getElem?_cons_zero, Option.toList_some, List.cons_append, List.nil_append]
              repeat (go_big_quiet_step (fail))
              refine wpQuiet_nil ?_
              refine ⟨?mk, ?_⟩
              case mk =>
                refine ⟨fun o ho => ?_, trivial⟩
                simp only [List.getElem?_cons_succ, List.getElem?_cons_zero, Option.some.injEq] at ho
                subst ho
                exact makes_step rfl rfl
              simp only [wpPartsM, pick, List.getElem?_cons_succ, List.getElem?_cons_zero, Option.toList_some, List.cons_append, List.nil_append]
              refine wpQuiet_nil ?_
              intro m1 j1
              go_wp2_with fail
              (with_reducible refine (copy_any Ak 32 ck p _ (hrd.later ((later_drew _).trans j1)) (by omega)).mono ?_); rintro e m2 ⟨A7, c7, rfl, o7, j2⟩
              go_wp2_with fail
              try refine ⟨by first | assumption | exact later_drew _ | exact later_alloc _ _ | exact Later.refl _, ?_⟩
              try simp only [wpParts, pick, List.getElem?_cons_succ, List.getElem?_cons_zero, Option.toList_some, List.cons_append, List.nil_append]
              repeat (go_big_quiet_step (fail))
              refine wpQuiet_nil ?_
              intro m3 j3
              go_wp2_with fail
              (with_reducible refine (hPl.out _ A7 c7 (o7.rd.later j3) (blk_rdB ((B1.drew.later (j1.trans (j2.trans j3))).nth 0 rfl) hall)).mono ?_); rintro e m4 ⟨rfl, j4⟩
              go_wp2_with fail
              try refine ⟨by first | assumption | exact later_drew _ | exact later_alloc _ _ | exact Later.refl _, ?_⟩
              try simp only [wpParts, pick, List.getElem?_cons_succ, List.getElem?_cons_zero, Option.toList_some, List.cons_append, List.nil_append]
              repeat (go_big_quiet_step (fail))
              refine wpQuiet_nil ?_
              intro m5 gq j5 hgq _ hbq
              refine wpQuiet_nil ?_
              intro m6 j6
              simp only [Option.bind_some, Act.put, List.setIfInBounds_toArray, List.set_cons_succ, List.set_cons_zero]
              have hB6 : Blk m6 gq 63 Try.zeroCells63.toList := Blk.later (show Blk m5 gq _ _ from hbq) j6
              have jj := ((later_drew _).trans j1).trans ((j2.trans j3).trans (j4.trans (j5.trans j6)))
              clear j1 j2 j3 j4 j5 j6 hbq o7 hPl hrd
              refine store_St rfl rfl _ _ rfl hB6 rfl rfl hTl hzS ?_
              intro m7 hb7 ho7
              have L7 : Later w3 m7.drew := ((LL.trans jj).only ho7 (Nat.le_trans LL.size hgq)).trans (later_drew _)
              have B5 := (B1.push jj hgq ho7 hb7).drew
              clear jj hB6 hgq ho7 hb7 LL B1
              go_wp2_with fail
              refine wp_region_parts [] [0, 1, 2, 3, 4, 5, 6, 7, 8, 9, 10, 11, 12, 13] [] (by as_aux_lemma => kernel_rfl) (by as_aux_lemma => kernel_rfl) (by intro _ _ d _ _ h; cases d <;> exact h) ?_
              simp only [wpParts, pick, List.getElem?_cons_succ, List.getElem?_cons_zero, Option.toList_some, List.cons_append, List.nil_append]
              repeat (first | go_big_quiet_skip | (go_big_quiet_want; (first | refine quiet_Y 0 192 _ rfl (B5.nth 0 rfl) rfl Try.underlying63 rfl size192 H192.out hTl ?_ | (refine quiet_load_agg 63 _ rfl b2 (o2 + j * 192) (TT.val.map W8) ?hc ?hx _ Try.underlying63 rfl ?hi ?_; (case hx => rfl); (case hi => rw [List.length_map, hTl]; exact size192); (case hc => rintro w' ⟨z, rfl⟩; exact HC2.out _ (L7.trans ⟨z, rfl⟩) 0 192 TT.val H192.out))); simp only [Act.put, List.setIfInBounds_toArray, List.set_cons_succ, List.set_cons_zero]; go_big_quiet_on) | (go_big_quiet_step (fail)))
              refine wpQuiet_nil ?_
              go_wp2_with (first
                | (refine load_St rfl _ rfl (B5.nth 0 rfl) hTl rfl ?_)
                | fail)
              (with_reducible refine (hNx.out _).mono ?_); rintro e m8 ⟨rfl, j8⟩
              go_wp2_with (first
                | (refine store_B rfl rfl _ _ rfl ((B5.later j8).nth 1 rfl) rfl rfl hNl (by rw [List.length_map, hall]) ?_; intro m9 hb9 ho9)
                | fail)
              have B7 := ((B5.later j8).write 1 rfl ho9 hb9).drop 1
              go_roundw
              case rel => exact ⟨j + 1, by omega, rfl, by go_num, by rw [HA2.out]; exact B7, (L7.trans j8).only ho9 hg12⟩
              case measure => simp [intOf]; omega
            · have hjk : j = 3 := by omega
              go_wp2_with fail
              go_ret
              exact ⟨rfl, B1.lat⟩
end Go.Proofs.Ytpijjldkehimfaa
