/-
  wide.Rounds.
-/
import Derived.Test.YtjohieongjnemaaWideB
namespace Go.Proofs.Ytjohieongjnemaa
open Go.RowKit
open Go.BigFrame

theorem wideB_bad {key bs : List UInt8} {rs : List Int} (h : ¬ okR rs) : wideB key bs rs = [] := by rw [wideB, if_neg h]
theorem wideE_bad {key bs : List UInt8} {rs : List Int} (h : ¬ okR rs) : wideE key bs rs = 1 := by rw [wideE, if_neg h]
theorem wideB_unfit {key bs : List UInt8} {rs : List Int} (h : okR rs) (h2 : ¬ fitW key bs) : wideB key bs rs = [] := by rw [wideB, if_pos h, if_neg h2]
theorem wideE_unfit {key bs : List UInt8} {rs : List Int} (h : okR rs) (h2 : ¬ fitW key bs) : wideE key bs rs = 2 := by rw [wideE, if_pos h, if_neg h2]
theorem wideB_fit {key bs : List UInt8} {rs : List Int} (h : okR rs) (h2 : fitW key bs) : wideB key bs rs = foldW key rs bs := by rw [wideB, if_pos h, if_pos h2]
theorem wideE_fit {key bs : List UInt8} {rs : List Int} (h : okR rs) (h2 : fitW key bs) : wideE key bs rs = 0 := by rw [wideE, if_pos h, if_pos h2]
def intV (r : Int) : Value := .int .i64 r
theorem rdI_at {w : World} {C : Option Addr} {k : Nat} {rs : List Int} (h : Rd w C k (rs.map intV)) {j : Nat} (hj : j < k) : ∃ b o, C = some ⟨b, o, none⟩ ∧ b < w.heap.size ∧ ∀ w', Later w w' → w'.cell? ⟨b, o + j, none⟩ = some (.int .i64 (rs.getD j 0)) := by
  have hl : rs.length = k := by have := h.1; rwa [List.length_map] at this
  obtain ⟨b, o, e, hb, hc⟩ := h.2 (by omega)
  refine ⟨b, o, e, hb, fun w' hl' => (hl'.below.cell (p := ⟨b, o + j, none⟩) hb).trans (hc j _ ?_)⟩
  rw [List.getElem?_map, List.getElem?_eq_getElem (show j < rs.length by omega), List.getD_eq_getElem?_getD, List.getElem?_eq_getElem (show j < rs.length by omega)]
  rfl
theorem foldW_take (key : List UInt8) (rs : List Int) (bs : List UInt8) (j : Nat) (h : j < rs.length) : foldW key (rs.take (j + 1)) bs = turnB (derB key (labW (rs.getD j 0))) (rs.getD j 0).toNat (foldW key (rs.take j) bs) := by
  rw [List.take_succ_eq_append_getElem h, foldW_append, List.getD_eq_getElem?_getD, List.getElem?_eq_getElem h]
  rfl
/-- The four keys. -/
def keysW (s : List UInt8) : List UInt8 := keysAt s [lab1, lab2, lab3, lab4] 4
theorem keysW_get (s : List UInt8) (r : Int) (h1 : 1 ≤ r) (h4 : r ≤ 4) : (keysW s).drop ((r.toNat - 1) * 32) = derB s (labW r) ++ ((keysW s).drop ((r.toNat - 1) * 32)).drop 32 := by
  have l1 := derB_length s lab1
  have l2 := derB_length s lab2
  have l3 := derB_length s lab3
  have l4 := derB_length s lab4
  have e : keysW s = derB s lab1 ++ (derB s lab2 ++ (derB s lab3 ++ derB s lab4)) := by simp [keysW, keysAt]
  have hr : r = 1 ∨ r = 2 ∨ r = 3 ∨ r = 4 := by omega
  rw [e]
  generalize hd1 : derB s lab1 = d1 at *
  generalize hd2 : derB s lab2 = d2 at *
  generalize hd3 : derB s lab3 = d3 at *
  generalize hd4 : derB s lab4 = d4 at *
  rcases hr with rfl | rfl | rfl | rfl
  · show (d1 ++ _).drop 0 = derB s lab1 ++ ((d1 ++ _).drop 0).drop 32
    rw [hd1, List.drop_zero, List.drop_left' l1]
  · show (d1 ++ _).drop 32 = derB s lab2 ++ ((d1 ++ _).drop 32).drop 32
    rw [hd2, List.drop_left' l1, List.drop_left' l2]
  · show (d1 ++ _).drop 64 = derB s lab3 ++ ((d1 ++ _).drop 64).drop 32
    rw [hd3, show (64 : Nat) = 32 + 32 from rfl, ← List.drop_drop, List.drop_left' l1, List.drop_left' l2, List.drop_left' l3]
  · show (d1 ++ _).drop 96 = derB s lab4 ++ ((d1 ++ _).drop 96).drop 32
    rw [hd4, show (96 : Nat) = 32 + (32 + 32) from rfl, ← List.drop_drop, ← List.drop_drop, List.drop_left' l1, List.drop_left' l2, List.drop_left' l3]
    have : d4.drop 32 = [] := List.drop_eq_nil_of_le (by omega)
    rw [this, List.append_nil]
theorem own_maxc {w : World} {base n c : Nat} {A : Option Addr} {bs : List UInt8} (h : OwnB w base A n c bs) : c ≤ maxLen := by
  rcases h.2 with ⟨hv, _⟩ | ⟨g2, cap, cur, hv, _, _, _, hm, _⟩
  · cases hv
    exact Nat.zero_le _
  · cases hv
    exact hm
theorem turn_at (g n c : Nat) (K bs : List UInt8) (r : Nat) (i : Int) (hi : i = (r : Int)) (rest : List Value) (w : World) (hb : Blk w g 5 (bs.map W8 ++ rest)) (hbl : bs.length = n) (h32 : 32 ≤ n) (hn : n ≤ 4096) (hc : n ≤ c) (hK : K.length = 32) (h1 : 1 ≤ r) (h4 : r ≤ 4) :
    Calls Try.prog 48 #[.slice (some ⟨g, 0, none⟩) n c, .agg (K.map W8).toArray, .int .i64 i] w fun e w' => e = .returned (.tuple #[]) ∧ Blk w' g 5 ((turnB K r bs).map W8 ++ rest) ∧ Only g w w' := by
  subst hi
  exact turn_any g n c K bs r rest w hb hbl h32 hn hc hK h1 h4
theorem key_cell {w : World} {g : Nat} {t : TypeId} {ks : List UInt8} (h : Blk w g t (ks.map W8)) {q : Nat} {K r : List UInt8} (hd : ks.drop (q * 32) = K ++ r) {j : Nat} {v : Value} (hv : (K.map W8)[j]? = some v) : w.cell? ⟨g, q * 32 + j, none⟩ = some v := by
  refine h.cellD _ ?_
  rw [List.getElem?_map, Option.map_eq_some_iff] at hv ⊢
  obtain ⟨x, hx, rfl⟩ := hv
  refine ⟨x, ?_, rfl⟩
  rw [← List.getElem?_drop, hd, List.getElem?_append_left (List.getElem?_eq_some_iff.1 hx).1]
  exact hx
set_option maxRecDepth 100000 in
set_option maxHeartbeats 8000000 in
theorem rounds_wide (A B C : Option Addr) (n c m d k e0 : Nat) (key bs : List UInt8) (rs : List Int) (w : World) (hk : RdB w A n key) (hc : n ≤ c) (hb : RdB w B m bs) (hd : m ≤ d) (hr : Rd w C k (rs.map intV)) (hn : n ≤ 2097152) (hm : m ≤ 2097152) (hk2 : k ≤ 2097152) :
    Calls Try.prog 13 #[.slice A n c, .slice B m d, .slice C k e0] w fun e w' => Later w w' ∧ ∃ A' c', e = .returned (.tuple #[.slice A' (wideB key bs rs).length c', .int .i64 (wideE key bs rs : Nat)]) ∧ OwnB w' w.heap.size A' (wideB key bs rs).length c' (wideB key bs rs) := by
  have hkl := hk.len
  have hbl := hb.len
  have hrl : rs.length = k := by have := hr.1; rwa [List.length_map] at this
  have hbad := hid (fun h => And.intro (@wideB_bad key bs rs h) (@wideE_bad key bs rs h))
  have hunf := hid (fun h h2 => And.intro (@wideB_unfit key bs rs h h2) (@wideE_unfit key bs rs h h2))
  have hfit := hid (fun h h2 => And.intro (@wideB_fit key bs rs h h2) (@wideE_fit key bs rs h h2))
  have hat := hid (fun j (hj : j < k) => rdI_at hr hj)
  have hff := hid (fits_wide A B n c m d)
  generalize wideB key bs rs = WB at *
  generalize wideE key bs rs = WE at *
  go_enter Try.func13, Try.ntmps13
  go_wp2_with fail
  go_loopw [16] (fun i wr => ∃ j : Nat, j ≤ k ∧ i = .int .i64 j ∧ wr = w ∧ Hid (∀ t, t < j → 1 ≤ rs.getD t 0 ∧ rs.getD t 0 ≤ 4)) (fun i _ => k - (intOf i).toNat)
  case atStart => exact ⟨0, by omega, rfl, rfl, hid (fun t h => by omega)⟩
  case round =>
    obtain ⟨j, hj, rfl, rfl, hall⟩ := hrel
    by_cases hlt : j < k
    · obtain ⟨b, o, rfl, hbb, hcell⟩ := hat.out j hlt
      have c1 := hcell wr (Later.refl _)
      clear hcell
      have hmem : rs.getD j 0 ∈ rs := by rw [List.getD_eq_getElem?_getD, List.getElem?_eq_getElem (show j < rs.length by omega)]; exact List.getElem_mem _
      have hbd : ¬ (1 ≤ rs.getD j 0 ∧ rs.getD j 0 ≤ 4) → Hid (WB = [] ∧ WE = 1) := fun h => hid (hbad.out (fun hok => h (hok _ hmem)))
      have hst : 1 ≤ rs.getD j 0 → rs.getD j 0 ≤ 4 → Hid (∀ t, t < j + 1 → 1 ≤ rs.getD t 0 ∧ rs.getD t 0 ≤ 4) := fun h1 h2 => hid (fun t ht => by
        by_cases e : t = j
        · subst e; exact ⟨h1, h2⟩
        · exact hall.out t (by omega))
      clear hmem
      generalize rs.getD j 0 = r at *
      by_cases h1 : r < 1
      · have hB := hbd (by omega)
        clear hbd hst
        go_wp2_with fail
        go_ret2
        refine ⟨Later.refl _, none, 0, ?_, ?_⟩
        · rw [hB.out.1, hB.out.2]; rfl
        · rw [hB.out.1]; exact own_nil _ _ _
      · by_cases h2 : 4 < r
        · have hB := hbd (by omega)
          clear hbd hst
          go_wp2_with fail
          go_ret2
          refine ⟨Later.refl _, none, 0, ?_, ?_⟩
          · rw [hB.out.1, hB.out.2]; rfl
          · rw [hB.out.1]; exact own_nil _ _ _
        · have hS := hst (by omega) (by omega)
          clear hbd hst
          go_wp2_with fail
          go_roundw
          case rel => exact ⟨j + 1, by omega, by go_num, trivial, hS⟩
          case measure => simp [intOf]; omega
    · obtain rfl : k = j := by omega
      have hok : okR rs := fun r hr' => by
        obtain ⟨t, ht⟩ := List.getElem?_of_mem hr'
        have htl := (List.getElem?_eq_some_iff.1 ht).1
        have := hall.out t (by omega)
        rwa [List.getD_eq_getElem?_getD, ht] at this
      clear hbad
      go_wp2_with fail
      (with_reducible refine (hff.out _).mono ?_); rintro e w1 ⟨rfl, rfl⟩
      by_cases hf : n = 32 ∧ 32 ≤ m ∧ m ≤ 4096
      · rw [decide_eq_true hf]
        have hF := hid (hfit.out hok ⟨by rw [hkl]; exact hf.1, by rw [hbl]; exact hf.2⟩)
        obtain ⟨rfl, hm32, hm4⟩ := hf
        clear hunf hfit
        have hDe := hid (fun B d w h1 h2 => derive_any A B 32 c 4 d key [lab1, lab2, lab3, lab4] w h1 hc (by omega) h2 (by omega) (by omega) (by intro x hx; simp only [List.mem_cons, List.not_mem_nil, or_false] at hx; rcases hx with rfl | rfl | rfl | rfl <;> decide))
        have hKW := hid (fun r h1 h4 => keysW_get key r h1 h4)
        have hFt := hid (fun j h => foldW_take key rs bs j h)
        have hFl := hid (fun rs => foldW_length key rs bs (by omega))
        have hDl := hid (fun r => derB_length key (labW r))
        have hTu := hid turn_at
        have hCj := hid (fun A c w h => cjoin_any A 1 c [bs] w h (by omega) (by rw [flatten_one]; omega))
        rw [flatten_one, hbl] at hCj
        rw [show keysAt key [lab1, lab2, lab3, lab4] 4 = keysW key from rfl] at hDe
        have hF0 := hid (show foldW key (rs.take 0) bs = bs from rfl)
        go_wp2_with fail
        have J1 := later_alloc w1 (.cells #[.string lab1, .string lab2, .string lab3, .string lab4] 9)
        have hst : Strs (w1.alloc (.cells #[.string lab1, .string lab2, .string lab3, .string lab4] 9)) (some ⟨w1.heap.size, 0, none⟩) 4 [lab1, lab2, lab3, lab4] := (Blk.new w1 9 [.string lab1, .string lab2, .string lab3, .string lab4]).rd rfl
        (refine (hDe.out _ _ _ (hk.later J1) hst).mono ?_); rintro e w2 ⟨gK, rfl, hgK, hbK, j2⟩
        go_wp2_with fail
        have J2 := (J1.trans j2).trans (later_alloc w2 (.cells #[.slice B m d] 22))
        have hpp := parts_blk1 (Blk.new w2 22 [.slice B m d]) (part_of (hb.later J2) hd)
        (with_reducible refine (hCj.out _ _ _ hpp).mono ?_); rintro e w3 ⟨A3, c3, rfl, hown3, j3⟩
        have L3 := J2.trans j3
        have hbK3 := hbK.later ((later_alloc w2 (.cells #[.slice B m d] 22)).trans j3)
        have hgKw : w1.heap.size ≤ gK := Nat.le_trans J1.size hgK
        replace hown3 := hown3.mono J2.size
        have hmx := own_maxc hown3
        obtain ⟨gO, rest, rfl, hgO, hbO, hcO, hcc⟩ := own_some hown3 (by omega)
        replace hcO := hid hcO
        clear J1 hst j2 J2 hpp j3 hown3 hbK hgK
        go_wp2_with fail
        have hgl := hbO.lt
        go_loopw [39] (fun i wr => ∃ j : Nat, j ≤ k ∧ i = .int .i64 j ∧ Blk wr gO 5 ((foldW key (rs.take j) bs).map W8 ++ rest) ∧ Blk wr gK 47 ((keysW key).map W8) ∧ Later w1 wr) (fun i _ => k - (intOf i).toNat)
        case atStart => exact ⟨0, by omega, rfl, by rw [hF0.out]; exact hbO, hbK3, L3⟩
        case round =>
          clear hbO hbK3 L3 hgl
          obtain ⟨j, hj, rfl, hbO, hbK, L⟩ := hrel
          by_cases hlt : j < k
          · obtain ⟨b, o, rfl, hbb, hcell⟩ := hat.out j hlt
            have c1 := hcell wr L
            have hrr := hall.out j hlt
            have HF := hid (hFt.out j (by omega))
            have hFlj := hFl.out (rs.take j)
            have hKr := hKW.out _ hrr.1 hrr.2
            have hDlr := hDl.out (rs.getD j 0)
            clear hcell
            generalize rs.getD j 0 = r at *
            obtain ⟨q, rfl⟩ : ∃ q : Nat, r = (q : Int) + 1 := ⟨(r - 1).toNat, by omega⟩
            have hq4 : q < 4 := by omega
            have hqn : ((q : Int) + 1).toNat = q + 1 := by omega
            rw [hqn] at HF hKr
            rw [Nat.add_sub_cancel] at hKr
            generalize derB key (labW ((q : Int) + 1)) = Kr at *
            generalize foldW key (rs.take j) bs = F at *
            replace hKr := hid hKr
            clear hqn hrr
            go_wp2_with (first
              | (refine wpList_load_agg rfl 47 _ rfl gK (q * 32) (Kr.map W8) ?hc ?hx _ Try.underlying47 rfl ?hi ?_; (case hx => rfl); (case hi => rw [List.length_map, hDlr]; exact size32w); (case hc => intro j v hv; exact key_cell hbK hKr.out hv))
              | fail)
            (refine (hTu.out gO m c3 Kr F (q + 1) _ (by omega) rest _ hbO (by omega) hm32 hm4 hcc hDlr (by omega) (by omega)).mono ?_); rintro e w5 ⟨rfl, hb5, ho5⟩
            go_wp2_with fail
            go_roundw
            case rel => exact ⟨j + 1, by omega, by go_num, by rw [HF.out]; exact hb5, hbK.only ho5 (hbK.ne_type hbO (by decide)), L.only ho5 hgO⟩
            case measure => simp [intOf]; omega
          · obtain rfl : k = j := by omega
            rw [List.take_of_length_le (by omega)] at hbO
            have hFl' := hFl.out rs
            rw [← hF.out.1] at hbO hFl'
            have hcw : c3 = (WB.map W8 ++ rest).length := by
              rw [hcO.out, List.length_append, List.length_append, List.length_map, List.length_map]
              omega
            have hWl : WB.length = m := by omega
            have hWE := hF.out.2
            have hown := own_mk hbO hgO (by rw [← hcw]; exact hmx)
            rw [← hcw, List.length_map, hWl] at hown
            go_wp2_with fail
            go_ret2
            exact ⟨L, _, _, by rw [hWl, hWE]; rfl, by rw [hWl]; exact hown⟩
      · rw [decide_eq_false hf]
        have hB := hid (hunf.out hok (fun h => hf ⟨by rw [← hkl]; exact h.1, by rw [← hbl]; exact h.2⟩))
        clear hunf hfit
        go_wp2_with fail
        go_ret2
        refine ⟨Later.refl _, none, 0, ?_, ?_⟩
        · rw [hB.out.1, hB.out.2]; rfl
        · rw [hB.out.1]; exact own_nil _ _ _
end Go.Proofs.Ytjohieongjnemaa
