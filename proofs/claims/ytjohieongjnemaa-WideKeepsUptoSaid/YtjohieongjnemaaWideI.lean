/-
  wide: all (by Seal, by Open), SealAll, OpenAll; shallotref07: All.
-/
import Derived.Test.YtjohieongjnemaaWideF
namespace Go.Proofs.Ytjohieongjnemaa
open Go.RowKit
open Go.BigFrame

theorem fits_ref32 (A B : Option Addr) (c m d : Nat) (w : World) :
    Calls Try.prog 49 #[.slice A 32 c, .slice B m d] w fun e w' => e = .returned (.bool (decide (32 ≤ m ∧ m ≤ 4096))) ∧ w' = w := by
  have h := fits_ref7 A B 32 c m d w
  rwa [show decide (32 = 32 ∧ 32 ≤ m ∧ m ≤ 4096) = decide (32 ≤ m ∧ m ≤ 4096) by simp] at h
def fitBk (bs : List UInt8) : Prop := 32 ≤ bs.length ∧ bs.length ≤ 4096
instance (bs : List UInt8) : Decidable (fitBk bs) := by unfold fitBk; infer_instance
def okK (ks : List (List UInt8)) : Prop := ∀ p ∈ ks, p.length = 32
instance (ks : List (List UInt8)) : Decidable (okK ks) := by unfold okK; infer_instance
/-- Key by key. -/
def foldK (rs : List Int) (ks : List (List UInt8)) (bs : List UInt8) : List UInt8 := ks.foldl (fun b p => foldW p rs b) bs
theorem foldK_length (rs : List Int) : ∀ (ks : List (List UInt8)) (bs : List UInt8), 32 ≤ bs.length → (foldK rs ks bs).length = bs.length
  | [], _, _ => rfl
  | p :: ks, bs, h => by
    show (foldK rs ks (foldW p rs bs)).length = _
    have := foldW_length p rs bs h
    rw [foldK_length rs ks _ (by omega), this]
theorem foldK_append (rs : List Int) (ks ks' : List (List UInt8)) (bs : List UInt8) : foldK rs (ks ++ ks') bs = foldK rs ks' (foldK rs ks bs) := by rw [foldK, List.foldl_append]; rfl
theorem foldK_back (rs : List Int) : ∀ (ks : List (List UInt8)) (bs : List UInt8), 32 ≤ bs.length → foldK rs.reverse ks.reverse (foldK rs ks bs) = bs
  | [], _, _ => rfl
  | p :: ks, bs, h => by
    have hl := foldW_length p rs bs h
    rw [List.reverse_cons, foldK_append]
    show foldK rs.reverse [p] (foldK rs.reverse ks.reverse (foldK rs ks (foldW p rs bs))) = bs
    rw [foldK_back rs ks _ (by omega)]
    exact foldW_back p rs bs h
theorem foldK_take (rs : List Int) (ks : List (List UInt8)) (bs : List UInt8) (j : Nat) (h : j < ks.length) : foldK rs (ks.take (j + 1)) bs = foldW (ks.getD j []) rs (foldK rs (ks.take j) bs) := by
  rw [List.take_succ_eq_append_getElem h, foldK_append, List.getD_eq_getElem?_getD, List.getElem?_eq_getElem h]
  rfl
def allE (ks : List (List UInt8)) (bs : List UInt8) : Nat := if fitBk bs ∧ okK ks then 0 else 2
def allB (rs : List Int) (ks : List (List UInt8)) (bs : List UInt8) : List UInt8 := if fitBk bs ∧ okK ks then foldK rs ks bs else []
theorem all_bad {rs : List Int} {ks : List (List UInt8)} {bs : List UInt8} (h : ¬ (fitBk bs ∧ okK ks)) : allB rs ks bs = [] ∧ allE ks bs = 2 := ⟨by rw [allB, if_neg h], by rw [allE, if_neg h]⟩
theorem all_fit {rs : List Int} {ks : List (List UInt8)} {bs : List UInt8} (h : fitBk bs ∧ okK ks) : allB rs ks bs = foldK rs ks bs ∧ allE ks bs = 0 := ⟨by rw [allB, if_pos h], by rw [allE, if_pos h]⟩
theorem wide_ok {rs : List Int} (hok : okR rs) {p X : List UInt8} (hp : p.length = 32) (h1 : 32 ≤ X.length) (h2 : X.length ≤ 4096) : wideE p X rs = 0 ∧ wideB p X rs = foldW p rs X := ⟨wideE_fit hok ⟨hp, h1, h2⟩, wideB_fit hok ⟨hp, h1, h2⟩⟩
set_option maxRecDepth 100000 in
set_option maxHeartbeats 4000000 in
theorem all_seal (A B : Option Addr) (m d k e0 : Nat) (ks : List (List UInt8)) (bs : List UInt8) (w : World) (hb : RdB w B m bs) (hd : m ≤ d) (hp : Parts w (fun _ => False) A k ks) (hm : m ≤ 2097152) (hk : k ≤ 2097152) :
    Calls Try.prog 54 #[.func (.func 18) #[] #[], .slice B m d, .slice A k e0] w fun e w' => Later w w' ∧ ∃ A' c', e = .returned (.tuple #[.slice A' (allB rsS ks bs).length c', .int .i64 (allE ks bs : Nat)]) ∧ OwnB w' w.heap.size A' (allB rsS ks bs).length c' (allB rsS ks bs) := by
  have hbl := hb.len
  have hkl := hp.len
  have hbad := hid (fun h => @all_bad rsS ks bs h)
  have hfit := hid (fun h => @all_fit rsS ks bs h)
  have hfB := hid (fitsBlock_any B m d)
  have hone := hid (fun (A B : Option Addr) (c m d : Nat) (p X : List UInt8) (w : World) h1 hc h2 hd hm => seal_wide A B 32 c m d p X w h1 hc h2 hd (by omega) hm)
  have hok := hid (fun (p X : List UInt8) h h1 h2 => @wide_ok rsS okS p X h h1 h2)
  have hFt := hid (fun j h => foldK_take rsS ks bs j h)
  have hFl := hid (fun ks h => foldK_length rsS ks bs h)
  have hF0 := hid (show foldK rsS (ks.take 0) bs = bs from rfl)
  have hCj := hid (fun A c w h => cjoin_any A 1 c [bs] w h (by omega) (by rw [flatten_one]; omega))
  rw [flatten_one, hbl] at hCj
  generalize allB rsS ks bs = WB at *
  generalize allE ks bs = WE at *
  go_enter Try.func54, Try.ntmps54
  go_wp2_with fail
  (with_reducible refine (hfB.out _).mono ?_); rintro e w1 ⟨rfl, rfl⟩
  by_cases hf : 32 ≤ m ∧ m ≤ 4096
  · rw [decide_eq_true hf]
    go_wp2_with fail
    go_loopw [20] (fun i wr => ∃ j : Nat, j ≤ k ∧ i = .int .i64 j ∧ wr = w1 ∧ Hid (∀ t, t < j → (ks.getD t []).length = 32)) (fun i _ => k - (intOf i).toNat)
    case atStart => exact ⟨0, by omega, rfl, rfl, hid (fun t h => by omega)⟩
    case round =>
      obtain ⟨j, hj, rfl, rfl, hall⟩ := hrel
      by_cases hlt : j < k
      · obtain ⟨b, o, Ak, nk, ck, rfl, hbb, hck, hcap, hrd, _⟩ := hp.at_ hlt
        have hlen := hrd.len
        by_cases h32 : nk = 32
        · have hS : Hid (∀ t, t < j + 1 → (ks.getD t []).length = 32) := hid (fun t ht => by
            by_cases e : t = j
            · rw [e, hlen, h32]
            · exact hall.out t (by omega))
          have hI : ((nk : Int) != 32) = false := by simp; omega
          clear hlen hrd hcap
          replace h32 := hid h32
          go_wp2_with fail
          go_roundw
          case rel => exact ⟨j + 1, by omega, by go_num, trivial, hS⟩
          case measure => simp [intOf]; omega
        · have hB := hid (hbad.out (fun h => h32 (by rw [← hlen]; exact h.2 _ (getD_mem' ks j (by omega)))))
          have hI : ((nk : Int) != 32) = true := by simp; omega
          go_wp2_with fail
          go_ret2
          refine ⟨Later.refl _, none, 0, ?_, ?_⟩
          · rw [hB.out.1, hB.out.2]; rfl
          · rw [hB.out.1]; exact own_nil _ _ _
      · obtain rfl : k = j := by omega
        have hF := hid (hfit.out ⟨by rw [fitBk, hbl]; exact hf, fun p hp' => by
          obtain ⟨t, ht⟩ := List.getElem?_of_mem hp'
          have htl := (List.getElem?_eq_some_iff.1 ht).1
          have := hall.out t (by omega)
          rwa [List.getD_eq_getElem?_getD, ht] at this⟩)
        clear hbad hfit
        go_wp2_with fail
        have J2 := later_alloc wr (.cells #[.slice B m d] 22)
        have hpp := parts_blk1 (Blk.new wr 22 [.slice B m d]) (part_of (hb.later J2) hd)
        (with_reducible refine (hCj.out _ _ _ hpp).mono ?_); rintro e w3 ⟨A3, c3, rfl, hown3, j3⟩
        have L3 := J2.trans j3
        replace hown3 := hown3.mono J2.size
        go_wp2_with fail
        go_loopw [10, 33] (fun v i wr' => ∃ (j : Nat) (A' : Option Addr) (c' : Nat), j ≤ k ∧ i = .int .i64 j ∧ v = .slice A' m c' ∧ OwnB wr' wr.heap.size A' m c' (foldK rsS (ks.take j) bs) ∧ Later wr wr') (fun _ i _ => k - (intOf i).toNat)
        case atStart => exact ⟨0, A3, c3, by omega, rfl, rfl, by rw [hF0.out]; exact hown3, L3⟩
        case round =>
          clear hown3 L3 hpp J2 j3
          rename_i _ _ wz
          obtain ⟨j, A4, c4, hj, rfl, rfl, hown, L⟩ := hrel
          by_cases hlt : j < k
          · obtain ⟨b, o, Ak, nk, ck, rfl, hbb, hck, hcap, hrd, _⟩ := (hp.later L).at_ hlt
            have hlen := hrd.len
            have h32 := hall.out j hlt
            rw [h32] at hlen
            subst hlen
            have HF := hid (hFt.out j (by omega))
            have hXl := hown.len
            generalize ks.getD j [] = p at *
            generalize foldK rsS (ks.take j) bs = X at *
            have hk := hid (hok.out p X h32 (by omega) (by omega))
            go_wp2_with fail
            (with_reducible refine (hone.out Ak A4 ck m c4 p X _ hrd hcap hown.rd hown.cap (by omega)).mono ?_); rintro e w5 ⟨j5, A5, c5, rfl, ho5⟩
            rw [hk.out.1, hk.out.2, ← HF.out]
            rw [hk.out.2, ← HF.out] at ho5
            have hl5 := hFl.out (ks.take (j + 1)) (by omega)
            rw [hbl] at hl5
            rw [hl5] at ho5 ⊢
            go_wp2_with fail
            go_roundw
            case rel => exact ⟨j + 1, A5, c5, by omega, by go_num, rfl, ho5.mono L.size, L.trans j5⟩
            case measure => simp [intOf]; omega
          · obtain rfl : k = j := by omega
            have eT : ks.take k = ks := List.take_of_length_le (by omega)
            have hl5 := hFl.out ks (by omega)
            rw [eT, ← hF.out.1] at hown
            rw [← hF.out.1, hbl] at hl5
            have hWE := hF.out.2
            go_wp2_with fail
            go_ret2
            exact ⟨L, A4, c4, by rw [hl5, hWE]; rfl, by rw [hl5]; exact hown⟩
  · rw [decide_eq_false hf]
    have hB := hid (hbad.out (fun h => hf (by rw [← hbl]; exact h.1)))
    go_wp2_with fail
    go_ret2
    refine ⟨Later.refl _, none, 0, ?_, ?_⟩
    · rw [hB.out.1, hB.out.2]; rfl
    · rw [hB.out.1]; exact own_nil _ _ _
set_option maxRecDepth 100000 in
set_option maxHeartbeats 4000000 in
theorem all_open (A B : Option Addr) (m d k e0 : Nat) (ks : List (List UInt8)) (bs : List UInt8) (w : World) (hb : RdB w B m bs) (hd : m ≤ d) (hp : Parts w (fun _ => False) A k ks) (hm : m ≤ 2097152) (hk : k ≤ 2097152) :
    Calls Try.prog 54 #[.func (.func 20) #[] #[], .slice B m d, .slice A k e0] w fun e w' => Later w w' ∧ ∃ A' c', e = .returned (.tuple #[.slice A' (allB rsO ks bs).length c', .int .i64 (allE ks bs : Nat)]) ∧ OwnB w' w.heap.size A' (allB rsO ks bs).length c' (allB rsO ks bs) := by
  have hbl := hb.len
  have hkl := hp.len
  have hbad := hid (fun h => @all_bad rsO ks bs h)
  have hfit := hid (fun h => @all_fit rsO ks bs h)
  have hfB := hid (fitsBlock_any B m d)
  have hone := hid (fun (A B : Option Addr) (c m d : Nat) (p X : List UInt8) (w : World) h1 hc h2 hd hm => open_wide A B 32 c m d p X w h1 hc h2 hd (by omega) hm)
  have hok := hid (fun (p X : List UInt8) h h1 h2 => @wide_ok rsO okO p X h h1 h2)
  have hFt := hid (fun j h => foldK_take rsO ks bs j h)
  have hFl := hid (fun ks h => foldK_length rsO ks bs h)
  have hF0 := hid (show foldK rsO (ks.take 0) bs = bs from rfl)
  have hCj := hid (fun A c w h => cjoin_any A 1 c [bs] w h (by omega) (by rw [flatten_one]; omega))
  rw [flatten_one, hbl] at hCj
  generalize allB rsO ks bs = WB at *
  generalize allE ks bs = WE at *
  go_enter Try.func54, Try.ntmps54
  go_wp2_with fail
  (with_reducible refine (hfB.out _).mono ?_); rintro e w1 ⟨rfl, rfl⟩
  by_cases hf : 32 ≤ m ∧ m ≤ 4096
  · rw [decide_eq_true hf]
    go_wp2_with fail
    go_loopw [20] (fun i wr => ∃ j : Nat, j ≤ k ∧ i = .int .i64 j ∧ wr = w1 ∧ Hid (∀ t, t < j → (ks.getD t []).length = 32)) (fun i _ => k - (intOf i).toNat)
    case atStart => exact ⟨0, by omega, rfl, rfl, hid (fun t h => by omega)⟩
    case round =>
      obtain ⟨j, hj, rfl, rfl, hall⟩ := hrel
      by_cases hlt : j < k
      · obtain ⟨b, o, Ak, nk, ck, rfl, hbb, hck, hcap, hrd, _⟩ := hp.at_ hlt
        have hlen := hrd.len
        by_cases h32 : nk = 32
        · have hS : Hid (∀ t, t < j + 1 → (ks.getD t []).length = 32) := hid (fun t ht => by
            by_cases e : t = j
            · rw [e, hlen, h32]
            · exact hall.out t (by omega))
          have hI : ((nk : Int) != 32) = false := by simp; omega
          clear hlen hrd hcap
          replace h32 := hid h32
          go_wp2_with fail
          go_roundw
          case rel => exact ⟨j + 1, by omega, by go_num, trivial, hS⟩
          case measure => simp [intOf]; omega
        · have hB := hid (hbad.out (fun h => h32 (by rw [← hlen]; exact h.2 _ (getD_mem' ks j (by omega)))))
          have hI : ((nk : Int) != 32) = true := by simp; omega
          go_wp2_with fail
          go_ret2
          refine ⟨Later.refl _, none, 0, ?_, ?_⟩
          · rw [hB.out.1, hB.out.2]; rfl
          · rw [hB.out.1]; exact own_nil _ _ _
      · obtain rfl : k = j := by omega
        have hF := hid (hfit.out ⟨by rw [fitBk, hbl]; exact hf, fun p hp' => by
          obtain ⟨t, ht⟩ := List.getElem?_of_mem hp'
          have htl := (List.getElem?_eq_some_iff.1 ht).1
          have := hall.out t (by omega)
          rwa [List.getD_eq_getElem?_getD, ht] at this⟩)
        clear hbad hfit
        go_wp2_with fail
        have J2 := later_alloc wr (.cells #[.slice B m d] 22)
        have hpp := parts_blk1 (Blk.new wr 22 [.slice B m d]) (part_of (hb.later J2) hd)
        (with_reducible refine (hCj.out _ _ _ hpp).mono ?_); rintro e w3 ⟨A3, c3, rfl, hown3, j3⟩
        have L3 := J2.trans j3
        replace hown3 := hown3.mono J2.size
        go_wp2_with fail
        go_loopw [10, 33] (fun v i wr' => ∃ (j : Nat) (A' : Option Addr) (c' : Nat), j ≤ k ∧ i = .int .i64 j ∧ v = .slice A' m c' ∧ OwnB wr' wr.heap.size A' m c' (foldK rsO (ks.take j) bs) ∧ Later wr wr') (fun _ i _ => k - (intOf i).toNat)
        case atStart => exact ⟨0, A3, c3, by omega, rfl, rfl, by rw [hF0.out]; exact hown3, L3⟩
        case round =>
          clear hown3 L3 hpp J2 j3
          rename_i _ _ wz
          obtain ⟨j, A4, c4, hj, rfl, rfl, hown, L⟩ := hrel
          by_cases hlt : j < k
          · obtain ⟨b, o, Ak, nk, ck, rfl, hbb, hck, hcap, hrd, _⟩ := (hp.later L).at_ hlt
            have hlen := hrd.len
            have h32 := hall.out j hlt
            rw [h32] at hlen
            subst hlen
            have HF := hid (hFt.out j (by omega))
            have hXl := hown.len
            generalize ks.getD j [] = p at *
            generalize foldK rsO (ks.take j) bs = X at *
            have hk := hid (hok.out p X h32 (by omega) (by omega))
            go_wp2_with fail
            (with_reducible refine (hone.out Ak A4 ck m c4 p X _ hrd hcap hown.rd hown.cap (by omega)).mono ?_); rintro e w5 ⟨j5, A5, c5, rfl, ho5⟩
            rw [hk.out.1, hk.out.2, ← HF.out]
            rw [hk.out.2, ← HF.out] at ho5
            have hl5 := hFl.out (ks.take (j + 1)) (by omega)
            rw [hbl] at hl5
            rw [hl5] at ho5 ⊢
            go_wp2_with fail
            go_roundw
            case rel => exact ⟨j + 1, A5, c5, by omega, by go_num, rfl, ho5.mono L.size, L.trans j5⟩
            case measure => simp [intOf]; omega
          · obtain rfl : k = j := by omega
            have eT : ks.take k = ks := List.take_of_length_le (by omega)
            have hl5 := hFl.out ks (by omega)
            rw [eT, ← hF.out.1] at hown
            rw [← hF.out.1, hbl] at hl5
            have hWE := hF.out.2
            go_wp2_with fail
            go_ret2
            exact ⟨L, A4, c4, by rw [hl5, hWE]; rfl, by rw [hl5]; exact hown⟩
  · rw [decide_eq_false hf]
    have hB := hid (hbad.out (fun h => hf (by rw [← hbl]; exact h.1)))
    go_wp2_with fail
    go_ret2
    refine ⟨Later.refl _, none, 0, ?_, ?_⟩
    · rw [hB.out.1, hB.out.2]; rfl
    · rw [hB.out.1]; exact own_nil _ _ _
theorem sealAll_any (A B : Option Addr) (m d k e0 : Nat) (ks : List (List UInt8)) (bs : List UInt8) (w : World) (hb : RdB w B m bs) (hd : m ≤ d) (hp : Parts w (fun _ => False) A k ks) (hm : m ≤ 2097152) (hk : k ≤ 2097152) :
    Calls Try.prog 22 #[.slice B m d, .slice A k e0] w fun e w' => Later w w' ∧ ∃ A' c', e = .returned (.tuple #[.slice A' (allB rsS ks bs).length c', .int .i64 (allE ks bs : Nat)]) ∧ OwnB w' w.heap.size A' (allB rsS ks bs).length c' (allB rsS ks bs) := by
  have h := hid (all_seal A B m d k e0 ks bs w hb hd hp hm hk)
  generalize allB rsS ks bs = X at *
  generalize allE ks bs = E at *
  go_enter Try.func22, Try.ntmps22
  go_wp2_with fail
  (refine h.out.mono ?_); rintro e w1 ⟨j1, A1, c1, rfl, ho1⟩
  go_wp2_with fail
  go_ret2
  exact ⟨j1, A1, c1, rfl, ho1⟩
theorem openAll_any (A B : Option Addr) (m d k e0 : Nat) (ks : List (List UInt8)) (bs : List UInt8) (w : World) (hb : RdB w B m bs) (hd : m ≤ d) (hp : Parts w (fun _ => False) A k ks) (hm : m ≤ 2097152) (hk : k ≤ 2097152) :
    Calls Try.prog 25 #[.slice B m d, .slice A k e0] w fun e w' => Later w w' ∧ ∃ A' c', e = .returned (.tuple #[.slice A' (allB rsO ks bs).length c', .int .i64 (allE ks bs : Nat)]) ∧ OwnB w' w.heap.size A' (allB rsO ks bs).length c' (allB rsO ks bs) := by
  have h := hid (all_open A B m d k e0 ks bs w hb hd hp hm hk)
  generalize allB rsO ks bs = X at *
  generalize allE ks bs = E at *
  go_enter Try.func25, Try.ntmps25
  go_wp2_with fail
  (refine h.out.mono ?_); rintro e w1 ⟨j1, A1, c1, rfl, ho1⟩
  go_wp2_with fail
  go_ret2
  exact ⟨j1, A1, c1, rfl, ho1⟩
set_option maxRecDepth 100000 in
set_option maxHeartbeats 4000000 in
theorem allR_seal (A B : Option Addr) (m d k e0 : Nat) (ks : List (List UInt8)) (bs : List UInt8) (w : World) (hb : RdB w B m bs) (hp : Parts w (fun _ => False) A k ks) (hm : m ≤ 2097152) (hk : k ≤ 2097152) :
    Calls Try.prog 24 #[.slice B m d, .slice A k e0, .bool true] w fun e w' => Later w w' ∧ ∃ A' c', e = .returned (.tuple #[.slice A' (allB rsS ks bs).length c', .int .i64 (allE ks bs : Nat)]) ∧ OwnB w' w.heap.size A' (allB rsS ks bs).length c' (allB rsS ks bs) := by
  have hbl := hb.len
  have hkl := hp.len
  have hbad := hid (fun h => @all_bad rsS ks bs h)
  have hfit := hid (fun h => @all_fit rsS ks bs h)
  have hfB := hid (fun A c w => fits_ref32 A B c m d w)
  have hone := hid (fun (A B : Option Addr) (c m d : Nat) (p X : List UInt8) (w : World) h1 h2 hd hm => seal_ref A B 32 c m d p X w h1 h2 hd (by omega) hm)
  have hok := hid (fun (p X : List UInt8) h h1 h2 => @wide_ok rsS okS p X h h1 h2)
  have hFt := hid (fun j h => foldK_take rsS ks bs j h)
  have hFl := hid (fun ks h => foldK_length rsS ks bs h)
  have hF0 := hid (show foldK rsS (ks.take 0) bs = bs from rfl)
  generalize allB rsS ks bs = WB at *
  generalize allE ks bs = WE at *
  go_enter Try.func24, Try.ntmps24
  go_wp2_with (first
    | (refine wpList_make_n rfl _ _ _ rfl 5 _ 1 Try.underlying22 info8 rfl _ _ _ _ 32 rfl rfl rfl rfl (by omega) (by omega) ?_; intro w0 hb0 hl0)
    | fail)
  (with_reducible refine (hfB.out _ _ _).mono ?_); rintro e w1 ⟨rfl, rfl⟩
  by_cases hf : 32 ≤ m ∧ m ≤ 4096
  · rw [decide_eq_true hf]
    go_wp2_with fail
    go_loopw [8] (fun i wr => ∃ j : Nat, j ≤ k ∧ i = .int .i64 j ∧ wr = w1 ∧ Hid (∀ t, t < j → (ks.getD t []).length = 32)) (fun i _ => k - (intOf i).toNat)
    case atStart => exact ⟨0, by omega, rfl, rfl, hid (fun t h => by omega)⟩
    case round =>
      obtain ⟨j, hj, rfl, rfl, hall⟩ := hrel
      by_cases hlt : j < k
      · obtain ⟨b, o, Ak, nk, ck, rfl, hbb, hck, hcap, hrd, _⟩ := (hp.later hl0).at_ hlt
        have hlen := hrd.len
        by_cases h32 : nk = 32
        · have hS : Hid (∀ t, t < j + 1 → (ks.getD t []).length = 32) := hid (fun t ht => by
            by_cases e : t = j
            · rw [e, hlen, h32]
            · exact hall.out t (by omega))
          have hI : ((nk : Int) != 32) = false := by simp; omega
          clear hlen hrd hcap
          replace h32 := hid h32
          go_wp2_with fail
          go_roundw
          case rel => exact ⟨j + 1, by omega, by go_num, trivial, hS⟩
          case measure => simp [intOf]; omega
        · have hB := hid (hbad.out (fun h => h32 (by rw [← hlen]; exact h.2 _ (getD_mem' ks j (by omega)))))
          have hI : ((nk : Int) != 32) = true := by simp; omega
          go_wp2_with fail
          go_ret2
          refine ⟨hl0, none, 0, ?_, ?_⟩
          · rw [hB.out.1, hB.out.2]; rfl
          · rw [hB.out.1]; exact own_nil _ _ _
      · obtain rfl : k = j := by omega
        have hF := hid (hfit.out ⟨by rw [fitBk, hbl]; exact hf, fun p hp' => by
          obtain ⟨t, ht⟩ := List.getElem?_of_mem hp'
          have htl := (List.getElem?_eq_some_iff.1 ht).1
          have := hall.out t (by omega)
          rwa [List.getD_eq_getElem?_getD, ht] at this⟩)
        clear hbad hfit
        go_wp2_with fail
        (with_reducible refine (copy_any B m d bs _ (hb.later hl0) (by omega)).mono ?_); rintro e w3 ⟨A3, c3, rfl, hown3, j3⟩
        have L3 := hl0.trans j3
        replace hown3 := hown3.mono hl0.size
        go_wp2_with fail
        go_loopw [9, 10] (fun v i wr' => ∃ (j : Nat) (A' : Option Addr) (c' : Nat), j ≤ k ∧ i = .int .i64 j ∧ v = .slice A' m c' ∧ OwnB wr' w.heap.size A' m c' (foldK rsS (ks.take j) bs) ∧ Later w wr') (fun _ i _ => k - (intOf i).toNat)
        case atStart => exact ⟨0, A3, c3, by omega, rfl, rfl, by rw [hF0.out]; exact hown3, L3⟩
        case round =>
          clear hown3 L3 j3
          obtain ⟨j, A4, c4, hj, rfl, rfl, hown, L⟩ := hrel
          by_cases hlt : j < k
          · obtain ⟨b, o, Ak, nk, ck, rfl, hbb, hck, hcap, hrd, _⟩ := (hp.later L).at_ hlt
            have hlen := hrd.len
            have h32 := hall.out j hlt
            rw [h32] at hlen
            subst hlen
            have HF := hid (hFt.out j (by omega))
            have hXl := hown.len
            generalize ks.getD j [] = p at *
            generalize foldK rsS (ks.take j) bs = X at *
            have hk := hid (hok.out p X h32 (by omega) (by omega))
            go_wp2_with fail
            (with_reducible refine (hone.out Ak A4 ck m c4 p X _ hrd hown.rd hown.cap (by omega)).mono ?_); rintro e w5 ⟨j5, A5, c5, rfl, ho5⟩
            rw [hk.out.1, hk.out.2, ← HF.out]
            rw [hk.out.2, ← HF.out] at ho5
            have hl5 := hFl.out (ks.take (j + 1)) (by omega)
            rw [hbl] at hl5
            rw [hl5] at ho5 ⊢
            go_wp2_with fail
            go_roundw
            case rel => exact ⟨j + 1, A5, c5, by omega, by go_num, rfl, ho5.mono L.size, L.trans j5⟩
            case measure => simp [intOf]; omega
          · obtain rfl : k = j := by omega
            have eT : ks.take k = ks := List.take_of_length_le (by omega)
            have hl5 := hFl.out ks (by omega)
            rw [eT, ← hF.out.1] at hown
            rw [← hF.out.1, hbl] at hl5
            have hWE := hF.out.2
            go_wp2_with fail
            go_ret2
            exact ⟨L, A4, c4, by rw [hl5, hWE]; rfl, by rw [hl5]; exact hown⟩
  · rw [decide_eq_false hf]
    have hB := hid (hbad.out (fun h => hf (by rw [← hbl]; exact h.1)))
    go_wp2_with fail
    go_ret2
    refine ⟨hl0, none, 0, ?_, ?_⟩
    · rw [hB.out.1, hB.out.2]; rfl
    · rw [hB.out.1]; exact own_nil _ _ _
set_option maxRecDepth 100000 in
set_option maxHeartbeats 4000000 in
theorem allR_open (A B : Option Addr) (m d k e0 : Nat) (ks : List (List UInt8)) (bs : List UInt8) (w : World) (hb : RdB w B m bs) (hp : Parts w (fun _ => False) A k ks) (hm : m ≤ 2097152) (hk : k ≤ 2097152) :
    Calls Try.prog 24 #[.slice B m d, .slice A k e0, .bool false] w fun e w' => Later w w' ∧ ∃ A' c', e = .returned (.tuple #[.slice A' (allB rsO ks bs).length c', .int .i64 (allE ks bs : Nat)]) ∧ OwnB w' w.heap.size A' (allB rsO ks bs).length c' (allB rsO ks bs) := by
  have hbl := hb.len
  have hkl := hp.len
  have hbad := hid (fun h => @all_bad rsO ks bs h)
  have hfit := hid (fun h => @all_fit rsO ks bs h)
  have hfB := hid (fun A c w => fits_ref32 A B c m d w)
  have hone := hid (fun (A B : Option Addr) (c m d : Nat) (p X : List UInt8) (w : World) h1 h2 hd hm => open_ref A B 32 c m d p X w h1 h2 hd (by omega) hm)
  have hok := hid (fun (p X : List UInt8) h h1 h2 => @wide_ok rsO okO p X h h1 h2)
  have hFt := hid (fun j h => foldK_take rsO ks bs j h)
  have hFl := hid (fun ks h => foldK_length rsO ks bs h)
  have hF0 := hid (show foldK rsO (ks.take 0) bs = bs from rfl)
  generalize allB rsO ks bs = WB at *
  generalize allE ks bs = WE at *
  go_enter Try.func24, Try.ntmps24
  go_wp2_with (first
    | (refine wpList_make_n rfl _ _ _ rfl 5 _ 1 Try.underlying22 info8 rfl _ _ _ _ 32 rfl rfl rfl rfl (by omega) (by omega) ?_; intro w0 hb0 hl0)
    | fail)
  (with_reducible refine (hfB.out _ _ _).mono ?_); rintro e w1 ⟨rfl, rfl⟩
  by_cases hf : 32 ≤ m ∧ m ≤ 4096
  · rw [decide_eq_true hf]
    go_wp2_with fail
    go_loopw [8] (fun i wr => ∃ j : Nat, j ≤ k ∧ i = .int .i64 j ∧ wr = w1 ∧ Hid (∀ t, t < j → (ks.getD t []).length = 32)) (fun i _ => k - (intOf i).toNat)
    case atStart => exact ⟨0, by omega, rfl, rfl, hid (fun t h => by omega)⟩
    case round =>
      obtain ⟨j, hj, rfl, rfl, hall⟩ := hrel
      by_cases hlt : j < k
      · obtain ⟨b, o, Ak, nk, ck, rfl, hbb, hck, hcap, hrd, _⟩ := (hp.later hl0).at_ hlt
        have hlen := hrd.len
        by_cases h32 : nk = 32
        · have hS : Hid (∀ t, t < j + 1 → (ks.getD t []).length = 32) := hid (fun t ht => by
            by_cases e : t = j
            · rw [e, hlen, h32]
            · exact hall.out t (by omega))
          have hI : ((nk : Int) != 32) = false := by simp; omega
          clear hlen hrd hcap
          replace h32 := hid h32
          go_wp2_with fail
          go_roundw
          case rel => exact ⟨j + 1, by omega, by go_num, trivial, hS⟩
          case measure => simp [intOf]; omega
        · have hB := hid (hbad.out (fun h => h32 (by rw [← hlen]; exact h.2 _ (getD_mem' ks j (by omega)))))
          have hI : ((nk : Int) != 32) = true := by simp; omega
          go_wp2_with fail
          go_ret2
          refine ⟨hl0, none, 0, ?_, ?_⟩
          · rw [hB.out.1, hB.out.2]; rfl
          · rw [hB.out.1]; exact own_nil _ _ _
      · obtain rfl : k = j := by omega
        have hF := hid (hfit.out ⟨by rw [fitBk, hbl]; exact hf, fun p hp' => by
          obtain ⟨t, ht⟩ := List.getElem?_of_mem hp'
          have htl := (List.getElem?_eq_some_iff.1 ht).1
          have := hall.out t (by omega)
          rwa [List.getD_eq_getElem?_getD, ht] at this⟩)
        clear hbad hfit
        go_wp2_with fail
        (with_reducible refine (copy_any B m d bs _ (hb.later hl0) (by omega)).mono ?_); rintro e w3 ⟨A3, c3, rfl, hown3, j3⟩
        have L3 := hl0.trans j3
        replace hown3 := hown3.mono hl0.size
        go_wp2_with fail
        go_loopw [9, 10] (fun v i wr' => ∃ (j : Nat) (A' : Option Addr) (c' : Nat), j ≤ k ∧ i = .int .i64 j ∧ v = .slice A' m c' ∧ OwnB wr' w.heap.size A' m c' (foldK rsO (ks.take j) bs) ∧ Later w wr') (fun _ i _ => k - (intOf i).toNat)
        case atStart => exact ⟨0, A3, c3, by omega, rfl, rfl, by rw [hF0.out]; exact hown3, L3⟩
        case round =>
          clear hown3 L3 j3
          obtain ⟨j, A4, c4, hj, rfl, rfl, hown, L⟩ := hrel
          by_cases hlt : j < k
          · obtain ⟨b, o, Ak, nk, ck, rfl, hbb, hck, hcap, hrd, _⟩ := (hp.later L).at_ hlt
            have hlen := hrd.len
            have h32 := hall.out j hlt
            rw [h32] at hlen
            subst hlen
            have HF := hid (hFt.out j (by omega))
            have hXl := hown.len
            generalize ks.getD j [] = p at *
            generalize foldK rsO (ks.take j) bs = X at *
            have hk := hid (hok.out p X h32 (by omega) (by omega))
            go_wp2_with fail
            (with_reducible refine (hone.out Ak A4 ck m c4 p X _ hrd hown.rd hown.cap (by omega)).mono ?_); rintro e w5 ⟨j5, A5, c5, rfl, ho5⟩
            rw [hk.out.1, hk.out.2, ← HF.out]
            rw [hk.out.2, ← HF.out] at ho5
            have hl5 := hFl.out (ks.take (j + 1)) (by omega)
            rw [hbl] at hl5
            rw [hl5] at ho5 ⊢
            go_wp2_with fail
            go_roundw
            case rel => exact ⟨j + 1, A5, c5, by omega, by go_num, rfl, ho5.mono L.size, L.trans j5⟩
            case measure => simp [intOf]; omega
          · obtain rfl : k = j := by omega
            have eT : ks.take k = ks := List.take_of_length_le (by omega)
            have hl5 := hFl.out ks (by omega)
            rw [eT, ← hF.out.1] at hown
            rw [← hF.out.1, hbl] at hl5
            have hWE := hF.out.2
            go_wp2_with fail
            go_ret2
            exact ⟨L, A4, c4, by rw [hl5, hWE]; rfl, by rw [hl5]; exact hown⟩
  · rw [decide_eq_false hf]
    have hB := hid (hbad.out (fun h => hf (by rw [← hbl]; exact h.1)))
    go_wp2_with fail
    go_ret2
    refine ⟨hl0, none, 0, ?_, ?_⟩
    · rw [hB.out.1, hB.out.2]; rfl
    · rw [hB.out.1]; exact own_nil _ _ _
end Go.Proofs.Ytjohieongjnemaa
