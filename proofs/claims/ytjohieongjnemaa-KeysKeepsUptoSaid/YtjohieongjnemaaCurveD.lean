/-
  curve.Chain.
-/
import Derived.Test.YtjohieongjnemaaCurveAB
namespace Go.Proofs.Ytjohieongjnemaa
open Go.RowKit
open Go.BigFrame

/-- One scalar behind the other. -/
def chainAt : List (List UInt8) → List UInt8 → List UInt8 × Nat
  | [], at_ => (at_, 0)
  | k :: ks, at_ => if multE k at_ = 0 then chainAt ks (multB k at_) else (List.replicate 32 0, multE k at_)
def chainR (us : List UInt8) (ps : List (List UInt8)) : List UInt8 × Nat :=
  if us.length = 32 ∧ ∀ p ∈ ps, p.length = 32 then chainAt ps (nb (readN us)) else (List.replicate 32 0, 2)
theorem chainAt_length : ∀ (ps : List (List UInt8)) (at_ : List UInt8), at_.length = 32 → (chainAt ps at_).1.length = 32
  | [], _, h => h
  | k :: ks, at_, _ => by
    unfold chainAt
    split
    · exact chainAt_length ks _ (multB_length _ _)
    · simp
theorem chainR_length (us : List UInt8) (ps : List (List UInt8)) : (chainR us ps).1.length = 32 := by
  unfold chainR
  split
  · exact chainAt_length _ _ (nb_length _)
  · simp
theorem readN_P (us : List UInt8) : readN us < P25 := by
  unfold readN
  split
  · exact Nat.mod_lt _ P25_pos
  · exact P25_pos
theorem drop_getD (ps : List (List UInt8)) (k : Nat) (h : k < ps.length) : ps.drop k = ps.getD k [] :: ps.drop (k + 1) := by
  rw [List.drop_eq_getElem_cons h, List.getD_eq_getElem?_getD, List.getElem?_eq_getElem h]
  rfl
theorem all_getD (ps : List (List UInt8)) (h : ∀ j, j < ps.length → (ps.getD j []).length = 32) : ∀ p ∈ ps, p.length = 32 := by
  intro p hp
  obtain ⟨j, hj, e⟩ := List.getElem_of_mem hp
  have := h j hj
  rw [List.getD_eq_getElem?_getD, List.getElem?_eq_getElem hj] at this
  rw [← e]
  exact this
theorem chainR_bad (us : List UInt8) (ps : List (List UInt8)) (k : Nat) (h : k < ps.length) (hk : (ps.getD k []).length ≠ 32) : chainR us ps = (List.replicate 32 0, 2) := by
  rw [chainR, if_neg]
  rintro ⟨_, ha⟩
  apply hk
  rw [List.getD_eq_getElem?_getD, List.getElem?_eq_getElem h]
  exact ha _ (List.getElem_mem h)
set_option maxRecDepth 100000 in
set_option maxHeartbeats 4000000 in
theorem chain_any (A B : Option Addr) (n c m d : Nat) (us : List UInt8) (ps : List (List UInt8)) (w : World) (hu : RdB w A n us) (hp : Parts w (fun _ => False) B m ps) (hn : n ≤ 140737488355328) (hm : m ≤ 140737488355328) :
    Calls Try.prog 57 #[.slice A n c, .slice B m d] w fun e w' => e = .returned (.tuple #[.agg ((chainR us ps).1.map W8).toArray, .int .i64 ((chainR us ps).2 : Nat)]) ∧ Later w w' := by
  have hul := hu.len
  have hpl := hp.len
  have B0 := bag_new w 47 (List.replicate 32 (Value.int .u8 0))
  have cU := hid (fun w h => read_any A n c us w h hn)
  by_cases hn32 : n = 32
  · subst hn32
    have eU : readE us = 0 := by rw [readE, if_pos (by omega)]
    rw [eU] at cU
    have cB : Hid (∀ w, Calls Try.prog 74 #[E (readN us)] w fun e w' => e = .returned (.agg ((nb (readN us)).map W8).toArray) ∧ Later w w') := hid (by
      intro w
      have := bytes_any (readN us) (readN_T us) w
      rwa [Nat.mod_eq_of_lt (readN_P us), BB] at this)
    have hR := hid (fun (h : ∀ p ∈ ps, p.length = 32) => show chainR us ps = chainAt ps (nb (readN us)) by rw [chainR, if_pos ⟨hul, h⟩])
    have hbad := hid (fun k h hk => chainR_bad us ps k h hk)
    generalize hCR : chainR us ps = CR at *
    generalize readN us = x1 at *
    go_enter Try.func57, Try.ntmps57
    go_wp2_with fail
    generalize hW : w.alloc _ = w0
    replace B0 : Bag w w0 [(w.heap.size, 47, List.replicate 32 (Value.int .u8 0))] := by rw [← hW]; exact bag_new w 47 (List.replicate 32 (Value.int .u8 0))
    clear hW
    (with_reducible refine (cU.out _ (hu.later B0.lat)).mono ?_); rintro e w1 ⟨rfl, j1⟩
    go_wp2_with (first
      | (refine store_E rfl rfl _ _ rfl (Blk.new w1 _ (List.replicate 4 (.int .u64 0))) rfl rfl rfl ?_; intro w2 hb2 ho2)
      | fail)
    have B1 := B0.push (j1.trans (later_alloc w1 _)) j1.size ho2 hb2
    clear j1 hb2 ho2 B0 cU hCR
    generalize w1.heap.size = g6 at *
    go_loopw [24] (fun i wr => ∃ k : Nat, k ≤ m ∧ i = .int .i64 k ∧ Hid (∀ j, j < k → (ps.getD j []).length = 32) ∧ Bag w wr [(g6, 109, EL x1), (w.heap.size, 47, List.replicate 32 (Value.int .u8 0))]) (fun i _ => m - (intOf i).toNat)
    case atStart => exact ⟨0, by omega, rfl, hid (fun j h => by omega), B1⟩
    case round =>
      clear B1
      obtain ⟨k, hk, rfl, hall, B1⟩ := hrel
      by_cases hlt : k < m
      · obtain ⟨b, o, Ak, nk, ck, rfl, hb, hck, hcap, hrd, _⟩ := (hp.later B1.lat).at_ hlt
        have hlen := hrd.len
        have hb2 := hid (fun h => hbad.out k (by omega) h)
        rw [hlen] at hb2
        have hstep : Hid (nk = 32 → ∀ j, j < k + 1 → (ps.getD j []).length = 32) := hid (fun h j hj => by
          by_cases e : j = k
          · rw [e, hlen, h]
          · exact hall.out j (by omega))
        clear hrd hlen
        by_cases h32 : nk = 32
        · have hne : ((nk : Int) != 32) = false := by simp; omega
          go_wp2_with fail
          go_roundw
          case rel => exact ⟨k + 1, by omega, by go_num, hid (hstep.out h32), B1⟩
          case measure => simp [intOf]; omega
        · have hne : ((nk : Int) != 32) = true := by simp; omega
          go_wp2_with (first
            | (refine wpList_build_is rfl 47 _ rfl (List.replicate 32 (W8 0)) ?hb ?_; (case hb => kernel_rfl))
            | (refine store_B (bs := List.replicate 32 0) rfl rfl _ _ rfl (B1.nth 1 rfl) rfl (by kernel_rfl) rfl rfl ?_; intro w9 hb9 ho9)
            | fail)
          exact bodyPost_ret (results_blk_tmp rfl _ _ _ _ _ _ hb9 rfl Try.underlying47 rfl (by rw [List.length_map, List.length_replicate]; exact size32b)) rfl ⟨by rw [hb2.out h32]; rfl, (B1.write 1 rfl ho9 hb9).lat⟩
      · have hall' := hid (all_getD ps (fun j hj => hall.out j (by omega)))
        have hCR := hR.out hall'.out
        have hnl := nb_length x1
        have HC := hid hCR
        clear hCR hR hbad hall
        generalize nb x1 = N0 at *
        go_wp2_with (first
          | (refine load_E rfl _ rfl (B1.nth 0 rfl) rfl ?_)
          | (go_at_call 74; (with_reducible refine (cB.out _).mono ?_); rintro e w3 ⟨rfl, j3⟩)
          | (refine store_B rfl rfl _ _ rfl (Blk.new w3 _ (List.replicate 32 (.int .u8 0))) rfl rfl hnl rfl ?_; intro w4 hb4 ho4)
          | fail)
        have B2 := B1.push (j3.trans (later_alloc w3 _)) j3.size ho4 hb4
        clear j3 hb4 ho4 B1 cB
        generalize w3.heap.size = g10 at *
        go_loopw [37] (fun i wr => ∃ (k : Nat) (at_ : List UInt8), k ≤ m ∧ i = .int .i64 k ∧ at_.length = 32 ∧ Hid (CR = chainAt (ps.drop k) at_) ∧ Bag w wr [(g10, 47, at_.map W8), (g6, 109, EL x1), (w.heap.size, 47, List.replicate 32 (Value.int .u8 0))]) (fun i _ => m - (intOf i).toNat)
        case atStart => exact ⟨0, N0, by omega, rfl, hnl, hid (by rw [List.drop_zero]; exact HC.out), B2⟩
        case round =>
          clear B2
          obtain ⟨k, at_, hk, rfl, hal, hch, B2⟩ := hrel
          by_cases hlt : k < m
          · obtain ⟨b, o, Ak, nk, ck, rfl, hb, hck, hcap, hrd, _⟩ := (hp.later B2.lat).at_ hlt
            have hd := drop_getD ps k (by omega)
            have hlen := hrd.len
            have hl32 : (ps.getD k []).length = 32 := by
              rw [List.getD_eq_getElem?_getD, List.getElem?_eq_getElem (by omega)]
              exact hall'.out _ (List.getElem_mem _)
            have hch' := hch.out
            rw [hd, chainAt] at hch'
            have HCH := hid hch'
            clear hch hch' hd
            generalize ps.getD k [] = p at *
            obtain rfl : nk = 32 := by omega
            have cM := hid (mult_any Ak (some ⟨g10, 0, none⟩) 32 ck 32 32 p at_ wr hrd (blk_rdB (B2.nth 0 rfl) hal) (by omega) (by omega))
            have hml := multB_length p at_
            generalize multB p at_ = M at *
            by_cases he : multE p at_ = 0
            · have HE := HCH.out
              rw [if_pos he] at HE
              replace HE := hid HE
              rw [he] at cM
              clear HCH he
              go_wp2_with fail
              (with_reducible refine cM.out.mono ?_); rintro e w5 ⟨rfl, j5⟩
              go_wp2_with (first
                | (refine store_B rfl rfl _ _ rfl ((B2.later j5).nth 0 rfl) rfl rfl hml (by rw [List.length_map, hal]) ?_; intro w6 hb6 ho6)
                | fail)
              go_roundw
              case rel => exact ⟨k + 1, M, by omega, by go_num, hml, HE, (B2.later j5).write 0 rfl ho6 hb6⟩
              case measure => simp [intOf]; omega
            · have HE := HCH.out
              rw [if_neg he] at HE
              replace HE := hid HE
              generalize multE p at_ = e5 at *
              have hne : ((e5 : Int) != 0) = true := by simp; omega
              clear HCH
              go_wp2_with fail
              (with_reducible refine cM.out.mono ?_); rintro e w5 ⟨rfl, j5⟩
              go_wp2_with (first
                | (refine store_B rfl rfl _ _ rfl ((B2.later j5).nth 0 rfl) rfl rfl hml (by rw [List.length_map, hal]) ?_; intro w6 hb6 ho6
                   have B3 := (B2.later j5).write 0 rfl ho6 hb6)
                | (refine wpList_build_is rfl 47 _ rfl (List.replicate 32 (W8 0)) ?hb ?_; (case hb => kernel_rfl))
                | (refine store_B (bs := List.replicate 32 0) rfl rfl _ _ rfl (B3.nth 2 rfl) rfl (by kernel_rfl) rfl rfl ?_; intro w9 hb9 ho9)
                | fail)
              exact bodyPost_ret (results_blk_tmp rfl _ _ _ _ _ _ hb9 rfl Try.underlying47 rfl (by rw [List.length_map, List.length_replicate]; exact size32b)) rfl ⟨by rw [HE.out]; rfl, (B3.write 2 rfl ho9 hb9).lat⟩
          · have hd : ps.drop k = [] := List.drop_of_length_le (by omega)
            have hch' := hch.out
            rw [hd, chainAt] at hch'
            have HE := hid hch'
            clear hch' hch hd
            go_wp2_with (first
              | (refine load_B rfl _ rfl (B2.nth 0 rfl) hal rfl ?_)
              | (refine store_B rfl rfl _ _ rfl (B2.nth 2 rfl) rfl rfl hal rfl ?_; intro w9 hb9 ho9)
              | fail)
            exact bodyPost_ret (results_blk_tmp rfl _ _ _ _ _ _ hb9 rfl Try.underlying47 rfl (by rw [List.length_map, hal]; exact size32b)) rfl ⟨by rw [HE.out]; rfl, (B2.write 2 rfl ho9 hb9).lat⟩
  · have eU : readE us = 2 := by rw [readE, if_neg (by omega)]
    rw [eU] at cU
    have hR := hid (show chainR us ps = (List.replicate 32 0, 2) by rw [chainR, if_neg (by rintro ⟨h, _⟩; omega)])
    generalize chainR us ps = CR at *
    generalize readN us = x1 at *
    go_enter Try.func57, Try.ntmps57
    go_wp2_with fail
    generalize hW : w.alloc _ = w0
    replace B0 : Bag w w0 [(w.heap.size, 47, List.replicate 32 (Value.int .u8 0))] := by rw [← hW]; exact bag_new w 47 (List.replicate 32 (Value.int .u8 0))
    clear hW
    (with_reducible refine (cU.out _ (hu.later B0.lat)).mono ?_); rintro e w1 ⟨rfl, j1⟩
    go_wp2_with (first
      | (refine store_E rfl rfl _ _ rfl (Blk.new w1 _ (List.replicate 4 (.int .u64 0))) rfl rfl rfl ?_; intro w2 hb2 ho2
         have B1 := B0.push (j1.trans (later_alloc w1 _)) j1.size ho2 hb2)
      | (refine wpList_build_is rfl 47 _ rfl (List.replicate 32 (W8 0)) ?hb ?_; (case hb => kernel_rfl))
      | (refine store_B (bs := List.replicate 32 0) rfl rfl _ _ rfl (B1.nth 1 rfl) rfl (by kernel_rfl) rfl rfl ?_; intro w9 hb9 ho9)
      | fail)
    exact bodyPost_ret (results_blk_tmp rfl _ _ _ _ _ _ hb9 rfl Try.underlying47 rfl (by rw [List.length_map, List.length_replicate]; exact size32b)) rfl ⟨by rw [hR.out]; rfl, (B1.write 1 rfl ho9 hb9).lat⟩
end Go.Proofs.Ytjohieongjnemaa
