/-
  chacha: initial, Block.
-/
import Derived.Test.YtjohieongjnemaaCha1
namespace Go.Proofs.Ytjohieongjnemaa
open Go.RowKit
open Go.BigFrame

def chaC : List UInt32 := [1634760805, 857760878, 2036477234, 1797285236]
/-- Behind k rounds of the first loop. -/
def initA (key : List UInt8) (k : Nat) : List UInt32 := chaC ++ (List.range k).map (leW key) ++ List.replicate (12 - k) 0
/-- Behind k rounds of the second. -/
def initB (key nonce : List UInt8) (ctr : UInt32) (k : Nat) : List UInt32 := chaC ++ (List.range 8).map (leW key) ++ [ctr] ++ (List.range k).map (leW nonce) ++ List.replicate (3 - k) 0
def initL (key nonce : List UInt8) (ctr : UInt32) : List UInt32 := chaC ++ (List.range 8).map (leW key) ++ [ctr] ++ (List.range 3).map (leW nonce)
theorem initA_length (key : List UInt8) (k : Nat) (h : k ≤ 12) : (initA key k).length = 16 := by
  simp [initA, chaC]
  omega
theorem initB_length (key nonce : List UInt8) (ctr : UInt32) (k : Nat) (h : k ≤ 3) : (initB key nonce ctr k).length = 16 := by
  simp [initB, chaC]
  omega
theorem initL_length (key nonce : List UInt8) (ctr : UInt32) : (initL key nonce ctr).length = 16 := by simp [initL, chaC]
theorem fill_step {α : Type} (z : α) (pre : List α) (f : Nat → α) (k n : Nat) (h : k < n) : (pre ++ (List.range k).map f ++ List.replicate (n - k) z).set (pre.length + k) (f k) = pre ++ (List.range (k + 1)).map f ++ List.replicate (n - (k + 1)) z := by
  have e : n - k = (n - (k + 1)) + 1 := by omega
  rw [e, List.replicate_succ, List.set_append_right _ _ (by simp), List.range_succ, List.map_append]
  simp
theorem initA_step (key : List UInt8) (k : Nat) (h : k < 8) : (initA key k).set (4 + k) (leW key k) = initA key (k + 1) := fill_step 0 chaC (leW key) k 12 (by omega)
theorem initB_step (key nonce : List UInt8) (ctr : UInt32) (k : Nat) (h : k < 3) : (initB key nonce ctr k).set (13 + k) (leW nonce k) = initB key nonce ctr (k + 1) := by
  have := fill_step 0 (chaC ++ (List.range 8).map (leW key) ++ [ctr]) (leW nonce) k 3 h
  rw [show (chaC ++ (List.range 8).map (leW key) ++ [ctr]).length = 13 by simp [chaC]] at this
  exact this
theorem initAB (key nonce : List UInt8) (ctr : UInt32) : (initA key 8).set 12 ctr = initB key nonce ctr 0 := by
  rw [initA, initB, List.set_append_right _ _ (by simp [chaC])]
  simp [chaC]
theorem initB_all (key nonce : List UInt8) (ctr : UInt32) : initB key nonce ctr 3 = initL key nonce ctr := by simp [initB, initL]
theorem size_16 : (Try.prog.info? 176).map (·.size) = some 16 := by kernel_rfl
section
variable {ops : Array Oper} {rest : List Oper} {o : Oper} {a : Act} {w : World} {Q : Exit → Act → World → Prop}
theorem store_W (hgd : o.guard = none) (hd : o.dst = none) (x y : Operand) (ho : o.op = .store 176 x y) {g : Nat} {t : TypeId} {l : List Value} {vs : List UInt32} (hg : Blk w g t l) (hx : a.eval x = .pointer (some ⟨g, 0, none⟩)) (hy : a.eval y = .agg (vs.map W32).toArray)
    (hn : vs.length = 16) (hl : l.length = 16) (h : ∀ w', Blk w' g t (vs.map W32) → Only g w w' → wpList Try.prog ops Q rest a w') : wpList Try.prog ops Q (o :: rest) a w :=
  wpList_store_agg hgd hd _ x y ho g 0 t l (vs.map W32) hg hx hy (by rw [List.length_map, hn]; exact size_16) (by rw [List.length_map]; omega) (w32_one _) (fun w' hb => h w' (by rwa [spliced_all _ _ (by rw [List.length_map]; omega)] at hb))
theorem load_W (hgd : o.guard = none) (x : Operand) (ho : o.op = .load 176 x) {g : Nat} {t : TypeId} {vs : List UInt32} (hb : Blk w g t (vs.map W32)) (hl : vs.length = 16) (hx : a.eval x = .pointer (some ⟨g, 0, none⟩))
    (h : wpList Try.prog ops Q rest (a.put o.dst (.agg (vs.map W32).toArray)) w) : wpList Try.prog ops Q (o :: rest) a w :=
  wpList_load_agg hgd _ x ho g 0 (vs.map W32) (fun j v hv => by rw [Nat.zero_add]; exact hb.cellD j hv) hx _ Try.underlying176 rfl (by rw [List.length_map, hl]; exact size_16) h
end
set_option maxRecDepth 100000 in
set_option maxHeartbeats 4000000 in
theorem initial_any (A B : Option Addr) (c d : Nat) (key nonce : List UInt8) (ctr : UInt32) (w : World) (hk : RdB w A 32 key) (hn : RdB w B 12 nonce) :
    Calls Try.prog 129 #[.slice A 32 c, .slice B 12 d, W32 ctr] w fun e w' => e = .returned (.agg ((initL key nonce ctr).map W32).toArray) ∧ Later w w' := by
  have hA := hid (initA_length key)
  have hB := hid (initB_length key nonce ctr)
  have sA := hid (initA_step key)
  have sB := hid (initB_step key nonce ctr)
  have hAB := hid (initAB key nonce ctr)
  have hBA := hid (initB_all key nonce ctr)
  have hL := initL_length key nonce ctr
  have h0 := hid (show initA key 0 = [1634760805, 857760878, 2036477234, 1797285236, 0, 0, 0, 0, 0, 0, 0, 0, 0, 0, 0, 0] from rfl)
  have hw := hid (fun k i w hi h hk => word_any A 32 c key k i hi w h hk (by omega))
  have hw2 := hid (fun k i w hi h hk => word_any B 12 d nonce k i hi w h hk (by omega))
  generalize initL key nonce ctr = L0 at *
  go_enter Try.func129, Try.ntmps129
  go_wp2_with (first
    | (refine wpList_build_is rfl 176 _ rfl (([1634760805, 857760878, 2036477234, 1797285236, 0, 0, 0, 0, 0, 0, 0, 0, 0, 0, 0, 0] : List UInt32).map W32) ?hb ?_; (case hb => kernel_rfl))
    | fail)
  have hR := (Blk.new w 176 (List.replicate 16 (Value.int .u32 0))).later (later_alloc _ (.cells #[W32 1634760805, W32 857760878, W32 2036477234, W32 1797285236, W32 0, W32 0, W32 0, W32 0, W32 0, W32 0, W32 0, W32 0, W32 0, W32 0, W32 0, W32 0] 176))
  have hS : Blk ((w.alloc (.cells (List.replicate 16 (Value.int .u32 0)).toArray 176)).alloc (.cells #[W32 1634760805, W32 857760878, W32 2036477234, W32 1797285236, W32 0, W32 0, W32 0, W32 0, W32 0, W32 0, W32 0, W32 0, W32 0, W32 0, W32 0, W32 0] 176)) (w.heap.size + 1) 176 ((initA key 0).map W32) := by
    rw [h0.out]
    exact Blk.new' (w.alloc _) _ _ (by simp)
  have L0 := (later_alloc w (.cells (List.replicate 16 (Value.int .u32 0)).toArray 176)).trans (later_alloc _ (.cells #[W32 1634760805, W32 857760878, W32 2036477234, W32 1797285236, W32 0, W32 0, W32 0, W32 0, W32 0, W32 0, W32 0, W32 0, W32 0, W32 0, W32 0, W32 0] 176))
  go_loopw [8] (fun i wr => ∃ k : Nat, k ≤ 8 ∧ i = .int .i64 k ∧ Later w wr ∧ Blk wr w.heap.size 176 (List.replicate 16 (Value.int .u32 0)) ∧ Blk wr (w.heap.size + 1) 176 ((initA key k).map W32)) (fun i _ => 8 - (intOf i).toNat)
  case atStart => exact ⟨0, by omega, rfl, L0, hR, hS⟩
  case round =>
    clear L0 hR hS
    obtain ⟨k, hk', rfl, L, hR, hS⟩ := hrel
    by_cases hlt : k < 8
    · have hl := hA.out k (by omega)
      have HST := hid (sA.out k hlt)
      have t4 : ((4 : Int) + (k : Int)).toNat = 4 + k := by omega
      go_wp2_with fail
      (refine (hw.out k _ _ rfl (hk.later L) (by omega)).mono ?_); rintro e w3 ⟨rfl, j3⟩
      go_wp2_with (first
        | (refine wpList_store_in rfl rfl _ _ _ rfl (w.heap.size + 1) (4 + k) _ _ (hS.later j3) rfl (by rw [List.length_map]; omega) rfl size_u32 ?_; intro v' w5 hv' hb5 ho5; simp [go_sem] at hv'; subst hv'; rw [set_w32, HST.out] at hb5)
        | fail)
      go_roundw
      case rel => exact ⟨k + 1, by omega, by go_num, (L.trans j3).only ho5 (by omega), (hR.later j3).only ho5 (by omega), hb5⟩
      case measure => simp [intOf]; omega
    · obtain rfl : 8 = k := by omega
      have hl := hA.out 8 (by omega)
      go_wp2_with (first
        | (refine wpList_store_in rfl rfl _ _ _ rfl (w.heap.size + 1) 12 _ _ hS rfl (by rw [List.length_map]; omega) rfl size_u32 ?_; intro v' w5 hv' hb5 ho5; simp [go_sem] at hv'; subst hv'; rw [set_w32, hAB.out] at hb5)
        | fail)
      have L5 := L.only ho5 (by omega)
      have hR5 := hR.only ho5 (by omega)
      clear L hR hS ho5
      go_loopw [9] (fun i wr => ∃ k : Nat, k ≤ 3 ∧ i = .int .i64 k ∧ Later w wr ∧ Blk wr w.heap.size 176 (List.replicate 16 (Value.int .u32 0)) ∧ Blk wr (w.heap.size + 1) 176 ((initB key nonce ctr k).map W32)) (fun i _ => 3 - (intOf i).toNat)
      case atStart => exact ⟨0, by omega, rfl, L5, hR5, hb5⟩
      case round =>
        clear L5 hR5 hb5
        obtain ⟨k, hk', rfl, L, hR, hS⟩ := hrel
        by_cases hlt : k < 3
        · have hl := hB.out k (by omega)
          have HST := hid (sB.out k hlt)
          have t4 : ((13 : Int) + (k : Int)).toNat = 13 + k := by omega
          go_wp2_with fail
          (refine (hw2.out k _ _ rfl (hn.later L) (by omega)).mono ?_); rintro e w3 ⟨rfl, j3⟩
          go_wp2_with (first
            | (refine wpList_store_in rfl rfl _ _ _ rfl (w.heap.size + 1) (13 + k) _ _ (hS.later j3) rfl (by rw [List.length_map]; omega) rfl size_u32 ?_; intro v' w5 hv' hb5 ho5; simp [go_sem] at hv'; subst hv'; rw [set_w32, HST.out] at hb5)
            | fail)
          go_roundw
          case rel => (repeat apply Exists.intro); exact ⟨⟨k + 1, by omega, by go_num, (L.trans j3).only ho5 (by omega), (hR.later j3).only ho5 (by omega), hb5⟩, rfl⟩
          case measure => simp [intOf]; omega
        · obtain rfl : 3 = k := by omega
          rw [hBA.out] at hS
          go_wp2_with (first
            | (refine load_W rfl _ rfl hS hL rfl ?_)
            | (refine store_W rfl rfl _ _ rfl hR rfl rfl hL rfl ?_; intro w9 hb9 ho9)
            | fail)
          exact bodyPost_ret (results_blk rfl _ _ _ _ _ _ hb9 rfl Try.underlying176 rfl (by rw [List.length_map, hL]; exact size_16)) rfl ⟨rfl, L.only ho9 (Nat.le_refl _)⟩
end Go.Proofs.Ytjohieongjnemaa
