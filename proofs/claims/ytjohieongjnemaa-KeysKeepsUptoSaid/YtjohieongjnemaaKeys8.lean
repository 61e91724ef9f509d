/-
  keys.Pays; shallotlaw12: KeysSchedules.
-/
import Derived.Test.YtjohieongjnemaaKeys7
namespace Go.Proofs.Ytjohieongjnemaa
open Go.RowKit
open Go.BigFrame

theorem Bag.perm {w wk : World} {ls ls' : List (Nat × TypeId × List Value)} (h : Bag w wk ls) (p : ls.Perm ls') : Bag w wk ls' :=
  ⟨h.lat, fun q hq => h.blk q (p.mem_iff.2 hq), fun q hq => h.low q (p.mem_iff.2 hq), (p.map _).nodup_iff.1 h.nd⟩
theorem Bag.cast {w wk : World} {ls ls' : List (Nat × TypeId × List Value)} (h : Bag w wk ls) (e : ls = ls') : Bag w wk ls' := e ▸ h
/-- A slice of a whole block of 32 bytes. -/
def sl32 (b : Nat) : Value := .slice (some ⟨b, 0, none⟩) 32 32
theorem sl32_one (b : Nat) : (sl32 b).oneCell' = true := rfl
def payB (b : Nat) (p : List UInt8) : Nat × TypeId × List Value := (b, 5, p.map W8)
def paysOf (xs : List (List UInt8)) : List (List UInt8) := xs.map fun x => subB x 64 32
theorem paysOf_length (xs : List (List UInt8)) : (paysOf xs).length = xs.length := by simp [paysOf]
theorem paysOf_getD (xs : List (List UInt8)) (k : Nat) (h : k < xs.length) : (paysOf xs).getD k [] = subB (xs.getD k []) 64 32 := by
  rw [paysOf, List.getD_eq_getElem?_getD, List.getElem?_map, List.getD_eq_getElem?_getD, List.getElem?_eq_getElem h]
  rfl
theorem pays_succ (gs : List Nat) (xs : List (List UInt8)) (k b : Nat) (hg : gs.length = k) (h : k < xs.length) :
    List.zipWith payB (gs ++ [b]) ((paysOf xs).take (k + 1)) = List.zipWith payB gs ((paysOf xs).take k) ++ [payB b (subB (xs.getD k []) 64 32)] := by
  rw [take_succ_getD _ k (by rw [paysOf_length]; exact h), paysOf_getD xs k h, List.zipWith_append (by rw [hg, List.length_take, paysOf_length]; omega)]
  rfl
theorem nils_set (gs : List Nat) (n k b : Nat) (hg : gs.length = k) (h : k < n) :
    (gs.map sl32 ++ List.replicate (n - k) (Value.slice none 0 0)).set k (sl32 b) = (gs ++ [b]).map sl32 ++ List.replicate (n - (k + 1)) (Value.slice none 0 0) := by
  rw [List.set_append_right _ _ (by rw [List.length_map]; omega), List.length_map, hg, Nat.sub_self, show n - k = (n - (k + 1)) + 1 by omega, List.replicate_succ, List.set_cons_zero, List.map_append, List.append_assoc]
  rfl
/-- A part of an element as a slice. -/
theorem RdK.rdB {sz : Nat} {w : World} {A : Option Addr} {n : Nat} {xs : List (List UInt8)} (h : RdK sz w A n xs) {k off m : Nat} (hk : k < n) {r : List UInt8} (hr : subB (xs.getD k []) off m = r) (hm : r.length = m) :
    ∃ b o, A = some ⟨b, o, none⟩ ∧ b < w.heap.size ∧ RdB w (some ⟨b, o + k * sz + off, none⟩) m r := by
  obtain ⟨b, o, hA, hb, hc⟩ := h.sub hk
  exact ⟨b, o, hA, hb, by rw [List.length_map, hm], fun _ => ⟨b, o + k * sz + off, rfl, hb, fun j v hv => hc w (Later.refl w) off m r hr j v hv⟩⟩
theorem infoLs : (Try.prog.info? 22).map (fun i => (i.zero, i.size, i.bytes)) = some (some (.slice none 0 0), 1, 24) := infoB
set_option maxRecDepth 100000 in
set_option maxHeartbeats 4000000 in
theorem pays_any (A : Option Addr) (n c : Nat) (xs : List (List UInt8)) (w : World) (hr : RdK 192 w A n xs) (hxl : ∀ x ∈ xs, x.length = 192) (hn : n ≤ 1048576) :
    Calls Try.prog 37 #[.slice A n c] w fun e w' => ∃ gs : List Nat, e = .returned (.slice (some ⟨w.heap.size, 0, none⟩) n n) ∧ gs.length = n ∧
      Bag w w' ((w.heap.size, 22, gs.map sl32) :: List.zipWith payB gs (paysOf xs)) := by
  have hxn := hr.1
  go_enter Try.func37, Try.ntmps37
  go_wp2_with (first
    | (refine wpList_make_n rfl _ _ 36 rfl 22 (.slice none 0 0) 24 Try.underlying36 infoLs rfl _ _ _ _ n rfl rfl rfl rfl (by omega) (by omega) ?_; intro w1 hb1 hl1)
    | fail)
  have B0 : Bag w w1 [(w.heap.size, 22, List.replicate n (Value.slice none 0 0))] := (Bag.none w).add hl1 (by simp) (Nat.le_refl _) hb1
  clear hb1 hl1
  generalize hg : w.heap.size = g at *
  go_loopw [10] (fun i wr => ∃ (k : Nat) (gs : List Nat), k ≤ n ∧ i = .int .i64 k ∧ gs.length = k ∧ Bag w wr ((g, 22, gs.map sl32 ++ List.replicate (n - k) (Value.slice none 0 0)) :: List.zipWith payB gs ((paysOf xs).take k))) (fun i _ => n - (intOf i).toNat)
  case atStart => exact ⟨0, [], by omega, rfl, rfl, B0⟩
  case round =>
    clear B0
    obtain ⟨k, gs, hk, rfl, hgl, B1⟩ := hrel
    by_cases hlt : k < n
    · have hTl : (xs.getD k []).length = 192 := hxl _ (getD_mem' xs k (by omega))
      obtain ⟨b, o, rfl, hb, hrd⟩ := (hr.later B1.lat).rdB (k := k) (off := 64) (m := 32) hlt rfl (subB_length (by omega))
      have hps := hid (fun b => pays_succ gs xs k b hgl (by omega))
      have hpl : (subB (xs.getD k []) 64 32).length = 32 := subB_length (by omega)
      have hll : (gs.map sl32 ++ List.replicate (n - k) (Value.slice none 0 0)).length = n := by rw [List.length_append, List.length_map, List.length_replicate]; omega
      generalize hR : subB (xs.getD k []) 64 32 = p at *
      have HR := hid hR
      clear hR hrd
      generalize hL : gs.map sl32 ++ List.replicate (n - k) (Value.slice none 0 0) = L0 at *
      have hput : putB (List.replicate 32 (0 : UInt8)) 0 p = p := putB_all _ _ (by simp [hpl])
      have hz32 : (List.replicate 32 (0 : UInt8)).length = 32 := by simp
      have hzm : (List.replicate 32 (Value.int .u8 0)) = (List.replicate 32 (0 : UInt8)).map W8 := by rw [List.map_replicate]; rfl
      generalize List.replicate 32 (0 : UInt8) = Z at *
      have HP := hid hput
      have HZ := hid hzm
      have hns := hid (fun b => show L0.set k (sl32 b) = (gs ++ [b]).map sl32 ++ List.replicate (n - (k + 1)) (Value.slice none 0 0) by rw [← hL, nils_set gs n k b hgl hlt])
      clear hput hzm hL
      go_wp2_with (first
        | (refine wpList_make_n rfl _ _ 22 rfl 5 (.int .u8 0) 1 Try.underlying22 info8 rfl _ _ _ _ 32 rfl rfl rfl rfl (by omega) (by omega) ?_; intro w2 hb2 hl2
           have B2 := (B1.later hl2).add (Later.refl w2) (k := wr.heap.size) (by intro q hq; have := (B1.blk q hq).lt; omega) B1.lat.size (hb2.cast HZ.out))
        | (refine wpList_store_in rfl rfl _ _ _ rfl g k 22 L0 (B2.nth 1 rfl) rfl (by omega) rfl (by kernel_rfl) ?_; intro v w3 hv hb3 ho3; simp [go_sem] at hv; subst hv
           have B3 := (B2.write 1 rfl ho3 hb3).drew)
        | fail)
      have d0 := (B3.nth 1 rfl).cellD k (u := .slice (some ⟨wr.heap.size, 0, none⟩) 32 32) (by rw [List.getElem?_set_self (by omega)])
      obtain ⟨b', o', e, _, hrd3⟩ := (hr.later B3.lat).rdB (k := k) (off := 64) (m := 32) hlt (HR.out) hpl
      cases e
      go_wp2_with fail
      refine wp_region_parts [] [0, 1, 2, 3, 4, 5, 6, 7, 8, 9] [10] (by as_aux_lemma => kernel_rfl) (by as_aux_lemma => kernel_rfl) (by intro _ _ d _ _ h; cases d <;> exact h) ?_
      simp only [wpParts, pick, List.getElem?_cons_succ, List.getElem?_cons_zero, Option.toList_some, List.cons_append, List.nil_append]
      repeat (go_big_quiet_step (fail))
      refine wpQuiet_nil ?_
      go_wp2_with (first
        | (refine copy_Y 0 32 rfl _ _ _ _ rfl 5 Try.underlying22 size8 (B3.nth 0 rfl) hrd3 rfl rfl (by omega) ?_; intro w4 hb4 ho4
           rw [HP.out] at hb4
           have B4 := B3.write 0 rfl ho4 hb4)
        | fail)
      have B5 := B4.perm ((List.Perm.swap _ _ _).trans (List.Perm.cons _ (List.perm_append_singleton _ _).symm))
      go_roundw
      case rel =>
        refine ⟨k + 1, gs ++ [wr.heap.size], by omega, by go_num, by simp [hgl], B5.cast ?_⟩
        rw [hps.out wr.heap.size, ← hns.out wr.heap.size]
        rfl
      case measure => simp [intOf]; omega
    · have hkn : k = n := by omega
      subst hkn
      rw [Nat.sub_self, List.replicate_zero, List.append_nil, List.take_of_length_le (by rw [paysOf_length]; omega)] at B1
      go_wp2_with fail
      go_ret
      subst hg
      exact ⟨gs, rfl, hgl, B1⟩
/-- What they read as. -/
theorem pays_parts {w w' : World} {g n : Nat} {gs : List Nat} {ps : List (List UInt8)} (h : Bag w w' ((g, 22, gs.map sl32) :: List.zipWith payB gs ps)) (hg : gs.length = n) (hp : ps.length = n) (h32 : ∀ p ∈ ps, p.length = 32) : Parts w' (fun _ => False) (some ⟨g, 0, none⟩) n ps := by
  refine ⟨gs.map sl32, (h.nth 0 rfl).rd (by rw [List.length_map, hg]), fun _ _ _ h => h, by rw [List.length_map, hg, hp], fun j v p hv hpj => ?_⟩
  rw [List.getElem?_map, Option.map_eq_some_iff] at hv
  obtain ⟨b, hb, rfl⟩ := hv
  have := h.nth (j + 1) (k := b) (t := 5) (l := p.map W8) (by rw [List.getElem?_cons_succ, List.getElem?_zipWith, hb, hpj]; rfl)
  exact part_rd (blk_rdB this (h32 p (List.mem_of_getElem? hpj))) (Nat.le_refl _)
end Go.Proofs.Ytjohieongjnemaa
