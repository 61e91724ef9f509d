/-
  dir: do the keys of a directory fit.
-/
import Derived.Test.YtallecbmnpcepaaCurveF
import Derived.Test.YtallecbmnpcepaaDir3
namespace Go.Proofs.Ytallecbmnpcepaa
open Go.RowKit
open Go.BigFrame

section
variable {ops : Array Oper} {rest : List Oper} {o : Oper} {a : Act} {w : World} {Q : Exit → Act → World → Prop}
/-- 32 bytes of a struct are loaded. -/
theorem load_32 (hgd : Region.wanted o (yielded ops a.tmps) = true) (x : Operand) (ho : o.op = .load 43 x) {g off : Nat} {K : List UInt8} (hc : ∀ j v, (K.map W8)[j]? = some v → w.cell? ⟨g, off + j, none⟩ = some v) (hl : K.length = 32) (hx : a.eval x = .pointer (some ⟨g, off, none⟩))
    (h : wpList Try.prog ops Q rest (a.put o.dst (.agg (K.map W8).toArray)) w) : wpList Try.prog ops Q (o :: rest) a w :=
  wpList_load_at hgd _ x ho g off _ hc hx _ Try.underlying43 rfl (by rw [List.length_map, hl]; exact size32b) h
theorem quiet_32 {J : Act → Prop} (x : Operand) (ho : o.op = .load 43 x) {w0 : World} {g off : Nat} {K : List UInt8} (hc : ∀ j v, (K.map W8)[j]? = some v → w0.cell? ⟨g, off + j, none⟩ = some v) (hg : g < w0.heap.size) (hl : K.length = 32) (hx : a.eval x = .pointer (some ⟨g, off, none⟩)) (h : J (a.put o.dst (.agg (K.map W8).toArray))) :
    o.quiet Try.prog a (fun w' => ∃ x, w' = grow w0 x) J :=
  quiet_load_agg _ x ho g off (K.map W8) (fun w' hw j v hv => by obtain ⟨y, rfl⟩ := hw; exact ((Later.below ⟨y, rfl⟩).cell (p := ⟨g, off + j, none⟩) hg).trans (hc j v hv)) hx _ Try.underlying43 rfl (by rw [List.length_map, hl]; exact size32b) h
end
theorem rdB_cells {w : World} {b off n : Nat} {K : List UInt8} (hb : b < w.heap.size) (hc : ∀ j v, (K.map W8)[j]? = some v → w.cell? ⟨b, off + j, none⟩ = some v) (hn : K.length = n) : RdB w (some ⟨b, off, none⟩) n K :=
  ⟨by rw [List.length_map, hn], fun _ => ⟨b, off, rfl, hb, hc⟩⟩
/-- The public key of a private one. -/
def pubK (K : List UInt8) : List UInt8 := multB K (nb 9)
theorem pubK_length (K : List UInt8) : (pubK K).length = 32 := multB_length _ _
def fitB (x : Nod) : Bool := pubK x.priv.val == x.pub.val
/-- Do all keys belong together. -/
def fitsN (xs : List Nod) : Bool := checkN xs == 0 && xs.all fitB
theorem fits_no {xs : List Nod} (h : checkN xs ≠ 0) : fitsN xs = false := by
  rw [fitsN, show (checkN xs == 0) = false by simpa using h]
  rfl
theorem fits_bad {xs : List Nod} {k : Nat} (hk : k < xs.length) (h : fitB (xs.getD k nod0) = false) : fitsN xs = false := by
  rw [fitsN, show xs.all fitB = false from ?_, Bool.and_false]
  rw [List.all_eq_false]
  exact ⟨_, nod_mem hk, by rw [h]; decide⟩
theorem fits_ok {xs : List Nod} (h : checkN xs = 0) (hf : ∀ k, k < xs.length → fitB (xs.getD k nod0) = true) : fitsN xs = true := by
  rw [fitsN, h, Bool.and_eq_true]
  refine ⟨rfl, ?_⟩
  rw [List.all_eq_true]
  intro x hx
  obtain ⟨k, hk, rfl⟩ := List.getElem_of_mem hx
  have := hf k hk
  rwa [List.getD_eq_getElem?_getD, List.getElem?_eq_getElem hk] at this
set_option maxRecDepth 100000 in
theorem dfits_any (A : Option Addr) (n c : Nat) (xs : List Nod) (w : World) (hx : RdN w A n xs) (hn : n ≤ 1099511627776) (hs : ∀ x ∈ xs, x.nm.size ≤ 140737488355328) :
    Calls Try.prog 12 #[.slice A n c] w fun e w' => e = .returned (.tuple #[.bool (fitsN xs), .int .i64 (checkN xs : Nat)]) ∧ Later w w' := by
  have hl0 := hx.1
  have hC := hid (dcheck_any A n c xs w hx hn hs)
  go_enter Try.func12, Try.ntmps12
  go_wp2_with fail
  refine (hC.out).mono ?_
  rintro e w1 ⟨rfl, L⟩
  by_cases h0 : checkN xs = 0
  · have h00 := hid h0
    rw [h0]
    clear h0
    go_wp2
    go_loopw [15] (fun i wr => ∃ k : Nat, i = .int .i64 k ∧ k ≤ n ∧ Hid (∀ j, j < k → fitB (xs.getD j nod0) = true) ∧ Later w wr) (fun i _ => n - (intOf i).toNat)
    case atStart => exact ⟨0, rfl, by omega, hid (fun j hj => absurd hj (by omega)), L⟩
    case round =>
      clear L
      obtain ⟨k, rfl, hk, hp, L⟩ := hrel
      by_cases hlt : k < n
      · obtain ⟨b, o, rfl, hb, hc2, hc34⟩ := nod_keys (hx.later L) hlt
        have hbad := hid (fun (h : fitB (xs.getD k nod0) = false) => fits_bad (xs := xs) (by omega) h)
        have hgood := hid (fun (h : fitB (xs.getD k nod0) = true) => below_succ (p := fun j => fitB (xs.getD j nod0) = true) hp.out h)
        generalize xs.getD k nod0 = x at *
        go_wp2_with (first
          | (refine load_32 rfl _ rfl hc2 x.priv.2 rfl ?_)
          | fail)
        (with_reducible refine (copyKey_any x.priv.val x.priv.2 _).mono ?_); rintro e w2 ⟨g2, rfl, hg2, hb2, l2⟩
        go_wp2_with fail
        (with_reducible refine (public_any _ 32 32 x.priv.val _ (blk_rdB hb2 x.priv.2) (by omega)).mono ?_); rintro e w3 ⟨rfl, l3⟩
        rw [pub_ok _ x.priv.2]
        have hfit : fitB x = (multB x.priv.val (nb 9) == x.pub.val) := rfl
        obtain ⟨y, hy⟩ := sub32 (multB_length x.priv.val (nb 9))
        rw [← hy] at hfit
        rw [← hy]
        clear hy
        go_wp2_with (first
          | (refine store_B rfl rfl _ _ rfl (Blk.new w3 _ (List.replicate 32 (.int .u8 0))) rfl rfl y.2 rfl ?_; intro w4 hb4 ho4)
          | fail)
        have hb3 : b < w3.heap.size := Nat.lt_of_lt_of_le hb (l2.trans l3).size
        have L4 : Later wr w4 := ((l2.trans l3).trans (later_alloc _ _)).only ho4 (l2.trans l3).size
        have hc34' := fun j v hv => (L4.drew.below.cell (p := ⟨b, o + k * 66 + 34 + j, none⟩) hb).trans (hc34 j v hv)
        have hb4' : b < w4.drew.heap.size := Nat.lt_of_lt_of_le hb L4.drew.size
        refine wp_region_parts [] [0, 1, 2, 3, 4, 5, 6, 7, 8, 9, 10] [] (by as_aux_lemma => kernel_rfl) (by as_aux_lemma => kernel_rfl) (by intro _ _ d _ _ h; cases d <;> exact h) ?_
        simp only [wpParts, pick, List.getElem?_cons_succ, List.getElem?_cons_zero, Option.toList_some, List.cons_append, List.nil_append]
        repeat (first | go_big_quiet_skip | (go_big_quiet_want; (first | refine quiet_B _ rfl hb4.drew y.2 rfl ?_ | refine quiet_32 _ rfl hc34' hb4' x.pub.2 rfl ?_); simp only [Act.put, List.setIfInBounds_toArray, List.set_cons_succ, List.set_cons_zero]; go_big_quiet_on) | (go_big_quiet_step (fail)))
        refine wpQuiet_nil ?_
        replace L := (L.trans L4).drew
        go_wp2
        all_goals
          rename_i he
          first
            | exact ⟨⟨k + 1, rfl, by omega, hid (hgood.out (by rw [hfit]; simpa using he)), L⟩, by simp [intOf]; omega⟩
            | (go_ret2; exact ⟨by rw [hbad.out (by rw [hfit]; simpa using he), h00.out]; rfl, L⟩)
      · obtain rfl : k = n := by omega
        have hf : fitsN xs = true := fits_ok h00.out (by rw [hl0]; exact hp.out)
        go_wp2
        go_ret2
        exact ⟨by rw [hf, h00.out]; rfl, L⟩
  · have hf := hid (fits_no h0)
    have hne : ((checkN xs : Int) != 0) = true := by simpa using h0
    clear h0
    go_wp2
    go_ret2
    exact ⟨by rw [hf.out]; rfl, L⟩
set_option maxRecDepth 100000 in
theorem dfits_ref (A : Option Addr) (n c : Nat) (xs : List Nod) (w : World) (hx : RdN w A n xs) (hn : n ≤ 1099511627776) (hs : ∀ x ∈ xs, x.nm.size ≤ 140737488355328) :
    Calls Try.prog 13 #[.slice A n c] w fun e w' => e = .returned (.tuple #[.bool (fitsN xs), .int .i64 (checkN xs : Nat)]) ∧ Later w w' := by
  have hl0 := hx.1
  have hC := hid (dcheck_ref A n c xs w hx hn hs)
  go_enter Try.func13, Try.ntmps13
  go_wp2_with fail
  refine (hC.out).mono ?_
  rintro e w1 ⟨rfl, L⟩
  by_cases h0 : checkN xs = 0
  · have h00 := hid h0
    rw [h0]
    clear h0
    go_wp2
    go_loopw [5] (fun i wr => ∃ k : Nat, i = .int .i64 k ∧ k ≤ n ∧ Hid (∀ j, j < k → fitB (xs.getD j nod0) = true) ∧ Later w wr) (fun i _ => n - (intOf i).toNat)
    case atStart => exact ⟨0, rfl, by omega, hid (fun j hj => absurd hj (by omega)), L⟩
    case round =>
      clear L
      obtain ⟨k, rfl, hk, hp, L⟩ := hrel
      by_cases hlt : k < n
      · obtain ⟨b, o, rfl, hb, hc2, hc34⟩ := nod_keys (hx.later L) hlt
        have hbad := hid (fun (h : fitB (xs.getD k nod0) = false) => fits_bad (xs := xs) (by omega) h)
        have hgood := hid (fun (h : fitB (xs.getD k nod0) = true) => below_succ (p := fun j => fitB (xs.getD j nod0) = true) hp.out h)
        generalize xs.getD k nod0 = x at *
        have hrd : RdB wr (some ⟨b, o + k * 66 + 2, none⟩) 32 x.priv.val := rdB_cells hb hc2 x.priv.2
        go_wp2_with fail
        (with_reducible refine (public_ref _ 32 32 x.priv.val _ hrd (by omega)).mono ?_); rintro e w3 ⟨rfl, l3⟩
        rw [pub_ok _ x.priv.2]
        have hfit : fitB x = (multB x.priv.val (nb 9) == x.pub.val) := rfl
        obtain ⟨y, hy⟩ := sub32 (multB_length x.priv.val (nb 9))
        rw [← hy] at hfit
        rw [← hy]
        clear hy
        go_wp2_with (first
          | (refine store_B rfl rfl _ _ rfl (Blk.new w3 _ (List.replicate 32 (.int .u8 0))) rfl rfl y.2 rfl ?_; intro w4 hb4 ho4)
          | fail)
        have hb3 : b < w3.heap.size := Nat.lt_of_lt_of_le hb l3.size
        have L4 : Later wr w4 := (l3.trans (later_alloc _ _)).only ho4 l3.size
        have hc34' := fun j v hv => (L4.drew.below.cell (p := ⟨b, o + k * 66 + 34 + j, none⟩) hb).trans (hc34 j v hv)
        have hb4' : b < w4.drew.heap.size := Nat.lt_of_lt_of_le hb L4.drew.size
        refine wp_region_parts [] [0, 1, 2, 3, 4, 5, 6] [] (by as_aux_lemma => kernel_rfl) (by as_aux_lemma => kernel_rfl) (by intro _ _ d _ _ h; cases d <;> exact h) ?_
        simp only [wpParts, pick, List.getElem?_cons_succ, List.getElem?_cons_zero, Option.toList_some, List.cons_append, List.nil_append]
        repeat (first | go_big_quiet_skip | (go_big_quiet_want; (first | refine quiet_B _ rfl hb4.drew y.2 rfl ?_ | refine quiet_32 _ rfl hc34' hb4' x.pub.2 rfl ?_); simp only [Act.put, List.setIfInBounds_toArray, List.set_cons_succ, List.set_cons_zero]; go_big_quiet_on) | (go_big_quiet_step (fail)))
        refine wpQuiet_nil ?_
        replace L := (L.trans L4).drew
        go_wp2
        all_goals
          rename_i he
          first
            | exact ⟨⟨k + 1, by go_num, by omega, hid (hgood.out (by rw [hfit]; simpa using he)), L⟩, by simp [intOf]; omega⟩
            | (go_ret2; exact ⟨by rw [hbad.out (by rw [hfit]; simpa using he), h00.out]; rfl, L⟩)
      · obtain rfl : k = n := by omega
        have hf : fitsN xs = true := fits_ok h00.out (by rw [hl0]; exact hp.out)
        go_wp2
        go_ret2
        exact ⟨by rw [hf, h00.out]; rfl, L⟩
  · have hf := hid (fits_no h0)
    have hne : ((checkN xs : Int) != 0) = true := by simpa using h0
    clear h0
    go_wp2
    go_ret2
    exact ⟨by rw [hf.out]; rfl, L⟩
end Go.Proofs.Ytallecbmnpcepaa
