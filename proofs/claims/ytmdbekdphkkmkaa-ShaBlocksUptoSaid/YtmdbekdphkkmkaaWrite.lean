/-
  (*sha.Hash).Write, New, Twin; sha.Sum.
-/
import Derived.Test.YtmdbekdphkkmkaaSum
namespace Go.Proofs.Ytmdbekdphkkmkaa
open Go.RowKit

/-- It leads to no bad block (where it leads anywhere). -/
def Avoid (bad : Nat → Prop) (A : Option Addr) (n : Nat) : Prop := 0 < n → ∀ ad, A = some ad → ¬ bad ad.block
theorem Avoid.off {bad : Nat → Prop} {A : Option Addr} {n : Nat} (h : Avoid bad A n) {g : Nat} (hg : bad g) (hn : 0 < n) : Off A g := fun ad hd e => h hn ad hd (e ▸ hg)
/-- A slice that reads as bytes. -/
def Part (w : World) (bad : Nat → Prop) (v : Value) (p : List UInt8) : Prop := ∃ A n c, v = .slice A n c ∧ n ≤ c ∧ RdB w A n p ∧ Avoid bad A n
/-- A slice of such slices. -/
def Parts (w : World) (bad : Nat → Prop) (A : Option Addr) (n : Nat) (ps : List (List UInt8)) : Prop :=
  ∃ vs : List Value, Rd w A n vs ∧ Avoid bad A n ∧ vs.length = ps.length ∧ ∀ (j : Nat) v p, vs[j]? = some v → ps[j]? = some p → Part w bad v p
theorem Part.later {w w' : World} {bad : Nat → Prop} {v : Value} {p : List UInt8} (h : Part w bad v p) (hl : Later w w') : Part w' bad v p := by
  obtain ⟨A, n, c, h1, h2, h3, h4⟩ := h
  exact ⟨A, n, c, h1, h2, h3.later hl, h4⟩
theorem Rd.onlyAvoid {w w' : World} {A : Option Addr} {n : Nat} {vs : List Value} {g : Nat} {bad : Nat → Prop} (h : Rd w A n vs) (hv : Avoid bad A n) (ho : Only g w w') (hg : bad g) : Rd w' A n vs := by
  by_cases hn : 0 < n
  · exact h.onlyOff ho (hv.off hg hn)
  · exact ⟨h.1, fun h' => absurd h' hn⟩
theorem Part.only {w w' : World} {bad : Nat → Prop} {v : Value} {p : List UInt8} {g : Nat} (h : Part w bad v p) (ho : Only g w w') (hg : bad g) : Part w' bad v p := by
  obtain ⟨A, n, c, h1, h2, h3, h4⟩ := h
  exact ⟨A, n, c, h1, h2, Rd.onlyAvoid h3 h4 ho hg, h4⟩
theorem Parts.later {w w' : World} {bad : Nat → Prop} {A : Option Addr} {n : Nat} {ps : List (List UInt8)} (h : Parts w bad A n ps) (hl : Later w w') : Parts w' bad A n ps := by
  obtain ⟨vs, h1, h2, h3, h4⟩ := h
  exact ⟨vs, h1.later hl, h2, h3, fun j v p hv hp => (h4 j v p hv hp).later hl⟩
theorem Parts.only {w w' : World} {bad : Nat → Prop} {A : Option Addr} {n : Nat} {ps : List (List UInt8)} {g : Nat} (h : Parts w bad A n ps) (ho : Only g w w') (hg : bad g) : Parts w' bad A n ps := by
  obtain ⟨vs, h1, h2, h3, h4⟩ := h
  exact ⟨vs, h1.onlyAvoid h2 ho hg, h2, h3, fun j v p hv hp => (h4 j v p hv hp).only ho hg⟩
theorem Avoid.more {w : World} {bad bad' : Nat → Prop} {A : Option Addr} {n : Nat} {vs : List Value} (h : Avoid bad A n) (hr : Rd w A n vs) (hb : ∀ b, bad' b → bad b ∨ w.heap.size ≤ b) : Avoid bad' A n := by
  intro hn ad hd hbad
  rcases hb _ hbad with h1 | h1
  · exact h hn ad hd h1
  · obtain ⟨b, o, rfl, hlt, _⟩ := hr.2 hn
    cases hd
    exact absurd hlt (by simpa using h1)
theorem Parts.more {w : World} {bad bad' : Nat → Prop} {A : Option Addr} {n : Nat} {ps : List (List UInt8)} (h : Parts w bad A n ps) (hb : ∀ b, bad' b → bad b ∨ w.heap.size ≤ b) : Parts w bad' A n ps := by
  obtain ⟨vs, h1, h2, h3, h4⟩ := h
  refine ⟨vs, h1, h2.more h1 hb, h3, fun j v p hv hp => ?_⟩
  obtain ⟨A', n', c', e1, e2, e3, e4⟩ := h4 j v p hv hp
  exact ⟨A', n', c', e1, e2, e3, e4.more e3 hb⟩
theorem Parts.len {w : World} {bad : Nat → Prop} {A : Option Addr} {n : Nat} {ps : List (List UInt8)} (h : Parts w bad A n ps) : ps.length = n := by
  obtain ⟨vs, h1, _, h3, _⟩ := h
  rw [← h3, h1.1]
theorem flatten_take_succ (ps : List (List UInt8)) (k : Nat) (h : k < ps.length) : (ps.take (k + 1)).flatten = (ps.take k).flatten ++ ps[k] := by
  rw [List.take_succ_eq_append_getElem h, List.flatten_append]
  simp
theorem flatten_take_le (ps : List (List UInt8)) (k : Nat) : (ps.take k).flatten.length ≤ ps.flatten.length := by
  have : ps.flatten = (ps.take k).flatten ++ (ps.drop k).flatten := by rw [← List.flatten_append, List.take_append_drop]
  rw [this, List.length_append]
  omega

set_option maxHeartbeats 1000000 in
theorem write_any (g : Nat) (t : TypeId) (rest : List Value) (bs : List UInt8) (A : Option Addr) (n c : Nat) (ps : List (List UInt8)) (w : World) (hh : HashAt w g t rest bs) (hx : Parts w (· = g) A n ps) (hm : n ≤ 140737488355328)
    (hlen : bs.length + ps.flatten.length ≤ 2305843009213693951) :
    Calls Try.prog 34 #[.pointer (some ⟨g, 0, none⟩), .slice A n c] w fun e w' => e = .returned (.pointer (some ⟨g, 0, none⟩)) ∧ HashAt w' g t rest (bs ++ ps.flatten) ∧ Only g w w' := by
  have hpl := hx.len
  go_enter Try.func34, Try.ntmps34
  go_wp2
  go_loopw [9] (fun i wr => ∃ k : Nat, k ≤ n ∧ i = .int .i64 k ∧ HashAt wr g t rest (bs ++ (ps.take k).flatten) ∧ Only g w wr) (fun i _ => n - (intOf i).toNat)
  case atStart => exact ⟨0, by omega, rfl, by simpa using hh, World.grownBy.refl w _⟩
  case round =>
    obtain ⟨k, hk, rfl, hh', ho⟩ := hrel
    by_cases hlt : k < n
    · have hx' := hx.only ho rfl
      obtain ⟨vs, h1, h2, h3, h4⟩ := hx'
      obtain ⟨b, o, rfl, hb, hc⟩ := h1.at_ (by omega)
      have hvl := h1.1
      obtain ⟨A', n', c', e1, e2, e3, e4⟩ := h4 k vs[k] (ps[k]'(by omega)) (List.getElem?_eq_getElem (by omega)) (List.getElem?_eq_getElem (by omega))
      have d0 := hc k hlt
      rw [e1] at d0
      have hfl := flatten_take_succ ps k (by omega)
      have hle := flatten_take_le ps (k + 1)
      rw [hfl, List.length_append] at hle
      have hpk := e3.len
      go_wp2_with (go_at_call 67; refine (add_any g t rest (bs ++ (ps.take k).flatten) (ps[k]'(by omega)) A' n' c' _ hh' e3 (fun hn => e4.off rfl hn) e2 ?sz).mono ?_; (case sz => rw [List.length_append]; omega); rintro e w1 ⟨rfl, hh1, ho1⟩)
      go_roundw
      case rel => exact ⟨k + 1, by omega, by go_num, by rw [hfl, ← List.append_assoc]; exact hh1, ho.trans ho1⟩
      case measure => simp [intOf]; omega
    · have hkn : k = n := by omega
      rw [hkn, List.take_of_length_le (by omega)] at hh'
      go_wp2
      go_ret
      exact ⟨rfl, hh', ho⟩

def zeroS8 : S8 := ⟨0, 0, 0, 0, 0, 0, 0, 0⟩
theorem zeroHash : Try.zeroCells52 = (hCells zeroS8 (List.replicate 64 0) 0).toArray := by kernel_rfl
theorem hok_nil : HOk [] zeroS8 (List.replicate 64 0) := ⟨by simp, by simp, fun h => by simp at h⟩
theorem hashAt_new (w : World) : HashAt (w.alloc (.cells Try.zeroCells52 52)) w.heap.size 52 [] [] :=
  ⟨zeroS8, List.replicate 64 0, hok_nil, by rw [zeroHash, List.append_nil]; exact Blk.new _ _ _⟩

theorem hashAt_new' {g : Nat} (w : World) (h : w.heap.size = g) : HashAt (w.alloc (.cells Try.zeroCells52 52)) g 52 [] [] := h ▸ hashAt_new w

set_option maxHeartbeats 1000000 in
theorem sum_any (A : Option Addr) (n c : Nat) (ps : List (List UInt8)) (w : World) (hx : Parts w (fun _ => False) A n ps) (hm : n ≤ 140737488355328) (hlen : ps.flatten.length ≤ 2305843009213693951) :
    Calls Try.prog 24 #[.slice A n c] w fun e w' => e = .returned (.agg ((shaSum ps.flatten).map W8).toArray) ∧ Later w w' := by
  have hG := shaSum_length ps.flatten
  have hx1 : Parts w (fun b => w.heap.size ≤ b) A n ps := hx.more (fun b hb => .inr hb)
  have hx2 : Parts w (· = w.heap.size + 1) A n ps := hx.more (fun b hb => .inr (by omega))
  go_enter Try.func24, Try.ntmps24
  go_wp2_with (first
    | (go_at_call 34; refine (write_any (w.heap.size + 1) 52 [] [] A n c ps _ (hashAt_new' _ (by simp)) ((hx2.later (later_alloc _ _)).later (later_alloc _ _)) hm (by simpa using hlen)).mono ?_; rintro e w1 ⟨rfl, hh1, ho1⟩; rw [List.nil_append] at hh1)
    | (go_at_call 32; refine (hsum_any (w.heap.size + 1) 52 [] ps.flatten _ hh1 hlen).mono ?_; rintro e w2 ⟨rfl, hl2⟩; generalize hGG : shaSum ps.flatten = G at *)
    | (refine wpList_store_agg rfl rfl 39 _ _ rfl w.heap.size 0 39 (List.replicate 32 (W8 0)) (G.map W8) ?b ?hx ?hy ?hi ?hf ?h1 ?_; (case hx => rfl); (case hy => rfl); (case hi => rw [List.length_map, hG]; kernel_rfl); (case hf => simp [hG]); (case h1 => exact w8_one _); (case b => exact ((((Blk.new w 39 (List.replicate 32 (W8 0))).later (later_alloc _ _)).only ho1 (by omega)).later hl2)); intro w9 hb9 ho9))
  rw [spliced_all _ _ (by simp [hG])] at hb9
  have hl : Later w w1 := (((Later.refl w).alloc _).alloc _).only ho1 (by omega)
  exact bodyPost_ret (results_blk rfl _ _ _ _ (G.map W8) _ hb9 rfl Try.underlying39 rfl (by rw [List.length_map, hG]; kernel_rfl)) rfl ⟨by rw [hGG], (hl.trans hl2).only ho9 (Nat.le_refl _)⟩

set_option maxHeartbeats 1000000 in
theorem new_any (A : Option Addr) (n c : Nat) (ps : List (List UInt8)) (w : World) (hx : Parts w (fun _ => False) A n ps) (hm : n ≤ 140737488355328) (hlen : ps.flatten.length ≤ 2305843009213693951) :
    Calls Try.prog 33 #[.slice A n c] w fun e w' => e = .returned (.pointer (some ⟨w.heap.size, 0, none⟩)) ∧ HashAt w' w.heap.size 52 [] ps.flatten ∧ Later w w' := by
  have hx2 : Parts w (· = w.heap.size) A n ps := hx.more (fun b hb => .inr (by omega))
  go_enter Try.func33, Try.ntmps33
  go_wp2_with (first
    | (go_at_call 34; refine (write_any w.heap.size 52 [] [] A n c ps _ (hashAt_new w) (hx2.later (later_alloc _ _)) hm (by simpa using hlen)).mono ?_; rintro e w1 ⟨rfl, hh1, ho1⟩; rw [List.nil_append] at hh1))
  go_ret
  exact ⟨rfl, hh1, ((Later.refl w).alloc _).only ho1 (Nat.le_refl _)⟩
/-- A Hash whose cells are these. -/
theorem twin_any (g : Nat) (t : TypeId) (rest : List Value) (bs : List UInt8) (w : World) (hh : HashAt w g t rest bs) :
    Calls Try.prog 36 #[.pointer (some ⟨g, 0, none⟩)] w fun e w' => e = .returned (.pointer (some ⟨w.heap.size, 0, none⟩)) ∧ HashAt w' w.heap.size 52 [] bs ∧ Later w w' := by
  obtain ⟨st, op, hok, hb⟩ := hh
  have hload : ∀ j v, (hCells st op bs.length)[j]? = some v → w.cell? ⟨g, j, none⟩ = some v := fun j v hv => hb.cellD j (by rw [List.getElem?_append_left (List.getElem?_eq_some_iff.1 hv).1]; exact hv)
  have hcl := hCells_length st op bs.length hok.len
  have hz : Try.zeroCells52.toList.length = 73 := by kernel_rfl
  go_enter Try.func36, Try.ntmps36
  go_wp2_with (first
    | (refine wpList_load_agg rfl 52 _ rfl g 0 (hCells st op bs.length) ?hc ?hx _ Try.underlying52 rfl ?hi ?_; (case hx => rfl); (case hi => rw [hcl]; kernel_rfl); (case hc => intro j v hv; rw [Nat.zero_add]; exact hload j v hv))
    | (refine wpList_store_agg rfl rfl 52 _ _ rfl w.heap.size 0 52 Try.zeroCells52.toList (hCells st op bs.length) ?b ?hx ?hy ?hi ?hf ?h1 ?_; (case hx => rfl); (case hy => rfl); (case hi => rw [hcl]; kernel_rfl); (case hf => rw [hcl, hz]; omega); (case h1 => exact hCells_one _ _ _); (case b => exact Blk.new _ _ _); intro w1 hb1 ho1))
  rw [spliced_all _ _ (by rw [hcl, hz])] at hb1
  go_ret
  exact ⟨rfl, ⟨st, op, hok, by rw [List.append_nil]; exact hb1⟩, ((Later.refl w).alloc _).only ho1 (Nat.le_refl _)⟩
end Go.Proofs.Ytmdbekdphkkmkaa
