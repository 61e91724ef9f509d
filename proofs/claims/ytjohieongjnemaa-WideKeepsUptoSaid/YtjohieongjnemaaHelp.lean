/-
  What stays as it was when a row of the call's own grows or is written; shallotref01.Over.
-/
import Derived.Test.YtjohieongjnemaaRef2
import Derived.Test.YtjohieongjnemaaShaA
namespace Go.Proofs.Ytjohieongjnemaa
open Go.RowKit

theorem own_blk {w : World} {base : Nat} {e : TypeId} {A : Option Addr} {n c : Nat} {vs : List Value} (h : w.ownsRow base e 1 (.slice A n c) n vs) :
    (A = none ∧ n = 0) ∨ ∃ g rest, A = some ⟨g, 0, none⟩ ∧ base ≤ g ∧ Blk w g e (vs ++ rest) ∧ c = (vs ++ rest).length := by
  rcases h.2 with ⟨hv, h0⟩ | ⟨g, cap, cur, hv, hb, hh, hnc, hm, hs, ht⟩
  · cases hv
    exact .inl ⟨rfl, rfl⟩
  · cases hv
    refine .inr ⟨g, cur.toList.drop n, rfl, hb, ?_, ?_⟩
    · rw [show vs = cur.toList.take n by simpa using ht.symm, List.take_append_drop]
      exact hh
    · rw [show vs = cur.toList.take n by simpa using ht.symm, List.take_append_drop]
      simpa using hs.symm
theorem own_mk {w : World} {base g : Nat} {e : TypeId} {vs rest : List Value} (h : Blk w g e (vs ++ rest)) (hb : base ≤ g) (hm : (vs ++ rest).length ≤ maxLen) :
    w.ownsRow base e 1 (.slice (some ⟨g, 0, none⟩) vs.length (vs ++ rest).length) vs.length vs :=
  ⟨by simp, .inr ⟨g, (vs ++ rest).length, (vs ++ rest).toArray, rfl, hb, h, by simp, hm, by simp, by simp⟩⟩
/-- Another block is written. -/
theorem own_only {w w' : World} {base k : Nat} {e : TypeId} {v : Value} {n : Nat} {vs : List Value} (h : w.ownsRow base e 1 v n vs) (ho : Only k w w') (hne : ∀ b, v.ownBlock = some b → b ≠ k) : w'.ownsRow base e 1 v n vs := by
  refine h.kept ho ?_
  cases hb : v.ownBlock with
  | none => exact .inl rfl
  | some b => exact .inr fun he => hne b hb (by injection he)
/-- A row grows, a block of another type stays. -/
theorem blk_grown {w w' : World} {base g : Nat} {e t : TypeId} {v : Value} {n : Nat} {vs l : List Value} (hb : Blk w g t l) (h : w.ownsRow base e 1 v n vs) (hne : t ≠ e) (hg : w.grownBy w' v.ownBlock) : Blk w' g t l := by
  refine (hg.block g hb.lt ?_).trans hb
  rcases h.2 with ⟨rfl, _⟩ | ⟨g2, c2, cur2, rfl, _, hh2, _⟩
  · simp [Value.ownBlock]
  · intro he
    simp only [Value.ownBlock, Option.some.injEq] at he
    subst he
    exact hb.ne_type (l' := cur2.toList) (t' := e) hh2 hne rfl
/-- A row grows, one that lies elsewhere stays. -/
theorem own_apart {w w' : World} {b1 b2 B : Nat} {e1 e2 : TypeId} {v1 v2 : Value} {n1 n2 : Nat} {x1 x2 : List Value} (h1 : w.ownsRow b1 e1 1 v1 n1 x1) (hlt : ∀ b, v1.ownBlock = some b → b < B) (h2 : w.ownsRow b2 e2 1 v2 n2 x2) (hB : B ≤ b2)
    (hg : w.grownBy w' v2.ownBlock) : w'.ownsRow b1 e1 1 v1 n1 x1 := by
  refine h1.kept hg ?_
  cases hb : v1.ownBlock with
  | none => exact .inl rfl
  | some b =>
    refine .inr fun he => ?_
    have := hlt b hb
    have := (h2.lt b he.symm).1
    omega
theorem own_below {w : World} {base : Nat} {e : TypeId} {v : Value} {n : Nat} {vs : List Value} (h : w.ownsRow base e 1 v n vs) : ∀ b, v.ownBlock = some b → b < w.heap.size := fun b hb => (h.lt b hb).2
theorem part_own {w : World} {base g : Nat} {A : Option Addr} {n c : Nat} {p : List UInt8} (h : OwnB w base A n c p) (hg : g < base) : Part w (· = g) (.slice A n c) p :=
  ⟨A, n, c, rfl, h.cap, h.rd, fun _ ad hA hb => by subst hA; have := (h.lt ad.block rfl).1; omega⟩
theorem parts_bad {w : World} {bad : Nat → Prop} {A : Option Addr} {n : Nat} {vs : List Value} {ps : List (List UInt8)} (h : Rd w A n vs) (hv : Avoid bad A n) (hp : PartAll w bad vs ps) : Parts w bad A n ps :=
  ⟨vs, h, hv, hp.at_.1, hp.at_.2⟩
theorem avoid_lt {bad : Nat → Prop} {b o n : Nat} (h : ¬ bad b) : Avoid bad (some ⟨b, o, none⟩) n := fun _ ad hA hb => by cases hA; exact h hb

/-- Sums that bear their length. -/
abbrev Y32 := {l : List UInt8 // l.length = 32}
@[go_sem high] theorem run_eql_sub (x y : Y32) (w : World) : (binOp .eql 47 (.agg (x.val.map W8).toArray) (.agg (y.val.map W8).toArray)).run Try.prog w = .ok (.bool (x.val == y.val)) w := run_eql_b32 _ _ x.2 y.2 w
@[go_sem high] theorem run_neq_sub (x y : Y32) (w : World) : (binOp .neq 47 (.agg (x.val.map W8).toArray) (.agg (y.val.map W8).toArray)).run Try.prog w = .ok (.bool (x.val != y.val)) w := run_neq_b32 _ _ x.2 y.2 w
theorem sub32 {G : List UInt8} (h : G.length = 32) : ∃ g : Y32, g.val = G := ⟨⟨G, h⟩, rfl⟩

def overB (bs : List UInt8) : List UInt8 := bs.map (· ^^^ 90)
/-- Behind k rounds. -/
def overAt (bs : List UInt8) (k : Nat) : List UInt8 := overB (bs.take k) ++ bs.drop k
theorem overAt_step (bs : List UInt8) (k : Nat) (h : k < bs.length) : (overAt bs k)[k]? = some (bs.getD k 0) ∧ (overAt bs k).set k (bs.getD k 0 ^^^ 90) = overAt bs (k + 1) := by
  have h1 : (overB (bs.take k)).length = k := by simp [overB]; omega
  have h2 : bs.drop k = bs[k] :: bs.drop (k + 1) := List.drop_eq_getElem_cons h
  have h3 : bs.getD k 0 = bs[k] := by rw [List.getD_eq_getElem?_getD, List.getElem?_eq_getElem h]; rfl
  constructor
  · rw [overAt, List.getElem?_append_right (by omega), h1, h2, h3]
    simp
  · rw [overAt, overAt, List.set_append_right _ _ (by omega), h1, h2, h3, List.take_succ_eq_append_getElem h, Nat.sub_self, List.set_cons_zero]
    simp only [overB, List.map_append, List.append_assoc, List.map_cons, List.map_nil, List.cons_append, List.nil_append]
theorem overAt_length (bs : List UInt8) (k : Nat) (h : k ≤ bs.length) : (overAt bs k).length = bs.length := by
  simp [overAt, overB]
  omega
set_option maxHeartbeats 1000000 in
theorem over_blk (g c : Nat) (t : TypeId) (bs : List UInt8) (rest : List Value) (w : World) (hb : Blk w g t (bs.map W8 ++ rest)) (hn : bs.length ≤ 140737488355328) (n : Nat) (hnl : bs.length = n) :
    Calls Try.prog 30 #[.slice (some ⟨g, 0, none⟩) n c] w fun e w' => e = .returned (.tuple #[]) ∧ Blk w' g t ((overB bs).map W8 ++ rest) ∧ Only g w w' := by
  go_enter Try.func30, Try.ntmps30
  go_wp2
  go_loopw [2] (fun i wr => ∃ k : Nat, k ≤ n ∧ i = .int .i64 k ∧ Blk wr g t ((overAt bs k).map W8 ++ rest) ∧ Only g w wr) (fun i _ => n - (intOf i).toNat)
  case atStart => exact ⟨0, by omega, rfl, by simpa [overAt, overB] using hb, World.grownBy.refl w _⟩
  case round =>
    clear hb
    obtain ⟨k, hk, rfl, hb, ho⟩ := hrel
    by_cases hlt : k < n
    · obtain ⟨h1, h2⟩ := overAt_step bs k (by omega)
      have hl := overAt_length bs k (by omega)
      have d0 := hb.cellD k (u := W8 (bs.getD k 0)) (by rw [List.getElem?_append_left (by rw [List.length_map]; omega), List.getElem?_map, h1]; rfl)
      have H2 := hid h2
      clear h1 h2
      generalize bs.getD k 0 = x at *
      go_wp2_with (first
        | (refine wpList_store_in rfl rfl _ _ _ rfl _ _ _ _ hb rfl ?hl rfl (by kernel_rfl) ?_; (case hl => rw [List.length_append, List.length_map, hl]; omega); intro v' w5 hv' hb5 ho5; simp [go_sem] at hv'; subst hv'))
      go_roundw
      case rel =>
        refine ⟨k + 1, by omega, by go_num, ?_, ho.trans ho5⟩
        rw [List.set_append_left _ _ (by rw [List.length_map, hl]; omega), map_set8, H2.out] at hb5
        exact hb5
      case measure => simp only [intOf]; omega
    · have hkn : k = n := by omega
      rw [hkn, ← hnl, show overAt bs bs.length = overB bs by simp [overAt]] at hb
      go_wp2
      exact bodyPost_end (results_none rfl _ _ _) rfl ⟨rfl, hb, ho⟩
theorem own_eq' {w : World} {base : Nat} {e : TypeId} {A : Option Addr} {n m c : Nat} {xs : List Value} (h : w.ownsRow base e 1 (.slice A n c) n xs) (hn : n = m) : w.ownsRow base e 1 (.slice A m c) m xs := by subst hn; exact h
theorem overB_length (bs : List UInt8) : (overB bs).length = bs.length := by simp [overB]
/-- Over a row of the call's own. -/
theorem over_own (base : Nat) (A : Option Addr) (n c : Nat) (bs : List UInt8) (w : World) (h : OwnB w base A n c bs) (hn : n ≤ 140737488355328) :
    Calls Try.prog 30 #[.slice A n c] w fun e w' => e = .returned (.tuple #[]) ∧ OwnB w' base A n c (overB bs) ∧ w.grownBy w' (Value.slice A n c).ownBlock := by
  have hl := h.len
  rcases own_blk h with ⟨rfl, rfl⟩ | ⟨g, rest, rfl, hb, hblk, hc⟩
  · obtain rfl : bs = [] := List.eq_nil_of_length_eq_zero hl
    go_enter Try.func30, Try.ntmps30
    go_wp2
    go_loopw [2] (fun i wr => i = .int .i64 0 ∧ wr = w) (fun _ _ => 0)
    case atStart => exact ⟨rfl, rfl⟩
    case round =>
      obtain ⟨rfl, rfl⟩ := hrel
      go_wp2
      exact bodyPost_end (results_none rfl _ _ _) rfl ⟨rfl, h, World.grownBy.refl _ _⟩
  · have hm : c ≤ maxLen := by
      rcases h.2 with ⟨hv, _⟩ | ⟨g2, cap, cur, hv, _, _, _, hm, _⟩
      · cases hv
      · cases hv
        exact hm
    refine (over_blk g c 5 bs rest w hblk (by omega) n hl).mono ?_
    rintro e w' ⟨rfl, hb', ho⟩
    have e1 : ((overB bs).map W8 ++ rest).length = c := by rw [hc]; simp [overB]
    have := own_mk hb' hb (by rw [e1]; exact hm)
    rw [e1] at this
    exact ⟨rfl, own_eq' this (by simp [overB, hl]), ho⟩
end Go.Proofs.Ytjohieongjnemaa
