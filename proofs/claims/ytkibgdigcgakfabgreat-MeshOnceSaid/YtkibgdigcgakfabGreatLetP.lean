/-
  Letters out of arrivals: in plain lists.
-/
import Derived.Test.YtkibgdigcgakfabGreatPrt
namespace Go.Proofs.YtkibgdigcgakfabGreat
open Go.RowKit

abbrev pid (q : Prt) : Prt := q
section
variable {α : Type} (pr : α → Prt)
/-- What a message says to one more part. -/
def tkE (id : UInt64) (ks : List α) (p : Prt) : Nat :=
  if p.kd ≠ 1 ∨ prtE p ≠ 0 then 3 else if p.id ≠ id then 4 else if ks.any (fun q => (pr q).ct != p.ct || (pr q).ix == p.ix) then 3 else 0
/-- What it keeps behind it. -/
def tkK (id : UInt64) (ks : List α) (x : α) : List α := if tkE pr id ks (pr x) = 0 then ks ++ [x] else ks
def tksK (id : UInt64) (ks xs : List α) : List α := xs.foldl (tkK pr id) ks
theorem tksK_snoc (id : UInt64) (ks xs : List α) (x : α) : tksK pr id ks (xs ++ [x]) = tkK pr id (tksK pr id ks xs) x := by simp [tksK]
theorem tkE_map (id : UInt64) (ks : List α) (p : Prt) : tkE pid id (ks.map pr) p = tkE pr id ks p := by
  unfold tkE
  rw [List.any_map]
  rfl
theorem tkK_map (id : UInt64) (ks : List α) (x : α) : (tkK pr id ks x).map pr = tkK pid id (ks.map pr) (pr x) := by
  unfold tkK
  rw [tkE_map]
  split <;> simp
theorem tksK_map (id : UInt64) (ks : List α) : ∀ (xs : List α), (tksK pr id ks xs).map pr = tksK pid id (ks.map pr) (xs.map pr) := by
  intro xs
  induction xs generalizing ks with
  | nil => rfl
  | cons x xs ih =>
    show (tksK pr id (tkK pr id ks x) xs).map pr = tksK pid id (tkK pid id (ks.map pr) (pr x)) (xs.map pr)
    rw [ih, tkK_map]
/-- The first error. -/
def tksE (id : UInt64) : List α → List α → Nat
  | _, [] => 0
  | ks, x :: xs => if tkE pr id ks (pr x) ≠ 0 then tkE pr id ks (pr x) else tksE id (tkK pr id ks x) xs
end
/-- What a message may keep. -/
structure KeptOk (ks : List Prt) : Prop where
  good : ∀ q ∈ ks, q.kd = 1 ∧ prtE q = 0
  same : ∀ q ∈ ks, ∀ r ∈ ks, q.ct = r.ct
  nd : (ks.map (·.ix)).Nodup
theorem keptOk_nil : KeptOk [] := ⟨by simp, by simp, by simp⟩
theorem prtE_ok {p : Prt} (h : prtE p = 0) : 1 ≤ p.ct ∧ p.ct ≤ 16 ∧ 0 ≤ p.ix ∧ p.ix < p.ct ∧ p.da.length ≤ 450 := by
  unfold prtE at h
  split at h
  · cases h
  split at h
  · cases h
  split at h
  · cases h
  rename_i h1 h2 h3
  omega
theorem tkE_zero {id : UInt64} {ks : List Prt} {p : Prt} (h : tkE pid id ks p = 0) : p.kd = 1 ∧ prtE p = 0 ∧ p.id = id ∧ (∀ q ∈ ks, q.ct = p.ct ∧ q.ix ≠ p.ix) := by
  unfold tkE at h
  split at h
  · cases h
  split at h
  · cases h
  split at h
  · cases h
  rename_i h1 h2 h3
  refine ⟨Classical.not_not.1 fun hc => h1 (.inl hc), Classical.not_not.1 fun hc => h1 (.inr hc), Classical.not_not.1 h2, fun q hq => ?_⟩
  have h4 : (q.ct != p.ct || q.ix == p.ix) = false := by
    cases hb : (q.ct != p.ct || q.ix == p.ix) with
    | false => rfl
    | true => exact absurd (List.any_eq_true.2 ⟨q, hq, hb⟩) h3
  simp only [Bool.or_eq_false_iff, bne_eq_false_iff_eq, beq_eq_false_iff_ne] at h4
  exact h4
theorem KeptOk.snoc {id : UInt64} {ks : List Prt} {p : Prt} (h : KeptOk ks) : KeptOk (tkK pid id ks p) := by
  unfold tkK
  split
  · rename_i h0
    obtain ⟨h1, h2, _, h4⟩ := tkE_zero h0
    refine ⟨fun q hq => ?_, fun q hq r hr => ?_, ?_⟩
    · rcases List.mem_append.1 hq with hq | hq
      · exact h.good q hq
      · obtain rfl : q = p := by simpa using hq
        exact ⟨h1, h2⟩
    · rcases List.mem_append.1 hq with hq | hq <;> rcases List.mem_append.1 hr with hr | hr
      · exact h.same q hq r hr
      · have e : r = p := by simpa using hr
        rw [e]
        exact (h4 q hq).1
      · have e : q = p := by simpa using hq
        rw [e]
        exact (h4 r hr).1.symm
      · have e : q = p := by simpa using hq
        have e' : r = p := by simpa using hr
        rw [e, e']
    · rw [List.map_append, List.nodup_append]
      refine ⟨h.nd, by simp, fun a ha b hb => ?_⟩
      obtain rfl : b = p.ix := by simpa using hb
      obtain ⟨q, hq, rfl⟩ := List.mem_map.1 ha
      exact (h4 q hq).2
  · exact h
theorem keptOk_all {id : UInt64} (xs : List Prt) : ∀ {ks : List Prt}, KeptOk ks → KeptOk (tksK pid id ks xs) := by
  induction xs with
  | nil => exact fun h => h
  | cons x xs ih => exact fun h => ih h.snoc
/-- No more than n different numbers stand below n. -/
theorem nodup_below : ∀ (n : Nat) (l : List Int), l.Nodup → (∀ i ∈ l, 0 ≤ i ∧ i < n) → l.length ≤ n
  | 0, l, _, h => by
    cases l with
    | nil => exact Nat.le_refl _
    | cons i l => have := h i (by simp); omega
  | n + 1, l, hn, h => by
    have hb : (l.erase (n : Int)).length ≤ n := by
      refine nodup_below n _ (hn.erase _) fun i hi => ?_
      have h1 := h i (List.mem_of_mem_erase hi)
      have h2 : i ≠ (n : Int) := fun e => by subst e; exact (List.Nodup.not_mem_erase hn) hi
      omega
    have := List.length_erase_of_mem (a := (n : Int)) (l := l)
    by_cases hm : (n : Int) ∈ l
    · rw [this hm] at hb
      omega
    · rw [List.erase_of_not_mem hm] at hb
      omega
theorem KeptOk.le {ks : List Prt} (h : KeptOk ks) {c : Int} (hc : ∀ q ∈ ks, q.ct = c) (h0 : 0 ≤ c) : (ks.length : Int) ≤ c := by
  have := nodup_below c.toNat (ks.map (·.ix)) h.nd (fun i hi => by
    obtain ⟨q, hq, rfl⟩ := List.mem_map.1 hi
    have := prtE_ok (h.good q hq).2
    have := hc q hq
    omega)
  rw [List.length_map] at this
  omega
/-- The data at a place. -/
def daAt (ks : List Prt) (i : Nat) : List UInt8 := ((ks.find? (fun q => q.ix == (i : Int))).map (·.da)).getD []
/-- The parts that are there, as the document joins them. -/
def whole (ks : List Prt) : List UInt8 := (List.range ks.length).flatMap fun (i : Nat) => (ks.filter (fun q => q.ix == (i : Int))).flatMap (·.da)
theorem filter_one {i : Int} : ∀ {ks : List Prt}, (ks.map (·.ix)).Nodup → (ks.filter (fun q => q.ix == i)).flatMap (·.da) = ((ks.find? (fun q => q.ix == i)).map (·.da)).getD []
  | [], _ => rfl
  | q :: ks, h => by
    rw [List.map_cons, List.nodup_cons] at h
    by_cases hq : q.ix = i
    · have hno : ks.filter (fun q => q.ix == i) = [] := by
        rw [List.filter_eq_nil_iff]
        intro r hr hc
        exact h.1 (List.mem_map.2 ⟨r, hr, (by simpa using hc : r.ix = i).trans hq.symm⟩)
      simp [hq, hno]
    · have hb : (q.ix == i) = false := by simpa using hq
      rw [List.filter_cons, List.find?_cons, hb]
      exact filter_one h.2
theorem whole_eq {ks : List Prt} (h : KeptOk ks) : whole ks = (List.range ks.length).flatMap (daAt ks) := by
  unfold whole daAt
  congr 1
  funext i
  exact filter_one h.nd

/-! ### Arrivals, letters -/
structure Arr where
  pt : Prt
  kd : UInt8
  to : UInt64
  tk : Int
  ma : Y16
structure Ltr where
  to : UInt64
  id : UInt64
  tk : Int
  tx : List UInt8
/-- Does it belong to the message x? -/
def mine (x : UInt64 × UInt64) (a : Arr) : Bool := a.kd == 2 && a.pt.kd == 1 && a.to == x.1 && a.pt.id == x.2
/-- What is kept of the message x. -/
def keptBy (as : List Arr) (x : UInt64 × UInt64) : List Prt := tksK pid x.2 [] ((as.filter (mine x)).map (·.pt))
/-- The letter that one more arrival makes. -/
def ltrOf (as : List Arr) (a : Arr) : List Ltr :=
  if a.kd = 2 ∧ a.pt.kd = 1 ∧ tkE pid a.pt.id (keptBy as (a.to, a.pt.id)) a.pt = 0 ∧ ((keptBy as (a.to, a.pt.id)).length : Int) + 1 = a.pt.ct then [⟨a.to, a.pt.id, a.tk, whole (keptBy as (a.to, a.pt.id) ++ [a.pt])⟩] else []
def ltrs (as : List Arr) (k : Nat) : List Ltr := (List.range k).flatMap fun i => match as[i]? with | some a => ltrOf (as.take i) a | none => []
theorem ltrs_succ (as : List Arr) (k : Nat) (a : Arr) (h : as[k]? = some a) : ltrs as (k + 1) = ltrs as k ++ ltrOf (as.take k) a := by
  unfold ltrs
  rw [List.range_succ, List.flatMap_append]
  simp [h]
theorem keptOk_by (as : List Arr) (x : UInt64 × UInt64) : KeptOk (keptBy as x) := keptOk_all _ keptOk_nil
theorem keptBy_succ (as : List Arr) (x : UInt64 × UInt64) (a : Arr) : keptBy (as ++ [a]) x = if mine x a then tkK pid x.2 (keptBy as x) a.pt else keptBy as x := by
  unfold keptBy
  rw [List.filter_append, List.map_append]
  by_cases h : mine x a = true
  · rw [if_pos h]
    simp only [List.filter_cons, h, if_true, List.filter_nil, List.map_cons, List.map_nil]
    exact tksK_snoc pid _ _ _ _
  · rw [if_neg h]
    simp [h]
end Go.Proofs.YtkibgdigcgakfabGreat
