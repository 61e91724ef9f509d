/-
  The parts of a message, in whatever order, some of them twice, are one letter: in plain lists.
-/
import Derived.Test.YtkibgdigcgakfabGreatLetP
namespace Go.Proofs.YtkibgdigcgakfabGreat
open Go.RowKit

def pieceOf (msg : List UInt8) (i : Nat) : List UInt8 := (msg.drop (i * 450)).take 450
def cntOf (n : Nat) : Nat := if n = 0 then 1 else (n + 449) / 450
def splitA (id : UInt64) (msg : List UInt8) (i : Nat) : Prt := ⟨1, id, i, cntOf msg.length, pieceOf msg i⟩
def splitP (id : UInt64) (msg : List UInt8) : List Prt := (List.range (cntOf msg.length)).map (splitA id msg)
theorem pieces_take (msg : List UInt8) : ∀ n, (List.range n).flatMap (pieceOf msg) = msg.take (n * 450)
  | 0 => by simp
  | n + 1 => by
    rw [List.range_succ, List.flatMap_append, pieces_take msg n, show (n + 1) * 450 = n * 450 + 450 by omega, List.take_add]
    simp [pieceOf]
theorem cntOf_le {n : Nat} (h : n ≤ 7200) : 1 ≤ cntOf n ∧ cntOf n ≤ 16 ∧ n ≤ cntOf n * 450 := by
  unfold cntOf
  split <;> omega
theorem cover_le : ∀ (n : Nat) (l : List Int), (∀ i : Nat, i < n → (i : Int) ∈ l) → n ≤ l.length
  | 0, _, _ => Nat.zero_le _
  | n + 1, l, h => by
    have hn := h n (by omega)
    have := cover_le n (l.erase (n : Int)) (fun i hi => (List.mem_erase_of_ne (by omega)).2 (h i (by omega)))
    rw [List.length_erase_of_mem hn] at this
    have := List.length_pos_of_mem hn
    omega
theorem cover_all {n : Nat} {l : List Int} (hn : l.Nodup) (hb : ∀ i ∈ l, 0 ≤ i ∧ i < n) (hl : l.length = n) (i : Nat) (hi : i < n) : (i : Int) ∈ l := by
  by_cases hm : (i : Int) ∈ l
  · exact hm
  · have := nodup_below n ((i : Int) :: l) (List.nodup_cons.2 ⟨hm, hn⟩) (fun j hj => by
      rcases List.mem_cons.1 hj with rfl | hj
      · omega
      · exact hb j hj)
    rw [List.length_cons] at this
    omega
section
variable {id : UInt64} {msg : List UInt8} (hm : msg.length ≤ 7200)
include hm
theorem split_ok {p : Prt} (h : p ∈ splitP id msg) : ∃ i : Nat, i < cntOf msg.length ∧ p = splitA id msg i ∧ prtE p = 0 := by
  obtain ⟨i, hi, rfl⟩ := List.mem_map.1 h
  have hi' := List.mem_range.1 hi
  obtain ⟨h1, h2, _⟩ := cntOf_le hm
  refine ⟨i, hi', rfl, ?_⟩
  have hl : (pieceOf msg i).length ≤ 450 := by
    unfold pieceOf
    rw [List.length_take]
    omega
  unfold prtE splitA
  rw [if_neg (show ¬ ((1 : UInt8) < 1 ∨ 3 < (1 : UInt8)) by decide), if_neg (show ¬ 450 < (pieceOf msg i).length by omega)]
  rw [if_neg (by show ¬ ((cntOf msg.length : Int) < 1 ∨ 16 < (cntOf msg.length : Int) ∨ (i : Int) < 0 ∨ (cntOf msg.length : Int) ≤ (i : Int)); omega)]
  simp
theorem split_whole {ks : List Prt} (hk : KeptOk ks) (hs : ∀ q ∈ ks, q ∈ splitP id msg) (hl : ks.length = cntOf msg.length) : whole ks = msg := by
  have hb : ∀ i ∈ ks.map (·.ix), 0 ≤ i ∧ i < ((cntOf msg.length : Nat) : Int) := by
    intro i hi
    obtain ⟨q, hq, rfl⟩ := List.mem_map.1 hi
    obtain ⟨j, hj, rfl, _⟩ := split_ok hm (hs q hq)
    show 0 ≤ (j : Int) ∧ (j : Int) < _
    omega
  rw [whole_eq hk, hl]
  have e : ∀ i ∈ List.range (cntOf msg.length), daAt ks i = pieceOf msg i := by
    intro i hi
    have hi' := List.mem_range.1 hi
    have hin := cover_all hk.nd hb (by rw [List.length_map]; exact hl) i hi'
    obtain ⟨q, hq, hqi⟩ := List.mem_map.1 hin
    unfold daAt
    cases hf : ks.find? (fun q => q.ix == (i : Int)) with
    | none =>
      have := List.find?_eq_none.1 hf q hq
      exact absurd hqi (by simpa using this)
    | some r =>
      have hr := List.mem_of_find?_eq_some hf
      have hri := List.find?_some hf
      obtain ⟨j, hj, rfl, _⟩ := split_ok hm (hs r hr)
      have : (j : Int) = (i : Int) := by simpa [splitA] using hri
      obtain rfl : j = i := by omega
      rfl
  have e2 : (List.range (cntOf msg.length)).flatMap (daAt ks) = (List.range (cntOf msg.length)).flatMap (pieceOf msg) := by
    rw [List.flatMap_def, List.flatMap_def, List.map_congr_left e]
  rw [e2, pieces_take, List.take_of_length_le (cntOf_le hm).2.2]
/-- **The plain law.** -/
theorem once_plain {ps : List Prt} (h1 : ∀ p ∈ ps, p ∈ splitP id msg) (h2 : ∀ p ∈ splitP id msg, p ∈ ps) {as : List Arr} {z : Y16} (ha : ∀ (i : Nat) p, ps[i]? = some p → as[i]? = some ⟨p, 2, 4, i, z⟩) :
    ∃ t : Nat, t < ps.length ∧ ltrs as ps.length = [⟨4, id, t, msg⟩] := by
  have hc := cntOf_le hm
  have H : ∀ k, k ≤ ps.length → (∀ q ∈ keptBy (as.take k) (4, id), q ∈ splitP id msg) ∧ (∀ j, j < k → ∀ p, ps[j]? = some p → p.ix ∈ (keptBy (as.take k) (4, id)).map (·.ix)) ∧
      (((keptBy (as.take k) (4, id)).length < cntOf msg.length ∧ ltrs as k = []) ∨ ((keptBy (as.take k) (4, id)).length = cntOf msg.length ∧ ∃ t : Nat, t < k ∧ ltrs as k = [⟨4, id, t, msg⟩])) := by
    intro k
    induction k with
    | zero => exact fun _ => ⟨by simp [keptBy, tksK], by omega, .inl ⟨by simp [keptBy, tksK]; omega, rfl⟩⟩
    | succ k ih =>
      intro hk
      obtain ⟨i1, i2, i3⟩ := ih (by omega)
      have hp : ps[k]? = some (ps[k]'(by omega)) := List.getElem?_eq_getElem _
      have hmem : ps[k]'(by omega) ∈ splitP id msg := h1 _ (List.getElem_mem _)
      generalize ps[k]'(by omega) = p at hp hmem
      have hak := ha k p hp
      obtain ⟨i, hi, hpi, hp0⟩ := split_ok hm hmem
      have hpid : p.id = id := by rw [hpi]; rfl
      have hpkd : p.kd = 1 := by rw [hpi]; rfl
      have hpix : p.ix = (i : Int) := by rw [hpi]; rfl
      have hpct : p.ct = (cntOf msg.length : Nat) := by rw [hpi]; rfl
      have hmine : mine (4, id) ⟨p, 2, 4, k, z⟩ = true := by simp [mine, hpid, hpkd]
      have htake : as.take (k + 1) = as.take k ++ [⟨p, 2, 4, k, z⟩] := by
        rw [List.take_add_one, hak]
        rfl
      have hks := keptBy_succ (as.take k) (4, id) ⟨p, 2, 4, k, z⟩
      rw [← htake, if_pos hmine] at hks
      have hl := ltrs_succ as k _ hak
      have hok := keptOk_by (as.take k) (4, id)
      have hok' := keptOk_by (as.take (k + 1)) (4, id)
      have hct : ∀ q ∈ keptBy (as.take k) (4, id), q.ct = (cntOf msg.length : Nat) := fun q hq => by
        obtain ⟨j, _, rfl, _⟩ := split_ok hm (i1 q hq)
        rfl
      by_cases hin : (i : Int) ∈ (keptBy (as.take k) (4, id)).map (·.ix)
      · have hE : tkE pid id (keptBy (as.take k) (4, id)) p ≠ 0 := by
          intro h0
          obtain ⟨q, hq, hqi⟩ := List.mem_map.1 hin
          exact ((tkE_zero h0).2.2.2 q hq).2 (hqi.trans hpix.symm)
        have hkk : keptBy (as.take (k + 1)) (4, id) = keptBy (as.take k) (4, id) := by
          rw [hks, tkK, if_neg hE]
        have hno : ltrOf (as.take k) ⟨p, 2, 4, k, z⟩ = [] := by
          unfold ltrOf
          rw [if_neg]
          rintro ⟨_, _, h3, _⟩
          rw [hpid] at h3
          exact hE h3
        rw [hkk, hl, hno, List.append_nil]
        refine ⟨i1, fun j hj q hq => ?_, ?_⟩
        · rcases Nat.lt_or_ge j k with hjk | hjk
          · exact i2 j hjk q hq
          · obtain rfl : j = k := by omega
            obtain rfl : q = p := Option.some.inj (hq.symm.trans hp)
            rw [hpix]
            exact hin
        · rcases i3 with h | ⟨h, t, ht, e⟩
          · exact .inl h
          · exact .inr ⟨h, t, by omega, e⟩
      · have hE : tkE pid id (keptBy (as.take k) (4, id)) p = 0 := by
          unfold tkE
          rw [if_neg (by rintro (h | h) <;> first | exact h hpkd | exact h hp0), if_neg (by rw [hpid]; exact fun h => h rfl), if_neg]
          intro hany
          obtain ⟨q, hq, hb⟩ := List.any_eq_true.1 hany
          simp only [Bool.or_eq_true, bne_iff_ne, beq_iff_eq] at hb
          rcases hb with hb | hb
          · exact hb ((hct q hq).trans hpct.symm)
          · exact hin (List.mem_map.2 ⟨q, hq, hb.trans hpix⟩)
        have hkk : keptBy (as.take (k + 1)) (4, id) = keptBy (as.take k) (4, id) ++ [p] := by
          rw [hks, tkK, if_pos hE]
        have hsub : ∀ q ∈ keptBy (as.take (k + 1)) (4, id), q ∈ splitP id msg := by
          rw [hkk]
          intro q hq
          rcases List.mem_append.1 hq with hq | hq
          · exact i1 q hq
          · obtain rfl : q = p := by simpa using hq
            exact hmem
        have hle := hok'.le (c := (cntOf msg.length : Nat)) (fun q hq => by
          obtain ⟨j, _, rfl, _⟩ := split_ok hm (hsub q hq)
          rfl) (by omega)
        have hlen : (keptBy (as.take (k + 1)) (4, id)).length = (keptBy (as.take k) (4, id)).length + 1 := by rw [hkk]; simp
        have hlt : (keptBy (as.take k) (4, id)).length < cntOf msg.length := by omega
        have i3' : ltrs as k = [] := by
          rcases i3 with h | ⟨h, _⟩
          · exact h.2
          · omega
        refine ⟨hsub, fun j hj q hq => ?_, ?_⟩
        · rw [hkk, List.map_append, List.mem_append]
          rcases Nat.lt_or_ge j k with hjk | hjk
          · exact .inl (i2 j hjk q hq)
          · obtain rfl : j = k := by omega
            obtain rfl : q = p := Option.some.inj (hq.symm.trans hp)
            exact .inr (by simp)
        · rw [hl, i3', List.nil_append]
          by_cases hfull : (keptBy (as.take k) (4, id)).length + 1 = cntOf msg.length
          · refine .inr ⟨by omega, k, by omega, ?_⟩
            unfold ltrOf
            rw [if_pos ⟨rfl, hpkd, by rw [hpid]; exact hE, by rw [hpid, hpct]; exact_mod_cast hfull⟩, hpid, ← hkk, split_whole hm hok' hsub (by omega)]
          · refine .inl ⟨by omega, ?_⟩
            unfold ltrOf
            rw [if_neg]
            rintro ⟨_, _, _, h4⟩
            rw [hpid, hpct] at h4
            exact hfull (by exact_mod_cast h4)
  obtain ⟨_, j2, j3⟩ := H ps.length (Nat.le_refl _)
  rcases j3 with ⟨h, _⟩ | ⟨_, h⟩
  · have := cover_le (cntOf msg.length) ((keptBy (as.take ps.length) (4, id)).map (·.ix)) (fun i hi => by
      have hin := h2 (splitA id msg i) (List.mem_map.2 ⟨i, List.mem_range.2 hi, rfl⟩)
      obtain ⟨j, hj⟩ := List.getElem?_of_mem hin
      exact j2 j (List.getElem?_eq_some_iff.1 hj).1 _ hj)
    rw [List.length_map] at this
    omega
  · exact h
end
end Go.Proofs.YtkibgdigcgakfabGreat
