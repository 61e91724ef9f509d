/-
  shallotlaw06: CurveKeeps (under way).
-/
import Derived.Test.YtjohieongjnemaaCurveF
import Derived.Test.YtjohieongjnemaaCurveI
import Derived.Test.YtjohieongjnemaaKeeps
namespace Go.Proofs.Ytjohieongjnemaa
open Go.RowKit
open Go.BigFrame

theorem chain_one (us ks : List UInt8) : chainR us [ks] = (multB ks us, multE ks us) := by
  by_cases h : ks.length = 32 ∧ us.length = 32
  · have e : multQ ks (nb (readN us)) = multQ ks us := by rw [multQ, multQ, readN_nb _ (readN_P us)]
    have e1 : multE ks (nb (readN us)) = multE ks us := by
      unfold multE
      rw [e, if_pos ⟨h.1, nb_length _⟩, if_pos h]
    have e2 : multB ks (nb (readN us)) = multB ks us := by
      unfold multB
      rw [e, if_pos ⟨h.1, nb_length _⟩, if_pos h]
    rw [chainR, if_pos ⟨h.2, by simp [h.1]⟩, chainAt, e1, e2, chainAt]
    by_cases h0 : multE ks us = 0
    · rw [if_pos h0, h0]
    · rw [if_neg h0]
      have hq : multQ ks us = 0 := by
        unfold multE at h0
        rw [if_pos h] at h0
        by_cases hq : multQ ks us = 0
        · exact hq
        · rw [if_neg hq] at h0
          exact absurd rfl h0
      have : multB ks us = List.replicate 32 0 := by rw [multB, if_pos h, hq, nb_zeros]
      rw [this]
  · have h1 : multB ks us = List.replicate 32 0 := by rw [multB, if_neg h]
    have h2 : multE ks us = 2 := by rw [multE, if_neg h]
    rw [h1, h2, chainR, if_neg]
    rintro ⟨a, b⟩
    exact h ⟨b ks (by simp), a⟩
theorem parts_one {w : World} {g : Nat} {t : TypeId} {v1 : Value} {p1 : List UInt8} (hb : Blk w g t [v1]) (h1 : Part w (fun _ => False) v1 p1) : Parts w (fun _ => False) (some ⟨g, 0, none⟩) 1 [p1] := by
  refine ⟨[v1], ⟨rfl, fun _ => ⟨g, 0, rfl, hb.lt, fun j u hu => by rw [Nat.zero_add]; exact hb.cellD j hu⟩⟩, fun _ _ _ h => h, rfl, ?_⟩
  intro j v p hv hp
  match j with
  | 0 => cases hv; cases hp; exact h1
  | j + 1 => simp at hv
theorem spare_app (bs : List UInt8) : ∃ r, (spareB bs).map W8 = bs.map W8 ++ r := ⟨_, by rw [spareB, List.map_append]⟩
end Go.Proofs.Ytjohieongjnemaa
