/-
  Lemmas for the last text of this claim (part 20 of 20).
-/
import Derived.BigQuiet
import Derived.BigRegion
import Derived.ChangeOld
import Derived.Deep.RegionWith
import Derived.DeepKeys4
import Derived.JoinedCond
import Derived.LaidMore
import Derived.Laws.CopyOwn
import Derived.Laws.Externs
import Derived.Laws.IdiomStrings
import Derived.Laws.Tables
import Derived.Lib.AppendStr
import Derived.Lib.AppendZerosOnto
import Derived.Lib.Mul64
import Derived.Lib.SlBytesConst
import Derived.LoopN
import Derived.Maps.OwnSet
import Derived.OpenShut
import Derived.OrdersHeld
import Derived.ProofKit
import Derived.Shelf.Spec.BitsCarry
import Derived.ShutString
import Derived.Test.YtkibgdigcgakfabGreatProg
import Derived.Test.YtkibgdigcgakfabGreatRows
import Derived.WalkKit
import Derived.WalkLawsBesides
import Derived.WalkSpells
import Derived.Test.YtkibgdigcgakfabGreatPC
import Derived.Test.YtkibgdigcgakfabGreatPD
import Derived.Test.YtkibgdigcgakfabGreatPJ
import Derived.Test.YtkibgdigcgakfabGreatPM
open List renaming getElem?_eq_getElem → Qmw, getD_eq_getElem?_getD → QmA, length_map → QmD, nil_append → QmN, getElem?_eq_some_iff → QmO, getElem?_map → QmR, take_of_length_le → QmT, mem_cons → QmV, length_take → QmW, getElem?_take → Qm4, mem_map → Qm5, take_append_drop → Qm9, length_drop → Qnb, range → Qnf, getElem?_eq_none → Qnh, length_cons → Qnl, mem_of_getElem? → Qno, getElem?_range → Qns, getElem?_drop → Qnv
open Nat renaming le_refl → Qmx, lt_or_ge → Qnk
open Option renaming map_some → Qnp, getD_some → Qnz
open UInt8 renaming ofNat → QmJ, toNat_ofNat' → Qnc
namespace Go.Proofs.YtkibgdigcgakfabGreat
open Go.ChangeShapes Go.WideShapes Go.ChangeAt Go.RowKit
end Go.Proofs.YtkibgdigcgakfabGreat
namespace Go.Proofs.YtkibgdigcgakfabGreat
open Go.ChangeShapes Go.WideShapes Go.ChangeAt Go.RowKit
open _root_.Go.Proofs.YtkibgdigcgakfabGreat.Rows (uptoBulk uptoBulkAll uptoSmall)
theorem QgZ {H : Type} (d : DataW H) : 1 ≤ uptoBulk d := by
 cases d with
 | lit l => cases l <;> simp [uptoBulk]
 | _ => simp [uptoBulk]
theorem Qdv {H : Type} {d : DataW H} {l : List (DataW H)} (h : d ∈ l) : uptoBulk d ≤ uptoBulkAll l := by
 induction l with
 | nil => cases h
 | cons x r ih =>
   simp only [uptoBulkAll]
   cases QmV.1 h with
   | inl e => subst e; omega
   | inr e => have := ih e; omega
theorem QeV {H : Type} (l : List (DataW H)) : l.length ≤ uptoBulkAll l := by
 induction l with
 | nil => simp [uptoBulkAll]
 | cons x r ih => have := QgZ x; simp only [uptoBulkAll, Qnl]; omega
theorem QfB {H : Type} {l : List (DataW H)} (hk : uptoSmall H l = true) : uptoBulkAll l ≤ 1048576 := of_decide_eq_true hk
section
variable {H : Type} {enc : TypeId × Value → H} {P : Program} {w : World} {base : Nat} {sp : Nat → Bool} {held : Bool}
theorem QgX {a : Addr} {c : List Value} (h : w.cells? base a 1 = some c) : ∃ u, c = [u] ∧ w.cell? a = some u := by
 have e0 : a.add 0 = a := by simp [Addr.add]
 unfold World.cells? at h
 split at h
 · simp only [List.range_succ, List.range_zero, QmN, List.mapM_cons, List.mapM_nil, e0] at h
   cases hcc : w.cell? a with
   | none => simp [hcc] at h
   | some u => simp [hcc] at h; exact ⟨u, h.symm, rfl⟩
 · cases h
theorem QdI {a : Addr} {u : Value} (h : w.cell? a = some u) : a.spot = none ∧ a.block < w.heap.size := by
 unfold World.cell? at h
 split at h
 · rename_i c t fz hc
   refine ⟨?_, (Array.getElem?_eq_some_iff.1 hc).1⟩
   cases hs : a.spot with
   | none => rfl
   | some x => simp [hs] at h
 · cases h
theorem Qhx {t e : TypeId} {fuel : Nat} {v : Value} {x : DataW H × List MemPlace} (ht : P.underlying t = some (.slice e)) (hc : P.cellsOf e = 1) (h : DataW.trod enc P w base sp held fuel t [v] = some x) :
 ∃ A n c, ∃ (vs : List Value) (xs : List (DataW H × List MemPlace)), v = .slice A n c ∧ n ≤ c ∧ c ≤ maxLen ∧ Rd w A n vs ∧ xs.length = n ∧
   (∀ (j : Nat) u, vs[j]? = some u → ∃ y f, xs[j]? = some y ∧ DataW.trod enc P w base sp held f e [u] = some y) ∧ uptoBulkAll (xs.map (·.1)) + 1 ≤ uptoBulk x.1 := by
 rcases DataW.trod_slice ht h with ⟨hcs, rfl⟩ | ⟨a, len, cap, elems, rest, n, rfl, hcs, rfl, hb, hl, hm, hlen, hel, hsp, hns⟩
 · obtain rfl : v = .slice none 0 0 := by simpa using hcs
   exact ⟨none, 0, 0, [], [], rfl, Qmx _, Nat.zero_le _, ⟨rfl, fun h => absurd h (by omega)⟩, rfl, fun j u hu => by simp at hu, by simp [uptoBulk, uptoBulkAll]⟩
 · obtain rfl : v = .slice (some a) len cap := by simpa using hcs
   have each : ∀ i, i < len → ∃ u y, w.cell? (a.add i) = some u ∧ elems[i]? = some y ∧ DataW.trod enc P w base sp held n e [u] = some y := by
    intro i hi
    have hE := hel i hi
    rw [hc, Nat.mul_one] at hE
    have hy : elems[i]? = some (elems[i]'(by omega)) := Qmw _
    rw [hy, Option.bind_eq_some_iff] at hE
    obtain ⟨c1, hc1, hy1⟩ := hE
    obtain ⟨u, rfl, hu⟩ := QgX hc1
    exact ⟨u, _, hu, hy, hy1⟩
   refine ⟨some a, len, cap, (Qnf len).map fun i => (w.cell? (a.add i)).getD undef, elems, rfl, hl, hm, ⟨by simp, fun h0 => ?_⟩, hlen, fun j u hu => ?_, ?_⟩
   · obtain ⟨u, y, hu, _, _⟩ := each 0 h0
     have e0 : a.add 0 = a := by simp [Addr.add]
     rw [e0] at hu
     obtain ⟨h1, h2⟩ := QdI hu
     obtain ⟨b, o, s⟩ := a
     simp only at h1
     subst h1
     refine ⟨b, o, rfl, h2, fun j v hv => ?_⟩
     rw [QmR] at hv
     have hj : j < len := by
      rcases Qnk j len with h | h
      · exact h
      · rw [Qnh (by simpa using h)] at hv
        cases hv
     obtain ⟨u', y', hu', _, _⟩ := each j hj
     rw [Qns hj] at hv
     simp only [Qnp, Option.some.injEq, hu', Qnz] at hv
     rw [← Qbj, hu', hv]
   · rw [QmR] at hu
     have hj : j < len := by
      rcases Qnk j len with h | h
      · exact h
      · rw [Qnh (by simpa using h)] at hu
        cases hu
     obtain ⟨u', y', hu', hy', ht'⟩ := each j hj
     rw [Qns hj] at hu
     simp only [Qnp, Option.some.injEq, hu', Qnz] at hu
     exact ⟨y', n, hy', hu ▸ ht'⟩
   · simp only [uptoBulk]
     omega
theorem Qfu {t e : TypeId} {fuel : Nat} {v : Value} {x : DataW H × List MemPlace} (ht : P.underlying t = some (.slice e)) (he : P.underlying e = some (.int .u8)) (hc : P.cellsOf e = 1) (h : DataW.trod enc P w base sp held fuel t [v] = some x) :
 ∃ A n c bs, v = .slice A n c ∧ n ≤ c ∧ c ≤ maxLen ∧ RdB w A n bs ∧ bs.length + 1 ≤ uptoBulk x.1 := by
 obtain ⟨A, n, c, vs, xs, rfl, h1, h2, h3, h4, h5, h6⟩ := Qhx ht hc h
 have hb : ∀ (j : Nat) u, vs[j]? = some u → ∃ b : UInt8, u = W8 b := by
  intro j u hu
  obtain ⟨y, f, _, hy⟩ := h5 j u hu
  obtain ⟨m, hm, rfl, hw⟩ := DataW.trod_int he hy
  obtain rfl : u = .int .u8 m := by simpa using hm
  have hr : 0 ≤ m ∧ m ≤ 255 := by simpa [Lit.wf, IntKind.min, IntKind.max, IntKind.signed, IntKind.bits] using hw
  exact ⟨QmJ m.toNat, by rw [W8, Qnc]; congr 1; omega⟩
 have hl : ∀ l : List Value, (∀ (j : Nat) u, l[j]? = some u → ∃ b : UInt8, u = W8 b) → ∃ bs : List UInt8, l = bs.map W8 := by
  intro l
  induction l with
  | nil => exact fun _ => ⟨[], rfl⟩
  | cons u l ih =>
    intro hl
    obtain ⟨b, rfl⟩ := hl 0 u rfl
    obtain ⟨bs, rfl⟩ := ih fun j v hv => hl (j + 1) v (by simpa using hv)
    exact ⟨b :: bs, rfl⟩
 obtain ⟨bs, rfl⟩ := hl vs hb
 refine ⟨A, n, c, bs, rfl, h1, h2, h3, ?_⟩
 have e1 : bs.length = n := by have := h3.1; simpa using this
 have e2 := QeV (xs.map (·.1))
 rw [QmD, h4] at e2
 omega
end
theorem QjA : Tryz.prog.cellsOf 5 = 1 := by kernel_rfl
section
variable {H : Type} {enc : TypeId × Value → H} {w : World} {base b0 : Nat} {sp : Nat → Bool} {held : Bool} {r : Reach}
end
end Go.Proofs.YtkibgdigcgakfabGreat
namespace Go.Proofs.YtkibgdigcgakfabGreat
open Go.ChangeShapes Go.WideShapes Go.ChangeAt Go.RowKit
open _root_.Go.Proofs.YtkibgdigcgakfabGreat.Rows (uptoBulk uptoBulkAll uptoSmall)
theorem QeJ {α β : Type} (f : α → Option β) : ∀ (l : List α) (ys : List β), l.mapM f = some ys → ys.length = l.length ∧ ∀ (i : Nat) x, l[i]? = some x → f x = ys[i]?
 | [], ys, h => by
   simp only [List.mapM_nil, pure, Option.some.injEq] at h
   subst h
   exact ⟨rfl, fun i x hx => by simp at hx⟩
 | a :: l, ys, h => by
   rw [List.mapM_cons] at h
   simp only [bind, Option.bind_eq_some_iff, pure, Option.some.injEq] at h
   obtain ⟨y, hy, ys', h', rfl⟩ := h
   obtain ⟨h1, h2⟩ := QeJ f l ys' h'
   refine ⟨by simp [h1], fun i x hx => ?_⟩
   cases i with
   | zero =>
     obtain rfl : a = x := by simpa using hx
     simpa using hy
   | succ i => simpa using h2 i x (by simpa using hx)
theorem QcX {w : World} {base k : Nat} {a : Addr} {cs : List Value} (h : w.cells? base a k = some cs) : cs.length = k ∧ ∀ i, i < k → w.cell? (a.add i) = cs[i]? := by
 unfold World.cells? at h
 split at h
 · obtain ⟨h1, h2⟩ := QeJ _ _ _ h
   exact ⟨by simpa using h1, fun i hi => h2 i i (by rw [Qns hi])⟩
 · cases h
theorem QbB {l : List Value} {i : Nat} {v : Value} (h : (l.drop i).take 1 = [v]) : l[i]? = some v := by
 have := congrArg (·[0]?) h
 simpa [Qm4, Qnv] using this
section
variable {H : Type} {enc : TypeId × Value → H} {P : Program} {w : World} {base b0 : Nat} {sp : Nat → Bool} {held : Bool} {r : Reach}
theorem QgB {α : Type} {F : α → List Value} {sz : Nat} (d0 : α) {G : α → Nat → Prop} {t e : TypeId} (ht : P.underlying t = some (.slice e)) (hc : P.cellsOf e = sz) (h0 : 0 < sz) (hF : ∀ x, (F x).length = sz) (hG : ∀ y m n, m ≤ n → G y m → G y n)
 (el : ∀ fuel cs x, DataW.trod enc P w base sp held fuel e cs = some x → ∃ y, cs = F y ∧ G y (uptoBulk x.1)) {fuel : Nat} {v : Value} {x : DataW H × List MemPlace} (h : DataW.trod enc P w base sp held fuel t [v] = some x) :
 ∃ A n c xs, v = .slice A n c ∧ n ≤ c ∧ RdF F sz d0 w A n xs ∧ n + 1 ≤ uptoBulk x.1 ∧ ∀ y ∈ xs, G y (uptoBulk x.1) := by
 rcases DataW.trod_slice ht h with ⟨hcs, rfl⟩ | ⟨a, len, cap, elems, rest, n, rfl, hcs, rfl, hb, hl, hm, hlen, hel, hsp, hns⟩
 · obtain rfl : v = .slice none 0 0 := by simpa using hcs
   exact ⟨none, 0, 0, [], rfl, Qmx _, Qg4 w, by simp [uptoBulk], by simp⟩
 · obtain rfl : v = .slice (some a) len cap := by simpa using hcs
   have each : ∀ i, ∃ y : α, i < len → (w.cells? base (a.add (i * sz)) sz = some (F y) ∧ G y (uptoBulkAll (elems.map (·.1)))) := by
    intro i
    by_cases hi : i < len
    · have hE := hel i hi
      rw [hc] at hE
      have hy : elems[i]? = some (elems[i]'(by omega)) := Qmw _
      rw [hy, Option.bind_eq_some_iff] at hE
      obtain ⟨c1, hc1, hy1⟩ := hE
      obtain ⟨y, rfl, hg⟩ := el _ _ _ hy1
      exact ⟨y, fun _ => ⟨hc1, hG _ _ _ (Qdv (Qm5.2 ⟨_, List.getElem_mem _, rfl⟩)) hg⟩⟩
    · exact ⟨d0, fun h => absurd h hi⟩
   obtain ⟨f, hf⟩ := Classical.axiomOfChoice each
   have hfl : ∀ j, j < len → ((Qnf len).map f).getD j d0 = f j := by
    intro j hj
    rw [QmA, QmR, Qns hj]
    rfl
   have e2 := QeV (elems.map (·.1))
   rw [QmD, hlen] at e2
   refine ⟨some a, len, cap, (Qnf len).map f, rfl, hl, ⟨by simp, fun h1 => ?_⟩, ?_, fun y hy => ?_⟩
   · have e0 : a.add (0 * sz) = a := by simp [Addr.add]
     have h00 := (QcX (hf 0 h1).1).2 0 h0
     rw [e0] at h00
     have e1 : a.add 0 = a := by simp [Addr.add]
     rw [e1, Qmw (by rw [hF]; exact h0)] at h00
     obtain ⟨h1, h2⟩ := QdI h00
     obtain ⟨b, o, s⟩ := a
     simp only at h1
     subst h1
     refine ⟨b, o, rfl, h2, fun j i v hj hv => ?_⟩
     rw [hfl j hj] at hv
     have hi : i < sz := by
      have := (QmO.1 hv).1
      rwa [hF] at this
     have := (QcX (hf j hj).1).2 i hi
     rw [Qbj, Qbj] at this
     rw [this]
     exact hv
   · simp only [uptoBulk]
     omega
   · obtain ⟨j, hj, rfl⟩ := Qm5.1 hy
     refine hG _ _ _ ?_ (hf j (List.mem_range.1 hj)).2
     simp only [uptoBulk]
     omega
end
section
variable {H : Type} {enc : TypeId × Value → H} {w : World} {base b0 : Nat} {sp : Nat → Bool} {held : Bool} {r : Reach}
theorem QeW {fuel i : Nat} {cs : List Value} {x : DataW H × List MemPlace} (h : DataW.trod enc Tryz.prog w base sp held fuel 3 ((cs.drop i).take (Tryz.prog.cellsOf 3)) = some x) : ∃ z : Int, cs[i]? = some (.int .i64 z) := by
 rw [show Tryz.prog.cellsOf 3 = 1 by kernel_rfl] at h
 obtain ⟨z, hz, _, _⟩ := DataW.trod_int Tryz.underlying3 h
 exact ⟨z, QbB hz⟩
theorem Qd5 {fuel i : Nat} {cs : List Value} {x : DataW H × List MemPlace} (h : DataW.trod enc Tryz.prog w base sp held fuel 5 ((cs.drop i).take (Tryz.prog.cellsOf 5)) = some x) : ∃ z : UInt8, cs[i]? = some (W8 z) := by
 rw [show Tryz.prog.cellsOf 5 = 1 by kernel_rfl] at h
 obtain ⟨z, hz, _, hw⟩ := DataW.trod_int Tryz.underlying5 h
 have hr : 0 ≤ z ∧ z ≤ 255 := by simpa [Lit.wf, IntKind.min, IntKind.max, IntKind.signed, IntKind.bits] using hw
 exact ⟨_, by rw [QbB hz, QaE z hr.1 (by omega)]⟩
theorem Qfe {fuel i : Nat} {cs : List Value} {x : DataW H × List MemPlace} (h : DataW.trod enc Tryz.prog w base sp held fuel 22 ((cs.drop i).take (Tryz.prog.cellsOf 22)) = some x) : ∃ z : UInt64, cs[i]? = some (W64 z) := by
 rw [show Tryz.prog.cellsOf 22 = 1 by kernel_rfl] at h
 obtain ⟨z, hz, _, hw⟩ := DataW.trod_int Tryz.underlying22 h
 have hr : 0 ≤ z ∧ z ≤ 18446744073709551615 := by simpa [Lit.wf, IntKind.min, IntKind.max, IntKind.signed, IntKind.bits] using hw
 exact ⟨_, by rw [QbB hz, Qat z hr.1 (by omega)]⟩
theorem Qhf {fuel i : Nat} {cs : List Value} {x : DataW H × List MemPlace} (h : DataW.trod enc Tryz.prog w base sp held fuel 76 ((cs.drop i).take (Tryz.prog.cellsOf 76)) = some x) : ∃ z : UInt32, cs[i]? = some (W32 z) := by
 rw [show Tryz.prog.cellsOf 76 = 1 by kernel_rfl] at h
 obtain ⟨z, hz, _, hw⟩ := DataW.trod_int Tryz.underlying76 h
 have hr : 0 ≤ z ∧ z ≤ 4294967295 := by simpa [Lit.wf, IntKind.min, IntKind.max, IntKind.signed, IntKind.bits] using hw
 exact ⟨_, by rw [QbB hz, Qar z hr.1 (by omega)]⟩
theorem Qg8 {fuel i : Nat} {cs : List Value} {x : DataW H × List MemPlace} (h : DataW.trod enc Tryz.prog w base sp held fuel 34 ((cs.drop i).take (Tryz.prog.cellsOf 34)) = some x) : ∃ K : Y16, (cs.drop i).take 16 = K.val.map W8 := by
 obtain ⟨xs, m, rfl, rfl, hl, hxl, he⟩ := DataW.trod_array Tryz.underlying34 h
 have hn : Tryz.prog.cellsOf 34 = 16 := by kernel_rfl
 rw [hn] at hl he
 have each : ∀ j, ∃ b : UInt8, j < 16 → ((cs.drop i).take 16)[j]? = some (W8 b) := by
  intro j
  by_cases hj : j < 16
  · have := he j hj
    rw [Qmw (by omega), show j * Tryz.prog.cellsOf 5 = j by rw [show Tryz.prog.cellsOf 5 = 1 by kernel_rfl, Nat.mul_one]] at this
    obtain ⟨b, hb⟩ := Qd5 this
    exact ⟨b, fun _ => hb⟩
  · exact ⟨0, fun h => absurd h hj⟩
 obtain ⟨f, hf⟩ := Classical.axiomOfChoice each
 refine ⟨⟨(Qnf 16).map f, by simp⟩, ?_⟩
 apply List.ext_getElem?
 intro j
 rcases Qnk j 16 with hj | hj
 · rw [hf j hj, QmR, QmR, Qns hj]
   rfl
 · rw [Qnh (by omega), Qnh (by simp; omega)]
theorem Qdd {cs : List Value} (k n : Nat) (h : cs.length = k + n) : cs = cs.take k ++ (cs.drop k).take n := by
 rw [QmT (l := cs.drop k) (by rw [Qnb]; omega)]
 exact (Qm9 k cs).symm
set_option maxRecDepth 100000 in
theorem Qfj {fuel : Nat} {cs : List Value} {x : DataW H × List MemPlace} (h : DataW.trod enc Tryz.prog w base sp held fuel 86 cs = some x) : ∃ y : Vst, cs = VC y := by
 obtain ⟨xs, m, rfl, rfl, hl, hxl, he⟩ := DataW.trod_struct Tryz.underlying86 h
 have hn : Tryz.prog.cellsOf 86 = 22 := by kernel_rfl
 have hC : Tryz.prog.cellsOf 78 = 20 := by kernel_rfl
 rw [hn] at hl
 have hxl3 : xs.length = 3 := hxl
 have g : ∀ i, i < 3 → xs[i]? = some (xs.getD i (.nil, [])) := fun i hi => by rw [QmA, Qmw (by omega)]; rfl
 have e0 : DataW.trod enc Tryz.prog w base sp held m 78 ((cs.drop 0).take (Tryz.prog.cellsOf 78)) = some (xs.getD 0 (.nil, [])) := (he 0 _ rfl).trans (g 0 (by omega))
 obtain ⟨id, hid⟩ := Qfe (i := 20) ((he 1 _ rfl).trans (g 1 (by omega)))
 obtain ⟨tk, htk⟩ := QeW (i := 21) ((he 2 _ rfl).trans (g 2 (by omega)))
 rw [hC, List.drop_zero] at e0
 obtain ⟨ys, k, rfl, hy0, hyl, hyl5, hye⟩ := DataW.trod_struct Tryz.underlying78 e0
 have hyl5' : ys.length = 5 := hyl5
 have g' : ∀ i, i < 5 → ys[i]? = some (ys.getD i (.nil, [])) := fun i hi => by rw [QmA, Qmw (by omega)]; rfl
 obtain ⟨kd, hkd⟩ := Qd5 (i := 0) ((hye 0 _ rfl).trans (g' 0 (by omega)))
 obtain ⟨fl, hfl⟩ := Qd5 (i := 1) ((hye 1 _ rfl).trans (g' 1 (by omega)))
 obtain ⟨dl, hdl⟩ := Qhf (i := 2) ((hye 2 _ rfl).trans (g' 2 (by omega)))
 obtain ⟨nx, hnx⟩ := Qfe (i := 3) ((hye 3 _ rfl).trans (g' 3 (by omega)))
 obtain ⟨ma, hma⟩ := Qg8 (i := 4) ((hye 4 _ rfl).trans (g' 4 (by omega)))
 refine ⟨⟨⟨kd, fl, dl, nx, ma⟩, id, tk⟩, ?_⟩
 have c4 : (cs.take 20).take 4 = [W8 kd, W8 fl, W32 dl, W64 nx] := by
  apply List.ext_getElem?
  intro i
  rw [Qm4]
  rcases i with _ | _ | _ | _ | i
  · rw [if_pos (by omega)]; exact hkd
  · rw [if_pos (by omega)]; exact hfl
  · rw [if_pos (by omega)]; exact hdl
  · rw [if_pos (by omega)]; exact hnx
  · rw [if_neg (by omega)]; rfl
 have e1 := Qdd (cs := cs) 20 2 (by omega)
 have e2 := Qdd (cs := cs.take 20) 4 16 (by rw [QmW]; omega)
 have e3 : (cs.drop 20).take 2 = [W64 id, .int .i64 tk] := by
  apply List.ext_getElem?
  intro i
  rw [Qm4]
  rcases i with _ | _ | i
  · rw [if_pos (by omega), Qnv]; exact hid
  · rw [if_pos (by omega), Qnv]; exact htk
  · rw [if_neg (by omega)]; rfl
 rw [c4, hma] at e2
 rw [e2, e3] at e1
 exact e1
set_option maxRecDepth 100000 in
theorem Qfn {v : Value} {d : DataW H} {pl : List MemPlace} (hval : Value.okWide Tryz.prog w r b0 45 v) (h : DataW.Trod enc Tryz.prog w base sp held 45 v d pl) :
 ∃ A n c xs B m e bs tk, v = .agg #[.slice A n c, .slice B m e, .int .i64 tk] ∧ n ≤ c ∧ RdF VC 22 vst0 w A n xs ∧ n + 1 ≤ uptoBulk d ∧ m ≤ e ∧ RdB w B m bs ∧ m + 1 ≤ uptoBulk d := by
 simp only [Value.okWide, Tryz.underlying45] at hval
 obtain ⟨cs, rfl, h2, _⟩ := hval
 obtain ⟨fuel, hf⟩ := h
 have hf' : DataW.trod enc Tryz.prog w base sp held fuel 45 cs.toList = some (d, pl) := hf
 obtain ⟨xs, m, rfl, hd, hl, hxl, he⟩ := DataW.trod_struct Tryz.underlying45 hf'
 have hn : Tryz.prog.cellsOf 45 = 3 := by kernel_rfl
 have hV : Tryz.prog.cellsOf 43 = 1 := by kernel_rfl
 have hB : Tryz.prog.cellsOf 23 = 1 := by kernel_rfl
 rw [hn] at hl
 have hxl3 : xs.length = 3 := hxl
 have g : ∀ i, i < 3 → xs[i]? = some (xs.getD i (.nil, [])) := fun i hi => by rw [QmA, Qmw (by omega)]; rfl
 have e0 : DataW.trod enc Tryz.prog w base sp held m 43 ((cs.toList.drop 0).take (Tryz.prog.cellsOf 43)) = some (xs.getD 0 (.nil, [])) := (he 0 _ rfl).trans (g 0 (by omega))
 have e1 : DataW.trod enc Tryz.prog w base sp held m 23 ((cs.toList.drop 1).take (Tryz.prog.cellsOf 23)) = some (xs.getD 1 (.nil, [])) := (he 1 _ rfl).trans (g 1 (by omega))
 obtain ⟨tk, htk⟩ := QeW (i := 2) ((he 2 _ rfl).trans (g 2 (by omega)))
 rw [hV] at e0
 rw [hB] at e1
 have hcs : cs = cs.toList.toArray := rfl
 generalize cs.toList = l at *
 match l, hl with
 | [a, b, c], _ =>
   have htk' : c = .int .i64 tk := by simpa using htk
   simp only [List.drop_zero, List.drop_succ_cons, List.take_succ_cons, List.take_zero] at e0 e1
   obtain ⟨A, n, cp, ys, ha, h1, h3, h4, _⟩ := QgB (F := VC) (sz := 22) vst0 (G := fun _ _ => True) Tryz.underlying43 (by kernel_rfl) (by omega) Qag (fun _ _ _ _ h => h) (fun _ _ _ h => (Qfj h).imp fun _ h => ⟨h, trivial⟩) e0
   obtain ⟨B, k, cp2, bs, hb', h5, h6, h7, h8⟩ := Qfu Tryz.underlying23 Tryz.underlying5 QjA e1
   have hbl := h7.len
   have b0 := Qdv (d := (xs.getD 0 (.nil, [])).1) (l := xs.map (·.1)) (Qm5.2 ⟨_, Qno (g 0 (by omega)), rfl⟩)
   have b1 := Qdv (d := (xs.getD 1 (.nil, [])).1) (l := xs.map (·.1)) (Qm5.2 ⟨_, Qno (g 1 (by omega)), rfl⟩)
   have hdd : d = .agg (xs.map (·.1)) := by simpa using (congrArg Prod.fst hd)
   refine ⟨A, n, cp, ys, B, k, cp2, bs, tk, by rw [hcs, ha, hb', htk'], h1, h3, ?_, h5, h7, ?_⟩
   · rw [hdd]
     simp only [uptoBulk]
     omega
   · rw [hdd]
     simp only [uptoBulk]
     omega
end
end Go.Proofs.YtkibgdigcgakfabGreat
