/-
  Lemmas for the last text of this claim (part 10 of 20).
-/
import Derived.BigQuiet
import Derived.BigRegion
import Derived.ChangeOld
import Derived.Deep.RegionWith
import Derived.DeepKeys4
import Derived.JoinedCond
import Derived.LaidMore
import Derived.Laws.CopyOwn
import Derived.Laws.Externs
import Derived.Laws.IdiomStrings
import Derived.Laws.Tables
import Derived.Lib.AppendStr
import Derived.Lib.AppendZerosOnto
import Derived.Lib.Mul64
import Derived.Lib.SlBytesConst
import Derived.LoopN
import Derived.Maps.OwnSet
import Derived.OpenShut
import Derived.OrdersHeld
import Derived.ProofKit
import Derived.Shelf.Spec.BitsCarry
import Derived.ShutString
import Derived.Test.YtkibgdigcgakfabGreatProg
import Derived.Test.YtkibgdigcgakfabGreatRows
import Derived.WalkKit
import Derived.WalkLawsBesides
import Derived.WalkSpells
import Derived.Test.YtkibgdigcgakfabGreatPD
import Derived.Test.YtkibgdigcgakfabGreatPE
import Derived.Test.YtkibgdigcgakfabGreatPF
import Derived.Test.YtkibgdigcgakfabGreatPH
import Derived.Test.YtkibgdigcgakfabGreatPI
open Bool renaming and_eq_true → QmH
open List renaming getElem?_eq_getElem → Qmw, map_toArray → Qmy, getD_eq_getElem?_getD → QmA, replicate → QmC, length_map → QmD, map_nil → QmG, getElem?_eq_some_iff → QmO, length_append → QmP, map_cons → QmQ, getElem?_map → QmR, getElem?_append_left → QmS, take_of_length_le → QmT, mem_cons → QmV, getElem?_append_right → QmX, eq_nil_of_length_eq_zero → Qm6, length_replicate → Qni, length_cons → Qnl, all_cons → Qnm, all_eq_true → Qnt
open Nat renaming le_refl → Qmx, lt_of_lt_of_le → QmL, zero_add → QmU, le_trans → Qm8, mod_lt → Qny
open Option renaming map_some → Qnp
open UInt8 renaming toNat_inj → Qm7
namespace Go.Proofs.YtkibgdigcgakfabGreat
open Go.RowKit
section
variable {α : Type}
theorem Qbu {F : α → List Value} {sz : Nat} (hF : ∀ x, (F x).length = sz) : ∀ xs : List α, (xs.flatMap F).length = xs.length * sz
 | [] => by simp
 | x :: xs => by rw [List.flatMap_cons, QmP, hF, Qbu hF xs, Qnl, Nat.add_mul]; omega
theorem QbV {F : α → List Value} {sz : Nat} (hF : ∀ x, (F x).length = sz) (d : α) {i : Nat} {v : Value} : ∀ (xs : List α) (j : Nat), j < xs.length → (F (xs.getD j d))[i]? = some v → (xs.flatMap F)[j * sz + i]? = some v
 | [], j, hj, _ => by simp at hj
 | x :: xs, 0, _, hv => by
   have hv' : (F x)[i]? = some v := by simpa using hv
   have hi : i < (F x).length := (QmO.1 hv').1
   rw [List.flatMap_cons, Nat.zero_mul, QmU, QmS hi]
   exact hv'
 | x :: xs, j + 1, hj, hv => by
   rw [List.flatMap_cons, QmX (by rw [hF, Nat.add_mul]; omega), hF]
   have := QbV hF d (i := i) xs j (by simpa using hj) (by simpa using hv)
   rw [show (j + 1) * sz + i - sz = j * sz + i by rw [Nat.add_mul]; omega]
   exact this
theorem Qhw {F : α → List Value} {sz : Nat} (hF : ∀ x, (F x).length = sz) (d : α) (h0 : 0 < sz) {q : Nat} {v : Value} {xs : List α} (h : (xs.flatMap F)[q]? = some v) : q / sz < xs.length ∧ (F (xs.getD (q / sz) d))[q % sz]? = some v := by
 have hq : q < xs.length * sz := by
  have := (QmO.1 h).1
  rwa [Qbu hF] at this
 have hj : q / sz < xs.length := (Nat.div_lt_iff_lt_mul h0).2 hq
 refine ⟨hj, ?_⟩
 have hr : q % sz < (F (xs.getD (q / sz) d)).length := by rw [hF]; exact Qny _ h0
 have e := QbV hF d xs (q / sz) hj (Qmw hr)
 rw [show q / sz * sz + q % sz = q by rw [Nat.mul_comm]; exact Nat.div_add_mod q sz, h] at e
 rw [Qmw hr, ← Option.some.inj e]
def RdF (F : α → List Value) (sz : Nat) (d : α) (w : World) (A : Option Addr) (n : Nat) (xs : List α) : Prop :=
 xs.length = n ∧ (0 < n → ∃ b o, A = some ⟨b, o, none⟩ ∧ b < w.heap.size ∧ ∀ j i v, j < n → (F (xs.getD j d))[i]? = some v → w.cell? ⟨b, o + j * sz + i, none⟩ = some v)
variable {F : α → List Value} {sz : Nat} {d : α} {w w' : World} {A : Option Addr} {n : Nat} {xs : List α}
theorem RdF.later (h : RdF F sz d w A n xs) (hl : Later w w') : RdF F sz d w' A n xs := by
 refine ⟨h.1, fun hn => ?_⟩
 obtain ⟨b, o, hA, hb, hc⟩ := h.2 hn
 exact ⟨b, o, hA, QmL hb hl.size, fun j i v hj hv => (hl.below.cell (p := ⟨b, o + j * sz + i, none⟩) hb).trans (hc j i v hj hv)⟩
theorem Qg4 (w : World) : RdF F sz d w none 0 [] := ⟨rfl, fun h => absurd h (by omega)⟩
theorem RdF.at_ (h : RdF F sz d w A n xs) {k : Nat} (hk : k < n) :
 ∃ b o, A = some ⟨b, o, none⟩ ∧ b < w.heap.size ∧ ∀ i v, (F (xs.getD k d))[i]? = some v → w.cell? ⟨b, o + k * sz + i, none⟩ = some v := by
 obtain ⟨b, o, hA, hb, hc⟩ := h.2 (by omega)
 exact ⟨b, o, hA, hb, fun i v hv => hc k i v hk hv⟩
theorem RdF.cells (hF : ∀ x, (F x).length = sz) (h0 : 0 < sz) {ad : Addr} (h : RdF F sz d w (some ad) n xs) : ∀ q v, (xs.flatMap F)[q]? = some v → w.cell? (ad.add q) = some v := by
 intro q v hv
 obtain ⟨hj, hi⟩ := Qhw hF d h0 hv
 rw [h.1] at hj
 obtain ⟨b, o, hA, _, hc⟩ := h.2 (Nat.lt_of_le_of_lt (Nat.zero_le _) hj)
 obtain rfl : ad = ⟨b, o, none⟩ := by simpa using hA
 rw [Qbj]
 have := hc _ _ _ hj hi
 rwa [Nat.add_assoc, show q / sz * sz + q % sz = q by rw [Nat.mul_comm]; exact Nat.div_add_mod q sz] at this
theorem QiY (hF : ∀ x, (F x).length = sz) {base c : Nat} {e : TypeId} (h : w.ownsRow base e sz (.slice A n c) n (xs.flatMap F)) (hn : xs.length = n) : RdF F sz d w A n xs := by
 refine ⟨hn, fun h0 => ?_⟩
 rcases h.2 with ⟨_, hz⟩ | ⟨g, cap, cur, hvv, hb, hh, hnc, hm, hs, ht⟩
 · omega
 · cases hvv
   refine ⟨g, 0, rfl, (h.lt g rfl).2, fun j i v hj hv => ?_⟩
   have hg := h.cells (g := g) rfl (j * sz + i) v (QbV hF d xs j (by omega) hv)
   rw [Qbj] at hg
   rw [QmU] at hg ⊢
   exact hg
theorem Qd4 (hF : ∀ x, (F x).length = sz) {g : Nat} {t : TypeId} (h : Blk w g t (xs.flatMap F)) (hn : xs.length = n) : RdF F sz d w (some ⟨g, 0, none⟩) n xs := by
 refine ⟨hn, fun _ => ⟨g, 0, rfl, h.lt, fun j i v hj hv => ?_⟩⟩
 rw [QmU]
 exact h.cellD _ (QbV hF d xs j (by omega) hv)
theorem QfD {base : Nat} {e : TypeId} {v : Value} {vs : List Value} (h : w.ownsRow base e sz v n vs) : ∃ A c, v = .slice A n c ∧ n ≤ c := by
 rcases h.2 with ⟨rfl, rfl⟩ | ⟨g, cap, cur, rfl, _, _, hnc, _⟩
 · exact ⟨none, 0, rfl, Qmx _⟩
 · exact ⟨_, _, rfl, hnc⟩
theorem Qbi {base : Nat} {e : TypeId} {v : Value} {vs : List Value} (h : w.ownsRow base e sz v n vs) (hl : Later w w') : w'.ownsRow base e sz v n vs :=
 h.kept (row := none) ⟨hl.below.os, hl.below.tape, hl.below.output, hl.size, fun k hk _ => hl.below.block k hk⟩ (by cases v.ownBlock <;> simp)
end
section
variable {P : Program} {ops : Array Oper} {rest : List Oper} {o : Oper} {a : Act} {w : World} {Q : Exit → Act → World → Prop} {α : Type} {F : α → List Value} {sz : Nat} {d : α}
theorem Qbq (hF : ∀ x, (F x).length = sz) (hF1 : ∀ x, ∀ u ∈ F x, u.oneCell' = true) (h0 : 0 < sz) (hgd : o.guard = none) (s x : Operand) (t : TypeId) (ho : o.op = .call { callee := .builtin .append, args := #[s, x], argTypes := #[t, t] })
 (e : TypeId) (z : Value) (bytes : Nat) (ht : P.underlying t = some (.slice e)) (hinfo : (P.info? e).map (fun i => (i.zero, i.size, i.bytes)) = some (some z, sz, bytes)) (hzs : z.cells.size = sz)
 (w0 : World) (v : Value) (n : Nat) (vs : List Value) (hown : w.ownsRow w0.heap.size e sz v n vs) (hl : Later w0 w)
 (A : Option Addr) (m c : Nat) (xs : List α) (hr : RdF F sz d w A m xs) (hs : a.eval s = v) (hx : a.eval x = .slice A m c) (hsz : (n + m) * bytes ≤ 140737488355328) (hby : 0 < bytes)
 (h : ∀ A' c' w', w'.ownsRow w0.heap.size e sz (.slice A' (n + m) c') (n + m) (vs ++ xs.flatMap F) → Later w0 w' → w.grownBy w' v.ownBlock → wpList P ops Q rest (a.put o.dst (.slice A' (n + m) c')) w') :
 wpList P ops Q (o :: rest) a w := by
 obtain ⟨i, hi, hz, hsize, hbytes⟩ := info_parts hinfo
 have hnm : n + m ≤ 140737488355328 := Qm8 (Nat.le_mul_of_pos_right _ hby) hsz
 have hmax : n + m ≤ maxLen := by unfold maxLen; omega
 have hfin : ∀ v' w', (Builtin.append_ #[t, t] o.type #[v, .slice A m c]).run P w = .ok v' w' → w'.ownsRow w0.heap.size e sz v' (n + m) (vs ++ xs.flatMap F) → w.grownBy w' v.ownBlock → wpList P ops Q (o :: rest) a w := by
  intro v' w' hrun hown' hg
  refine wpList_plain hgd fun K hK => ?_
  unfold Oper.wp execOp
  simp only [ho, resolve, invoke, builtin, Sem.run_bind, Sem.run_pure, Result.andThen_ok, Qmy, QmQ, QmG, hs, hx, hrun]
  have hlat : Later w0 w' := hl.grownBy hg (fun k hk => (hown.lt k hk).1)
  obtain ⟨A', c', rfl, _⟩ := QfD hown'
  exact hK _ _ (h A' c' w' hown' hlat hg)
 have hlen : (xs.flatMap F).length = m * sz := by rw [Qbu hF, hr.1]
 cases A with
 | some ad =>
   have h1 : ∀ u ∈ xs.flatMap F, u.oneCell' = true := by
    intro u hu
    obtain ⟨x, _, hx⟩ := List.mem_flatMap.1 hu
    exact hF1 x u hx
   obtain ⟨v', w', hrun, h2, h3, _⟩ := run_append_own (P := P) w w0.heap.size t o.type e i z sz bytes ht hi hz hsize hbytes hzs h0 v n vs hown ad m c _ hlen (hr.cells hF h0) h1 hmax hsz hl.size
   exact hfin v' w' hrun h2 h3
 | none =>
   have hm : m = 0 := by
    rcases Nat.eq_zero_or_pos m with h0 | h0
    · exact h0
    · obtain ⟨b, off, hA, _⟩ := hr.2 h0
      cases hA
   subst hm
   have hn : xs = [] := Qm6 hr.1
   subst hn
   have hrun : (Builtin.append_ #[t, t] o.type #[v, .slice none 0 c]).run P w = .ok v w := by
    rcases hown.2 with ⟨rfl, rfl⟩ | ⟨g, cap, cur, rfl, _, _, hnc, _⟩
    · simp [Builtin.append_, run_underlying ht, sizeOf, typeInfo, hi, Builtin.lenOf, Builtin.firstCells]
    · simp [Builtin.append_, run_underlying ht, sizeOf, typeInfo, hi, Builtin.lenOf, Builtin.firstCells, hnc, storeCells]
   exact hfin v w hrun (by simpa using hown) (World.grownBy.refl w _)
end
end Go.Proofs.YtkibgdigcgakfabGreat
namespace Go.Proofs.YtkibgdigcgakfabGreat
open Go.RowKit
section
variable {P : Program}
theorem Qfy {t e : TypeId} {sz : Nat} {z v : Value} {vs : List Value} (ht : P.underlying t = some (.slice e)) (hz : (P.info? e).map (fun i => (i.zero, i.size)) = some (some z, sz)) (hs0 : 0 < sz) (hsm : sz ≤ 65536) (hv : v.cells = vs.toArray) (hvl : vs.length = sz) (w : World) :
 (Instr.buildSlice t 1 #[(0, v)]).run P w = .ok (.slice (some ⟨w.heap.size, 0, none⟩) 1 1) (w.alloc (.cells vs.toArray e)) := by
 cases hi : P.info? e with
 | none => simp [hi] at hz
 | some i =>
   simp only [hi, Qnp, Option.some.injEq, Prod.mk.injEq] at hz
   obtain ⟨h1, h2⟩ := hz
   have hso : (sizeOf e).run P w = .ok sz w := by simp [sizeOf, typeInfo, hi, h2]
   have hzv : (zeroValue e).run P w = .ok z w := by simp [zeroValue, typeInfo, hi, h1]
   have hl : ((Array.range (1 * sz)).map fun x => z.cells[x % z.cells.size]!) = ((Array.range (1 * sz)).map fun x => z.cells[x % z.cells.size]!).toList.toArray := rfl
   have hll : ((Array.range (1 * sz)).map fun x => z.cells[x % z.cells.size]!).toList.length = sz := by simp
   have hf : Instr.fill (fun i => some (i * sz, sz)) ((Array.range (1 * sz)).map fun x => z.cells[x % z.cells.size]!) [(0, v)] = some vs.toArray := by
    rw [hl]
    rw [Qaw (vs := vs) (off := 0) hv (by rw [hvl, Nat.zero_mul]) (by rw [hll]; omega), Qbf, Qbk _ _ (by rw [hll, hvl])]
   unfold Instr.buildSlice
   simp only [Sem.run_bind, run_underlying ht, Result.andThen_ok, hso, Nat.one_mul]
   rw [if_neg (by omega), if_neg (by omega)]
   simp only [Nat.one_mul] at hf
   simp only [Sem.run_bind, hzv, Result.andThen_ok, Sem.run_pure, hf]
   simp [newRow]
end
section
variable {P : Program} {ops : Array Oper} {rest : List Oper} {o : Oper} {a : Act} {w : World} {Q : Exit → Act → World → Prop}
end
def RdK (sz : Nat) (w : World) (A : Option Addr) (n : Nat) (xs : List (List UInt8)) : Prop :=
 xs.length = n ∧ (0 < n → ∃ b o, A = some ⟨b, o, none⟩ ∧ b < w.heap.size ∧ ∀ j i v, j < n → ((xs.getD j []).map W8)[i]? = some v → w.cell? ⟨b, o + j * sz + i, none⟩ = some v)
theorem RdK.later {sz : Nat} {w w' : World} {A : Option Addr} {n : Nat} {xs : List (List UInt8)} (h : RdK sz w A n xs) (hl : Later w w') : RdK sz w' A n xs := by
 refine ⟨h.1, fun hn => ?_⟩
 obtain ⟨b, o, hA, hb, hc⟩ := h.2 hn
 exact ⟨b, o, hA, QmL hb hl.size, fun j i v hj hv => (hl.below.cell (p := ⟨b, o + j * sz + i, none⟩) hb).trans (hc j i v hj hv)⟩
theorem RdK.at_ {sz : Nat} {w : World} {A : Option Addr} {n : Nat} {xs : List (List UInt8)} (h : RdK sz w A n xs) {k : Nat} (hk : k < n) :
 ∃ b o, A = some ⟨b, o, none⟩ ∧ b < w.heap.size ∧ ∀ j v, ((xs.getD k []).map W8)[j]? = some v → w.cell? ⟨b, o + k * sz + j, none⟩ = some v := by
 obtain ⟨b, o, hA, hb, hc⟩ := h.2 (by omega)
 exact ⟨b, o, hA, hb, fun j v hv => hc k j v hk hv⟩
theorem RdK.sub {sz : Nat} {w : World} {A : Option Addr} {n : Nat} {xs : List (List UInt8)} (h : RdK sz w A n xs) {k : Nat} (hk : k < n) :
 ∃ b o, A = some ⟨b, o, none⟩ ∧ b < w.heap.size ∧ ∀ (w' : World), Later w w' → ∀ (off m : Nat) (r : List UInt8), subB (xs.getD k []) off m = r → ∀ j v, (r.map W8)[j]? = some v → w'.cell? ⟨b, o + k * sz + off + j, none⟩ = some v := by
 obtain ⟨b, o, hA, hb, hc⟩ := h.2 (by omega)
 refine ⟨b, o, hA, hb, fun w' hl off m r hr j v hv => ?_⟩
 rw [QmR, Option.map_eq_some_iff] at hv
 obtain ⟨x, hx, rfl⟩ := hv
 rw [← hr] at hx
 refine (hl.below.cell (p := ⟨b, o + k * sz + off + j, none⟩) hb).trans ?_
 have := hc k (off + j) (W8 x) hk (by rw [QmR, Qhy hx]; rfl)
 rwa [← Nat.add_assoc] at this
theorem Qb2 {w w' : World} {base g sz : Nat} {e t : TypeId} {v : Value} {n : Nat} {vs l : List Value} (hb : Blk w g t l) (h : w.ownsRow base e sz v n vs) (hne : t ≠ e) (hg : w.grownBy w' v.ownBlock) : Blk w' g t l := by
 refine (hg.block g hb.lt ?_).trans hb
 rcases h.2 with ⟨rfl, _⟩ | ⟨g2, c2, cur2, rfl, _, hh2, _⟩
 · simp [Value.ownBlock]
 · intro he
   simp only [Value.ownBlock, Option.some.injEq] at he
   subst he
   exact hb.ne_type (l' := cur2.toList) (t' := e) hh2 hne rfl
theorem QaT {w w' : World} {base k sz : Nat} {e t : TypeId} {v : Value} {n : Nat} {vs l : List Value} (h : w.ownsRow base e sz v n vs) (hb : Blk w k t l) (hne : t ≠ e) (ho : Only k w w') : w'.ownsRow base e sz v n vs := by
 refine h.kept ho ?_
 rcases h.2 with ⟨rfl, _⟩ | ⟨g2, c2, cur2, rfl, _, hh2, _⟩
 · exact .inl rfl
 · refine .inr fun he => ?_
   simp only [Value.ownBlock, Option.some.injEq] at he
   subst he
   exact hb.ne_type (l' := cur2.toList) (t' := e) hh2 hne rfl
theorem QcU {w w' : World} {b1 b2 s1 s2 : Nat} {e1 e2 : TypeId} {v1 v2 : Value} {n1 n2 : Nat} {x1 x2 : List Value} (h1 : w.ownsRow b1 e1 s1 v1 n1 x1) (h2 : w.ownsRow b2 e2 s2 v2 n2 x2) (hne : e1 ≠ e2) (hg : w.grownBy w' v2.ownBlock) :
 w'.ownsRow b1 e1 s1 v1 n1 x1 := by
 refine h1.kept hg ?_
 rcases h1.2 with ⟨rfl, _⟩ | ⟨g1, c1, cur1, rfl, _, hh1, _⟩
 · exact .inl rfl
 · right
   rcases h2.2 with ⟨rfl, _⟩ | ⟨g2, c2, cur2, rfl, _, hh2, _⟩
   · simp [Value.ownBlock]
   · intro hb
     simp only [Value.ownBlock, Option.some.injEq] at hb
     subst hb
     rw [hh1] at hh2
     injection hh2 with hh2
     injection hh2 with _ h
     exact hne h
theorem Bag.grown {w wk v' : World} {ls : List (Nat × TypeId × List Value)} {base sz : Nat} {e : TypeId} {v : Value} {n : Nat} {vs : List Value} (h : Bag w wk ls) (hown : wk.ownsRow base e sz v n vs) (hne : ∀ p ∈ ls, p.2.1 ≠ e) (hb : w.heap.size ≤ base) (hg : wk.grownBy v' v.ownBlock) : Bag w v' ls :=
 ⟨h.lat.grownBy hg (fun k hk => Qm8 hb (hown.lt k hk).1), fun p hp => Qb2 (h.blk p hp) hown (hne p hp) hg, h.low, h.nd⟩
end Go.Proofs.YtkibgdigcgakfabGreat
namespace Go.Proofs.YtkibgdigcgakfabGreat
open Go.RowKit
open Go.BigFrame
abbrev pz0 : List Value := [.int .u8 0, .int .u64 0, .int .i64 0, .int .i64 0, .slice none 0 0]
theorem QfM : (Tryz.prog.info? 32).bind (·.zero) = some (.agg (PaC prt0 (.slice none 0 0)).toArray) := by kernel_rfl
theorem QaM : (Tryz.prog.info? 32).map (·.size) = some 5 := by kernel_rfl
theorem Qah (p : Prt) (v : Value) : (PaC p v).length = 5 := rfl
theorem QbL (p : Prt) {v : Value} (h : v.oneCell' = true) : ∀ u ∈ PaC p v, u.oneCell' = true := by
 intro u hu
 simp only [PaC, QmV, List.not_mem_nil, or_false] at hu
 rcases hu with rfl | rfl | rfl | rfl | rfl <;> first | rfl | exact h
theorem QdY : Tryz.prog.built 32 [] = some (PaC prt0 (.slice none 0 0)).toArray := by
 rw [QaN (pl := [(0, 1), (1, 1), (2, 1), (3, 1), (4, 1)]) Tryz.underlying32 QfM (by kernel_rfl), Qbf]
theorem QfI (kd : UInt8) (id : UInt64) (ix ct : Int) : Tryz.prog.built 32 [(0, W8 kd), (1, W64 id), (2, .int .i64 ix), (3, .int .i64 ct)] = some (PaC ⟨kd, id, ix, ct, []⟩ (.slice none 0 0)).toArray := by
 rw [QaN (pl := [(0, 1), (1, 1), (2, 1), (3, 1), (4, 1)]) Tryz.underlying32 QfM (by kernel_rfl), Qaw (vs := [W8 kd]) (off := 0) rfl rfl (by simp [PaC]), Qaw (vs := [W64 id]) (off := 1) rfl rfl (by simp [PaC, Qan]), Qaw (vs := [.int .i64 ix]) (off := 2) rfl rfl (by simp [PaC, Qan]), Qaw (vs := [.int .i64 ct]) (off := 3) rfl rfl (by simp [PaC, Qan]), Qbf]
 rfl
theorem Qf2 (kd : UInt8) (ix ct : Int) : Tryz.prog.built 32 [(0, W8 kd), (2, .int .i64 ix), (3, .int .i64 ct)] = some (PaC ⟨kd, 0, ix, ct, []⟩ (.slice none 0 0)).toArray := by
 rw [QaN (pl := [(0, 1), (1, 1), (2, 1), (3, 1), (4, 1)]) Tryz.underlying32 QfM (by kernel_rfl), Qaw (vs := [W8 kd]) (off := 0) rfl rfl (by simp [PaC]), Qaw (vs := [.int .i64 ix]) (off := 2) rfl rfl (by simp [PaC, Qan]), Qaw (vs := [.int .i64 ct]) (off := 3) rfl rfl (by simp [PaC, Qan]), Qbf]
 rfl
section
variable {ops : Array Oper} {rest : List Oper} {o : Oper} {a : Act} {w : World} {Q : Exit → Act → World → Prop}
theorem Qam (hgd : o.guard = none) (hd : o.dst = none) (x y : Operand) (ho : o.op = .store 32 x y) {g : Nat} {t : TypeId} {l : List Value} {p : Prt} {v : Value} (hg : Blk w g t l) (hx : a.eval x = .pointer (some ⟨g, 0, none⟩)) (hy : a.eval y = .agg (PaC p v).toArray) (hv : v.oneCell' = true) (hl : l.length = 5)
 (h : ∀ w', Blk w' g t (PaC p v) → Only g w w' → wpList Tryz.prog ops Q rest a w') : wpList Tryz.prog ops Q (o :: rest) a w :=
 Qab hgd hd _ x y ho g t l _ hg hx hy 5 QaM rfl hl (QbL p hv) h
theorem QaV (hw : Region.wanted o (yielded ops a.tmps) = true) (x : Operand) (ho : o.op = .load 32 x) {g : Nat} {t : TypeId} {p : Prt} {v : Value} (hb : Blk w g t (PaC p v)) (hx : a.eval x = .pointer (some ⟨g, 0, none⟩))
 (h : wpList Tryz.prog ops Q rest (a.put o.dst (.agg (PaC p v).toArray)) w) : wpList Tryz.prog ops Q (o :: rest) a w :=
 Qaf hw _ x ho g 0 _ (fun j v hv => by rw [QmU]; exact hb.cellD _ hv) hx _ Tryz.underlying32 rfl (by rw [Qah]; exact QaM) h
end
theorem Qaq {w : World} {g : Nat} {t : TypeId} {p : Prt} {v : Value} (h : Blk w g t (PaC p v)) : w.cell? ⟨g, 0, none⟩ = some (W8 p.kd) ∧ w.cell? ⟨g, 1, none⟩ = some (W64 p.id) ∧ w.cell? ⟨g, 2, none⟩ = some (.int .i64 p.ix) ∧ w.cell? ⟨g, 3, none⟩ = some (.int .i64 p.ct) ∧ w.cell? ⟨g, 4, none⟩ = some v :=
 ⟨h.cellD 0 rfl, h.cellD 1 rfl, h.cellD 2 rfl, h.cellD 3 rfl, h.cellD 4 rfl⟩
theorem QeT (k : UInt8) : k = 1 ∨ k = 2 ∨ k = 3 ∨ (k < 1 ∨ 3 < k) := by
 have e1 : (1 : UInt8).toNat = 1 := rfl
 have e2 : (2 : UInt8).toNat = 2 := rfl
 have e3 : (3 : UInt8).toNat = 3 := rfl
 rw [UInt8.lt_iff_toNat_lt, UInt8.lt_iff_toNat_lt, ← Qm7, ← Qm7, ← Qm7]
 omega
theorem Qh4 (id : UInt64) (ix ct : Int) (da : List UInt8) : prtE ⟨1, id, ix, ct, da⟩ = if 450 < da.length then 2 else if ct < 1 ∨ 16 < ct ∨ ix < 0 ∨ ct ≤ ix then 3 else 0 := by
 rw [prtE, if_neg (show ¬ ((1 : UInt8) < 1 ∨ 3 < (1 : UInt8)) by decide)]
 simp
theorem QhP (id : UInt64) (ix ct : Int) (da : List UInt8) : prtE ⟨2, id, ix, ct, da⟩ = if 450 < da.length then 2 else if ct < 1 ∨ 16 < ct ∨ ix < 0 ∨ ct ≤ ix then 3 else if ct ≠ 1 then 3 else if id ≠ 0 ∨ da.length ≠ 0 then 3 else 0 := by
 rw [prtE, if_neg (show ¬ ((2 : UInt8) < 1 ∨ 3 < (2 : UInt8)) by decide)]
 simp
theorem Qib (id : UInt64) (ix ct : Int) (da : List UInt8) : prtE ⟨3, id, ix, ct, da⟩ = if 450 < da.length then 2 else if ct < 1 ∨ 16 < ct ∨ ix < 0 ∨ ct ≤ ix then 3 else if ct ≠ 1 then 3 else 0 := by
 rw [prtE, if_neg (show ¬ ((3 : UInt8) < 1 ∨ 3 < (3 : UInt8)) by decide)]
 simp
theorem QeO {p : Prt} (h : p.kd < 1 ∨ 3 < p.kd) : prtE p = 1 := by rw [prtE, if_pos h]
theorem Qgx {k : UInt8} (h : k < 1 ∨ 3 < k) : (k != 1) = true ∧ (k != 2) = true ∧ (k != 3) = true := by
 refine ⟨?_, ?_, ?_⟩ <;> (rw [bne_iff_ne]; rintro rfl; exact absurd h (by decide))
set_option maxRecDepth 100000 in
set_option maxHeartbeats 4000000 in
theorem Qdc (p : Prt) (A : Option Addr) (n c : Nat) (hn : p.da.length = n) (w : World) : Calls Tryz.prog 35 #[.agg (PaC p (.slice A n c)).toArray] w fun e w' => e = .returned (.int .i64 (prtE p : Nat)) ∧ Later w w' := by
 obtain ⟨kd, id, ix, ct, da⟩ := p
 simp only at hn
 have hb : Blk (w.alloc (.cells (PaC ⟨kd, id, ix, ct, da⟩ (.slice A n c)).toArray 32)) w.heap.size 32 (PaC ⟨kd, id, ix, ct, da⟩ (.slice A n c)) := Blk.new _ _ _
 obtain ⟨c0, c1, c2, c3, c4⟩ := Qaq hb
 have L := Qaa w (.cells (PaC ⟨kd, id, ix, ct, da⟩ (.slice A n c)).toArray 32)
 clear hb
 obtain ⟨E, hE⟩ : ∃ E, prtE ⟨kd, id, ix, ct, da⟩ = E := ⟨_, rfl⟩
 rw [hE]
 rcases QeT kd with rfl | rfl | rfl | hbad
 case inr.inr.inr =>
  have HE := hid (hE.symm.trans (QeO (p := ⟨kd, id, ix, ct, da⟩) hbad))
  clear hE
  rcases hbad with h | h
  · go_enter Tryz.func35, Tryz.ntmps35
    go_wp2_with fail
    go_ret
    exact ⟨by rw [HE.out]; rfl, L⟩
  · by_cases h1 : kd < 1
    all_goals
     go_enter Tryz.func35, Tryz.ntmps35
     go_wp2_with fail
     go_ret
     exact ⟨by rw [HE.out]; rfl, L⟩
 all_goals
  have HE := hE.symm.trans (by first | exact Qh4 id ix ct da | exact QhP id ix ct da | exact Qib id ix ct da)
  rw [hn] at HE
  replace HE := hid HE
  clear hE
  by_cases h2 : 450 < n
  · have hd : decide ((450 : Int) < (n : Int)) = true := decide_eq_true (by omega)
    replace HE := hid (HE.out.trans (if_pos h2))
    go_enter Tryz.func35, Tryz.ntmps35
    go_wp2_with fail
    go_ret
    exact ⟨by rw [HE.out]; rfl, L⟩
  have hd : decide ((450 : Int) < (n : Int)) = false := decide_eq_false (by omega)
  replace HE := hid (HE.out.trans (if_neg h2))
  by_cases h3 : ct < 1 ∨ 16 < ct ∨ ix < 0 ∨ ct ≤ ix
  · replace HE := hid (HE.out.trans (if_pos h3))
    by_cases k1 : ct < 1
    · go_enter Tryz.func35, Tryz.ntmps35
      go_wp2_with fail
      go_ret
      exact ⟨by rw [HE.out]; rfl, L⟩
    by_cases k2 : 16 < ct
    · go_enter Tryz.func35, Tryz.ntmps35
      go_wp2_with fail
      go_ret
      exact ⟨by rw [HE.out]; rfl, L⟩
    by_cases k3 : ix < 0
    · go_enter Tryz.func35, Tryz.ntmps35
      go_wp2_with fail
      go_ret
      exact ⟨by rw [HE.out]; rfl, L⟩
    have k4 : ct ≤ ix := by omega
    go_enter Tryz.func35, Tryz.ntmps35
    go_wp2_with fail
    go_ret
    exact ⟨by rw [HE.out]; rfl, L⟩
  replace HE := hid (HE.out.trans (if_neg h3))
  have k1 : ¬ ct < 1 := by omega
  have k2 : ¬ 16 < ct := by omega
  have k3 : ¬ ix < 0 := by omega
  have k4 : ¬ ct ≤ ix := by omega
  clear h3
 · go_enter Tryz.func35, Tryz.ntmps35
   go_wp2_with fail
   go_ret
   exact ⟨by rw [HE.out]; rfl, L⟩
 all_goals
  by_cases h4 : ct = 1
  case neg =>
   have hd4 : (ct != 1) = true := by simpa using h4
   replace HE := hid (HE.out.trans (if_pos h4))
   go_enter Tryz.func35, Tryz.ntmps35
   go_wp2_with fail
   go_ret
   exact ⟨by rw [HE.out]; rfl, L⟩
  subst h4
  replace HE := hid (HE.out.trans (if_neg (by simp)))
 · cases e1 : (id == 0)
   · have n1 : (id != 0) = true := by rw [bne, e1]; rfl
     have hne : id ≠ 0 := by simpa using e1
     replace HE := hid (HE.out.trans (if_pos (.inl hne)))
     go_enter Tryz.func35, Tryz.ntmps35
     go_wp2_with fail
     go_ret
     exact ⟨by rw [HE.out]; rfl, L⟩
   · have n1 : (id != 0) = false := by rw [bne, e1]; rfl
     have heq : id = 0 := by simpa using e1
     by_cases h5 : n = 0
     · replace HE := hid (HE.out.trans (if_neg (by simp [heq, h5])))
       have n2 : ((n : Int) != 0) = false := by simp [h5]
       clear h5 heq
       go_enter Tryz.func35, Tryz.ntmps35
       go_wp2_with fail
       go_ret
       exact ⟨by rw [HE.out]; rfl, L⟩
     · replace HE := hid (HE.out.trans (if_pos (.inr h5)))
       have n2 : ((n : Int) != 0) = true := by simp; omega
       clear h5 heq
       go_enter Tryz.func35, Tryz.ntmps35
       go_wp2_with fail
       go_ret
       exact ⟨by rw [HE.out]; rfl, L⟩
 · go_enter Tryz.func35, Tryz.ntmps35
   go_wp2_with fail
   go_ret
   exact ⟨by rw [HE.out]; rfl, L⟩
set_option maxRecDepth 100000 in
set_option maxHeartbeats 4000000 in
theorem Qfz (p : Prt) (A : Option Addr) (n c : Nat) (hn : p.da.length = n) (w : World) : Calls Tryz.prog 43 #[.agg (PaC p (.slice A n c)).toArray] w fun e w' => e = .returned (.int .i64 (prtE p : Nat)) ∧ Later w w' := by
 obtain ⟨kd, id, ix, ct, da⟩ := p
 simp only at hn
 have hb : Blk (w.alloc (.cells (PaC ⟨kd, id, ix, ct, da⟩ (.slice A n c)).toArray 32)) w.heap.size 32 (PaC ⟨kd, id, ix, ct, da⟩ (.slice A n c)) := Blk.new _ _ _
 obtain ⟨c0, c1, c2, c3, c4⟩ := Qaq hb
 have L := Qaa w (.cells (PaC ⟨kd, id, ix, ct, da⟩ (.slice A n c)).toArray 32)
 clear hb
 obtain ⟨E, hE⟩ : ∃ E, prtE ⟨kd, id, ix, ct, da⟩ = E := ⟨_, rfl⟩
 rw [hE]
 rcases QeT kd with rfl | rfl | rfl | hbad
 case inr.inr.inr =>
  have HE := hid (hE.symm.trans (QeO (p := ⟨kd, id, ix, ct, da⟩) hbad))
  clear hE
  obtain ⟨m1, m2, m3⟩ := Qgx hbad
  clear hbad
  go_enter Tryz.func43, Tryz.ntmps43
  go_wp2_with fail
  go_ret
  exact ⟨by rw [HE.out]; rfl, L⟩
 all_goals
  have HE := hE.symm.trans (by first | exact Qh4 id ix ct da | exact QhP id ix ct da | exact Qib id ix ct da)
  rw [hn] at HE
  replace HE := hid HE
  clear hE
  by_cases h2 : 450 < n
  · have hd : decide ((450 : Int) < (n : Int)) = true := decide_eq_true (by omega)
    replace HE := hid (HE.out.trans (if_pos h2))
    go_enter Tryz.func43, Tryz.ntmps43
    go_wp2_with fail
    go_ret
    exact ⟨by rw [HE.out]; rfl, L⟩
  have hd : decide ((450 : Int) < (n : Int)) = false := decide_eq_false (by omega)
  replace HE := hid (HE.out.trans (if_neg h2))
  by_cases h3 : ct < 1 ∨ 16 < ct ∨ ix < 0 ∨ ct ≤ ix
  · replace HE := hid (HE.out.trans (if_pos h3))
    by_cases k1 : ct < 1
    · go_enter Tryz.func43, Tryz.ntmps43
      go_wp2_with fail
      go_ret
      exact ⟨by rw [HE.out]; rfl, L⟩
    by_cases k2 : 16 < ct
    · go_enter Tryz.func43, Tryz.ntmps43
      go_wp2_with fail
      go_ret
      exact ⟨by rw [HE.out]; rfl, L⟩
    by_cases k3 : ix < 0
    · go_enter Tryz.func43, Tryz.ntmps43
      go_wp2_with fail
      go_ret
      exact ⟨by rw [HE.out]; rfl, L⟩
    have k4 : ct ≤ ix := by omega
    go_enter Tryz.func43, Tryz.ntmps43
    go_wp2_with fail
    go_ret
    exact ⟨by rw [HE.out]; rfl, L⟩
  replace HE := hid (HE.out.trans (if_neg h3))
  have k1 : ¬ ct < 1 := by omega
  have k2 : ¬ 16 < ct := by omega
  have k3 : ¬ ix < 0 := by omega
  have k4 : ¬ ct ≤ ix := by omega
  clear h3
 · go_enter Tryz.func43, Tryz.ntmps43
   go_wp2_with fail
   go_ret
   exact ⟨by rw [HE.out]; rfl, L⟩
 all_goals
  by_cases h4 : ct = 1
  case neg =>
   have hd4 : 1 < ct := by omega
   replace HE := hid (HE.out.trans (if_pos h4))
   go_enter Tryz.func43, Tryz.ntmps43
   go_wp2_with fail
   go_ret
   exact ⟨by rw [HE.out]; rfl, L⟩
  subst h4
  replace HE := hid (HE.out.trans (if_neg (by simp)))
 · cases e1 : (id == 0)
   · have n1 : (id != 0) = true := by rw [bne, e1]; rfl
     have hne : id ≠ 0 := by simpa using e1
     replace HE := hid (HE.out.trans (if_pos (.inl hne)))
     go_enter Tryz.func43, Tryz.ntmps43
     go_wp2_with fail
     go_ret
     exact ⟨by rw [HE.out]; rfl, L⟩
   · have n1 : (id != 0) = false := by rw [bne, e1]; rfl
     have heq : id = 0 := by simpa using e1
     by_cases h5 : n = 0
     · replace HE := hid (HE.out.trans (if_neg (by simp [heq, h5])))
       have n2 : decide (0 < (n : Int)) = false := decide_eq_false (by omega)
       have n3 : ¬ 0 < n := by omega
       clear h5 heq
       go_enter Tryz.func43, Tryz.ntmps43
       go_wp2_with fail
       go_ret
       exact ⟨by rw [HE.out]; rfl, L⟩
     · replace HE := hid (HE.out.trans (if_pos (.inr h5)))
       have n2 : decide (0 < (n : Int)) = true := decide_eq_true (by omega)
       have n3 : 0 < n := by omega
       clear h5 heq
       go_enter Tryz.func43, Tryz.ntmps43
       go_wp2_with fail
       go_ret
       exact ⟨by rw [HE.out]; rfl, L⟩
 · go_enter Tryz.func43, Tryz.ntmps43
   go_wp2_with fail
   go_ret
   exact ⟨by rw [HE.out]; rfl, L⟩
def allZ (bs : List UInt8) : Bool := bs.all (· == 0)
theorem QbO : ∀ (bs : List UInt8), allZ bs = true ↔ bs = QmC bs.length 0
 | [] => by simp [allZ]
 | b :: bs => by
   have ih := QbO bs
   rw [allZ] at ih
   rw [allZ, Qnm, QmH, ih, Qnl, List.replicate_succ, List.cons.injEq, beq_iff_eq]
theorem QgF {bs : List UInt8} {k : Nat} (hk : k < bs.length) (h : bs.getD k 0 ≠ 0) : allZ bs = false := by
 rw [allZ, List.all_eq_false]
 refine ⟨bs[k], List.getElem_mem hk, ?_⟩
 rw [QmA, Qmw hk] at h
 simpa using h
theorem Qfc {bs : List UInt8} (h : ∀ k, k < bs.length → bs.getD k 0 = 0) : allZ bs = true := by
 rw [allZ, Qnt]
 intro x hx
 obtain ⟨k, hk, rfl⟩ := List.getElem_of_mem hx
 have := h k hk
 rw [QmA, Qmw hk] at this
 simpa using this
set_option maxRecDepth 100000 in
theorem Qff (A : Option Addr) (n c : Nat) (bs : List UInt8) (w : World) (hb : RdB w A n bs) (hn : n ≤ 140737488355328) :
 Calls Tryz.prog 33 #[.slice A n c] w fun e w' => e = .returned (.bool (allZ bs)) ∧ Later w w' := by
 have hl := hb.len
 go_enter Tryz.func33, Tryz.ntmps33
 go_wp2
 go_loopw [7] (fun i wr => ∃ k : Nat, i = .int .i64 k ∧ k ≤ n ∧ Hid (∀ j, j < k → bs.getD j 0 = 0) ∧ Later w wr) (fun i _ => n - (intOf i).toNat)
 case atStart => exact ⟨0, rfl, by omega, hid (fun j hj => absurd hj (by omega)), Later.refl w⟩
 case round =>
  obtain ⟨k, rfl, hk, hp, L⟩ := hrel
  by_cases hlt : k < n
  · obtain ⟨b, o, rfl, hb2, hc2⟩ := RdB.at_ (hb.later L) (by omega)
    have c1 := hc2 k hlt
    have hno := hid (fun h => QgF (bs := bs) (k := k) (by omega) h)
    have hgo := hid (fun h : bs.getD k 0 = 0 => Qda (p := fun j => bs.getD j 0 = 0) hp.out h)
    clear hc2
    generalize bs.getD k 0 = x at *
    cases hx : (x == 0)
    · have n1 : (x != 0) = true := by rw [bne, hx]; rfl
      have hE := hid (hno.out (by simpa using hx))
      go_wp2
      go_ret
      exact ⟨by rw [hE.out]; rfl, L⟩
    · have n1 : (x != 0) = false := by rw [bne, hx]; rfl
      have hG := hid (hgo.out (by simpa using hx))
      go_wp2
      exact ⟨⟨k + 1, by go_num, by omega, hG, L⟩, by simp [intOf]; omega⟩
  · obtain rfl : k = n := by omega
    have hE := hid (Qfc (bs := bs) (by rw [hl]; exact hp.out))
    go_wp2
    go_ret
    exact ⟨by rw [hE.out]; rfl, L⟩
set_option maxRecDepth 100000 in
theorem QcR (A : Option Addr) (n c : Nat) (bs : List UInt8) (w : World) (hb : RdB w A n bs) (hn : n ≤ 1048576) :
 Calls Tryz.prog 16 #[.slice A n c] w fun e w' => e = .returned (.slice (some ⟨w.heap.size, 0, none⟩) n n) ∧ Blk w' w.heap.size 5 (bs.map W8) ∧ Later w w' := by
 have hl := hb.len
 go_enter Tryz.func16, Tryz.ntmps16
 go_wp2_with (first
  | (refine QbQ rfl _ _ _ rfl 5 _ 1 Tryz.underlying23 Qga rfl _ _ _ _ n rfl rfl rfl rfl (by omega) (by omega) ?_; intro w1 hb1 hl1)
  | (refine QbE rfl _ _ _ _ rfl 5 Tryz.underlying23 Qbp w.heap.size 0 n n _ _ hb1 A n c (bs.map W8) (RdB.later hb hl1) (Qc8 _) rfl rfl (by simp) ?_; intro w4 hb4 ho4
     rw [QmT (by rw [QmD, hl]; omega), Qbk _ _ (by rw [QmD, Qni, hl])] at hb4)
  | fail)
 go_ret
 exact ⟨rfl, hb4, hl1.only ho4 (Qmx _)⟩
end Go.Proofs.YtkibgdigcgakfabGreat
