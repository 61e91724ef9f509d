/-
  Lemmas for the last text of this claim (part 5 of 20).
-/
import Derived.BigQuiet
import Derived.BigRegion
import Derived.ChangeOld
import Derived.Deep.RegionWith
import Derived.DeepKeys4
import Derived.JoinedCond
import Derived.LaidMore
import Derived.Laws.CopyOwn
import Derived.Laws.Externs
import Derived.Laws.IdiomStrings
import Derived.Laws.Tables
import Derived.Lib.AppendStr
import Derived.Lib.AppendZerosOnto
import Derived.Lib.Mul64
import Derived.Lib.SlBytesConst
import Derived.LoopN
import Derived.Maps.OwnSet
import Derived.OpenShut
import Derived.OrdersHeld
import Derived.ProofKit
import Derived.Shelf.Spec.BitsCarry
import Derived.ShutString
import Derived.Test.YtkibgdigcgakfabGreatProg
import Derived.Test.YtkibgdigcgakfabGreatRows
import Derived.WalkKit
import Derived.WalkLawsBesides
import Derived.WalkSpells
import Derived.Test.YtkibgdigcgakfabGreatPC
import Derived.Test.YtkibgdigcgakfabGreatPD
open List renaming replicate → QmC, length_map → QmD, getElem?_eq_some_iff → QmO, length_append → QmP, map_cons → QmQ, getElem?_map → QmR, getElem?_append_left → QmS, take_of_length_le → QmT, mem_cons → QmV, getElem?_append_right → QmX, append_assoc → Qm3, mem_map → Qm5, getElem?_eq_none → Qnh, mem_of_getElem? → Qno, map_append → Qnx
open Nat renaming zero_add → QmU, le_trans → Qm8
open UInt64 renaming ofNat → QmB
namespace Go.Proofs.YtkibgdigcgakfabGreat
open Go.RowKit
def rotr (x : UInt32) (n : Nat) : UInt32 := Qcb x n ||| Qdt x (32 - n)
def QeF (bs : List UInt8) (i : Nat) : UInt8 := bs.getD i 0
def QjJ (bs : List UInt8) (t : Nat) : UInt32 := Qdt (QeF bs (4 * t)).toUInt32 24 ||| Qdt (QeF bs (4 * t + 1)).toUInt32 16 ||| Qdt (QeF bs (4 * t + 2)).toUInt32 8 ||| (QeF bs (4 * t + 3)).toUInt32
def Qlv (x : UInt32) : UInt32 := rotr x 7 ^^^ rotr x 18 ^^^ Qcb x 3
def Qlq (x : UInt32) : UInt32 := rotr x 17 ^^^ rotr x 19 ^^^ Qcb x 10
def wAt (l : List UInt32) (i : Nat) : UInt32 := l.getD i 0
def Qlx (bs : List UInt8) (l : List UInt32) (t : Nat) : UInt32 :=
 if t < 16 then QjJ bs t else Qlq (wAt l (t - 2)) + wAt l (t - 7) + Qlv (wAt l (t - 15)) + wAt l (t - 16)
def Qja (bs : List UInt8) : Nat → List UInt32
 | 0 => []
 | t + 1 => Qja bs t ++ [Qlx bs (Qja bs t) t]
end Go.Proofs.YtkibgdigcgakfabGreat
namespace Go.Proofs.YtkibgdigcgakfabGreat
open Go.RowKit
structure S8 where
 (a b c d e f g h : UInt32)
def S8.list (s : S8) : List Value := [W32 s.a, W32 s.b, W32 s.c, W32 s.d, W32 s.e, W32 s.f, W32 s.g, W32 s.h]
def shaK : List UInt32 := [
 0x428a2f98, 0x71374491, 0xb5c0fbcf, 0xe9b5dba5, 0x3956c25b, 0x59f111f1, 0x923f82a4, 0xab1c5ed5,
 0xd807aa98, 0x12835b01, 0x243185be, 0x550c7dc3, 0x72be5d74, 0x80deb1fe, 0x9bdc06a7, 0xc19bf174,
 0xe49b69c1, 0xefbe4786, 0x0fc19dc6, 0x240ca1cc, 0x2de92c6f, 0x4a7484aa, 0x5cb0a9dc, 0x76f988da,
 0x983e5152, 0xa831c66d, 0xb00327c8, 0xbf597fc7, 0xc6e00bf3, 0xd5a79147, 0x06ca6351, 0x14292967,
 0x27b70a85, 0x2e1b2138, 0x4d2c6dfc, 0x53380d13, 0x650a7354, 0x766a0abb, 0x81c2c92e, 0x92722c85,
 0xa2bfe8a1, 0xa81a664b, 0xc24b8b70, 0xc76c51a3, 0xd192e819, 0xd6990624, 0xf40e3585, 0x106aa070,
 0x19a4c116, 0x1e376c08, 0x2748774c, 0x34b0bcb5, 0x391c0cb3, 0x4ed8aa4a, 0x5b9cca4f, 0x682e6ff3,
 0x748f82ee, 0x78a5636f, 0x84c87814, 0x8cc70208, 0x90befffa, 0xa4506ceb, 0xbef9a3f7, 0xc67178f2]
def Qgu : S8 := ⟨0x6a09e667, 0xbb67ae85, 0x3c6ef372, 0xa54ff53a, 0x510e527f, 0x9b05688c, 0x1f83d9ab, 0x5be0cd19⟩
def QlS (e : UInt32) : UInt32 := rotr e 6 ^^^ rotr e 11 ^^^ rotr e 25
def Qma (a : UInt32) : UInt32 := rotr a 2 ^^^ rotr a 13 ^^^ rotr a 22
def QjI (k w : UInt32) (s : S8) : UInt32 := s.h + QlS s.e + ((s.e &&& s.f) ^^^ (~~~s.e &&& s.g)) + k + w
def Qlw (s : S8) : UInt32 := Qma s.a + ((s.a &&& s.b) ^^^ (s.a &&& s.c) ^^^ (s.b &&& s.c))
def Qhl (k w : UInt32) (s : S8) : S8 := ⟨QjI k w s + Qlw s, s.a, s.b, s.c, s.d + QjI k w s, s.e, s.f, s.g⟩
def Qdy (ws : List UInt32) : Nat → S8 → S8
 | 0, s => s
 | t + 1, s => Qhl (wAt shaK t) (wAt ws t) (Qdy ws t s)
def S8.add (s t : S8) : S8 := ⟨s.a + t.a, s.b + t.b, s.c + t.c, s.d + t.d, s.e + t.e, s.f + t.f, s.g + t.g, s.h + t.h⟩
def Qjk (s : S8) (bs : List UInt8) : S8 := s.add (Qdy (Qja bs 64) 64 s)
end Go.Proofs.YtkibgdigcgakfabGreat
namespace Go.Proofs.YtkibgdigcgakfabGreat
open Go.RowKit
def divk (n : UInt64) : Nat → UInt64
 | 0 => n
 | k + 1 => divk n k / 256
def beB (n : UInt64) : Nat → List UInt8
 | 0 => []
 | k + 1 => (divk n k % 256).toUInt8 :: beB n k
def padZ (n : Nat) : Nat := (119 - n % 64) % 64
def padB (n : Nat) : List UInt8 := 128 :: QmC (padZ n) 0 ++ beB (8 * QmB n) 8
def lenOf : Value → Nat
 | .slice _ n _ => n
 | _ => 0
end Go.Proofs.YtkibgdigcgakfabGreat
namespace Go.Proofs.YtkibgdigcgakfabGreat
open Go.RowKit
def QbJ (bs : List UInt8) : Nat → S8
 | 0 => Qgu
 | n + 1 => Qjk (QbJ bs n) ((bs.drop (64 * n)).take 64)
theorem QcM (bs x : List UInt8) (n : Nat) (h : 64 * n ≤ bs.length) : QbJ (bs ++ x) n = QbJ bs n := by
 induction n with
 | zero => rfl
 | succ n ih =>
   rw [QbJ, QbJ, ih (by omega), List.drop_append_of_le_length (by omega), List.take_append_of_le_length (by simp; omega)]
def QeI (st : S8) (op : List UInt8) (n : Nat) : List Value := st.list ++ (op.map W8 ++ [.int .i64 n])
structure HOk (bs : List UInt8) (st : S8) (op : List UInt8) : Prop where
 len : op.length = 64
 open_ : op.take (bs.length % 64) = bs.drop (bs.length / 64 * 64)
 st : 64 ≤ bs.length → st = QbJ bs (bs.length / 64)
def HashAt (w : World) (g : Nat) (t : TypeId) (rest : List Value) (bs : List UInt8) : Prop := ∃ st op, HOk bs st op ∧ Blk w g t (QeI st op bs.length ++ rest)
theorem HashAt.later {w w' : World} {g : Nat} {t : TypeId} {rest : List Value} {bs : List UInt8} (h : HashAt w g t rest bs) (hl : Later w w') : HashAt w' g t rest bs := by
 obtain ⟨st, op, h1, h2⟩ := h
 exact ⟨st, op, h1, h2.later hl⟩
theorem HashAt.only {w w' : World} {g k : Nat} {t : TypeId} {rest : List Value} {bs : List UInt8} (h : HashAt w g t rest bs) (ho : Only k w w') (hne : g ≠ k) : HashAt w' g t rest bs := by
 obtain ⟨st, op, h1, h2⟩ := h
 exact ⟨st, op, h1, h2.only ho hne⟩
theorem HashAt.lt {w : World} {g : Nat} {t : TypeId} {rest : List Value} {bs : List UInt8} (h : HashAt w g t rest bs) : g < w.heap.size := by
 obtain ⟨st, op, h1, h2⟩ := h
 exact h2.lt
section
variable {bs : List UInt8} {st : S8} {op : List UInt8}
def Qe4 (op : List UInt8) (f : Nat) (x : List UInt8) : List UInt8 := op.take f ++ x ++ op.drop (f + x.length)
theorem Qdk (f : Nat) (x : List UInt8) (h : f + x.length ≤ op.length) : (Qe4 op f x).length = op.length := by
 simp [Qe4]
 omega
theorem HOk.part (h : HOk bs st op) (x : List UInt8) (hx : bs.length % 64 + x.length < 64) : HOk (bs ++ x) st (Qe4 op (bs.length % 64) x) := by
 have hl := h.len
 have e1 : (bs ++ x).length % 64 = bs.length % 64 + x.length := by rw [QmP]; omega
 have e2 : (bs ++ x).length / 64 = bs.length / 64 := by rw [QmP]; omega
 refine ⟨by rw [Qdk _ _ (by omega), hl], ?_, fun h64 => ?_⟩
 · rw [e1, e2, List.drop_append_of_le_length (by omega), ← h.open_, Qe4, List.take_append_of_le_length (by simp; omega), QmT (by simp; omega)]
 · rw [e2, QcM _ _ _ (by omega)]
   exact h.st (by rw [QmP] at h64; omega)
def ahead (bs : List UInt8) (st : S8) : S8 := if bs.length / 64 = 0 then Qgu else st
end
end Go.Proofs.YtkibgdigcgakfabGreat
namespace Go.Proofs.YtkibgdigcgakfabGreat
open Go.RowKit
theorem Qd3 (st : S8) (op : List UInt8) (n : Nat) (rest : List Value) (j : Nat) (u : Value) (hu : (op.map W8)[j]? = some u) : (QeI st op n ++ rest)[8 + j]? = some u := by
 have hj := (QmO.1 hu).1
 have hs : st.list.length = 8 := rfl
 rw [QeI, Qm3, QmX (by omega), hs, Nat.add_sub_cancel_left, Qm3, QmS hj]
 exact hu
theorem Blk.open_ {w : World} {g : Nat} {t : TypeId} {st : S8} {op : List UInt8} {n : Nat} {rest : List Value} (h : Blk w g t (QeI st op n ++ rest)) (hl : op.length = 64) : RdB w (some ⟨g, 8, none⟩) 64 op :=
 ⟨by simp [hl], fun _ => ⟨g, 8, rfl, h.lt, fun j u hu => h.cellD (8 + j) (Qd3 st op n rest j u hu)⟩⟩
end Go.Proofs.YtkibgdigcgakfabGreat
namespace Go.Proofs.YtkibgdigcgakfabGreat
open Go.RowKit
def be4 (x : UInt32) : List UInt8 := [(Qcb x 24).toUInt8, (Qcb x 16).toUInt8, (Qcb x 8).toUInt8, x.toUInt8]
def S8.words (s : S8) : List UInt32 := [s.a, s.b, s.c, s.d, s.e, s.f, s.g, s.h]
def Qi6 (s : S8) (k : Nat) : List UInt8 := ((s.words.take k).map be4).flatten ++ QmC (32 - 4 * k) 0
def Qj5 (s : S8) : List UInt8 := Qi6 s 8
def QeL (bs : List UInt8) : List UInt8 := Qj5 (QbJ (bs ++ padB bs.length) ((bs ++ padB bs.length).length / 64))
theorem QdS (s : S8) (k : Nat) (hk : k ≤ 8) : (Qi6 s k).length = 32 := by
 have : ∀ j : Fin 9, (Qi6 s j.val).length = 32 := by
  intro j
  rcases j with ⟨j, hj⟩
  have : j = 0 ∨ j = 1 ∨ j = 2 ∨ j = 3 ∨ j = 4 ∨ j = 5 ∨ j = 6 ∨ j = 7 ∨ j = 8 := by omega
  rcases this with rfl | rfl | rfl | rfl | rfl | rfl | rfl | rfl | rfl <;> rfl
 exact this ⟨k, by omega⟩
theorem Qdu (bs : List UInt8) : (QeL bs).length = 32 := QdS _ 8 (by omega)
end Go.Proofs.YtkibgdigcgakfabGreat
namespace Go.Proofs.YtkibgdigcgakfabGreat
open Go.RowKit
end Go.Proofs.YtkibgdigcgakfabGreat
namespace Go.Proofs.YtkibgdigcgakfabGreat
open Go.RowKit
structure RB (w wr : World) (g6 g7 : Nat) (s2 w5 v7 : List Value) : Prop where
 later : Later w wr
 b2 : Blk wr w.heap.size 202 s2
 b4 : Blk wr (w.heap.size + 1) 202 (QmC 8 (W32 0))
 b5 : Blk wr (w.heap.size + 1 + 1) 225 w5
 b6 : Blk wr g6 225 (shaK.map W32)
 b7 : Blk wr g7 202 v7
 lt6 : w.heap.size + 3 ≤ g6
 lt7 : g6 + 1 ≤ g7
section
variable {w wr w' : World} {g6 g7 : Nat} {s2 w5 v7 : List Value}
end
end Go.Proofs.YtkibgdigcgakfabGreat
namespace Go.Proofs.YtkibgdigcgakfabGreat
open Go.RowKit
end Go.Proofs.YtkibgdigcgakfabGreat
namespace Go.Proofs.YtkibgdigcgakfabGreat
open Go.RowKit
structure Bag (w wk : World) (ls : List (Nat × TypeId × List Value)) : Prop where
 lat : Later w wk
 blk : ∀ p ∈ ls, Blk wk p.1 p.2.1 p.2.2
 low : ∀ p ∈ ls, w.heap.size ≤ p.1
 nd : (ls.map (·.1)).Nodup
section
variable {w wk v v1 : World} {ls : List (Nat × TypeId × List Value)} {k : Nat} {t : TypeId} {l l' : List Value}
theorem Bag.nth (h : Bag w wk ls) (i : Nat) (hi : ls[i]? = some (k, t, l)) : Blk wk k t l := h.blk (k, t, l) (Qno hi)
theorem Bag.at_low (h : Bag w wk ls) (i : Nat) (hi : ls[i]? = some (k, t, l)) : w.heap.size ≤ k := h.low (k, t, l) (Qno hi)
theorem Bag.later (h : Bag w wk ls) (j : Later wk v) : Bag w v ls := ⟨h.lat.trans j, fun p hp => (h.blk p hp).later j, h.low, h.nd⟩
theorem Bag.drew (h : Bag w wk ls) : Bag w wk.drew ls := h.later (Qak _)
theorem Bag.none (w : World) : Bag w w [] := ⟨Later.refl w, by simp, by simp, by simp⟩
theorem Bag.add (h : Bag w wk ls) (j : Later wk v) (hk : ∀ p ∈ ls, k ≠ p.1) (hl : w.heap.size ≤ k) (hb : Blk v k t l) : Bag w v ((k, t, l) :: ls) := by
 have h1 := h.later j
 refine ⟨h1.lat, ?_, ?_, ?_⟩
 · intro p hp
   rcases QmV.1 hp with rfl | hp
   · exact hb
   · exact h1.blk p hp
 · intro p hp
   rcases QmV.1 hp with rfl | hp
   · exact hl
   · exact h1.low p hp
 · rw [QmQ, List.nodup_cons]
   refine ⟨fun hm => ?_, h1.nd⟩
   obtain ⟨p, hp, e⟩ := Qm5.1 hm
   exact hk p hp e.symm
theorem Bag.write (h : Bag w wk ls) (i : Nat) (hi : ls[i]? = some (k, t, l)) (o : Only k wk v) (hb : Blk v k t l') : Bag w v (ls.set i (k, t, l')) := by
 refine ⟨h.lat.only o (h.at_low i hi), ?_, ?_, ?_⟩
 · intro p hp
   obtain ⟨j, hj⟩ := List.getElem?_of_mem hp
   rw [List.getElem?_set] at hj
   split at hj
   · split at hj
     · cases hj
       exact hb
     · cases hj
   · rename_i hne
     refine (h.blk p (Qno hj)).only o ?_
     intro e
     have h1 : (ls.map (·.1))[i]? = some k := by rw [QmR, hi]; rfl
     have h2 : (ls.map (·.1))[j]? = some k := by rw [QmR, hj, ← e]; rfl
     have hlt : i < (ls.map (·.1)).length := (QmO.1 h1).1
     exact hne ((List.getElem?_inj hlt h.nd).1 (h1.trans h2.symm))
 · intro p hp
   rcases List.mem_or_eq_of_mem_set hp with hp | rfl
   · exact h.low p hp
   · exact h.at_low i hi
 · have : (ls.set i (k, t, l')).map (·.1) = ls.map (·.1) := by
    rw [List.map_set]
    apply List.ext_getElem?
    intro j
    rw [List.getElem?_set]
    split
    · rename_i e
      subst e
      split
      · rw [QmR, hi]; rfl
      · rename_i hlt
        rw [Qnh (by omega)]
    · rfl
   rw [this]
   exact h.nd
theorem Bag.push (h : Bag w wk ls) (j : Later wk v) (hk : wk.heap.size ≤ k) (o : Only k v v1) (hb : Blk v1 k t l) : Bag w v1 ((k, t, l) :: ls) := by
 have h0 : ∀ p ∈ ls, k ≠ p.1 := fun p hp e => by have := (h.blk p hp).lt; omega
 have hw : w.heap.size ≤ k := by have := h.lat.size; omega
 have h1 := h.later j
 refine ⟨h1.lat.only o hw, ?_, ?_, ?_⟩
 · intro p hp
   rcases QmV.1 hp with rfl | hp
   · exact hb
   · exact (h1.blk p hp).only o (fun e => h0 p hp e.symm)
 · intro p hp
   rcases QmV.1 hp with rfl | hp
   · exact hw
   · exact h1.low p hp
 · rw [QmQ, List.nodup_cons]
   refine ⟨fun hm => ?_, h1.nd⟩
   obtain ⟨p, hp, e⟩ := Qm5.1 hm
   exact h0 p hp e.symm
theorem Bag.drop (h : Bag w wk ls) (n : Nat) : Bag w wk (ls.drop n) :=
 ⟨h.lat, fun p hp => h.blk p (List.mem_of_mem_drop hp), fun p hp => h.low p (List.mem_of_mem_drop hp), by rw [List.map_drop]; exact (List.drop_sublist n _).nodup h.nd⟩
end
theorem QaU (w : World) (t : TypeId) (l : List Value) : Bag w (w.alloc (.cells l.toArray t)) [(w.heap.size, t, l)] :=
 ⟨Qaa _ _, by intro p hp; simp at hp; subst hp; exact Blk.new w t l, by simp, by simp⟩
end Go.Proofs.YtkibgdigcgakfabGreat
namespace Go.Proofs.YtkibgdigcgakfabGreat
open Go.RowKit
theorem QgN {w w' : World} {base g : Nat} {e t : TypeId} {v : Value} {n : Nat} {vs l : List Value} (hb : Blk w g t l) (h : w.ownsRow base e 1 v n vs) (hne : t ≠ e) (hg : w.grownBy w' v.ownBlock) : Blk w' g t l := by
 refine (hg.block g hb.lt ?_).trans hb
 rcases h.2 with ⟨rfl, _⟩ | ⟨g2, c2, cur2, rfl, _, hh2, _⟩
 · simp [Value.ownBlock]
 · intro he
   simp only [Value.ownBlock, Option.some.injEq] at he
   subst he
   exact hb.ne_type (l' := cur2.toList) (t' := e) hh2 hne rfl
abbrev Y32 := {l : List UInt8 // l.length = 32}
@[go_sem high] theorem QiW (x y : Y32) (w : World) : (binOp .eql 91 (.agg (x.val.map W8).toArray) (.agg (y.val.map W8).toArray)).run Tryz.prog w = .ok (.bool (x.val == y.val)) w := Qcm _ _ x.2 y.2 w
@[go_sem high] theorem Qiy (x y : Y32) (w : World) : (binOp .neq 91 (.agg (x.val.map W8).toArray) (.agg (y.val.map W8).toArray)).run Tryz.prog w = .ok (.bool (x.val != y.val)) w := Qcy _ _ x.2 y.2 w
end Go.Proofs.YtkibgdigcgakfabGreat
namespace Go.Proofs.YtkibgdigcgakfabGreat
open Go.RowKit
section
variable {w wk v : World} {ls ls' : List (Nat × TypeId × List Value)}
theorem Bag.fresh (h : Bag w wk ls) {k : Nat} {t : TypeId} {l : List Value} (j : Later wk v) (hk : wk.heap.size ≤ k) (hb : Blk v k t l) : Bag w v ((k, t, l) :: ls) :=
 h.add j (fun p hp e => by have := (h.blk p hp).lt; omega) (Qm8 h.lat.size hk) hb
theorem Bag.sub (h : Bag w wk ls) (hs : ls'.Sublist ls) : Bag w wk ls' :=
 ⟨h.lat, fun p hp => h.blk p (hs.subset hp), fun p hp => h.low p (hs.subset hp), (hs.map _).nodup h.nd⟩
end
theorem Qe0 {w : World} {g n : Nat} {t : TypeId} {bs : List UInt8} {rest : List Value} (h : Blk w g t (bs.map W8 ++ rest)) (hn : bs.length = n) : RdB w (some ⟨g, 0, none⟩) n bs :=
 ⟨by rw [QmD, hn], fun _ => ⟨g, 0, rfl, h.lt, fun j u hu => by
   rw [QmU]
   refine h.cellD j ?_
   rw [QmS (QmO.1 hu).1]
   exact hu⟩⟩
theorem Qg0 {ls : List (Nat × TypeId × List Value)} {t : TypeId} (h : ¬ t ∈ ls.map (·.2.1)) : ∀ p ∈ ls, p.2.1 ≠ t := fun p hp e => h (Qm5.2 ⟨p, hp, e⟩)
end Go.Proofs.YtkibgdigcgakfabGreat
namespace Go.Proofs.YtkibgdigcgakfabGreat
open Go.RowKit
end Go.Proofs.YtkibgdigcgakfabGreat
namespace Go.Proofs.YtkibgdigcgakfabGreat
open Go.RowKit
theorem QiD : (205 : TypeId) ≠ 5 := by decide
theorem HashAt.grown {w w' : World} {g base : Nat} {rest : List Value} {bs : List UInt8} {v : Value} {n : Nat} {vs : List Value} (h : HashAt w g 205 rest bs) (hown : w.ownsRow base 5 1 v n vs) (hg : w.grownBy w' v.ownBlock) : HashAt w' g 205 rest bs := by
 obtain ⟨st, op, h1, h2⟩ := h
 exact ⟨st, op, h1, QgN h2 hown QiD hg⟩
theorem QiT {w : World} {base : Nat} {A : Option Addr} {n m c : Nat} {bs xs ys : List UInt8} (h : w.ownsRow base 5 1 (.slice A n c) n (xs.map W8 ++ ys.map W8)) (hb : xs ++ ys = bs) (hn : n = m) : OwnB w base A m c bs := by
 subst hb
 subst hn
 rw [← Qnx] at h
 exact h
end Go.Proofs.YtkibgdigcgakfabGreat
namespace Go.Proofs.YtkibgdigcgakfabGreat
open Go.RowKit
def strB (s : ByteArray) : List UInt8 := s.data.toList
section
variable {P : Program} {ops : Array Oper} {rest : List Oper} {o : Oper} {a : Act} {w : World} {Q : Exit → Act → World → Prop}
end
end Go.Proofs.YtkibgdigcgakfabGreat
namespace Go.Proofs.YtkibgdigcgakfabGreat
open Go.RowKit
end Go.Proofs.YtkibgdigcgakfabGreat
namespace Go.Proofs.YtkibgdigcgakfabGreat
open Go.RowKit
end Go.Proofs.YtkibgdigcgakfabGreat
