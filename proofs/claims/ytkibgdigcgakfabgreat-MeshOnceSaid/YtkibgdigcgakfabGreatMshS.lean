/-
  mesh.Letters: what the messages, the map and the letters are, arrival by arrival.
-/
import Derived.Test.YtkibgdigcgakfabGreatMsgB
import Derived.Test.YtkibgdigcgakfabGreatMeshC
import Derived.Test.YtkibgdigcgakfabGreatAddrK
import Derived.Test.YtkibgdigcgakfabGreatBldC
namespace Go.Proofs.YtkibgdigcgakfabGreat
open Go.RowKit
open Go.BigFrame

theorem KeptOk.small {ks : List Prt} (h : KeptOk ks) : ks.length ≤ 16 := by
  by_cases hne : ks = []
  · simp [hne]
  · have := h.ct hne
    omega
/-- A letter in memory; va, vn, vc: its text. -/
structure Ltv where
  lt : Ltr
  va : Option Addr
  vn : Nat
  vc : Nat
def LtC (y : Ltv) : List Value := [W64 y.lt.to, W64 y.lt.id, .int .i64 y.lt.tk, .slice y.va y.vn y.vc]
def lv0 : Ltv := ⟨⟨0, 0, 0, []⟩, none, 0, 0⟩
theorem LtC_one (y : Ltv) : ∀ u ∈ LtC y, u.oneCell' = true := by
  intro u hu
  simp only [LtC, List.mem_cons, List.not_mem_nil, or_false] at hu
  rcases hu with rfl | rfl | rfl | rfl <;> rfl
theorem LtC_length (y : Ltv) : (LtC y).length = 4 := rfl
section
variable {w w' : World} {base sz n : Nat} {e : TypeId} {v : Value} {vs : List Value}
theorem own_onlyM {k : Nat} {es : Array MapEntry} {ck : Nat} (h : w.ownsRow base e sz v n vs) (hb : w.heap[k]? = some (.map es ck)) (ho : Only k w w') : w'.ownsRow base e sz v n vs := by
  refine h.kept ho ?_
  rcases h.2 with ⟨rfl, _⟩ | ⟨g2, c2, cur2, rfl, _, hh2, _⟩
  · exact .inl rfl
  · refine .inr ?_
    intro hc
    have : k = g2 := by simpa [Value.ownBlock] using hc.symm
    subst this
    rw [hb] at hh2
    cases hh2
theorem blk_onlyM {k g : Nat} {t : TypeId} {l : List Value} {es : Array MapEntry} {ck : Nat} (h : Blk w g t l) (hb : w.heap[k]? = some (.map es ck)) (ho : Only k w w') : Blk w' g t l := by
  refine h.only ho fun e => ?_
  subst e
  rw [Blk, hb] at h
  cases h
end
structure LSt (w wr : World) (bm n : Nat) (f : UInt64 × UInt64 → Option Nat) (K : UInt64 × UInt64 → List Prt) (v3 : Value) (ys : List Ltv) : Prop where
  lat : Later w wr
  map : PMap wr addrK bm n f
  low : w.heap.size ≤ bm
  msg : ∀ x g, f x = some g → ∃ pv, MsgAt wr w.heap.size g x.2 (K x) pv
  non : ∀ x, f x = none → K x = []
  inj : ∀ x y g, f x = some g → f y = some g → x = y
  own : wr.ownsRow w.heap.size 40 4 v3 ys.length (ys.flatMap LtC)
  txt : ∀ y ∈ ys, OwnB wr w.heap.size y.va y.vn y.vc y.lt.tx
section
variable {w wr w' : World} {bm n : Nat} {f : UInt64 × UInt64 → Option Nat} {K : UInt64 × UInt64 → List Prt} {v3 : Value} {ys : List Ltv}
theorem PMap.obj {P : Program} {k : TypeId} {α : Type} {w : World} {M : PKey P k α} {b n : Nat} {f : α → Option Nat} (h : PMap w M b n f) : ∃ es ck, w.heap[b]? = some (.map es ck) := by
  obtain ⟨_, ⟨es, ck, h1, _⟩, _⟩ := h
  exact ⟨es, ck, h1⟩
theorem LSt.later (h : LSt w wr bm n f K v3 ys) (hl : Later wr w') : LSt w w' bm n f K v3 ys :=
  ⟨h.lat.trans hl, h.map.later hl, h.low, fun x g hx => (h.msg x g hx).imp fun _ hm => hm.later hl, h.non, h.inj, own_laterF h.own hl, fun y hy => own_later (h.txt y hy) hl⟩
theorem MsgAt.onlyM {base g k : Nat} {id : UInt64} {ks : List Prt} {pv : List Value} {es : Array MapEntry} {ck : Nat} (h : MsgAt wr base g id ks pv) (hb : wr.heap[k]? = some (.map es ck)) (ho : Only k wr w') : MsgAt w' base g id ks pv :=
  ⟨blk_onlyM h.blk hb ho, h.low, h.len, fun i v hv => (h.pcs i v hv).imp (fun h => h) fun ⟨gp, h1, h2, h3⟩ => ⟨gp, h1, h2, blk_onlyM h3 hb ho⟩⟩
theorem MsgAt.onlyO {base g k : Nat} {id : UInt64} {ks : List Prt} {pv : List Value} {l : List Value} (h : MsgAt wr base g id ks pv) (hb : Blk wr k 71 l) (hne : g ≠ k) (ho : Only k wr w') : MsgAt w' base g id ks pv :=
  ⟨h.blk.only ho hne, h.low, h.len, fun i v hv => (h.pcs i v hv).only hb (by decide) ho⟩
theorem MsgAt.grown {base g b sz m : Nat} {e : TypeId} {v : Value} {vs : List Value} {id : UInt64} {ks : List Prt} {pv : List Value} (h : MsgAt wr base g id ks pv) (hr : wr.ownsRow b e sz v m vs) (h1 : (71 : TypeId) ≠ e) (h2 : (5 : TypeId) ≠ e) (hg : wr.grownBy w' v.ownBlock) : MsgAt w' base g id ks pv :=
  ⟨blk_grownK h.blk hr h1 hg, h.low, h.len, fun i v hv => (h.pcs i v hv).imp (fun h => h) fun ⟨gp, k1, k2, k3⟩ => ⟨gp, k1, k2, blk_grownK k3 hr h2 hg⟩⟩
/-- A new message is laid into the map. -/
theorem LSt.put (h : LSt w wr bm n f K v3 ys) {x0 : UInt64 × UInt64} {g : Nat} {pv : List Value} (hx : f x0 = none) (hm : MsgAt wr w.heap.size g x0.2 [] pv) (hf : ∀ x, f x ≠ some g) (hp : PMap w' addrK bm (n + 1) (fun x => if x = x0 then some g else f x)) (ho : Only bm wr w') :
    LSt w w' bm (n + 1) (fun x => if x = x0 then some g else f x) K v3 ys := by
  obtain ⟨es, ck, hb⟩ := h.map.obj
  refine ⟨h.lat.only ho h.low, hp, h.low, fun x g' hx' => ?_, fun x hx' => ?_, fun x y g' hx' hy' => ?_, own_onlyM h.own hb ho, fun y hy => ?_⟩
  · by_cases hxx : x = x0
    · subst hxx
      simp only [if_true, Option.some.injEq] at hx'
      subst hx'
      exact ⟨pv, by rw [h.non x hx]; exact hm.onlyM hb ho⟩
    · simp only [hxx, if_false] at hx'
      exact (h.msg x g' hx').imp fun _ hm => hm.onlyM hb ho
  · by_cases hxx : x = x0
    · subst hxx
      simp at hx'
    · simp only [hxx, if_false] at hx'
      exact h.non x hx'
  · by_cases hxx : x = x0 <;> by_cases hyy : y = x0
    · exact hxx.trans hyy.symm
    · simp only [hxx, hyy, if_true, if_false, Option.some.injEq] at hx' hy'
      subst hx'
      exact absurd hy' (hf y)
    · simp only [hxx, hyy, if_true, if_false, Option.some.injEq] at hx' hy'
      subst hy'
      exact absurd hx' (hf x)
    · simp only [hxx, hyy, if_false] at hx' hy'
      exact h.inj x y g' hx' hy'
  · exact own_onlyM (h.txt y hy) hb ho
/-- A message takes a part. -/
theorem LSt.took (h : LSt w wr bm n f K v3 ys) {x0 : UInt64 × UInt64} {g : Nat} {pv : List Value} {k' : List Prt} (hx : f x0 = some g) (hm : MsgAt w' w.heap.size g x0.2 k' pv) (ho : Only g wr w') : LSt w w' bm n f (fun x => if x = x0 then k' else K x) v3 ys := by
  obtain ⟨pv0, hm0⟩ := h.msg x0 g hx
  obtain ⟨es, ck, hb⟩ := h.map.obj
  have hgb : bm ≠ g := fun e => by
    subst e
    have := hm0.blk
    rw [Blk, hb] at this
    cases this
  refine ⟨h.lat.only ho hm0.low, h.map.only ho hgb, h.low, fun x g' hx' => ?_, fun x hx' => ?_, h.inj, own_onlyK h.own hm0.blk (by decide) ho, fun y hy => ?_⟩
  · by_cases hxx : x = x0
    · subst hxx
      obtain rfl : g = g' := Option.some.inj (hx.symm.trans hx')
      simp only [if_true]
      exact ⟨pv, hm⟩
    · simp only [hxx, if_false]
      refine (h.msg x g' hx').imp fun _ hm => hm.onlyO hm0.blk (fun e => hxx (h.inj x x0 g' hx' (by rw [e]; exact hx))) ho
  · by_cases hxx : x = x0
    · subst hxx
      rw [hx] at hx'
      cases hx'
    · simp only [hxx, if_false]
      exact h.non x hx'
  · exact own_onlyK (h.txt y hy) hm0.blk (by decide) ho
/-- A letter is written. -/
theorem LSt.wrote (h : LSt w wr bm n f K v3 ys) {y : Ltv} {v3' : Value} (hown : w'.ownsRow w.heap.size 40 4 v3' (ys.length + 1) (ys.flatMap LtC ++ LtC y)) (hg : wr.grownBy w' v3.ownBlock) (hl : Later w w')
    (ht : OwnB wr w.heap.size y.va y.vn y.vc y.lt.tx) : LSt w w' bm n f K v3' (ys ++ [y]) := by
  obtain ⟨es, ck, hb⟩ := h.map.obj
  have hbm : some bm ≠ v3.ownBlock := by
    rcases h.own.2 with ⟨rfl, _⟩ | ⟨g2, c2, cur2, rfl, _, hh2, _⟩
    · simp [Value.ownBlock]
    · intro e
      have : bm = g2 := by simpa [Value.ownBlock] using e
      subst this
      rw [hb] at hh2
      cases hh2
  have txt : ∀ y : Ltv, OwnB wr w.heap.size y.va y.vn y.vc y.lt.tx → OwnB w' w.heap.size y.va y.vn y.vc y.lt.tx := fun y h2 => own_otherK h2 h.own (by decide) hg
  refine ⟨hl, h.map.grown hg hbm, h.low, fun x g hx => (h.msg x g hx).imp fun _ hm => hm.grown h.own (by decide) (by decide) hg, h.non, h.inj, ?_, fun z hz => ?_⟩
  · rw [List.length_append, List.length_singleton, List.flatMap_append]
    simpa using hown
  · rcases List.mem_append.1 hz with hz | hz
    · exact txt z (h.txt z hz)
    · obtain rfl : z = y := by simpa using hz
      exact txt z ht
end
end Go.Proofs.YtkibgdigcgakfabGreat
