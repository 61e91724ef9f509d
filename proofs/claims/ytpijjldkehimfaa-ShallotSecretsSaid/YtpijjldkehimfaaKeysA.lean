/-
  Sender and hops come to the same steps.
-/
import Derived.Test.YtpijjldkehimfaaKeys5
namespace Go.Proofs.Ytpijjldkehimfaa
open Go.RowKit

/-- One step behind the other. -/
def mulF (f : Nat → List UInt8 → Nat) : Nat → List (List UInt8) → Nat
  | q, [] => q
  | q, s :: sc => mulF f (f q s) sc
theorem mulF_snoc (f : Nat → List UInt8 → Nat) (s : List UInt8) : ∀ (sc : List (List UInt8)) (q : Nat), mulF f q (sc ++ [s]) = f (mulF f q sc) s
  | [], _ => rfl
  | t :: sc, q => mulF_snoc f s sc (f q t)
theorem mulF_comm (f : Nat → List UInt8 → Nat) (hf : ∀ q a b, f (f q a) b = f (f q b) a) (p : List UInt8) : ∀ (sc : List (List UInt8)) (q : Nat), mulF f (f q p) sc = f (mulF f q sc) p
  | [], _ => rfl
  | s :: sc, q => by
    rw [mulF, mulF, hf, mulF_comm f hf p sc]
theorem mulF_inv (f : Nat → List UInt8 → Nat) (P : Nat → Prop) (hP : ∀ q s, P q → s.length = 32 → P (f q s)) : ∀ (sc : List (List UInt8)) (q : Nat), P q → (∀ s ∈ sc, s.length = 32) → P (mulF f q sc)
  | [], _, h, _ => h
  | s :: sc, q, h, hs => mulF_inv f P hP sc _ (hP q s h (hs s (by simp))) (fun t ht => hs t (by simp [ht]))
theorem chainAt_F (f : Nat → List UInt8 → Nat) (P : Nat → Prop) (hP : ∀ q s, P q → s.length = 32 → P (f q s)) (hB : ∀ q s, P q → s.length = 32 → multB s (nb q) = nb (f q s)) (hE : ∀ q s, P q → s.length = 32 → multE s (nb q) = 0) :
    ∀ (sc : List (List UInt8)) (q : Nat), P q → (∀ s ∈ sc, s.length = 32) → chainAt sc (nb q) = (nb (mulF f q sc), 0)
  | [], _, _, _ => rfl
  | s :: sc, q, hq, hs => by
    have h32 := hs s (by simp)
    rw [chainAt, hE q s hq h32, hB q s hq h32, if_pos rfl, chainAt_F f P hP hB hE sc _ (hP q s hq h32) (fun t ht => hs t (by simp [ht])), mulF]
def mS (q : Nat) (s : List UInt8) : Nat := Ed.multN q (clampB s)
theorem mS_comm (q : Nat) (a b : List UInt8) : mS (mS q a) b = mS (mS q b) a := Ed.multN_comm q (clampB a) (clampB b)
theorem mS_nine (q : Nat) (s : List UInt8) (h : Ed.From9 q) (hs : s.length = 32) : Ed.From9 (mS q s) := Ed.from9_step h s hs
theorem mS_B (q : Nat) (s : List UInt8) (h : Ed.From9 q) (hs : s.length = 32) : multB s (nb q) = nb (mS q s) := (multB_nb s q hs h.1).1
theorem mS_E (q : Nat) (s : List UInt8) (h : Ed.From9 q) (hs : s.length = 32) : multE s (nb q) = 0 := by
  rw [(multB_nb s q hs h.1).2, if_neg (Ed.from9_ne (Ed.from9_step h s hs))]
theorem chainR_nine (q : Nat) (sc : List (List UInt8)) (hq : Ed.From9 q) (hs : ∀ s ∈ sc, s.length = 32) : chainR (nb q) sc = (nb (mulF mS q sc), 0) := by
  have h := chainAt_F mS Ed.From9 mS_nine mS_B mS_E sc q hq hs
  have h2 := readN_nb q hq.1
  rw [chainR, if_pos ⟨nb_length _, hs⟩, h2, h]
theorem stA_mulF (x : List UInt8) (hx : x.length = 32) (ps : List (List UInt8)) : ∀ k, (stA x ps k).1 = nb (mulF mS 9 (stA x ps k).2)
  | 0 => by
    have e1 : (stA x ps 0).1 = multB x (nb 9) := rfl
    have e2 : (stA x ps 0).2 = [x] := rfl
    have e3 : mulF mS 9 [x] = mS 9 x := by rw [mulF, mulF]
    rw [e1, e2, e3]
    exact mS_B 9 x Ed.from9_nine hx
  | k + 1 => by
    have h9 := mulF_inv mS Ed.From9 mS_nine (stA x ps k).2 9 Ed.from9_nine (stA_snd_32 x hx ps k)
    have ih := stA_mulF x hx ps k
    have e1 : (stA x ps (k + 1)).1 = multB (derB (secA x ps k) sBlind) (stA x ps k).1 := rfl
    have e2 : (stA x ps (k + 1)).2 = (stA x ps k).2 ++ [derB (secA x ps k) sBlind] := rfl
    have hl := derB_length (secA x ps k) sBlind
    rw [e1, e2]
    clear e1 e2
    generalize derB (secA x ps k) sBlind = bl at *
    generalize (stA x ps k).1 = al at *
    generalize (stA x ps k).2 = sc at *
    rw [ih, mulF_snoc, mS_B _ bl h9 hl]
/-- The public keys of private ones. -/
def pubsOf (ks : List (List UInt8)) : List (List UInt8) := ks.map fun p => multB p (nb 9)
theorem pubsOf_getD (ks : List (List UInt8)) (k : Nat) (h : k < ks.length) : (pubsOf ks).getD k [] = multB (ks.getD k []) (nb 9) := by
  rw [pubsOf, List.getD_eq_getElem?_getD, List.getElem?_map, List.getD_eq_getElem?_getD, List.getElem?_eq_getElem h]
  rfl
theorem meet_hop (x : List UInt8) (hx : x.length = 32) (ks : List (List UInt8)) (hk : ∀ p ∈ ks, p.length = 32) (k : Nat) (h : k < ks.length) :
    errA x (pubsOf ks) k = 0 ∧ secA x (pubsOf ks) k = multB (ks.getD k []) (stA x (pubsOf ks) k).1 ∧ multE (ks.getD k []) (stA x (pubsOf ks) k).1 = 0 := by
  have hp : (ks.getD k []).length = 32 := hk _ (getD_mem' ks k h)
  have hs := stA_snd_32 x hx (pubsOf ks) k
  have ha := stA_mulF x hx (pubsOf ks) k
  have hpub := pubsOf_getD ks k h
  have e1 : errA x (pubsOf ks) k = (chainR ((pubsOf ks).getD k []) (stA x (pubsOf ks) k).2).2 := rfl
  have e2 : secA x (pubsOf ks) k = (chainR ((pubsOf ks).getD k []) (stA x (pubsOf ks) k).2).1 := rfl
  rw [e1, e2, hpub]
  clear e1 e2 hpub
  generalize (stA x (pubsOf ks) k).1 = al at *
  generalize (stA x (pubsOf ks) k).2 = sc at *
  generalize ks.getD k [] = p at *
  have h9a := mulF_inv mS Ed.From9 mS_nine sc 9 Ed.from9_nine hs
  have hc := chainR_nine (mS 9 p) sc (mS_nine 9 p Ed.from9_nine hp) hs
  have hm := mulF_comm mS mS_comm p sc 9
  rw [mS_B 9 p Ed.from9_nine hp, hc, ha, mS_B _ p h9a hp, mS_E _ p h9a hp, hm]
  exact ⟨rfl, rfl, rfl⟩
theorem meet_peel (x : List UInt8) (hx : x.length = 32) (ks : List (List UInt8)) (hk : ∀ p ∈ ks, p.length = 32) (k : Nat) (h : k < ks.length) :
    peelB (ks.getD k []) (stA x (pubsOf ks) k).1 = stepA x (pubsOf ks) k := by
  obtain ⟨_, h2, h3⟩ := meet_hop x hx ks hk k h
  rw [peelB, if_pos h3, stepA, h2]
theorem meet_sched (x : List UInt8) (hx : x.length = 32) (ks : List (List UInt8)) (hk : ∀ p ∈ ks, p.length = 32) (h1 : 1 ≤ ks.length) (h5 : ks.length ≤ 5) : schedE x (pubsOf ks) = 0 := by
  have hl : (pubsOf ks).length = ks.length := by simp [pubsOf]
  have go : ∀ r k, k + r = ks.length → goE x (pubsOf ks) r k = 0 := by
    intro r
    induction r with
    | zero => intro k _; rfl
    | succ r ih =>
      intro k hk2
      rw [goE, if_pos (meet_hop x hx ks hk k (by omega)).1]
      exact ih (k + 1) (by omega)
  rw [schedE_fit ⟨hx, by omega, by omega, fun p hp => by
    obtain ⟨q, _, rfl⟩ := List.mem_map.1 hp
    exact multB_length _ _⟩, hl]
  exact go ks.length 0 (by omega)
end Go.Proofs.Ytpijjldkehimfaa
