/-
  Structs and arrays that are nothing but bytes: parts loaded, stored, sliced.
-/
import Derived.Test.YtallecbmnpcepaaStructs
import Derived.Test.YtallecbmnpcepaaParts
namespace Go.Proofs.Ytallecbmnpcepaa
open Go.RowKit

theorem Blk.cast {w : World} {g : Nat} {t : TypeId} {l l' : List Value} (h : Blk w g t l) (e : l = l') : Blk w g t l' := e ▸ h
/-- n bytes from off on. -/
def subB (bs : List UInt8) (off n : Nat) : List UInt8 := (bs.drop off).take n
/-- vs written at off. -/
def putB (bs : List UInt8) (off : Nat) (vs : List UInt8) : List UInt8 := bs.take off ++ vs ++ bs.drop (off + vs.length)
theorem subB_length {bs : List UInt8} {off n : Nat} (h : off + n ≤ bs.length) : (subB bs off n).length = n := by
  rw [subB, List.length_take, List.length_drop]
  omega
theorem putB_length {bs vs : List UInt8} {off : Nat} (h : off + vs.length ≤ bs.length) : (putB bs off vs).length = bs.length := by
  rw [putB, List.length_append, List.length_append, List.length_take, List.length_drop]
  omega
theorem putB_map (bs vs : List UInt8) (off : Nat) : spliced (bs.map W8) off (vs.map W8) = (putB bs off vs).map W8 := by
  rw [spliced, putB, List.length_map, List.map_append, List.map_append, List.map_take, List.map_drop]
theorem subB_here (p q r : List UInt8) (off n : Nat) (hp : p.length = off) (hq : q.length = n) : subB (p ++ (q ++ r)) off n = q := by
  rw [subB, List.drop_left' hp, List.take_left' hq]
theorem subB_first (q r : List UInt8) (n : Nat) (hq : q.length = n) : subB (q ++ r) 0 n = q := subB_here [] q r 0 n rfl hq
theorem subB_last (p q : List UInt8) (off n : Nat) (hp : p.length = off) (hq : q.length = n) : subB (p ++ q) off n = q := by
  have := subB_here p q [] off n hp hq
  rwa [List.append_nil] at this
theorem subB_get {bs : List UInt8} {off n j : Nat} {v : UInt8} (h : (subB bs off n)[j]? = some v) : bs[off + j]? = some v := by
  rw [subB, List.getElem?_take] at h
  split at h
  · rwa [List.getElem?_drop] at h
  · cases h
theorem putB_here (p q r v : List UInt8) (off : Nat) (hp : p.length = off) (hq : q.length = v.length) : putB (p ++ (q ++ r)) off v = p ++ (v ++ r) := by
  rw [putB, List.take_left' hp, ← List.drop_drop, List.drop_left' hp, List.drop_left' hq, List.append_assoc]
theorem putB_first (q r v : List UInt8) (hq : q.length = v.length) : putB (q ++ r) 0 v = v ++ r := putB_here [] q r v 0 rfl hq
theorem putB_last (p q v : List UInt8) (off : Nat) (hp : p.length = off) (hq : q.length = v.length) : putB (p ++ q) off v = p ++ v := by
  have := putB_here p q [] v off hp hq
  rwa [List.append_nil, List.append_nil] at this
theorem putB_all (bs vs : List UInt8) (h : vs.length = bs.length) : putB bs 0 vs = vs := by
  rw [putB, List.take_zero, List.nil_append, Nat.zero_add, List.drop_of_length_le (by omega), List.append_nil]
theorem cells_sub {w : World} {g : Nat} {t : TypeId} {bs r : List UInt8} {off n : Nat} (hb : Blk w g t (bs.map W8)) (hr : subB bs off n = r) : ∀ j v, (r.map W8)[j]? = some v → w.cell? ⟨g, off + j, none⟩ = some v := by
  intro j v hv
  rw [List.getElem?_map, Option.map_eq_some_iff] at hv
  obtain ⟨x, hx, rfl⟩ := hv
  rw [← hr] at hx
  exact hb.cellD _ (by rw [List.getElem?_map, subB_get hx]; rfl)
/-- Bytes of such a block read as a slice. -/
theorem rdB_sub {w : World} {g : Nat} {t : TypeId} {bs r : List UInt8} {off n : Nat} (hb : Blk w g t (bs.map W8)) (hr : subB bs off n = r) (hn : r.length = n) : RdB w (some ⟨g, off, none⟩) n r :=
  ⟨by rw [List.length_map, hn], fun _ => ⟨g, off, rfl, hb.lt, fun j u hu => cells_sub hb hr j u hu⟩⟩
section
variable {P : Program} {ops : Array Oper} {rest : List Oper} {o : Oper} {a : Act} {w : World} {Q : Exit → Act → World → Prop}
theorem load_Y (off n : Nat) (hw : Region.wanted o (yielded ops a.tmps) = true) {ty : TypeId} (x : Operand) (ho : o.op = .load ty x) {g : Nat} {t : TypeId} {bs r : List UInt8} (hb : Blk w g t (bs.map W8)) (hx : a.eval x = .pointer (some ⟨g, off, none⟩)) {d : TypeDesc} (hu : P.underlying ty = some d) (hd : aggDesc d = true)
    (hi : (P.info? ty).map (·.size) = some n) (hr : subB bs off n = r) (hn : r.length = n) (h : wpList P ops Q rest (a.put o.dst (.agg (r.map W8).toArray)) w) : wpList P ops Q (o :: rest) a w :=
  wpList_load_at hw ty x ho g off (r.map W8) (cells_sub hb hr) hx d hu hd (by rw [List.length_map, hn]; exact hi) h
theorem quiet_Y (off n : Nat) {K : Act → Prop} {ty : TypeId} (x : Operand) (ho : o.op = .load ty x) {w0 : World} {g : Nat} {t : TypeId} {bs r : List UInt8} (hb : Blk w0 g t (bs.map W8)) (hx : a.eval x = .pointer (some ⟨g, off, none⟩)) {d : TypeDesc} (hu : P.underlying ty = some d) (hd : aggDesc d = true)
    (hi : (P.info? ty).map (·.size) = some n) (hr : subB bs off n = r) (hn : r.length = n) (h : K (a.put o.dst (.agg (r.map W8).toArray))) : o.quiet P a (fun w' => ∃ x, w' = grow w0 x) K :=
  quiet_load_agg ty x ho g off (r.map W8) (fun w' hw j v hv => by obtain ⟨y, rfl⟩ := hw; exact cells_sub (hb.later ⟨y, rfl⟩) hr j v hv) hx d hu hd (by rw [List.length_map, hn]; exact hi) h
theorem store_Y (off n : Nat) (hgd : o.guard = none) (hd : o.dst = none) {ty : TypeId} (x y : Operand) (ho : o.op = .store ty x y) {g : Nat} {t : TypeId} {bs vs : List UInt8} (hg : Blk w g t (bs.map W8)) (hx : a.eval x = .pointer (some ⟨g, off, none⟩)) (hy : a.eval y = .agg (vs.map W8).toArray)
    (hi : (P.info? ty).map (·.size) = some n) (hn : vs.length = n) (hfit : off + n ≤ bs.length) (h : ∀ w', Blk w' g t ((putB bs off vs).map W8) → Only g w w' → wpList P ops Q rest a w') : wpList P ops Q (o :: rest) a w :=
  wpList_store_agg hgd hd ty x y ho g off t _ (vs.map W8) hg hx hy (by rw [List.length_map, hn]; exact hi) (by rw [List.length_map, List.length_map]; omega) (w8_one _) (fun w' hb => h w' (by rwa [putB_map] at hb))
/-- A whole value over whatever stood there. -/
theorem store_Z (n : Nat) (hgd : o.guard = none) (hd : o.dst = none) {ty : TypeId} (x y : Operand) (ho : o.op = .store ty x y) {g : Nat} {t : TypeId} {l : List Value} {vs : List UInt8} (hg : Blk w g t l) (hx : a.eval x = .pointer (some ⟨g, 0, none⟩)) (hy : a.eval y = .agg (vs.map W8).toArray)
    (hi : (P.info? ty).map (·.size) = some n) (hn : vs.length = n) (hl : l.length = n) (h : ∀ w', Blk w' g t (vs.map W8) → Only g w w' → wpList P ops Q rest a w') : wpList P ops Q (o :: rest) a w :=
  wpList_store_agg hgd hd ty x y ho g 0 t l (vs.map W8) hg hx hy (by rw [List.length_map, hn]; exact hi) (by rw [List.length_map]; omega) (w8_one _) (fun w' hb => h w' (by rwa [spliced_all _ _ (by rw [List.length_map]; omega)] at hb))
/-- copy(x.F[:], s) into such a block. -/
theorem copy_Y (off m : Nat) (hgd : o.guard = none) (dd s : Operand) (dT sT : TypeId) (ho : o.op = .call { callee := .builtin .copy, args := #[dd, s], argTypes := #[dT, sT] }) (elem : TypeId) (hu : P.underlying dT = some (.slice elem)) (hsz : (P.info? elem).map (·.size) = some 1)
    {g c : Nat} {t : TypeId} {bs : List UInt8} (hg : Blk w g t (bs.map W8)) {A : Option Addr} {c2 : Nat} {vs : List UInt8} (hr : RdB w A m vs) (hd : a.eval dd = .slice (some ⟨g, off, none⟩) m c) (hs : a.eval s = .slice A m c2) (hfit : off + m ≤ bs.length)
    (h : ∀ w', Blk w' g t ((putB bs off vs).map W8) → Only g w w' → wpList P ops Q rest (a.put o.dst (.int .i64 ((m : Nat) : Int))) w') : wpList P ops Q (o :: rest) a w :=
  wpList_copy_rd hgd dd s dT sT ho elem hu hsz g off m c t _ hg A m c2 (vs.map W8) hr (w8_one _) hd hs (by rw [List.length_map]; exact hfit) (fun w' hb ho => by
    rw [List.take_of_length_le (by rw [List.length_map, hr.len]; exact Nat.le_refl _), putB_map] at hb
    rw [Nat.min_self]
    exact h w' hb ho)
end
/-- A struct of bytes is built: each part in its place. -/
def putAll (bs : List UInt8) : List (Nat × List UInt8) → List UInt8
  | [] => bs
  | (off, vs) :: r => putAll (putB bs off vs) r
theorem fill_bytes (place : Nat → Option (Nat × Nat)) : ∀ (parts : List (Nat × Nat × List UInt8)) (bs : List UInt8), (∀ p ∈ parts, place p.1 = some (p.2.1, p.2.2.length) ∧ p.2.1 + p.2.2.length ≤ bs.length) →
    Instr.fill place (bs.map W8).toArray (parts.map fun p => (p.1, .agg (p.2.2.map W8).toArray)) = some ((putAll bs (parts.map fun p => (p.2.1, p.2.2))).map W8).toArray
  | [], bs, _ => rfl
  | (i, off, vs) :: r, bs, h => by
    have h0 := h (i, off, vs) (by simp)
    rw [List.map_cons, fill_cons (vs := vs.map W8) (off := off) rfl (by rw [List.length_map]; exact h0.1) (by rw [List.length_map, List.length_map]; exact h0.2), putB_map, fill_bytes place r (putB bs off vs) fun p hp => ?_]
    · rfl
    · have := h p (by simp [hp])
      rw [putB_length h0.2]
      exact this
theorem built_bytes {P : Program} {t : TypeId} {n : Nat} {fs : Array Field} {pl : List (Nat × Nat)} (hu : P.underlying t = some (.struct fs)) (hz : (P.info? t).bind (·.zero) = some (.agg (List.replicate n (W8 0)).toArray))
    (hp : (fs.toList.mapM fun f => (P.info? f.type).map fun i => (f.offset, i.size)) = some pl) (parts : List (Nat × Nat × List UInt8)) (hpl : ∀ p ∈ parts, pl.toArray[p.1]? = some (p.2.1, p.2.2.length) ∧ p.2.1 + p.2.2.length ≤ n) :
    P.built t (parts.map fun p => (p.1, .agg (p.2.2.map W8).toArray)) = some ((putAll (List.replicate n 0) (parts.map fun p => (p.2.1, p.2.2))).map W8).toArray := by
  rw [built_struct hu hz hp, show List.replicate n (W8 0) = (List.replicate n (0 : UInt8)).map W8 by rw [List.map_replicate], fill_bytes _ parts _ (fun p hp => by rw [List.length_replicate]; exact hpl p hp)]
end Go.Proofs.Ytallecbmnpcepaa
