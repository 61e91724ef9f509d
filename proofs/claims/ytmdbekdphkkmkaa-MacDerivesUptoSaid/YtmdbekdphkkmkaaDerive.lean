/-
  mac.Derive, and the document's.
-/
import Derived.Test.YtmdbekdphkkmkaaLaw3d
namespace Go.Proofs.Ytmdbekdphkkmkaa
open Go.RowKit

theorem infoS : (Try.prog.info? 9).map (fun i => (i.zero, i.size, i.bytes)) = some (some (.string .empty), 1, 16) := by kernel_rfl
theorem infoA32 : (Try.prog.info? 39).map (fun i => (i.zero, i.size, i.bytes)) = some (some (.agg (List.replicate 32 (W8 0)).toArray), 32, 32) := by kernel_rfl
theorem made_rep (m n : Nat) (v : Value) (hm : 0 < m) : madeCells (List.replicate m v).toArray n = (List.replicate n v).toArray := by
  apply Array.ext
  · simp [madeCells]
  · intro i h1 h2
    simp only [madeCells, Array.getElem_map, Array.getElem_range, List.getElem_toArray, List.getElem_replicate, List.size_toArray, List.length_replicate]
    have : i % m < m := Nat.mod_lt _ hm
    simp [this]
section
variable {P : Program} {ops : Array Oper} {rest : List Oper} {o : Oper} {a : Act} {w : World} {Q : Exit → Act → World → Prop}
/-- 'make([]T, n)', T of several cells alike. -/
theorem wpList_make_rep (hgd : o.guard = none) (l c : Operand) (t : TypeId) (ho : o.op = Op.makeSlice t l c) (e : TypeId) (v : Value) (m bytes : Nat) (ht : P.underlying t = some (.slice e))
    (hinfo : (P.info? e).map (fun i => (i.zero, i.size, i.bytes)) = some (some (.agg (List.replicate m v).toArray), m, bytes)) (hm : 0 < m) (kl kc : IntKind) (L C : Int) (n : Nat) (hl : a.eval l = .int kl L) (hc : a.eval c = .int kc C) (hL : L = (n : Int)) (hC : C = (n : Int))
    (hby : 0 < bytes) (hsz : n * bytes ≤ 140737488355328) (h : ∀ w', Blk w' w.heap.size e (List.replicate (n * m) v) → Later w w' → wpList P ops Q rest (a.put o.dst (.slice (some ⟨w.heap.size, 0, none⟩) n n)) w') :
    wpList P ops Q (o :: rest) a w := by
  cases hq : P.info? e with
  | none => simp [hq] at hinfo
  | some i =>
    simp only [hq, Option.map_some, Option.some.injEq, Prod.mk.injEq] at hinfo
    obtain ⟨hz, hsize, hbytes⟩ := hinfo
    have hn : n ≤ 140737488355328 := Nat.le_trans (Nat.le_mul_of_pos_right _ hby) hsz
    refine wpList_plain hgd fun K hK => ?_
    have hb : ((i.bytes : Int) * (n : Int)) ≤ 281474976710656 := by
      rw [hbytes, ← Int.natCast_mul, Nat.mul_comm]
      omega
    have hr := run_make (P := P) w t e i _ ht hq hz kl kc n n (by omega) (Int.le_refl _) hb (by omega)
    have hcells : (Value.agg (List.replicate m v).toArray).cells = (List.replicate m v).toArray := rfl
    simp only [Int.toNat_natCast, hsize, hcells, made_rep m _ v hm] at hr
    subst hL
    subst hC
    unfold Oper.wp
    simp only [execOp, ho, hl, hc, Sem.run_bind, hr, Result.andThen_ok, Sem.run_pure]
    exact hK _ _ (h _ (Blk.new w e _) (later_alloc _ _))
end
def shallotB : List UInt8 := [115, 104, 97, 108, 108, 111, 116]
def derB (secret : List UInt8) (s : ByteArray) : List UInt8 := expB (macTag shallotB secret) (strB s) 32
theorem derB_length (secret : List UInt8) (s : ByteArray) : (derB secret s).length = 32 := expB_length _ _ _
set_option maxRecDepth 100000 in
set_option maxHeartbeats 2000000 in
theorem refDerive_any (A : Option Addr) (n c : Nat) (secret : List UInt8) (s : ByteArray) (w : World) (hx : RdB w A n secret) (hn : n ≤ 35184372088832) (hs : s.size ≤ 17592186044416) :
    Calls Try.prog 56 #[.slice A n c, .string s] w fun e w' => e = .returned (.agg ((derB secret s).map W8).toArray) ∧ Later w w' := by
  have hsl := strB_length s
  have hT := macTag_length shallotB secret
  have hD := derB_length secret s
  have ht := fun B d w h1 h2 => refTag_any B A 7 d n c shallotB secret w h1 (by omega) h2 hn
  have he := fun A B c d w h1 h2 => refExpand_ok A B 32 c s.size d 32 (macTag shallotB secret) (strB s) w h1 (by omega) h2 hs (by omega)
  have hde : expB (macTag shallotB secret) (strB s) 32 = derB secret s := rfl
  rw [hde] at he
  clear hde
  generalize macTag shallotB secret = T at *
  generalize derB secret s = D at *
  have HT := hid ht
  have HE := hid he
  clear ht he
  go_enter Try.func56, Try.ntmps56
  go_wp2_with (first
    | (refine wpList_convert_lit rfl _ _ rfl 5 Try.underlying22 Try.underlying5 (w.alloc (.cells (List.replicate 32 (W8 0)).toArray 39)) (shallotB.map W8) rfl (w.heap.size + 1) 7 7 (by simp) rfl ?_; intro w1 hl1 hr1 hz1)
    | (go_at_call 45; refine (HT.out _ 7 _ hr1 (hx.later ((later_alloc _ _).trans hl1))).mono ?_; rintro e w2 ⟨rfl, hl2⟩)
    | (refine wpList_store_agg rfl rfl 39 _ _ rfl w2.heap.size 0 39 (List.replicate 32 (W8 0)) (T.map W8) ?bk ?hx ?hy ?hi ?hf ?h1 ?_; (case hx => rfl); (case hy => rfl); (case hi => rw [List.length_map, hT]; kernel_rfl); (case hf => simp [hT]); (case h1 => exact w8_one _); (case bk => exact Blk.new _ _ _); intro w3 hb3 ho3; rw [spliced_all _ _ (by simp [hT])] at hb3)
    | (refine wpList_convert_str rfl _ _ _ rfl 5 Try.underlying9 Try.underlying22 Try.underlying5 s rfl ?_; intro c4 w4 hl4 hr4 hc4 hz4)
    | (go_at_call 50; refine (HE.out (some ⟨w2.heap.size, 0, none⟩) _ 32 c4 _ ((hb3.later hl4).rd (by simp [hT])) hr4).mono ?_; rintro e w5 ⟨A5, c5, rfl, hown5, hl5⟩
       have L2 := ((later_alloc w (.cells (List.replicate 32 (W8 0)).toArray 39)).trans hl1).trans hl2
       have hz2 : w.heap.size + 1 ≤ w2.heap.size := by have := hl1.size; have := hl2.size; simp at *; omega
       have hR3 : Blk w3 w.heap.size 39 (List.replicate 32 (W8 0)) := ((((Blk.new w _ _).later hl1).later hl2).later (later_alloc _ _)).only ho3 (by omega)
       have L5 := (((L2.alloc _).only ho3 (by omega)).trans hl4).trans hl5
       have hR5 := (hR3.later hl4).later hl5
       have hlt5 := hR5.lt)
    | (refine wpList_copy_rd rfl _ _ _ _ rfl 5 Try.underlying22 size8 w5.heap.size 0 32 32 39 (List.replicate 32 (W8 0)) (Blk.new _ _ _) A5 32 c5 (D.map W8) (Rd.later hown5.rd (later_alloc _ _)) (w8_one _) rfl rfl (by simp) ?_; intro w6 hb6 ho6
       rw [List.take_of_length_le (by simp [hD]), spliced_all _ _ (by simp [hD])] at hb6
       have hR6 := (hR5.later (later_alloc _ _)).only ho6 (by omega)
       have L6 := (L5.alloc _).only ho6 L5.size)
    | (refine wpList_load_agg rfl 39 _ rfl w5.heap.size 0 (D.map W8) ?hc ?hx _ Try.underlying39 rfl ?hi ?_; (case hx => rfl); (case hi => rw [List.length_map, hD]; kernel_rfl); (case hc => intro j v hv; rw [Nat.zero_add]; exact hb6.cellD j hv))
    | (refine wpList_store_agg rfl rfl 39 _ _ rfl w.heap.size 0 39 (List.replicate 32 (W8 0)) (D.map W8) ?bk2 ?hx ?hy ?hi ?hf ?h1 ?_; (case hx => rfl); (case hy => rfl); (case hi => rw [List.length_map, hD]; kernel_rfl); (case hf => simp [hD]); (case h1 => exact w8_one _); (case bk2 => exact hR6); intro w9 hb9 ho9))
  rw [spliced_all _ _ (by simp [hD])] at hb9
  exact bodyPost_ret (results_blk rfl _ _ _ _ (D.map W8) _ hb9 rfl Try.underlying39 rfl (by rw [List.length_map, hD]; kernel_rfl)) rfl ⟨rfl, L6.only ho9 (Nat.le_refl _)⟩

/-- Strings in a slice. -/
def Strs (w : World) (A : Option Addr) (n : Nat) (ss : List ByteArray) : Prop := Rd w A n (ss.map Value.string)
theorem Strs.at_ {w : World} {A : Option Addr} {n : Nat} {ss : List ByteArray} (h : Strs w A n ss) {k : Nat} (hk : k < n) :
    ∃ b o, A = some ⟨b, o, none⟩ ∧ b < w.heap.size ∧ w.cell? ⟨b, o + k, none⟩ = some (.string (ss.getD k .empty)) := by
  have hl : ss.length = n := by simpa using h.1
  obtain ⟨b, o, rfl, hb, hc⟩ := h.2 (by omega)
  refine ⟨b, o, rfl, hb, hc k _ ?_⟩
  rw [List.getElem?_map, List.getD_eq_getElem?_getD, List.getElem?_eq_getElem (by omega)]
  rfl
theorem Strs.later {w w' : World} {A : Option Addr} {n : Nat} {ss : List ByteArray} (h : Strs w A n ss) (hl : Later w w') : Strs w' A n ss := Rd.later h hl
/-- The keys of the first k labels, noughts behind. -/
def keysAt (secret : List UInt8) (ss : List ByteArray) (k : Nat) : List UInt8 := ((ss.take k).map (derB secret)).flatten ++ List.replicate (32 * (ss.length - k)) 0
theorem keysAt_front (secret : List UInt8) (ss : List ByteArray) (k : Nat) (h : k ≤ ss.length) : ((ss.take k).map (derB secret)).flatten.length = 32 * k := by
  induction k with
  | zero => simp
  | succ k ih =>
    rw [List.take_succ_eq_append_getElem (by omega), List.map_append, List.flatten_append, List.length_append, ih (by omega)]
    simp [derB_length]
    omega
theorem keysAt_length (secret : List UInt8) (ss : List ByteArray) (k : Nat) (h : k ≤ ss.length) : (keysAt secret ss k).length = 32 * ss.length := by
  rw [keysAt, List.length_append, keysAt_front _ _ _ h, List.length_replicate]
  omega
theorem keysAt_step (secret : List UInt8) (ss : List ByteArray) (k : Nat) (h : k < ss.length) : spliced ((keysAt secret ss k).map W8) (32 * k) (((derB secret (ss.getD k .empty)).map W8).take 32) = (keysAt secret ss (k + 1)).map W8 := by
  have h1 := keysAt_front secret ss k (by omega)
  have h2 := derB_length secret (ss.getD k .empty)
  have hs : ss.getD k .empty = ss[k] := by rw [List.getD_eq_getElem?_getD, List.getElem?_eq_getElem h]; rfl
  rw [List.take_of_length_le (by rw [List.length_map, h2]; omega), spliced, keysAt, List.map_append, List.take_append_of_le_length (by rw [List.length_map, h1]; omega), List.take_of_length_le (by rw [List.length_map, h1]; omega),
    List.drop_append, List.drop_of_length_le (by rw [List.length_map, h1, List.length_map, h2]; omega), List.nil_append, keysAt, List.take_succ_eq_append_getElem h, hs]
  simp only [List.map_append, List.flatten_append, List.map_cons, List.map_nil, List.flatten_cons, List.flatten_nil, List.append_nil, List.append_assoc, List.map_replicate, List.drop_replicate, List.length_map]
  rw [← hs, h2, h1, show 32 * (ss.length - k) - (32 * k + 32 - 32 * k) = 32 * (ss.length - (k + 1)) by omega]
end Go.Proofs.Ytmdbekdphkkmkaa
