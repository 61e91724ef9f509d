/-
  shallotlaw17.arrival.
-/
import Derived.Test.YtkibgdigcgakfabGreatMshT
namespace Go.Proofs.YtkibgdigcgakfabGreat
open Go.RowKit
open Go.BigFrame

abbrev az0 : List Value := [.int .u8 0, .int .u64 0, .int .i64 0, .int .i64 0, .slice none 0 0, .int .u8 0, .int .u64 0, .int .i64 0, .int .u8 0, .int .u8 0, .int .u8 0, .int .u8 0, .int .u8 0, .int .u8 0, .int .u8 0, .int .u8 0, .int .u8 0, .int .u8 0, .int .u8 0, .int .u8 0, .int .u8 0, .int .u8 0, .int .u8 0, .int .u8 0]
theorem quiet_partM {P : Program} {o : Oper} {a : Act} {J : Act → Prop} (ty : TypeId) (x : Operand) (ho : o.op = .load ty x) {w0 : World} {g : Nat} {t : TypeId} {l : List Value} (off : Nat) (vs : List Value) (hb : Blk w0 g t l) (hx : a.eval x = .pointer (some ⟨g, off, none⟩))
    (hv : ∀ j v, vs[j]? = some v → l[off + j]? = some v) (d : TypeDesc) (hu : P.underlying ty = some d) (hd : aggDesc d = true) (hi : (P.info? ty).map (·.size) = some vs.length) (h : J (a.put o.dst (.agg vs.toArray))) : o.quiet P a (fun w' => ∃ x, w' = grow w0 x) J :=
  quiet_load_agg _ x ho g off vs (fun _ hw j v hv' => by obtain ⟨y, rfl⟩ := hw; exact (hb.later ⟨y, rfl⟩).cellD _ (hv j v hv')) hx d hu hd hi h
theorem quiet_buildV {P : Program} {C : World → Prop} {a : Act} {o : Oper} {K : Act → Prop} (t : TypeId) (parts : Array (Nat × Operand)) (ho : o.op = .build t parts) (vs : List Value) (hb : P.built t (parts.map fun (i, x) => (i, a.eval x)).toList = some vs.toArray)
    (h : K (a.put o.dst (.agg vs.toArray))) : o.quiet P a C K :=
  ⟨.agg vs.toArray, fun w hw => by
    unfold Oper.quietAt execOp
    simp only [ho, Sem.run_bind, run_build w t _ _ hb, Result.andThen_ok]
    exact ⟨rfl, rfl⟩, h⟩
theorem AvC_part (ar : Arr) (v : Value) : ∀ (j : Nat) u, (PaC ar.pt v)[j]? = some u → (AvC ⟨ar, v⟩)[0 + j]? = some u := by
  intro j u hu
  rw [Nat.zero_add]
  have hl := (List.getElem?_eq_some_iff.1 hu).1
  rw [AvC, List.getElem?_append_left hl]
  exact hu
theorem AvC_mark (ar : Arr) (v : Value) : ∀ (j : Nat) u, (ar.ma.val.map W8)[j]? = some u → (AvC ⟨ar, v⟩)[8 + j]? = some u := by
  intro j u hu
  rw [AvC, List.getElem?_append_right (by simp [PaC]; omega), show 8 + j - (PaC ar.pt v).length = j + 1 + 1 + 1 by simp [PaC]; omega]
  simpa using hu
theorem size16m : (Tryz.prog.info? 34).map (·.size) = some 16 := by kernel_rfl
theorem size24w : (Tryz.prog.info? 36).map (·.size) = some 24 := by kernel_rfl
theorem AvC_oneV (ar : Arr) (A : Option Addr) (n c : Nat) : ∀ u ∈ AvC ⟨ar, .slice A n c⟩, u.oneCell' = true := by
  intro u hu
  rcases List.mem_append.1 hu with hu | hu
  · exact PaC_one _ rfl u hu
  · simp only [List.mem_cons, List.mem_map] at hu
    rcases hu with rfl | rfl | rfl | ⟨b, _, rfl⟩ <;> rfl
end Go.Proofs.YtkibgdigcgakfabGreat
