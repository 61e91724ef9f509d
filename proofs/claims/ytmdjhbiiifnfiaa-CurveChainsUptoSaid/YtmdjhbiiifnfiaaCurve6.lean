/-
  The ladder as numbers; curve.Mult.
-/
import Derived.Test.YtmdjhbiiifnfiaaCurve5
namespace Go.Proofs.Ytmdjhbiiifnfiaa
open Go.RowKit
open Go.BigFrame

structure Lad where
  x2 : Nat
  z2 : Nat
  x3 : Nat
  z3 : Nat
def LL (x1 : Nat) (s : Lad) : List Value := L5 x1 s.x2 s.z2 s.x3 s.z3
def Lad.Ok (s : Lad) : Prop := s.x2 < T256 ∧ s.z2 < T256 ∧ s.x3 < T256 ∧ s.z3 < T256
def Lad.swap (s : Lad) : Lad := ⟨s.x3, s.z3, s.x2, s.z2⟩
/-- One step of the ladder. -/
def Lad.step (x1 : Nat) (s : Lad) : Lad :=
  ⟨fmul (fmul (fadd s.x2 s.z2) (fadd s.x2 s.z2)) (fmul (fsub s.x2 s.z2) (fsub s.x2 s.z2)),
   fmul (fsub (fmul (fadd s.x2 s.z2) (fadd s.x2 s.z2)) (fmul (fsub s.x2 s.z2) (fsub s.x2 s.z2))) (fadd (fmul (fadd s.x2 s.z2) (fadd s.x2 s.z2)) (fmul 121665 (fsub (fmul (fadd s.x2 s.z2) (fadd s.x2 s.z2)) (fmul (fsub s.x2 s.z2) (fsub s.x2 s.z2))))),
   fmul (fadd (fmul (fsub s.x3 s.z3) (fadd s.x2 s.z2)) (fmul (fadd s.x3 s.z3) (fsub s.x2 s.z2))) (fadd (fmul (fsub s.x3 s.z3) (fadd s.x2 s.z2)) (fmul (fadd s.x3 s.z3) (fsub s.x2 s.z2))),
   fmul x1 (fmul (fsub (fmul (fsub s.x3 s.z3) (fadd s.x2 s.z2)) (fmul (fadd s.x3 s.z3) (fsub s.x2 s.z2))) (fsub (fmul (fsub s.x3 s.z3) (fadd s.x2 s.z2)) (fmul (fadd s.x3 s.z3) (fsub s.x2 s.z2))))⟩
theorem Lad.swap_ok {s : Lad} (h : s.Ok) : s.swap.Ok := ⟨h.2.2.1, h.2.2.2, h.1, h.2.1⟩
theorem Lad.step_ok (x1 : Nat) (s : Lad) : (s.step x1).Ok := ⟨fmul_T _ _, fmul_T _ _, fmul_T _ _, fmul_T _ _⟩
def Lad.round (x1 : Nat) (b : Bool) (s : Lad) : Lad := if b then (s.swap.step x1).swap else s.step x1
theorem Lad.round_ok (x1 : Nat) (b : Bool) (s : Lad) : (s.round x1 b).Ok := by
  unfold Lad.round
  split
  · exact Lad.swap_ok (Lad.step_ok _ _)
  · exact Lad.step_ok _ _
/-- A scalar's bit. -/
def kbit (K : List UInt8) (t : Nat) : Bool := decide ((K.getD (t / 8) 0).toNat / 2 ^ (t % 8) % 2 = 1)
/-- The ladder after so many bits. -/
def Lad.at (x1 : Nat) (K : List UInt8) : Nat → Lad
  | 0 => ⟨1, 0, x1, 1⟩
  | k + 1 => (Lad.at x1 K k).round x1 (kbit K (254 - k))
theorem Lad.at_ok (x1 : Nat) (K : List UInt8) (h : x1 < T256) : ∀ k, (Lad.at x1 K k).Ok
  | 0 => ⟨show (1 : Nat) < T256 by decide, show (0 : Nat) < T256 by decide, h, show (1 : Nat) < T256 by decide⟩
  | _ + 1 => Lad.round_ok _ _ _
/-- What a multiplication comes to. -/
def multQ (ks us : List UInt8) : Nat := fmul (Lad.at (readN us) (clampB ks) 255).x2 (pinv (Lad.at (readN us) (clampB ks) 255).z2)
def multE (ks us : List UInt8) : Nat := if ks.length = 32 ∧ us.length = 32 then (if multQ ks us = 0 then 5 else 0) else 2
def multB (ks us : List UInt8) : List UInt8 := if ks.length = 32 ∧ us.length = 32 then nb (multQ ks us) else List.replicate 32 0
theorem multB_length (ks us : List UInt8) : (multB ks us).length = 32 := by
  unfold multB
  split
  · exact nb_length _
  · simp
theorem exchange_L (g : Nat) (t : TypeId) (x1 : Nat) (s : Lad) (w : World) (hb : Blk w g t (LL x1 s)) :
    Calls Try.prog 70 #[.pointer (some ⟨g, 0, none⟩)] w fun e w' => e = .returned (.tuple #[]) ∧ Blk w' g t (LL x1 s.swap) ∧ Only g w w' :=
  exchange_any g t x1 s.x2 s.z2 s.x3 s.z3 w hb
theorem step_L (g : Nat) (t : TypeId) (x1 : Nat) (s : Lad) (h1 : x1 < T256) (hs : s.Ok) (w : World) (hb : Blk w g t (LL x1 s)) :
    Calls Try.prog 71 #[.pointer (some ⟨g, 0, none⟩)] w fun e w' => e = .returned (.tuple #[]) ∧ Blk w' g t (LL x1 (s.step x1)) ∧ Only g w w' :=
  ladder_step g t x1 s.x2 s.z2 s.x3 s.z3 h1 hs.1 hs.2.1 hs.2.2.1 hs.2.2.2 w hb
theorem quiet_build {P : Program} {C : World → Prop} {a : Act} {o : Oper} {K : Act → Prop} (t : TypeId) (parts : Array (Nat × Operand)) (ho : o.op = .build t parts) (vs : List Value) (hb : P.built t (parts.map fun (i, x) => (i, a.eval x)).toList = some vs.toArray)
    (h : K (a.put o.dst (.agg vs.toArray))) : o.quiet P a C K :=
  ⟨.agg vs.toArray, fun w hw => by
    unfold Oper.quietAt execOp
    simp only [ho, Sem.run_bind, run_build w t _ _ hb, Result.andThen_ok]
    exact ⟨rfl, rfl⟩, h⟩
theorem built_ladder_aux (a0 a1 a2 a3 b0 b1 b2 b3 c0 c1 c2 c3 d0 d1 d2 d3 : Value) :
    Program.built Try.prog 108 [(0, .agg #[a0, a1, a2, a3]), (1, .agg #[b0, b1, b2, b3]), (3, .agg #[c0, c1, c2, c3]), (4, .agg #[d0, d1, d2, d3])] = some #[a0, a1, a2, a3, b0, b1, b2, b3, .int .u64 0, .int .u64 0, .int .u64 0, .int .u64 0, c0, c1, c2, c3, d0, d1, d2, d3] := by kernel_rfl
theorem built_ladder (x1 : Nat) : Program.built Try.prog 108 [(0, E x1), (1, E 1), (3, E x1), (4, E 1)] = some (LL x1 ⟨1, 0, x1, 1⟩).toArray := by
  show _ = some (EL x1 ++ (EL 1 ++ (EL 0 ++ (EL x1 ++ EL 1)))).toArray
  rw [E, E, EL_four x1, EL_four 1, EL_four 0]
  exact built_ladder_aux ..
end Go.Proofs.Ytmdjhbiiifnfiaa
