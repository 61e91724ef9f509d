/-
  Numbers in bytes; commands; places exclusive-or: in plain lists.
  codec.Get, codec.Xor of two; chacha's flow from its beginning.
  Commands: built, compared, asked for their form; read from bytes.
-/
import Derived.Test.YtdojjnbpidogfaaGreatChaR
import Derived.Test.YtdojjnbpidogfaaGreatMacP
import Derived.Test.YtdojjnbpidogfaaGreatStrP
import Derived.Test.YtdojjnbpidogfaaGreatBagMore
namespace Go.Proofs.YtdojjnbpidogfaaGreat
open Go.RowKit
open Go.BigFrame

/-! ### Numbers in bytes, the greatest first -/
def beN : List UInt8 → Nat → Nat
  | [], n => n
  | b :: r, n => beN r (n * 256 + b.toNat)
theorem beN_append : ∀ (p q : List UInt8) (n : Nat), beN (p ++ q) n = beN q (beN p n)
  | [], _, _ => rfl
  | b :: r, q, n => by rw [List.cons_append, beN, beN_append r q]; rfl
theorem beN_lt : ∀ (p : List UInt8) (n k : Nat), n < k → beN p n < k * 256 ^ p.length
  | [], n, k, h => by simpa [beN] using h
  | b :: r, n, k, h => by
    have hb := b.toNat_lt
    have := beN_lt r (n * 256 + b.toNat) (k * 256) (by omega)
    rw [beN, List.length_cons, Nat.pow_succ, Nat.mul_comm (256 ^ _), ← Nat.mul_assoc]
    exact this
theorem be_take_succ (bs : List UInt8) (k : Nat) (h : k < bs.length) : bs.take (k + 1) = bs.take k ++ [bs.getD k 0] := by
  rw [List.take_succ_eq_append_getElem h, List.getD_eq_getElem?_getD, List.getElem?_eq_getElem h, Option.getD_some]
theorem beN_succ (bs : List UInt8) (k : Nat) (h : k < bs.length) : beN (bs.take (k + 1)) 0 = beN (bs.take k) 0 * 256 + (bs.getD k 0).toNat := by
  rw [be_take_succ bs k h, beN_append]
  rfl
/-- One byte more, by a shift. -/
theorem be_shl (x : Nat) (b : UInt8) : shl64 (UInt64.ofNat x) 8 ||| b.toUInt64 = UInt64.ofNat (x * 256 + b.toNat) := by
  apply UInt64.toNat_inj.1
  have e1 : (shl64 (UInt64.ofNat x) 8).toNat = (x % 2 ^ 64 * 256) % 2 ^ 64 := by
    show ((UInt64.ofNat x).toBitVec <<< 8).toNat = _
    rw [BitVec.toNat_shiftLeft, Nat.shiftLeft_eq]
    rfl
  have hb := b.toNat_lt
  rw [UInt64.toNat_or, e1, UInt8.toNat_toUInt64, UInt64.toNat_ofNat']
  have e2 : (x % 2 ^ 64 * 256) % 2 ^ 64 = (x % 2 ^ 56) <<< 8 := by
    rw [Nat.shiftLeft_eq]
    omega
  rw [e2, ← Nat.shiftLeft_add_eq_or_of_lt (by omega), Nat.shiftLeft_eq]
  omega
theorem be_mul (x : Nat) (b : UInt8) : UInt64.ofNat x * 256 + b.toUInt64 = UInt64.ofNat (x * 256 + b.toNat) := by
  apply UInt64.toNat_inj.1
  rw [UInt64.toNat_add, UInt64.toNat_mul, UInt64.toNat_ofNat', UInt64.toNat_ofNat', UInt8.toNat_toUInt64]
  show (x % 2 ^ 64 * 256 % 2 ^ 64 + b.toNat) % 2 ^ 64 = _
  omega
theorem be_mul32 (x : Nat) (b : UInt8) : UInt32.ofNat x * 256 + b.toUInt32 = UInt32.ofNat (x * 256 + b.toNat) := by
  apply UInt32.toNat_inj.1
  rw [UInt32.toNat_add, UInt32.toNat_mul, UInt32.toNat_ofNat', UInt32.toNat_ofNat', UInt8.toNat_toUInt32]
  show (x % 2 ^ 32 * 256 % 2 ^ 32 + b.toNat) % 2 ^ 32 = _
  omega
theorem u64_u32 (x : Nat) : (UInt64.ofNat x).toUInt32 = UInt32.ofNat x := by
  apply UInt32.toNat_inj.1
  rw [UInt64.toNat_toUInt32, UInt64.toNat_ofNat', UInt32.toNat_ofNat']
  show x % 2 ^ 64 % 2 ^ 32 = x % 2 ^ 32
  omega

theorem xorB_zeros (q : List UInt8) (n : Nat) (h : q.length = n) : xorB (List.replicate n 0) q = q := by
  subst h
  induction q with
  | nil => rfl
  | cons a q ih =>
    rw [List.length_cons, List.replicate_succ]
    show (0 ^^^ a) :: xorB (List.replicate q.length 0) q = _
    rw [ih, UInt8.zero_xor]


/-! ### Commands -/
abbrev Y16 := {l : List UInt8 // l.length = 16}
structure Cmd where
  kd : UInt8
  fl : UInt8
  dl : UInt32
  nx : UInt64
  ma : Y16
def zero16 : Y16 := ⟨List.replicate 16 0, by simp⟩
def cmd0 : Cmd := ⟨0, 0, 0, 0, zero16⟩
/-- A command's cells. -/
def CC (c : Cmd) : List Value := W8 c.kd :: W8 c.fl :: W32 c.dl :: W64 c.nx :: c.ma.val.map W8
theorem CC_length (c : Cmd) : (CC c).length = 20 := by simp [CC, c.ma.2]
theorem CC_mark (c : Cmd) : (CC c).drop 4 = c.ma.val.map W8 := rfl
/-- Has the command its form, but for the delay. -/
def shapedB (c : Cmd) : Bool := (c.kd == 1) == (c.nx != 0) && (c.kd == 4 || c.ma.val == List.replicate 16 0)
def cmdE (c : Cmd) : Nat := if c.kd < 1 ∨ 4 < c.kd then 1 else if shapedB c = false then 3 else if 1000000 < c.dl then 11 else 0
def cmdOf (b : List UInt8) : Cmd := ⟨b.getD 0 0, b.getD 1 0, UInt32.ofNat (beN (subB b 2 4) 0), UInt64.ofNat (beN (subB b 6 8) 0), ⟨((b ++ List.replicate 32 0).drop 14).take 16, by simp⟩⟩
theorem cmdOf_mark (b : List UInt8) (h : b.length = 32) : (cmdOf b).ma.val = subB b 14 16 := by
  show ((b ++ List.replicate 32 0).drop 14).take 16 = _
  rw [List.drop_append_of_le_length (by omega), List.take_append_of_le_length (by rw [List.length_drop]; omega)]
  rfl
/-- The error of 32 bytes that shall be a command. -/
def decE (b : List UInt8) : Nat := if cmdE (cmdOf b) ≠ 1 ∧ (b.getD 30 0 ≠ 0 ∨ b.getD 31 0 ≠ 0) then 3 else cmdE (cmdOf b)
def decC (b : List UInt8) : Cmd := if decE b = 0 then cmdOf b else cmd0

end Go.Proofs.YtdojjnbpidogfaaGreat
namespace Go.Proofs.YtdojjnbpidogfaaGreat
open Go.RowKit
open Go.BigFrame

set_option maxRecDepth 100000 in
theorem cvalid_big (k : Nat) (hk : 1 ≤ k) (h8 : k ≤ 8) (w : World) : Calls Tryz.prog 111 #[.int .i64 2, .int .i64 (k : Int)] w fun e w' => e = .returned (.bool true) ∧ Later w w' := by
  have h1 : decide ((1 : Int) ≤ (k : Int)) = true := decide_eq_true (by omega)
  have h2 : decide ((k : Int) ≤ 8) = true := decide_eq_true (by omega)
  go_enter Tryz.func111, Tryz.ntmps111
  go_wp2
  go_ret
  exact ⟨rfl, Later.refl w⟩
theorem beN_sub_succ (bs : List UInt8) (o k : Nat) (h : o + k < bs.length) : beN (subB bs o (k + 1)) 0 = beN (subB bs o k) 0 * 256 + (bs.getD (o + k) 0).toNat := by
  rw [subB, beN_succ _ _ (by rw [List.length_drop]; omega)]
  show _ = beN ((bs.drop o).take k) 0 * 256 + _
  congr 2
  rw [List.getD_eq_getElem?_getD, List.getD_eq_getElem?_getD, List.getElem?_drop]
set_option maxRecDepth 100000 in
set_option maxHeartbeats 4000000 in
theorem cget_any (A : Option Addr) (n c o k : Nat) (bs : List UInt8) (w : World) (hb : RdB w A n bs) (hn : n ≤ 140737488355328) (hk : 1 ≤ k) (h8 : k ≤ 8) (ho : o + k ≤ n) :
    Calls Tryz.prog 76 #[.int .i64 2, .slice A n c, .int .i64 (o : Int), .int .i64 (k : Int)] w fun e w' => e = .returned (.tuple #[W64 (UInt64.ofNat (beN (subB bs o k) 0)), .int .i64 0]) ∧ Later w w' := by
  have hbl := hb.len
  have h1 : decide ((n : Int) < (o : Int)) = false := decide_eq_false (by omega)
  have h2 : decide ((n : Int) - (o : Int) < (k : Int)) = false := decide_eq_false (by omega)
  have h3 : decide ((o : Int) < 0) = false := decide_eq_false (by omega)
  have hs := hid (fun j => beN_sub_succ bs o j)
  have hr := hid (fun j => be_shl (beN (subB bs o j) 0))
  have h0 : beN (subB bs o 0) 0 = 0 := rfl
  go_enter Tryz.func76, Tryz.ntmps76
  go_wp2_with fail
  refine (cvalid_big k hk h8 _).mono ?_
  rintro e w1 ⟨rfl, L1⟩
  go_wp2_with fail
  go_loopw [10, 11] (fun v i wr => ∃ j : Nat, j ≤ k ∧ i = .int .i64 j ∧ v = W64 (UInt64.ofNat (beN (subB bs o j) 0)) ∧ Later w wr) (fun _ i _ => k - (intOf i).toNat)
  case atStart => exact ⟨0, by omega, rfl, by rw [h0]; rfl, L1⟩
  case round =>
    clear L1
    obtain ⟨j, hj, rfl, rfl, L⟩ := hrel
    by_cases hlt : j < k
    · have hrd := hb.later L
      have hs' := hs.out j (by omega)
      have hr' := hr.out j (bs.getD (o + j) 0)
      rw [← hs'] at hr'
      replace hr' := hid hr'
      clear hs' hs hr
      obtain ⟨b, p, rfl, hlb, hc⟩ := hrd.2 (by omega)
      have hcell := hc (o + j) (W8 (bs.getD (o + j) 0)) (by rw [List.getElem?_map, List.getD_eq_getElem?_getD, List.getElem?_eq_getElem (by omega)]; rfl)
      generalize bs.getD (o + j) 0 = z at *
      go_wp2
      exact ⟨⟨j + 1, by omega, by go_num, by rw [← hr'.out], L⟩, by simp [intOf]; omega⟩
    · obtain rfl : j = k := by omega
      go_wp2
      go_ret2
      exact ⟨rfl, L⟩
/-- What stands behind k of the two lists. -/
def x2 (xs ys : List UInt8) : Nat → List UInt8
  | 0 => List.replicate xs.length 0
  | 1 => xs
  | _ => xorB xs ys
theorem x2_length {xs ys : List UInt8} (h : xs.length = ys.length) : ∀ k, (x2 xs ys k).length = xs.length
  | 0 => by simp [x2]
  | 1 => rfl
  | k + 2 => by
    show (xorB xs ys).length = _
    rw [xorB_length h, h]
theorem x2_succ {xs ys : List UInt8} : ∀ k, k < 2 → xorB (x2 xs ys k) ([xs, ys].getD k []) = x2 xs ys (k + 1)
  | 0, _ => xorB_zeros _ _ rfl
  | 1, _ => rfl
theorem mem2_length {xs ys : List UInt8} (h : xs.length = ys.length) (k : Nat) (hk : k < 2) : ([xs, ys].getD k []).length = xs.length := by
  match k, hk with
  | 0, _ => rfl
  | 1, _ => exact h.symm
set_option maxRecDepth 100000 in
set_option maxHeartbeats 4000000 in
theorem cxor2_any (B : Option Addr) (d n : Nat) (xs ys : List UInt8) (w : World) (hp : Parts w (fun _ => False) B 2 [xs, ys]) (hx : xs.length = n) (hy : ys.length = n) (hn : n ≤ 1048576) :
    Calls Tryz.prog 150 #[.slice B 2 d] w fun e w' => ∃ A' c', e = .returned (.tuple #[.slice A' n c', .int .i64 0]) ∧ OwnB w' w.heap.size A' n c' (xorB xs ys) ∧ Later w w' := by
  have hxy : xs.length = ys.length := by omega
  have hm := hid (fun k hk => (mem2_length hxy k hk).trans hx)
  have hst := hid (fun k (hk : k < 2) (Xk : List UInt8) (hX : [xs, ys].getD k [] = Xk) => show xorB (x2 xs ys k) Xk = x2 xs ys (k + 1) by rw [← hX]; exact x2_succ k hk)
  have hsl := hid (fun k => (x2_length hxy k).trans hx)
  have h0 : x2 xs ys 0 = List.replicate n 0 := by rw [x2, hx]
  have h2 : x2 xs ys 2 = xorB xs ys := rfl
  have hRl := hid ((xorB_length hxy).trans hy)
  generalize xorB xs ys = R at *
  go_enter Tryz.func150, Tryz.ntmps150
  go_wp2_with fail
  go_loopw [5, 16] (fun _ i wr => ∃ k : Nat, k ≤ 2 ∧ i = .int .i64 k ∧ Later w wr) (fun _ i _ => 2 - (intOf i).toNat)
  case atStart => exact ⟨0, by omega, rfl, Later.refl w⟩
  case round =>
    obtain ⟨k, hk, rfl, L⟩ := hrel
    by_cases hlt : k < 2
    · obtain ⟨b, o, Ak, nk, ck, rfl, hb, hck, hcap, hrd, _⟩ := (hp.later L).at_ hlt
      obtain ⟨b', o', A0, n0, c0, he, hb', hck', hcap', hrd', _⟩ := (hp.later L).at_ (show 0 < 2 by omega)
      simp only [Option.some.injEq, Addr.mk.injEq, and_true] at he
      obtain ⟨rfl, rfl⟩ := he
      rw [Nat.add_zero] at hck'
      obtain rfl : nk = n := by rw [← hrd.len]; exact hm.out k hlt
      obtain rfl : n0 = nk := by rw [← hrd'.len]; exact hm.out 0 (by omega)
      go_wp2
      exact ⟨⟨k + 1, by omega, by go_num, L⟩, by simp [intOf]; omega⟩
    · obtain ⟨b', o', A0, n0, c0, rfl, hb', hck', hcap', hrd', _⟩ := (hp.later L).at_ (show 0 < 2 by omega)
      rw [Nat.add_zero] at hck'
      obtain rfl : n0 = n := by rw [← hrd'.len]; exact hm.out 0 (by omega)
      clear hrd'
      go_wp2_with (first
        | (refine wpList_make_n rfl _ _ _ rfl 5 _ 1 Tryz.underlying22 info8 rfl _ _ _ _ n0 rfl rfl rfl rfl (by omega) (by omega) ?_; intro w1 hb1 hl1')
        | fail)
      have hz : List.replicate n0 (Value.int .u8 0) = (x2 xs ys 0).map W8 := by rw [h0, List.map_replicate]; rfl
      replace hb1 : Blk w1 wr.heap.size 5 ((x2 xs ys 0).map W8) := by rw [← hz]; exact hb1
      have hgw : w.heap.size ≤ wr.heap.size := L.size
      replace L := L.trans hl1'
      clear hz h0 hl1' hck' hb'
      generalize wr.heap.size = g at *
      go_loopw [8, 9, 10, 35] (fun _ _ _ i wr => ∃ k : Nat, k ≤ 2 ∧ i = .int .i64 k ∧ Blk wr g 5 ((x2 xs ys k).map W8) ∧ Later w wr) (fun _ _ _ i _ => 2 - (intOf i).toNat)
      case atStart => exact ⟨0, by omega, rfl, hb1, L⟩
      case round =>
        clear hb1 L
        obtain ⟨k, hk, rfl, hb1, L⟩ := hrel
        by_cases hlt : k < 2
        · obtain ⟨b, o, Ak, nk, ck, he, hb, hck, hcap, hrd, _⟩ := hp.at_ hlt
          simp only [Option.some.injEq, Addr.mk.injEq, and_true] at he
          obtain ⟨rfl, rfl⟩ := he
          obtain rfl : nk = n0 := by rw [← hrd.len]; exact hm.out k hlt
          replace hck := (L.below.cell (p := ⟨b', o' + k, none⟩) hb).trans hck
          replace hb : b' < wr.heap.size := Nat.lt_of_lt_of_le hb L.size
          have hnext := hst.out k hlt _ rfl
          have hyl := hrd.len
          have hxl := hsl.out k
          have hlen : (x2 xs ys k).length = ([xs, ys].getD k []).length := by omega
          generalize [xs, ys].getD k [] = Y at *
          generalize hX' : x2 xs ys (k + 1) = X' at *
          generalize x2 xs ys k = X at *
          have HX' := hid hX'
          clear hX'
          have hX := hid (fun k => xorAt_length hlen k)
          have hG := hid (fun k (h : k < X.length) => xorAt_get hlen h)
          have hS := hid (fun k (h : k < X.length) => xorAt_step hlen h)
          have hA := hid (xorAt_all hlen)
          have hN := hid (xorAt_none X Y)
          go_wp2_with fail
          go_loopw [9, 10, 41] (fun _ _ i wr => ∃ j : Nat, j ≤ nk ∧ i = .int .i64 j ∧ Blk wr g 5 ((xorAt X Y j).map W8) ∧ Later w wr) (fun _ _ i _ => nk - (intOf i).toNat)
          case atStart => exact ⟨0, by omega, rfl, by rw [hN.out]; exact hb1, L⟩
          case round =>
            clear hb1 L
            obtain ⟨j, hj, rfl, hb1, L⟩ := hrel
            by_cases hjt : j < nk
            · obtain ⟨b2, o2, rfl, hb2, hc2⟩ := RdB.at_ (hrd.later L) (by omega)
              have c1 := hc2 j hjt
              have hxk := hX.out j (by omega)
              have d1 := hb1.cellD j (by rw [List.getElem?_map, hG.out j (by omega)]; rfl)
              have HS := hid (hS.out j (by omega))
              clear hc2
              generalize X.getD j 0 = x at *
              generalize Y.getD j 0 = y at *
              go_wp2_with (first
                | (refine wpList_store_in rfl rfl _ _ _ rfl g j _ _ hb1 rfl (by rw [List.length_map]; omega) rfl size8 ?_; intro v' w5 hv' hb5 ho5; simp [go_sem] at hv'; subst hv')
                | fail)
              rw [map_set8, HS.out] at hb5
              go_roundw
              case rel => exact ⟨j + 1, by omega, by go_num, hb5, L.only ho5 hgw⟩
              case measure => simp [intOf]; omega
            · obtain rfl : j = nk := by omega
              have hAll := hA.out
              rw [hxl, hnext] at hAll
              rw [hAll] at hb1
              go_wp2
              exact ⟨⟨k + 1, by omega, by go_num, by rw [HX'.out]; exact hb1, L⟩, by simp [intOf]; omega⟩
        · obtain rfl : k = 2 := by omega
          rw [h2] at hb1
          go_wp2
          go_ret2
          exact ⟨_, _, rfl, by
            have := own_of_blk hb1 hgw (by rw [List.length_map, hRl.out]; omega)
            rw [List.length_map, hRl.out] at this
            exact this, L⟩
end Go.Proofs.YtdojjnbpidogfaaGreat
namespace Go.Proofs.YtdojjnbpidogfaaGreat
open Go.RowKit
open Go.BigFrame

/-! ### 16 bytes -/
theorem size16c : (Tryz.prog.info? 26).map (·.size) = some 16 := by kernel_rfl
theorem eqg_16 : Tryz.prog.eqGuardType Tryz.prog.depth 26 = false := by kernel_rfl
@[go_sem high] theorem eqGuard_b16 (op : BinOp) (x y : Operand) (xs ys : Array Value) (w : World) : (eqGuard op 26 x y (.agg xs) (.agg ys)).run Tryz.prog w = .ok () w := run_eqGuard_agg w op _ x y xs ys eqg_16
@[go_sem high] theorem run_eql_16 (x y : Y16) (w : World) : (binOp .eql 26 (.agg (x.val.map W8).toArray) (.agg (y.val.map W8).toArray)).run Tryz.prog w = .ok (.bool (x.val == y.val)) w := by
  rw [run_eql_struct, run_equalIn_arr w 0 W8 9998 26 5 16 Tryz.underlying26 size8 Tryz.underlying5 rfl (heq_w8 _ _ Tryz.underlying5) _ _ x.2 y.2]
  rfl
@[go_sem high] theorem run_neq_16 (x y : Y16) (w : World) : (binOp .neq 26 (.agg (x.val.map W8).toArray) (.agg (y.val.map W8).toArray)).run Tryz.prog w = .ok (.bool (x.val != y.val)) w := by
  rw [run_neq_struct, run_equalIn_arr w 0 W8 9998 26 5 16 Tryz.underlying26 size8 Tryz.underlying5 rfl (heq_w8 _ _ Tryz.underlying5) _ _ x.2 y.2]
  rfl
theorem built_z16 : Tryz.prog.built 26 [] = some (zero16.val.map W8).toArray := by
  show _ = some ((List.replicate 16 (0 : UInt8)).map W8).toArray
  rw [List.map_replicate]
  kernel_rfl

/-! ### Fields -/
theorem run_part_1 {P : Program} {t : TypeId} {d : TypeDesc} {k : Nat} {v : Value} (hu : P.underlying t = some d) (hd : aggDesc d = false) {zs : List Value} (hz : zs[k]? = some v) (w : World) : (part t zs.toArray k).run P w = .ok v w := by
  have ha : (isAgg t).run P w = .ok false w := by
    unfold isAgg
    simp only [Sem.run_bind, run_underlying hu]
    cases d <;> simp_all [aggDesc]
  unfold part
  simp [Sem.run_bind, ha, Result.andThen_ok, hz]
theorem run_eq64u_cons {P : Program} {d k : Nat} {t : TypeId} {f : Field} {fs : List Field} (hf : f.type = t) (hu : P.underlying t = some (.int .u64)) (hn : f.name ≠ "_") {xs ys : List Value} {p q : UInt64} (ho : f.offset = k) (hp : xs[k]? = some (W64 p)) (hq : ys[k]? = some (W64 q)) (w : World) :
    (Op.eqFields (d + 1) xs.toArray ys.toArray (f :: fs)).run P w = if p == q then (Op.eqFields (d + 1) xs.toArray ys.toArray fs).run P w else .ok false w := by
  rw [Op.eqFields, if_pos hn]
  simp only [Sem.run_bind, hf, ho, run_part_1 hu rfl hp, run_part_1 hu rfl hq, Result.andThen_ok, heq_w64 t _ hu d p q w]
  cases p == q <;> simp
theorem run_eq8_cons {P : Program} {d k : Nat} {t : TypeId} {f : Field} {fs : List Field} (hf : f.type = t) (hu : P.underlying t = some (.int .u8)) (hn : f.name ≠ "_") {xs ys : List Value} {p q : UInt8} (ho : f.offset = k) (hp : xs[k]? = some (W8 p)) (hq : ys[k]? = some (W8 q)) (w : World) :
    (Op.eqFields (d + 1) xs.toArray ys.toArray (f :: fs)).run P w = if p == q then (Op.eqFields (d + 1) xs.toArray ys.toArray fs).run P w else .ok false w := by
  rw [Op.eqFields, if_pos hn]
  simp only [Sem.run_bind, hf, ho, run_part_1 hu rfl hp, run_part_1 hu rfl hq, Result.andThen_ok, heq_w8 t _ hu d p q w]
  cases p == q <;> simp
theorem run_eq32u_cons {P : Program} {d k : Nat} {t : TypeId} {f : Field} {fs : List Field} (hf : f.type = t) (hu : P.underlying t = some (.int .u32)) (hn : f.name ≠ "_") {xs ys : List Value} {p q : UInt32} (ho : f.offset = k) (hp : xs[k]? = some (W32 p)) (hq : ys[k]? = some (W32 q)) (w : World) :
    (Op.eqFields (d + 1) xs.toArray ys.toArray (f :: fs)).run P w = if p == q then (Op.eqFields (d + 1) xs.toArray ys.toArray fs).run P w else .ok false w := by
  rw [Op.eqFields, if_pos hn]
  simp only [Sem.run_bind, hf, ho, run_part_1 hu rfl hp, run_part_1 hu rfl hq, Result.andThen_ok, heq_w32 t _ hu d p q w]
  cases p == q <;> simp
/-- Are two commands the same. -/
def eqCmd (x y : Cmd) : Bool := x.kd == y.kd && (x.fl == y.fl && (x.dl == y.dl && (x.nx == y.nx && x.ma.val == y.ma.val)))
@[go_sem] theorem eqCmd_self (x : Cmd) : eqCmd x x = true := by simp [eqCmd]
theorem CC_mark16 (x : Cmd) : ((CC x).drop 4).take 16 = x.ma.val.map W8 := by rw [CC_mark, List.take_of_length_le (by rw [List.length_map, x.ma.2]; omega)]
set_option maxRecDepth 100000 in
theorem run_eqF_cmd (x y : Cmd) (w : World) {fs : Array Field} (hu : Tryz.prog.underlying 28 = some (.struct fs)) : (Op.eqFields 9999 (CC x).toArray (CC y).toArray fs.toList).run Tryz.prog w = .ok (eqCmd x y) w := by
  rw [Tryz.underlying28] at hu
  cases hu
  rw [run_eq8_cons (d := 9998) (k := 0) rfl Tryz.underlying5 (by decide) rfl rfl rfl, run_eq8_cons (d := 9998) (k := 1) rfl Tryz.underlying5 (by decide) rfl rfl rfl, run_eq32u_cons (d := 9998) (k := 2) rfl Tryz.underlying24 (by decide) rfl rfl rfl,
    run_eq64u_cons (d := 9998) (k := 3) rfl Tryz.underlying25 (by decide) rfl rfl rfl, run_eqP_cons (d := 9997) (k := 4) rfl Tryz.underlying26 size16c size8 Tryz.underlying5 (by decide) rfl (CC_mark16 x) (CC_mark16 y) x.ma.2 y.ma.2, run_eq32_nil]
  rw [eqCmd]
  cases x.kd == y.kd <;> cases x.fl == y.fl <;> cases x.dl == y.dl <;> cases x.nx == y.nx <;> cases x.ma.val == y.ma.val <;> rfl
theorem eqg_cmd : Tryz.prog.eqGuardType Tryz.prog.depth 28 = false := by kernel_rfl
@[go_sem high] theorem eqGuard_cmd (op : BinOp) (x y : Operand) (xs ys : Array Value) (w : World) : (eqGuard op 28 x y (.agg xs) (.agg ys)).run Tryz.prog w = .ok () w := run_eqGuard_agg w op _ x y xs ys eqg_cmd
set_option maxRecDepth 100000 in
@[go_sem high] theorem run_eql_cmd (x y : Cmd) (w : World) : (binOp .eql 28 (.agg (CC x).toArray) (.agg (CC y).toArray)).run Tryz.prog w = .ok (.bool (eqCmd x y)) w := by
  rw [run_eql_s Tryz.underlying28 (by kernel_rfl), run_eqF_cmd x y w Tryz.underlying28]
  rfl
set_option maxRecDepth 100000 in
@[go_sem high] theorem run_neq_cmd (x y : Cmd) (w : World) : (binOp .neq 28 (.agg (CC x).toArray) (.agg (CC y).toArray)).run Tryz.prog w = .ok (.bool (!eqCmd x y)) w := by
  rw [run_neq_s Tryz.underlying28 (by kernel_rfl), run_eqF_cmd x y w Tryz.underlying28]
  rfl

/-! ### In memory -/
theorem size20 : (Tryz.prog.info? 28).map (·.size) = some 20 := by kernel_rfl
theorem zeroC : (Tryz.prog.info? 28).bind (·.zero) = some (.agg (CC cmd0).toArray) := by kernel_rfl
theorem CC_one (x : Cmd) : ∀ u ∈ CC x, u.oneCell' = true := by
  intro u hu
  simp only [CC, List.mem_cons, List.mem_map] at hu
  rcases hu with rfl | rfl | rfl | rfl | ⟨b, _, rfl⟩ <;> rfl
theorem built_cmd0 : Tryz.prog.built 28 [] = some (CC cmd0).toArray := by
  rw [built_struct (pl := [(0, 1), (1, 1), (2, 1), (3, 1), (4, 16)]) Tryz.underlying28 zeroC (by kernel_rfl), fill_nil]
theorem built_cmd2 (k f : UInt8) : Tryz.prog.built 28 [(0, W8 k), (1, W8 f)] = some (CC ⟨k, f, 0, 0, zero16⟩).toArray := by
  rw [built_struct (pl := [(0, 1), (1, 1), (2, 1), (3, 1), (4, 16)]) Tryz.underlying28 zeroC (by kernel_rfl), fill_cons (vs := [W8 k]) (off := 0) rfl rfl (by rw [CC_length]; simp), fill_cons (vs := [W8 f]) (off := 1) rfl rfl (by rw [spliced_length _ _ _ (by rw [CC_length]; simp), CC_length]; simp), fill_nil]
  rfl
section
variable {ops : Array Oper} {rest : List Oper} {o : Oper} {a : Act} {w : World} {Q : Exit → Act → World → Prop}
theorem store_C (hgd : o.guard = none) (hd : o.dst = none) (x y : Operand) (ho : o.op = .store 28 x y) {g : Nat} {t : TypeId} {l : List Value} {z : Cmd} (hg : Blk w g t l) (hx : a.eval x = .pointer (some ⟨g, 0, none⟩)) (hy : a.eval y = .agg (CC z).toArray) (hl : l.length = 20)
    (h : ∀ w', Blk w' g t (CC z) → Only g w w' → wpList Tryz.prog ops Q rest a w') : wpList Tryz.prog ops Q (o :: rest) a w :=
  wpList_store_blk hgd hd _ x y ho g t l _ hg hx hy 20 size20 (CC_length _) hl (CC_one _) h
theorem load_C (hw : Region.wanted o (yielded ops a.tmps) = true) (x : Operand) (ho : o.op = .load 28 x) {g : Nat} {t : TypeId} {z : Cmd} (hb : Blk w g t (CC z)) (hx : a.eval x = .pointer (some ⟨g, 0, none⟩))
    (h : wpList Tryz.prog ops Q rest (a.put o.dst (.agg (CC z).toArray)) w) : wpList Tryz.prog ops Q (o :: rest) a w :=
  wpList_load_at hw _ x ho g 0 _ (fun j v hv => by rw [Nat.zero_add]; exact hb.cellD j hv) hx _ Tryz.underlying28 rfl (by rw [CC_length]; exact size20) h
theorem load_16 (hw : Region.wanted o (yielded ops a.tmps) = true) (x : Operand) (ho : o.op = .load 26 x) {g off : Nat} {y : Y16} (hc : ∀ j v, (y.val.map W8)[j]? = some v → w.cell? ⟨g, off + j, none⟩ = some v) (hx : a.eval x = .pointer (some ⟨g, off, none⟩))
    (h : wpList Tryz.prog ops Q rest (a.put o.dst (.agg (y.val.map W8).toArray)) w) : wpList Tryz.prog ops Q (o :: rest) a w :=
  wpList_load_at hw _ x ho g off _ hc hx _ Tryz.underlying26 rfl (by rw [List.length_map, y.2]; exact size16c) h
end
/-- What a command's cells hold. -/
theorem cmd_at {w : World} {g : Nat} {t : TypeId} {c : Cmd} (h : Blk w g t (CC c)) : w.cell? ⟨g, 0, none⟩ = some (W8 c.kd) ∧ w.cell? ⟨g, 1, none⟩ = some (W8 c.fl) ∧ w.cell? ⟨g, 2, none⟩ = some (W32 c.dl) ∧ w.cell? ⟨g, 3, none⟩ = some (W64 c.nx) ∧ (∀ j v, (c.ma.val.map W8)[j]? = some v → w.cell? ⟨g, 4 + j, none⟩ = some v) :=
  ⟨h.cellD 0 rfl, h.cellD 1 rfl, h.cellD 2 rfl, h.cellD 3 rfl, fun j v hv => h.cellD _ (by rw [show 4 + j = j + 1 + 1 + 1 + 1 by omega, CC]; exact hv)⟩
set_option maxRecDepth 100000 in
set_option maxHeartbeats 1000000 in
theorem shaped_any (c : Cmd) (w : World) : Calls Tryz.prog 151 #[.agg (CC c).toArray] w fun e w' => e = .returned (.bool (shapedB c)) ∧ Later w w' := by
  have hb : Blk (w.alloc (.cells (CC c).toArray 28)) w.heap.size 28 (CC c) := Blk.new _ _ _
  obtain ⟨c0, _, _, c3, c4⟩ := cmd_at hb
  have L := later_alloc w (.cells (CC c).toArray 28)
  have hz := built_z16
  rw [shapedB, show List.replicate 16 (0 : UInt8) = zero16.val from rfl]
  clear hb
  go_enter Tryz.func151, Tryz.ntmps151
  generalize c.kd = kd at *
  generalize c.nx = nx at *
  generalize c.ma = mk at *
  generalize zero16 = z at *
  have hn : (nx != 0) = !(nx == 0) := rfl
  rw [hn]
  cases h1 : (kd == 1) <;> cases h2 : (nx == 0) <;> cases h4 : (kd == 4)
  all_goals
    go_wp2_with (first
      | (refine load_16 rfl _ rfl c4 rfl ?_)
      | (refine wpList_build_w rfl _ _ rfl (z.val.map W8) (by simp only [List.map_toArray, List.map_nil]; exact hz) ?_)
      | fail)
    go_ret
    exact ⟨rfl, L⟩
set_option maxRecDepth 100000 in
set_option maxHeartbeats 1000000 in
theorem ccheck_any (c : Cmd) (w : World) : Calls Tryz.prog 129 #[.agg (CC c).toArray] w fun e w' => e = .returned (.int .i64 (cmdE c : Nat)) ∧ Later w w' := by
  have hb : Blk (w.alloc (.cells (CC c).toArray 28)) w.heap.size 28 (CC c) := Blk.new _ _ _
  obtain ⟨c0, _, c2, _, _⟩ := cmd_at hb
  have L := later_alloc w (.cells (CC c).toArray 28)
  have hS := hid (shaped_any c)
  have hE : cmdE c = if c.kd < 1 ∨ 4 < c.kd then 1 else if shapedB c = false then 3 else if 1000000 < c.dl then 11 else 0 := rfl
  generalize shapedB c = sh at *
  by_cases h1 : c.kd < 1
  · rw [if_pos (.inl h1)] at hE
    rw [hE]
    clear hE
    go_enter Tryz.func129, Tryz.ntmps129
    go_wp2_with fail
    go_ret
    exact ⟨rfl, L⟩
  by_cases h4 : 4 < c.kd
  · rw [if_pos (.inr h4)] at hE
    rw [hE]
    clear hE
    go_enter Tryz.func129, Tryz.ntmps129
    go_wp2_with fail
    go_ret
    exact ⟨rfl, L⟩
  rw [if_neg (by rintro (h | h) <;> contradiction)] at hE
  cases sh
  · rw [if_pos rfl] at hE
    rw [hE]
    clear hE
    go_enter Tryz.func129, Tryz.ntmps129
    go_wp2_with (first
      | (refine load_C rfl _ rfl hb rfl ?_)
      | fail)
    refine (hS.out _).mono ?_
    rintro e w1 ⟨rfl, l1⟩
    go_wp2_with fail
    go_ret
    exact ⟨rfl, L.trans l1⟩
  rw [if_neg (by decide)] at hE
  by_cases hd : 1000000 < c.dl
  · rw [if_pos hd] at hE
    rw [hE]
    clear hE
    go_enter Tryz.func129, Tryz.ntmps129
    go_wp2_with (first
      | (refine load_C rfl _ rfl hb rfl ?_)
      | fail)
    refine (hS.out _).mono ?_
    rintro e w1 ⟨rfl, l1⟩
    replace c2 := (l1.below.cell (p := ⟨w.heap.size, 2, none⟩) hb.lt).trans c2
    go_wp2_with fail
    go_ret
    exact ⟨rfl, L.trans l1⟩
  · rw [if_neg hd] at hE
    rw [hE]
    clear hE
    go_enter Tryz.func129, Tryz.ntmps129
    go_wp2_with (first
      | (refine load_C rfl _ rfl hb rfl ?_)
      | fail)
    refine (hS.out _).mono ?_
    rintro e w1 ⟨rfl, l1⟩
    replace c2 := (l1.below.cell (p := ⟨w.heap.size, 2, none⟩) hb.lt).trans c2
    go_wp2_with fail
    go_ret
    exact ⟨rfl, L.trans l1⟩
end Go.Proofs.YtdojjnbpidogfaaGreat

