/-
  Packets opened by a key: in plain lists.
  header.Bytes, Fits; packet.Parse, Bytes.
  Commands read from bytes: command.Decode.
  header.Open.
-/
import Derived.Test.YtdojjnbpidogfaaGreatRcA
import Derived.Test.YtdojjnbpidogfaaGreatKeyP
import Derived.Test.YtdojjnbpidogfaaGreatWideR
import Derived.Test.YtdojjnbpidogfaaGreatRowP
import Derived.Test.YtdojjnbpidogfaaGreatRcB
import Derived.Test.YtdojjnbpidogfaaGreatCanP
namespace Go.Proofs.YtdojjnbpidogfaaGreat
open Go.RowKit
open Go.BigFrame

/-! ### A header is opened -/
def kMac (s : List UInt8) : List UInt8 := subB s 0 32
def kStr (s : List UInt8) : List UInt8 := subB s 32 32
def kPay (s : List UInt8) : List UInt8 := subB s 64 32
def kBli (s : List UInt8) : List UInt8 := subB s 96 32
def kAlp (s : List UInt8) : List UInt8 := subB s 128 32
def kSec (s : List UInt8) : List UInt8 := subB s 160 32
def tagB (key al be : List UInt8) : List UInt8 := (macTag key (al ++ be)).take 16
def hfitB (h s : List UInt8) : Bool := decide (tagB (kMac s) (subB h 0 32) (subB h 48 240) = subB h 32 16)
def plainB (h s : List UInt8) : List UInt8 := xorB (subB h 48 240 ++ List.replicate 48 0) (chaS (kStr s) 288)
def nextB (s : List UInt8) : List UInt8 := multB (kBli s) (kAlp s)
def nextE (s : List UInt8) : Nat := multE (kBli s) (kAlp s)
def openE (h s : List UInt8) : Nat := if hfitB h s = false then 6 else if decE ((plainB h s).take 32) ≠ 0 then 3 else if (decC ((plainB h s).take 32)).kd = 1 then nextE s else 0
def openC (h s : List UInt8) : Cmd := if openE h s = 0 then decC ((plainB h s).take 32) else cmd0
def openN (h s : List UInt8) : List UInt8 := if openE h s = 0 ∧ (decC ((plainB h s).take 32)).kd = 1 then nextB s ++ (plainB h s).drop 32 else List.replicate 288 0
theorem plainB_length (h s : List UInt8) (hl : h.length = 288) : (plainB h s).length = 288 := by
  have h1 : (subB h 48 240).length = 240 := subB_length (by omega)
  rw [plainB, xorB_length (by simp [h1, chaS_length]), chaS_length]
theorem openN_length (h s : List UInt8) (hl : h.length = 288) : (openN h s).length = 288 := by
  unfold openN
  split
  · rw [List.length_append, List.length_drop, plainB_length h s hl, nextB, multB_length]
  · rw [List.length_replicate]

/-! ### A packet is opened -/
def relE (s p : List UInt8) : Nat := openE (p.take 288) s
def relC (s p : List UInt8) : Cmd := openC (p.take 288) s
def relBody (s p : List UInt8) : List UInt8 := wideB (kPay s) (p.drop 288) rsO
/-- The packet within; noughts, if there is none. -/
def relP (s p : List UInt8) : List UInt8 := if relE s p = 0 ∧ (relC s p).kd = 1 then openN (p.take 288) s ++ relBody s p else List.replicate 768 0
/-- The payload; none, if the packet goes on. -/
def relB (s p : List UInt8) : List UInt8 := if relE s p = 0 ∧ (relC s p).kd ≠ 1 then relBody s p else []
def unwE (k p : List UInt8) : Nat := if multE k (p.take 32) = 0 then relE (peelB k (p.take 32)) p else multE k (p.take 32)
def unwC (k p : List UInt8) : Cmd := if multE k (p.take 32) = 0 then relC (peelB k (p.take 32)) p else cmd0
def unwP (k p : List UInt8) : List UInt8 := if multE k (p.take 32) = 0 then relP (peelB k (p.take 32)) p else List.replicate 768 0
def unwB (k p : List UInt8) : List UInt8 := if multE k (p.take 32) = 0 then relB (peelB k (p.take 32)) p else []
end Go.Proofs.YtdojjnbpidogfaaGreat
namespace Go.Proofs.YtdojjnbpidogfaaGreat
open Go.RowKit
open Go.BigFrame

theorem results_cct {P : Program} {fn : Func} {p q u : Tmp} {ty ty2 : TypeId} (h : fn.results = #[.cell p ty, .cell q ty2, .tmp u]) (tmps : Array Value) (w : World) (g g2 : Nat) (t t2 : TypeId) (l l2 : List Value) (d d2 : TypeDesc)
    (hg : Blk w g t l) (hp : tmps.getD p undef = .pointer (some ⟨g, 0, none⟩)) (hu : P.underlying ty = some d) (hd : aggDesc d = true) (hi : (P.info? ty).map (·.size) = some l.length)
    (hg2 : Blk w g2 t2 l2) (hp2 : tmps.getD q undef = .pointer (some ⟨g2, 0, none⟩)) (hu2 : P.underlying ty2 = some d2) (hd2 : aggDesc d2 = true) (hi2 : (P.info? ty2).map (·.size) = some l2.length) :
    (results fn tmps).run P w = .ok (.tuple #[.agg l.toArray, .agg l2.toArray, tmps.getD u undef]) w := by
  have h1 := run_loadVar_agg (P := P) w g 0 ty l d (fun j v hv => by rw [Nat.zero_add]; exact hg.cellD j hv) hu hd hi
  have h2 := run_loadVar_agg (P := P) w g2 0 ty2 l2 d2 (fun j v hv => by rw [Nat.zero_add]; exact hg2.cellD j hv) hu2 hd2 hi2
  have hp' : tmps[p]?.getD undef = .pointer (some ⟨g, 0, none⟩) := by simpa using hp
  have hq' : tmps[q]?.getD undef = .pointer (some ⟨g2, 0, none⟩) := by simpa using hp2
  simp [results, h, Sem.run_bind, Result.andThen, hp', hq', asAddr, h1, h2]
theorem results_ctt {P : Program} {fn : Func} {p u v : Tmp} {ty : TypeId} (h : fn.results = #[.cell p ty, .tmp u, .tmp v]) (tmps : Array Value) (w : World) (g : Nat) (t : TypeId) (l : List Value) (d : TypeDesc)
    (hg : Blk w g t l) (hp : tmps.getD p undef = .pointer (some ⟨g, 0, none⟩)) (hu : P.underlying ty = some d) (hd : aggDesc d = true) (hi : (P.info? ty).map (·.size) = some l.length) :
    (results fn tmps).run P w = .ok (.tuple #[.agg l.toArray, tmps.getD u undef, tmps.getD v undef]) w := by
  have h1 := run_loadVar_agg (P := P) w g 0 ty l d (fun j v hv => by rw [Nat.zero_add]; exact hg.cellD j hv) hu hd hi
  have hp' : tmps[p]?.getD undef = .pointer (some ⟨g, 0, none⟩) := by simpa using hp
  simp [results, h, hp', asAddr, h1]
theorem hdr_parts (h : List UInt8) (hl : h.length = 288) : [subB h 0 32, subB h 32 16, subB h 48 240].flatten = h := by
  rw [subB, subB, subB, List.flatten_cons, List.flatten_cons, List.flatten_cons, List.flatten_nil, List.append_nil, List.drop_zero, List.take_of_length_le (l := h.drop 48) (by rw [List.length_drop]; omega), show h.drop 48 = (h.drop 32).drop 16 by rw [List.drop_drop], List.take_append_drop, List.take_append_drop]
set_option maxRecDepth 100000 in
set_option maxHeartbeats 2000000 in
theorem hbytes_any (h : List UInt8) (hl : h.length = 288) (w : World) :
    Calls Tryz.prog 51 #[.agg (h.map W8).toArray] w fun e w' => ∃ A' c', e = .returned (.slice A' 288 c') ∧ OwnB w' w.heap.size A' 288 c' h ∧ Later w w' := by
  have hb := Blk.new w 37 (h.map W8)
  have hJ := hid (fun B d (w : World) hp => cjoin_any B 3 d [subB h 0 32, subB h 32 16, subB h 48 240] w hp (by omega) (by rw [hdr_parts h hl]; omega))
  rw [hdr_parts h hl, hl] at hJ
  have s0 : (subB h 0 32).length = 32 := subB_length (by omega)
  have s1 : (subB h 32 16).length = 16 := subB_length (by omega)
  have s2 : (subB h 48 240).length = 240 := subB_length (by omega)
  have L := later_alloc w (.cells (h.map W8).toArray 37)
  go_enter Tryz.func51, Tryz.ntmps51
  go_wp2_with fail
  refine wp_region_parts [([0, 1, 2, 3, 4, 5], 6), ([], 7)] [8] [] (by as_aux_lemma => kernel_rfl) (by as_aux_lemma => kernel_rfl) (by intro _ _ d _ _ h; cases d <;> exact h) ?_
  simp only [wpParts, pick, List.getElem?_cons_succ, List.getElem?_cons_zero, Option.toList_some, List.cons_append, List.nil_append]
  repeat (go_big_quiet_step (fail))
  refine wpQuiet_nil ?_
  go_wp2_with fail
  try refine ⟨by first | assumption | exact later_drew _ | exact later_alloc _ _ | exact Later.refl _, ?_⟩
  try simp only [wpParts, pick, List.getElem?_cons_succ, List.getElem?_cons_zero, Option.toList_some, List.cons_append, List.nil_append]
  repeat (go_big_quiet_step (fail))
  refine wpQuiet_nil ?_
  have l2 := (later_drew (w.alloc (.cells (h.map W8).toArray 37))).trans (later_alloc _ (.cells #[.slice (some ⟨w.heap.size, 0, none⟩) 32 32, .slice (some ⟨w.heap.size, 32, none⟩) 16 16, .slice (some ⟨w.heap.size, 48, none⟩) 240 240] 22))
  have hb2 := hb.later l2
  have P3 := parts_bad (bad := fun _ => False) (ps := [subB h 0 32, subB h 32 16, subB h 48 240]) ((Blk.new' (n := w.heap.size + 1) (w.alloc (.cells (h.map W8).toArray 37)).drew 22 [.slice (some ⟨w.heap.size, 0, none⟩) 32 32, .slice (some ⟨w.heap.size, 32, none⟩) 16 16, .slice (some ⟨w.heap.size, 48, none⟩) 240 240] (by simp)).rd rfl) (avoid_false _ _) ⟨part_rd (rdB_sub hb2 rfl s0) (Nat.le_refl _), part_rd (rdB_sub hb2 rfl s1) (Nat.le_refl _), part_rd (rdB_sub hb2 rfl s2) (Nat.le_refl _), trivial⟩
  go_wp2_with fail
  (with_reducible refine (hJ.out _ _ _ P3).mono ?_); rintro e w3 ⟨A3, c3, rfl, o3, l3⟩
  go_wp2_with fail
  try refine ⟨by first | assumption | exact later_drew _ | exact later_alloc _ _ | exact Later.refl _, ?_⟩
  try simp only [wpParts, pick, List.getElem?_cons_succ, List.getElem?_cons_zero, Option.toList_some, List.cons_append, List.nil_append]
  repeat (go_big_quiet_step (fail))
  refine wpQuiet_nil ?_
  go_wp2_with fail
  go_ret
  exact ⟨_, _, rfl, o3.mono (L.trans l2).size, (L.trans l2).trans l3⟩
set_option maxRecDepth 100000 in
set_option maxHeartbeats 2000000 in
theorem hfits_any (h s : List UInt8) (hl : h.length = 288) (hs : s.length = 192) (w : World) :
    Calls Tryz.prog 98 #[.agg (h.map W8).toArray, .agg (s.map W8).toArray] w fun e w' => e = .returned (.bool (hfitB h s)) ∧ Later w w' := by
  have C1 := bag_new w 37 (h.map W8)
  have C2 : Bag w ((w.alloc (.cells (h.map W8).toArray 37)).alloc (.cells (s.map W8).toArray 109)) [(w.heap.size + 1, 109, s.map W8), (w.heap.size, 37, h.map W8)] :=
    C1.add (later_alloc _ _) (by simp) (by omega) (Blk.new' _ _ _ (by simp))
  clear C1
  have s0 : (subB h 0 32).length = 32 := subB_length (by omega)
  have s1 : (subB h 32 16).length = 16 := subB_length (by omega)
  have s2 : (subB h 48 240).length = 240 := subB_length (by omega)
  have k0 : (kMac s).length = 32 := subB_length (by omega)
  have hC := hid (fun A B C d e0 (w : World) h1 h2 h3 => check_any A B C 32 32 2 d 16 e0 (kMac s) (subB h 32 16) [subB h 0 32, subB h 48 240] w h1 (by omega) (by omega) h2 (by omega) h3 (by omega) (by simp [s0, s2]))
  have hF := hid (show hfitB h s = decide ((macTag (kMac s) [subB h 0 32, subB h 48 240].flatten).take 16 = subB h 32 16) by
    rw [hfitB, tagB, List.flatten_cons, List.flatten_cons, List.flatten_nil, List.append_nil])
  go_enter Tryz.func98, Tryz.ntmps98
  go_wp2_with fail
  generalize hW : (w.alloc _).alloc _ = w1
  replace C2 : Bag w w1 [(w.heap.size + 1, 109, s.map W8), (w.heap.size, 37, h.map W8)] := by rw [← hW]; exact C2
  clear hW
  refine wp_region_parts [([0, 1, 2, 3, 4, 5, 6, 7, 8], 9), ([], 10)] [11] [] (by as_aux_lemma => kernel_rfl) (by as_aux_lemma => kernel_rfl) (by intro _ _ d _ _ h; cases d <;> exact h) ?_
  simp only [wpParts, pick, List.getElem?_cons_succ, List.getElem?_cons_zero, Option.toList_some, List.cons_append, List.nil_append]
  repeat (go_big_quiet_step (fail))
  refine wpQuiet_nil ?_
  go_wp2_with fail
  try refine ⟨by first | assumption | exact later_drew _ | exact later_alloc _ _ | exact Later.refl _, ?_⟩
  try simp only [wpParts, pick, List.getElem?_cons_succ, List.getElem?_cons_zero, Option.toList_some, List.cons_append, List.nil_append]
  repeat (go_big_quiet_step (fail))
  refine wpQuiet_nil ?_
  have l2 := (later_drew w1).trans (later_alloc _ (.cells #[.slice (some ⟨w.heap.size, 0, none⟩) 32 32, .slice (some ⟨w.heap.size, 48, none⟩) 240 240] 22))
  have B2 := C2.later l2
  have P3 := parts_bad (bad := fun _ => False) (ps := [subB h 0 32, subB h 48 240]) ((Blk.new w1.drew 22 [.slice (some ⟨w.heap.size, 0, none⟩) 32 32, .slice (some ⟨w.heap.size, 48, none⟩) 240 240]).rd rfl) (avoid_false _ _) ⟨part_rd (rdB_sub (B2.nth 1 rfl) rfl s0) (Nat.le_refl _), part_rd (rdB_sub (B2.nth 1 rfl) rfl s2) (Nat.le_refl _), trivial⟩
  go_wp2_with fail
  (refine (hC.out _ _ _ _ _ _ (rdB_sub (B2.nth 0 rfl) rfl k0) (rdB_sub (B2.nth 1 rfl) rfl s1) P3).mono ?_); rintro e w3 ⟨rfl, l3⟩
  rw [← hF.out]
  go_wp2_with fail
  try refine ⟨by first | assumption | exact later_drew _ | exact later_alloc _ _ | exact Later.refl _, ?_⟩
  try simp only [wpParts, pick, List.getElem?_cons_succ, List.getElem?_cons_zero, Option.toList_some, List.cons_append, List.nil_append]
  repeat (go_big_quiet_step (fail))
  refine wpQuiet_nil ?_
  go_wp2_with fail
  go_ret
  exact ⟨rfl, B2.lat.trans l3⟩
end Go.Proofs.YtdojjnbpidogfaaGreat
namespace Go.Proofs.YtdojjnbpidogfaaGreat
open Go.RowKit
open Go.BigFrame

abbrev cz0 : List Value := [.int .u8 0, .int .u8 0, .int .u32 0, .int .u64 0, .int .u8 0, .int .u8 0, .int .u8 0, .int .u8 0, .int .u8 0, .int .u8 0, .int .u8 0, .int .u8 0, .int .u8 0, .int .u8 0, .int .u8 0, .int .u8 0, .int .u8 0, .int .u8 0, .int .u8 0, .int .u8 0]
theorem getD_cell {w : World} {b p n : Nat} {bs : List UInt8} (h : RdB w (some ⟨b, p, none⟩) n bs) (i : Nat) (hi : i < n) : w.cell? ⟨b, p + i, none⟩ = some (W8 (bs.getD i 0)) := by
  obtain ⟨b', o', he, _, hc⟩ := h.2 (by omega)
  have hl := h.len
  cases he
  exact hc i _ (by rw [List.getElem?_map, List.getD_eq_getElem?_getD, List.getElem?_eq_getElem (by omega)]; rfl)
theorem cmd_filled (b : List UInt8) (hb : b.length = 32) (d : UInt32) (x : UInt64) (hd : d = (cmdOf b).dl) (hx : x = (cmdOf b).nx) :
    spliced (((CC ⟨b.getD 0 0, b.getD 1 0, 0, 0, zero16⟩).set 2 (W32 d)).set 3 (W64 x)) 4 (((b.drop 14).map W8).take 16) = CC (cmdOf b) := by
  subst hd hx
  have hm := cmdOf_mark b hb
  have hml : ((b.drop 14).map W8).take 16 = (subB b 14 16).map W8 := by rw [← List.map_take]; rfl
  have hl := subB_length (bs := b) (off := 14) (n := 16) (by omega)
  rw [hml, spliced, List.length_map, hl, List.drop_eq_nil_of_le (by rw [List.length_set, List.length_set, CC_length]; omega), List.append_nil, CC, CC, hm]
  rfl
theorem decE_bool (b : List UInt8) : decE b = if (!(cmdE (cmdOf b) == 1) && (!(b.getD 30 0 == 0) || !(b.getD 31 0 == 0))) = true then 3 else cmdE (cmdOf b) := by
  rw [decE]
  congr 1
  simp
theorem cmdE_cases (c : Cmd) : cmdE c = 0 ∨ cmdE c = 1 ∨ cmdE c = 3 ∨ cmdE c = 11 := by
  unfold cmdE
  split
  · simp
  · split
    · simp
    · split <;> simp
set_option maxRecDepth 100000 in
set_option maxHeartbeats 8000000 in
theorem cdecode_any (A : Option Addr) (c : Nat) (b : List UInt8) (w : World) (hb : RdB w A 32 b) (hc : 32 ≤ c) :
    Calls Tryz.prog 100 #[.slice A 32 c] w fun e w' => e = .returned (.tuple #[.agg (CC (decC b)).toArray, .int .i64 (decE b : Nat)]) ∧ Later w w' := by
  have hbl := hb.len
  obtain ⟨b0, p, rfl, _, _⟩ := hb.2 (by omega)
  have B0 := bag_new w 28 cz0
  have hz0 : cz0.length = 20 := rfl
  have hG1 : Hid (∀ w, RdB w (some ⟨b0, p, none⟩) 32 b → Calls Tryz.prog 76 #[.int .i64 2, .slice (some ⟨b0, p, none⟩) 32 c, .int .i64 2, .int .i64 4] w fun e w' => e = .returned (.tuple #[W64 (UInt64.ofNat (beN (subB b 2 4) 0)), .int .i64 0]) ∧ Later w w') :=
    hid (fun w h => cget_any _ 32 c 2 4 b w h (by omega) (by omega) (by omega) (by omega))
  have hG2 : Hid (∀ w, RdB w (some ⟨b0, p, none⟩) 32 b → Calls Tryz.prog 76 #[.int .i64 2, .slice (some ⟨b0, p, none⟩) 32 c, .int .i64 6, .int .i64 8] w fun e w' => e = .returned (.tuple #[W64 (UInt64.ofNat (beN (subB b 6 8) 0)), .int .i64 0]) ∧ Later w w') :=
    hid (fun w h => cget_any _ 32 c 6 8 b w h (by omega) (by omega) (by omega) (by omega))
  have hfill := hid (cmd_filled b hbl _ (UInt64.ofNat (beN (subB b 6 8) 0)) (u64_u32 (beN (subB b 2 4) 0)) rfl)
  have hcut : cutA (some ⟨b0, p, none⟩) 30 c = some ⟨b0, p + 30, none⟩ := by rw [cutA, if_neg (by omega)]; rfl
  have hcutc : cutA (some ⟨b0, p, none⟩) 14 c = some ⟨b0, p + 14, none⟩ := by rw [cutA, if_neg (by omega)]; rfl
  have hCk := hid (ccheck_any (cmdOf b))
  have hE := cmdE_cases (cmdOf b)
  have hD := hid (decE_bool b)
  have hC := hid (show decC b = if decE b = 0 then cmdOf b else cmd0 from rfl)
  have hcd := hb.cut (c := c) (show 14 ≤ 32 by omega) hc
  rw [hcutc] at hcd
  generalize UInt64.ofNat (beN (subB b 2 4) 0) = x1 at *
  generalize UInt64.ofNat (beN (subB b 6 8) 0) = x2 at *
  generalize decC b = DC at *
  generalize decE b = DE at *
  generalize cmdE (cmdOf b) = e9 at *
  have hb0 := built_cmd0
  go_enter Tryz.func100, Tryz.ntmps100
  go_wp2_with fail
  generalize hW : w.alloc _ = w1
  replace B0 : Bag w w1 [(w.heap.size, 28, cz0)] := by rw [← hW]; exact B0
  clear hW
  have r1 := (hb.later B0.lat).later (later_drew _)
  have c0 := getD_cell r1 0 (by omega)
  have c1 := getD_cell r1 1 (by omega)
  have hlb : b0 < w1.drew.heap.size := by
    obtain ⟨_, _, he, h, _⟩ := r1.2 (by omega)
    cases he
    exact h
  rw [Nat.add_zero] at c0
  have hbc := built_cmd2 (b.getD 0 0) (b.getD 1 0)
  generalize b.getD 0 0 = k0 at *
  generalize b.getD 1 0 = k1 at *
  refine wp_region_parts [([0, 1, 2, 3, 4, 5, 6], 7)] [] [8] (by as_aux_lemma => kernel_rfl) (by as_aux_lemma => kernel_rfl) (by intro _ _ d _ _ h; cases d <;> exact h) ?_
  simp only [wpParts, pick, List.getElem?_cons_succ, List.getElem?_cons_zero, Option.toList_some, List.cons_append, List.nil_append]
  repeat (first | go_big_quiet_skip | (go_big_quiet_want; (refine quiet_build _ _ rfl (CC ⟨k0, k1, 0, 0, zero16⟩) (by simp only [List.map_toArray, List.map_cons, List.map_nil]; exact hbc) ?_); simp only [Act.put, List.setIfInBounds_toArray, List.set_cons_succ, List.set_cons_zero]; go_big_quiet_on) | (go_big_quiet_step (fail)))
  refine wpQuiet_nil ?_
  go_wp2_with fail
  try refine ⟨by first | assumption | exact later_drew _ | exact later_alloc _ _ | exact Later.refl _, ?_⟩
  try simp only [wpParts, pick, List.getElem?_cons_succ, List.getElem?_cons_zero, Option.toList_some, List.cons_append, List.nil_append]
  repeat (go_big_quiet_step (fail))
  refine wpQuiet_nil ?_
  go_wp2_with (first
    | (refine store_C rfl rfl _ _ rfl (Blk.new w1.drew _ cz0) rfl rfl rfl ?_; intro w3 hb3 ho3)
    | fail)
  have B1 := B0.push ((later_drew _).trans (later_alloc _ _)) (Nat.le_refl _) ho3 hb3
  clear hb3 ho3 r1 c0 c1 hlb B0
  generalize w1.heap.size = g3 at *
  (with_reducible refine (hG1.out _ (hb.later B1.lat)).mono ?_); rintro e w4 ⟨rfl, j4⟩
  go_wp2_with fail
  (with_reducible refine (hG2.out _ (hb.later (B1.lat.trans j4))).mono ?_); rintro e w5 ⟨rfl, j5⟩
  replace B1 := (B1.later j4).later j5
  clear j4 j5 hG1 hG2
  go_wp2_with (first
    | (refine wpList_store_in rfl rfl _ _ _ rfl g3 2 _ _ (B1.nth 0 rfl) rfl (by rw [CC_length]; omega) rfl (by kernel_rfl) ?_; intro v6 w6 hv6 hb6 ho6; simp [go_sem] at hv6; subst hv6
       have B2 := B1.write 0 rfl ho6 hb6)
    | (refine wpList_store_in rfl rfl _ _ _ rfl g3 3 _ _ (B2.nth 0 rfl) rfl (by rw [List.length_set, CC_length]; omega) rfl (by kernel_rfl) ?_; intro v7 w7 hv7 hb7 ho7; simp [go_sem] at hv7; subst hv7
       have B3 := B2.write 0 rfl ho7 hb7)
    | fail)
  clear hb6 ho6 hb7 ho7 B1 B2
  have B4 := B3.drew
  have hlb : b0 < w7.drew.heap.size := by
    obtain ⟨_, _, he, h, _⟩ := (hb.later B4.lat).2 (by omega)
    cases he
    exact h
  refine wp_region_parts [] [0, 1, 2, 3] [4] (by as_aux_lemma => kernel_rfl) (by as_aux_lemma => kernel_rfl) (by intro _ _ d _ _ h; cases d <;> exact h) ?_
  simp only [wpParts, pick, List.getElem?_cons_succ, List.getElem?_cons_zero, Option.toList_some, List.cons_append, List.nil_append]
  repeat (go_big_quiet_step (fail))
  refine wpQuiet_nil ?_
  go_wp2_with (first
    | (refine wpList_copy_rd rfl _ _ _ _ rfl 5 Tryz.underlying22 size8 g3 4 16 16 _ _ (B4.nth 0 rfl) (some ⟨b0, p + 14, none⟩) 18 (c - 14) ((b.drop 14).map W8) (Rd.later hcd B4.lat) (w8_one _) rfl rfl (by have := CC_length ⟨k0, k1, 0, 0, zero16⟩; simp only [List.length_set]; omega) ?_; intro w8 hb8 ho8; rw [hfill.out] at hb8
       have B5 := B4.write 0 rfl ho8 hb8)
    | (refine load_C rfl _ rfl (B5.nth 0 rfl) rfl ?_)
    | fail)
  (with_reducible refine (hCk.out _).mono ?_); rintro e w9 ⟨rfl, j9⟩
  have B6 := B5.later j9
  have r9 := hb.later B6.lat
  have c30 := getD_cell r9 30 (by omega)
  have c31 := getD_cell r9 31 (by omega)
  clear hb8 ho8 B5 B4 B3 j9 hcd hcutc hfill hCk r9 hlb hbc
  generalize b.getD 30 0 = d30 at *
  generalize b.getD 31 0 = d31 at *
  generalize cmdOf b = cm at *
  rcases hE with rfl | rfl | rfl | rfl
  all_goals
    cases h30 : (d30 == 0) <;> cases h31 : (d31 == 0)
    all_goals
      have hDE := hD.out
      have hDC := hC.out
      rw [h30, h31] at hDE
      simp at hDE
      rw [hDE] at hDC
      simp at hDC
      replace hDE := hid hDE
      replace hDC := hid hDC
      have n30 : (d30 != 0) = !(d30 == 0) := rfl
      have n31 : (d31 != 0) = !(d31 == 0) := rfl
      rw [h30] at n30
      rw [h31] at n31
      clear hD hC
      go_wp2_with (first
        | (refine load_C rfl _ rfl (B6.nth 0 rfl) rfl ?_)
        | (refine wpList_build_w rfl _ _ rfl (CC cmd0) (by simp only [List.map_toArray, List.map_nil]; exact hb0) ?_)
        | (refine store_C rfl rfl _ _ rfl (B6.nth 1 rfl) rfl rfl hz0 ?_; intro w10 hb10 ho10)
        | fail)
      exact bodyPost_ret (results_blk_tmp rfl _ _ _ _ _ _ hb10 rfl Tryz.underlying28 rfl (by rw [CC_length]; exact size20)) rfl ⟨by rw [hDE.out, hDC.out]; rfl, (B6.write 1 rfl ho10 hb10).lat⟩
end Go.Proofs.YtdojjnbpidogfaaGreat
namespace Go.Proofs.YtdojjnbpidogfaaGreat
open Go.RowKit
open Go.BigFrame

section
variable {ops : Array Oper} {rest : List Oper} {o : Oper} {a : Act} {w : World} {Q : Exit → Act → World → Prop}
/-- A part of a block is loaded, in a region where some stores may come ahead. -/
theorem quiet_late {P : Program} {J : Act → Prop} (ty : TypeId) (x : Operand) (ho : o.op = .load ty x) {w0 : World} {bad : List Nat} {g : Nat} {t : TypeId} {l : List Value} (off : Nat) (vs : List Value) (hb : Blk w0 g t l) (hn : ∀ b ∈ bad, g ≠ b) (hx : a.eval x = .pointer (some ⟨g, off, none⟩))
    (hv : ∀ j v, vs[j]? = some v → l[off + j]? = some v) (d : TypeDesc) (hu : P.underlying ty = some d) (hd : aggDesc d = true) (hi : (P.info? ty).map (·.size) = some vs.length) (h : J (a.put o.dst (.agg vs.toArray))) : o.quiet P a (Spared w0 bad) J :=
  quiet_load_agg _ x ho g off vs (fun _ hw j v hv' => Blk.cellD (hw.blk hb hn) _ (hv j v hv')) hx d hu hd hi h
end
theorem all_cells (l : List Value) : ∀ j v, l[j]? = some v → l[0 + j]? = some v := fun j v h => by rw [Nat.zero_add]; exact h
theorem blk_from {w : World} {g n k : Nat} {t : TypeId} {bs : List UInt8} {rest : List Value} (h : Blk w g t (bs.map W8 ++ rest)) (hn : bs.length = n) (hk : k < n) : Rd w (some ⟨g, k, none⟩) (n - k) ((bs.drop k).map W8) := by
  have h1 := (blk_head h hn).cut (k := k) (c := n + 1) (by omega) (by omega)
  rw [show cutA (some ⟨g, 0, none⟩) k (n + 1) = some ⟨g, k, none⟩ by
    rw [cutA, if_neg (by omega)]
    show some ((⟨g, 0, none⟩ : Addr).add k) = _
    rw [add_at, Nat.zero_add]] at h1
  exact h1
theorem put_next (nb pl : List UInt8) (hn : nb.length = 32) (hp : pl.length = 288) : putB (putB (putB (List.replicate 288 0) 0 nb) 32 ((pl.drop 32).take 16)) 48 (pl.drop 48) = nb ++ pl.drop 32 := by
  have h := put_hdr (nb ++ pl.drop 32) (by rw [List.length_append, List.length_drop]; omega)
  rw [List.take_left' hn, List.drop_left' hn, show (nb ++ pl.drop 32).drop 48 = pl.drop 48 by rw [List.drop_append, List.drop_eq_nil_of_le (by omega), List.nil_append, hn, List.drop_drop]] at h
  exact h
theorem plain_flat (h s : List UInt8) (hl : h.length = 288) : [subB h 48 240, List.replicate 48 0].flatten.length = 288 ∧ xorB [subB h 48 240, List.replicate 48 0].flatten (chaS (kStr s) 288) = plainB h s := by
  have s2 : (subB h 48 240).length = 240 := subB_length (by omega)
  rw [List.flatten_cons, List.flatten_cons, List.flatten_nil, List.append_nil]
  exact ⟨by rw [List.length_append, s2, List.length_replicate], rfl⟩
set_option maxRecDepth 100000 in
set_option maxHeartbeats 8000000 in
theorem hopen_any (h s : List UInt8) (hl : h.length = 288) (hs : s.length = 192) (w : World) :
    Calls Tryz.prog 65 #[.agg (h.map W8).toArray, .agg (s.map W8).toArray] w fun e w' => e = .returned (.tuple #[.agg (CC (openC h s)).toArray, .agg ((openN h s).map W8).toArray, .int .i64 (openE h s : Nat)]) ∧ Later w w' := by
  have HZ := hid zcH
  have l0 : (List.replicate 288 (0 : UInt8)).length = 288 := List.length_replicate
  have C1 := bag_new w 37 (h.map W8)
  have C2 := C1.add (later_alloc _ (.cells (s.map W8).toArray 109)) (k := w.heap.size + 1) (by simp) (by omega) (Blk.new' _ _ _ (by simp))
  have C3 := C2.add (later_alloc _ (.cells cz0.toArray 28)) (k := w.heap.size + 2) (by simp) (by omega) (Blk.new' _ _ _ (by simp))
  have C4 := C3.add (later_alloc _ (.cells Tryz.zeroCells37 37)) (k := w.heap.size + 3) (by simp) (by omega) ((Blk.new' _ _ Tryz.zeroCells37.toList (by simp)).cast HZ.out)
  clear C1 C2 C3
  have s2 : (subB h 48 240).length = 240 := subB_length (by omega)
  have k1 : (kStr s).length = 32 := subB_length (by omega)
  have hF := hid (hfits_any h s hl hs)
  have hpf := plain_flat h s hl
  have hT := hid (fun B d g (w : World) hk hp => cturn_any (some ⟨g, 32, none⟩) 32 2 d B (kStr s) [subB h 48 240, List.replicate 48 0] w hk hp (by omega) (by rw [hpf.1]; omega))
  rw [hpf.1, hpf.2] at hT
  have hpl := plainB_length h s hl
  have hD := hid (fun A c (w : World) h1 h2 => cdecode_any A c ((plainB h s).take 32) w h1 h2)
  have hE : Hid (openE h s = if hfitB h s = false then 6 else if decE ((plainB h s).take 32) ≠ 0 then 3 else if (decC ((plainB h s).take 32)).kd = 1 then nextE s else 0) := hid rfl
  have hC : Hid (openC h s = if openE h s = 0 then decC ((plainB h s).take 32) else cmd0) := hid rfl
  have hN : Hid (openN h s = if openE h s = 0 ∧ (decC ((plainB h s).take 32)).kd = 1 then nextB s ++ (plainB h s).drop 32 else List.replicate 288 0) := hid rfl
  have hX := hid (fun (w : World) => next_any s (kBli s) (kAlp s) hs rfl rfl w)
  have hput := hid (put_next (nextB s) (plainB h s) (multB_length _ _) hpl)
  have hXb : Hid (multB (kBli s) (kAlp s) = nextB s ∧ multE (kBli s) (kAlp s) = nextE s) := hid ⟨rfl, rfl⟩
  rw [hXb.out.1, hXb.out.2] at hX
  have nbl : (nextB s).length = 32 := multB_length _ _
  have hb0 := built_cmd0
  have hbh := built_hdr0
  clear hpf hXb
  generalize openC h s = OC at *
  generalize openN h s = ON at *
  generalize openE h s = OE at *
  generalize hfitB h s = F at *
  generalize plainB h s = pl at *
  generalize decE (pl.take 32) = dE at *
  generalize decC (pl.take 32) = dC at *
  generalize nextE s = nE at *
  generalize nextB s = nb at *
  have hnbl := nbl
  generalize List.replicate 288 (0 : UInt8) = Z at *
  have hzl : (Z.map W8).length = 288 := by rw [List.length_map]; exact l0
  have hz0 : cz0.length = 20 := rfl
  go_enter Tryz.func65, Tryz.ntmps65
  go_wp2_with (first
    | (refine load_H rfl _ rfl (C4.nth 3 rfl) hl rfl ?_)
    | (refine load_St rfl _ rfl (C4.nth 2 rfl) hs rfl ?_)
    | fail)
  (with_reducible refine (hF.out _).mono ?_); rintro e w5 ⟨rfl, l5⟩
  replace C4 := C4.later l5
  clear l5 hF
  cases F
  · have HE := hE.out
    rw [if_pos rfl] at HE
    have HC := hC.out
    rw [HE, if_neg (by decide)] at HC
    have HN := hN.out
    rw [HE, if_neg (by simp)] at HN
    replace HE := hid HE
    replace HC := hid HC
    replace HN := hid HN
    clear hE hC hN
    go_wp2_with (first
      | (refine wpList_build_w rfl 28 _ rfl (CC cmd0) (by simp only [List.map_toArray, List.map_nil]; exact hb0) ?_)
      | (refine wpList_build_w rfl 37 _ rfl (Z.map W8) (by simp only [List.map_toArray, List.map_nil]; exact hbh) ?_)
      | (refine store_C rfl rfl _ _ rfl (C4.nth 1 rfl) rfl rfl hz0 ?_; intro w6 hb6 ho6
         have C5 := C4.write 1 rfl ho6 hb6)
      | (refine store_H rfl rfl _ _ rfl (C5.nth 0 rfl) rfl rfl l0 hzl ?_; intro w7 hb7 ho7
         have C6 := C5.write 0 rfl ho7 hb7)
      | fail)
    exact bodyPost_ret (results_cct rfl _ _ _ _ _ _ _ _ _ _ (C6.nth 1 rfl) rfl Tryz.underlying28 rfl (by rw [CC_length]; exact size20) (C6.nth 0 rfl) rfl Tryz.underlying37 rfl (by rw [List.length_map, l0]; exact size288)) rfl ⟨by rw [HE.out, HC.out, HN.out]; rfl, C6.lat⟩
  · replace hE : Hid (OE = if dE ≠ 0 then 3 else if dC.kd = 1 then nE else 0) := hid (by rw [hE.out, if_neg (by decide)])
    go_wp2_with fail
    have C5 := C4.drew
    clear C4
    refine wp_region_parts [([0, 1, 2, 3, 4], 5), ([], 6), ([], 7)] [8, 9, 10, 11, 12] [] (by as_aux_lemma => kernel_rfl) (by as_aux_lemma => kernel_rfl) (by intro _ _ d _ _ h; cases d <;> exact h) ?_
    simp only [wpParts, pick, List.getElem?_cons_succ, List.getElem?_cons_zero, Option.toList_some, List.cons_append, List.nil_append]
    repeat (go_big_quiet_step (fail))
    refine wpQuiet_nil ?_
    go_wp2_with (first
      | (refine wpList_make_n rfl _ _ _ rfl 5 _ 1 Tryz.underlying22 info8 rfl _ _ _ _ 48 rfl rfl rfl rfl (by omega) (by omega) ?_; intro w6 hb6 hl6)
      | fail)
    try refine ⟨by first | assumption | exact later_drew _ | exact later_alloc _ _ | exact Later.refl _, ?_⟩
    try simp only [wpParts, pick, List.getElem?_cons_succ, List.getElem?_cons_zero, Option.toList_some, List.cons_append, List.nil_append]
    repeat (go_big_quiet_step (fail))
    refine wpQuiet_nil ?_
    have C6 := C5.later hl6
    go_wp2_with fail
    try refine ⟨by first | assumption | exact later_drew _ | exact later_alloc _ _ | exact Later.refl _, ?_⟩
    try simp only [wpParts, pick, List.getElem?_cons_succ, List.getElem?_cons_zero, Option.toList_some, List.cons_append, List.nil_append]
    repeat (go_big_quiet_step (fail))
    refine wpQuiet_nil ?_
    have l7 := later_alloc w6 (.cells #[.slice (some ⟨w.heap.size, 48, none⟩) 240 240, .slice (some ⟨w5.drew.heap.size, 0, none⟩) 48 48] 22)
    have C7 := C6.later l7
    have P7 := parts_bad (bad := fun _ => False) (ps := [subB h 48 240, List.replicate 48 0]) ((Blk.new w6 22 [.slice (some ⟨w.heap.size, 48, none⟩) 240 240, .slice (some ⟨w5.drew.heap.size, 0, none⟩) 48 48]).rd rfl) (avoid_false _ _) ⟨part_rd (rdB_sub (C7.nth 3 rfl) rfl s2) (Nat.le_refl _), part_rd (show RdB _ (some ⟨w5.drew.heap.size, 0, none⟩) 48 (List.replicate 48 0) from (hb6.later l7).rd rfl) (Nat.le_refl _), trivial⟩
    have hk7 := rdB_sub (C7.nth 2 rfl) rfl k1
    go_wp2_with fail
    (refine (hT.out _ _ _ _ hk7 P7).mono ?_); rintro e w8 ⟨A8, c8, rfl, o8, l8⟩
    obtain ⟨g8, r8, rfl, hg8, hb8, hc8, hcc8⟩ := own_some o8 (by omega)
    have C8 := C7.fresh l8 hg8 hb8
    clear C5 C6 C7 P7 hk7 l7 hl6 hb6 hT o8 hb8 hg8 hc8
    go_wp2_with fail
    try refine ⟨by first | assumption | exact later_drew _ | exact later_alloc _ _ | exact Later.refl _, ?_⟩
    try simp only [wpParts, pick, List.getElem?_cons_succ, List.getElem?_cons_zero, Option.toList_some, List.cons_append, List.nil_append]
    repeat (go_big_quiet_step (fail))
    refine wpQuiet_nil ?_
    go_wp2_with fail
    (refine (hD.out _ _ _ ((blk_head (C8.nth 0 rfl) hpl).take (m := 32) (by omega)) (by omega)).mono ?_); rintro e w9 ⟨rfl, l9⟩
    have C9 := C8.later l9
    clear C8 l9 hD
    by_cases hd0 : dE = 0
    · subst hd0
      replace hE : Hid (OE = if dC.kd = 1 then nE else 0) := hid (by rw [hE.out, if_neg (by simp)])
      cases hk1 : (dC.kd == 1)
      · have hkn : ¬ dC.kd = 1 := by simpa using hk1
        have n1 : (dC.kd != 1) = true := by rw [bne, hk1]; rfl
        have HE : OE = 0 := by rw [hE.out, if_neg hkn]
        have HC : OC = dC := by rw [hC.out, HE, if_pos rfl]
        have HN : ON = Z := by rw [hN.out, if_neg (fun h => hkn h.2)]
        replace HE := hid HE
        replace HC := hid HC
        replace HN := hid HN
        clear hE hC hN hkn
        go_wp2_with (first
          | (refine store_C rfl rfl _ _ rfl (Blk.new w9 _ cz0) rfl rfl rfl ?_; intro w10 hb10 ho10
             have C10 := C9.push (later_alloc _ _) (Nat.le_refl _) ho10 hb10
             have hc0 := (cmd_at hb10).1)
          | (refine load_C rfl _ rfl (C10.nth 0 rfl) rfl ?_)
          | (refine wpList_build_w rfl 37 _ rfl (Z.map W8) (by simp only [List.map_toArray, List.map_nil]; exact hbh) ?_)
          | (refine store_C rfl rfl _ _ rfl (C10.nth 3 rfl) rfl rfl hz0 ?_; intro w11 hb11 ho11
             have C11 := C10.write 3 rfl ho11 hb11)
          | (refine store_H rfl rfl _ _ rfl (C11.nth 2 rfl) rfl rfl l0 hzl ?_; intro w12 hb12 ho12
             have C12 := C11.write 2 rfl ho12 hb12)
          | fail)
        exact bodyPost_ret (results_cct rfl _ _ _ _ _ _ _ _ _ _ (C12.nth 3 rfl) rfl Tryz.underlying28 rfl (by rw [CC_length]; exact size20) (C12.nth 2 rfl) rfl Tryz.underlying37 rfl (by rw [List.length_map, l0]; exact size288)) rfl ⟨by rw [HE.out, HC.out, HN.out]; rfl, C12.lat⟩
      · have hky : dC.kd = 1 := by simpa using hk1
        have n1 : (dC.kd != 1) = false := by rw [bne, hk1]; rfl
        replace hE : Hid (OE = nE) := hid (by rw [hE.out, if_pos hky])
        have l1 : (putB Z 0 nb).length = 288 := by rw [putB_length (by omega)]; exact l0
        have l2 : (putB (putB Z 0 nb) 32 ((pl.drop 32).take 16)).length = 288 := by rw [putB_length (by rw [List.length_take, List.length_drop]; omega)]; exact l1
        have e3 : ((pl.drop 48).take 240) = pl.drop 48 := List.take_of_length_le (by rw [List.length_drop]; omega)
        have HNL : (nb ++ pl.drop 32).length = 288 := by rw [List.length_append, List.length_drop]; omega
        replace e3 := hid e3
        generalize hZ2 : putB (putB Z 0 nb) 32 ((pl.drop 32).take 16) = Z2 at *
        generalize hZ1 : putB Z 0 nb = Z1 at *
        replace hZ1 := hid hZ1
        replace hZ2 := hid hZ2
        replace hky := hid hky
        go_wp2_with (first
          | (refine store_C rfl rfl _ _ rfl (Blk.new w9 _ cz0) rfl rfl rfl ?_; intro w10 hb10 ho10
             have C10 := C9.push (later_alloc _ _) (Nat.le_refl _) ho10 hb10
             have hc0 := (cmd_at hb10).1)
          | (refine load_St rfl _ rfl ((C10.later (later_alloc _ _)).nth 4 rfl) hs rfl ?_)
          | fail)
        (with_reducible refine (hX.out _).mono ?_); rintro e w11 ⟨rfl, l11⟩
        have C11 := (C10.fresh (later_alloc _ _) (Nat.le_refl _) ((Blk.new w10 _ Tryz.zeroCells37.toList).cast HZ.out)).later l11
        clear hb10 ho10 l11 C10 C9
        have hc0' := (cmd_at (C11.nth 1 rfl)).1
        by_cases hn0 : nE = 0
        · subst hn0
          have HE := hE.out
          have HC : OC = dC := by rw [hC.out, HE, if_pos rfl]
          have HN : ON = nb ++ pl.drop 32 := by rw [hN.out, if_pos ⟨HE, hky.out⟩]
          replace HE := hid HE
          replace HC := hid HC
          replace HN := hid HN
          clear hE hC hN
          generalize nb ++ pl.drop 32 = NX at *
          have hNX := hid (subB_all NX 288 HNL)
          go_wp2_with (first
            | (refine store_Y 0 32 rfl rfl _ _ rfl (C11.nth 0 rfl) rfl rfl size32c hnbl (by omega) ?_; intro w12 hb12 ho12; rw [hZ1.out] at hb12
               have C12 := C11.write 0 rfl ho12 hb12)
            | fail)
          have C13 := C12.drew
          clear C11 C12 hb12 ho12
          have r32 := blk_from (k := 32) (C13.nth 2 rfl) hpl (by omega)
          refine wp_region_parts [] [0, 1, 2, 3] [4] (by as_aux_lemma => kernel_rfl) (by as_aux_lemma => kernel_rfl) (by intro _ _ d _ _ h; cases d <;> exact h) ?_
          simp only [wpParts, pick, List.getElem?_cons_succ, List.getElem?_cons_zero, Option.toList_some, List.cons_append, List.nil_append]
          repeat (go_big_quiet_step (fail))
          refine wpQuiet_nil ?_
          go_wp2_with (first
            | (refine wpList_copy_rd rfl _ _ _ _ rfl 5 Tryz.underlying22 size8 w10.heap.size 32 16 16 _ _ (C13.nth 0 rfl) (some ⟨g8, 32, none⟩) 256 (c8 - 32) ((pl.drop 32).map W8) r32 (w8_one _) rfl rfl (by rw [List.length_map]; omega) ?_; intro w14 hb14 ho14; rw [← List.map_take, putB_map, hZ2.out] at hb14
               have C14 := C13.write 0 rfl ho14 hb14)
            | fail)
          have C15 := C14.drew
          simp only [Act.put, List.setIfInBounds_toArray, List.set_cons_succ, List.set_cons_zero]
          have r48 := blk_from (k := 48) (C15.nth 2 rfl) hpl (by omega)
          refine wp_region_parts [] [0, 1, 2, 3] [4] (by as_aux_lemma => kernel_rfl) (by as_aux_lemma => kernel_rfl) (by intro _ _ d _ _ h; cases d <;> exact h) ?_
          simp only [wpParts, pick, List.getElem?_cons_succ, List.getElem?_cons_zero, Option.toList_some, List.cons_append, List.nil_append]
          repeat (go_big_quiet_step (fail))
          refine wpQuiet_nil ?_
          go_wp2_with (first
            | (refine wpList_copy_rd rfl _ _ _ _ rfl 5 Tryz.underlying22 size8 w10.heap.size 48 240 240 _ _ (C15.nth 0 rfl) (some ⟨g8, 48, none⟩) 240 (c8 - 48) ((pl.drop 48).map W8) r48 (w8_one _) rfl rfl (by rw [List.length_map]; omega) ?_; intro w16 hb16 ho16; rw [← List.map_take, putB_map, e3.out, hput.out] at hb16
               have C16 := C15.write 0 rfl ho16 hb16)
            | fail)
          simp only [Act.put, List.setIfInBounds_toArray, List.set_cons_succ, List.set_cons_zero]
          clear hb14 ho14 hb16 ho16 C13 C14 C15 r32 r48
          have hne03 := C16.ne 0 4 rfl rfl (by decide)
          refine wp_region_late [0, 1] [2, 3, 4] (fun i => if i = 1 then [2] else []) (fun i => if i = 2 then w.heap.size + 2 else w.heap.size + 3) (by as_aux_lemma => kernel_rfl) (by as_aux_lemma => kernel_rfl) (by intro _ _ d _ _ h; cases d <;> exact h) ?_
          refine ⟨_, rfl, rfl, ?_⟩
          refine quiet_late _ _ rfl 0 (CC dC) (C16.nth 1 rfl) (by simp) rfl (all_cells _) _ Tryz.underlying28 rfl (by rw [CC_length]; exact size20) ?_
          simp only [Act.put, List.setIfInBounds_toArray, List.set_cons_succ, List.set_cons_zero]
          refine ⟨_, rfl, rfl, ?_⟩
          refine quiet_late _ _ rfl 0 (NX.map W8) (C16.nth 0 rfl) (by intro b hb; simp at hb; subst hb; exact hne03) rfl (all_cells _) _ Tryz.underlying37 rfl (by rw [List.length_map, HNL]; exact size288) ?_
          simp only [Act.put, List.setIfInBounds_toArray, List.set_cons_succ, List.set_cons_zero]
          simp only [wpLate, wpTailR, pick, List.getElem?_cons_succ, List.getElem?_cons_zero, Option.toList_some, List.cons_append, List.nil_append]
          refine store_C rfl rfl _ _ rfl (C16.drew.nth 4 rfl) rfl rfl hz0 ?_
          intro w17 hb17 ho17
          have C17 := C16.drew.write 4 rfl ho17 hb17
          refine ⟨ho17, ?_⟩
          refine store_H rfl rfl _ _ rfl (C17.nth 3 rfl) rfl rfl HNL hzl ?_
          intro w18 hb18 ho18
          have C18 := C17.write 3 rfl ho18 hb18
          refine ⟨ho18, ?_⟩
          go_wp2_with fail
          refine ⟨World.grownBy.refl _ _, ?_⟩
          go_wp2_with fail
          exact bodyPost_ret (results_cct rfl _ _ _ _ _ _ _ _ _ _ (C18.nth 4 rfl) rfl Tryz.underlying28 rfl (by rw [CC_length]; exact size20) (C18.nth 3 rfl) rfl Tryz.underlying37 rfl (by rw [List.length_map, HNL]; exact size288)) rfl ⟨by rw [HE.out, HC.out, HN.out]; rfl, C18.lat⟩
        · have hne : ((nE : Int) != 0) = true := by simp; omega
          have HE := hE.out
          have HC : OC = cmd0 := by rw [hC.out, HE, if_neg hn0]
          have HN : ON = Z := by rw [hN.out, HE, if_neg (fun h => hn0 h.1)]
          replace HE := hid HE
          replace HC := hid HC
          replace HN := hid HN
          clear hE hC hN
          go_wp2_with (first
            | (refine store_Y 0 32 rfl rfl _ _ rfl (C11.nth 0 rfl) rfl rfl size32c hnbl (by omega) ?_; intro w12 hb12 ho12; rw [hZ1.out] at hb12
               have C12 := C11.write 0 rfl ho12 hb12)
            | (refine wpList_build_w rfl 28 _ rfl (CC cmd0) (by simp only [List.map_toArray, List.map_nil]; exact hb0) ?_)
            | (refine wpList_build_w rfl 37 _ rfl (Z.map W8) (by simp only [List.map_toArray, List.map_nil]; exact hbh) ?_)
            | (refine store_C rfl rfl _ _ rfl (C12.nth 4 rfl) rfl rfl hz0 ?_; intro w13 hb13 ho13
               have C13 := C12.write 4 rfl ho13 hb13)
            | (refine store_H rfl rfl _ _ rfl (C13.nth 3 rfl) rfl rfl l0 hzl ?_; intro w14 hb14 ho14
               have C14 := C13.write 3 rfl ho14 hb14)
            | fail)
          exact bodyPost_ret (results_cct rfl _ _ _ _ _ _ _ _ _ _ (C14.nth 4 rfl) rfl Tryz.underlying28 rfl (by rw [CC_length]; exact size20) (C14.nth 3 rfl) rfl Tryz.underlying37 rfl (by rw [List.length_map, l0]; exact size288)) rfl ⟨by rw [HE.out, HC.out, HN.out]; rfl, C14.lat⟩
    · have HE : OE = 3 := by rw [hE.out, if_pos hd0]
      have HC : OC = cmd0 := by rw [hC.out, HE, if_neg (by decide)]
      have HN : ON = Z := by rw [hN.out, HE, if_neg (by simp)]
      have hne : ((dE : Int) != 0) = true := by simp; omega
      replace HE := hid HE
      replace HC := hid HC
      replace HN := hid HN
      clear hE hC hN
      go_wp2_with (first
        | (refine store_C rfl rfl _ _ rfl (Blk.new w9 _ cz0) rfl rfl rfl ?_; intro w10 hb10 ho10
           have C10 := C9.push (later_alloc _ _) (Nat.le_refl _) ho10 hb10)
        | (refine wpList_build_w rfl 28 _ rfl (CC cmd0) (by simp only [List.map_toArray, List.map_nil]; exact hb0) ?_)
        | (refine wpList_build_w rfl 37 _ rfl (Z.map W8) (by simp only [List.map_toArray, List.map_nil]; exact hbh) ?_)
        | (refine store_C rfl rfl _ _ rfl (C10.nth 3 rfl) rfl rfl hz0 ?_; intro w11 hb11 ho11
           have C11 := C10.write 3 rfl ho11 hb11)
        | (refine store_H rfl rfl _ _ rfl (C11.nth 2 rfl) rfl rfl l0 hzl ?_; intro w12 hb12 ho12
           have C12 := C11.write 2 rfl ho12 hb12)
        | fail)
      exact bodyPost_ret (results_cct rfl _ _ _ _ _ _ _ _ _ _ (C12.nth 3 rfl) rfl Tryz.underlying28 rfl (by rw [CC_length]; exact size20) (C12.nth 2 rfl) rfl Tryz.underlying37 rfl (by rw [List.length_map, l0]; exact size288)) rfl ⟨by rw [HE.out, HC.out, HN.out]; rfl, C12.lat⟩
end Go.Proofs.YtdojjnbpidogfaaGreat

