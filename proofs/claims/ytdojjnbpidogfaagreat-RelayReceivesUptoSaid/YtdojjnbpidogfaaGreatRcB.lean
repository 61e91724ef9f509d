/-
  chacha.Turn: parts turned by the stream.
  Headers and packets, in memory: header.Parse, Bytes, Fits; packet.Parse, Bytes.
-/
import Derived.Test.YtdojjnbpidogfaaGreatRcA
import Derived.Test.YtdojjnbpidogfaaGreatBagMore
namespace Go.Proofs.YtdojjnbpidogfaaGreat
open Go.RowKit
open Go.BigFrame

/-- A flow's cells. -/
def FC (key : List UInt8) (n : Nat) : List Value := key.map W8 ++ [.int .i64 (n : Int)]
theorem FC_length {key : List UInt8} (h : key.length = 32) (n : Nat) : (FC key n).length = 33 := by simp [FC, h]
theorem FC_used {key : List UInt8} (h : key.length = 32) (n : Nat) : (FC key n)[32]? = some (.int .i64 (n : Int)) := by
  rw [FC, List.getElem?_append_right (by rw [List.length_map, h]; omega), List.length_map, h]
  rfl
theorem FC_set {key : List UInt8} (h : key.length = 32) (n m : Nat) : (FC key n).set 32 (.int .i64 (m : Int)) = FC key m := by
  rw [FC, List.set_append_right _ _ (by rw [List.length_map, h]; omega), List.length_map, h]
  rfl
set_option maxRecDepth 100000 in
set_option maxHeartbeats 4000000 in
theorem cnew_any (A : Option Addr) (c : Nat) (key : List UInt8) (w : World) (hk : RdB w A 32 key) :
    Calls Tryz.prog 127 #[.slice A 32 c] w fun e w' => ∃ g, e = .returned (.tuple #[.pointer (some ⟨g, 0, none⟩), .int .i64 0]) ∧ w.heap.size ≤ g ∧ Blk w' g 243 (FC key 0) ∧ Later w w' := by
  have hkl := hk.len
  have hz : Tryz.prog.built 243 [] = some (List.replicate 32 (Value.int .u8 0) ++ [Value.int .i64 0]).toArray := by kernel_rfl
  have hsp : spliced (List.replicate 32 (Value.int .u8 0) ++ [Value.int .i64 0]) 0 ((key.map W8).take 32) = FC key 0 := by
    rw [List.take_of_length_le (by rw [List.length_map]; omega), spliced, List.length_map, hkl, FC]
    rfl
  have hb := Blk.new w 243 (List.replicate 32 (Value.int .u8 0) ++ [Value.int .i64 0])
  have L := later_alloc w (.cells (List.replicate 32 (Value.int .u8 0) ++ [Value.int .i64 0]).toArray 243)
  have hll : (List.replicate 32 (Value.int .u8 0) ++ [Value.int .i64 0]).length = 33 := by simp
  generalize List.replicate 32 (Value.int .u8 0) ++ [Value.int .i64 0] = Z at *
  go_enter Tryz.func127, Tryz.ntmps127
  go_wp2_with (first
    | (refine wpList_build_is rfl _ _ rfl Z ?hb ?_; (case hb => simp only [List.map_toArray, List.map_nil]; exact hz))
    | (refine wpList_copy_rd rfl _ _ _ _ rfl 5 Tryz.underlying22 size8 w.heap.size 0 32 32 _ _ hb A 32 c (key.map W8) (hk.later L) (w8_one _) rfl rfl (by omega) ?_; intro w2 hb2 ho2; rw [hsp] at hb2)
    | fail)
  go_ret2
  exact ⟨_, rfl, Nat.le_refl _, hb2, L.only ho2 (Nat.le_refl _)⟩
set_option maxRecDepth 100000 in
set_option maxHeartbeats 4000000 in
theorem cnext_any (g n : Nat) (key : List UInt8) (w0 w : World) (hb : Blk w g 243 (FC key 0)) (hk : key.length = 32) (hl : Later w0 w) (hg : w0.heap.size ≤ g) (hn : n ≤ 65536) :
    Calls Tryz.prog 149 #[.pointer (some ⟨g, 0, none⟩), .int .i64 (n : Int)] w fun e w' => ∃ A' c', e = .returned (.tuple #[.slice A' n c', .int .i64 0]) ∧ OwnB w' w0.heap.size A' n c' (chaS key n) ∧ Later w0 w' := by
  have h1 : decide ((n : Int) < 0) = false := decide_eq_false (by omega)
  have h2 : decide ((65536 : Int) < (n : Int)) = false := decide_eq_false (by omega)
  have hu := hb.cellD 32 (FC_used hk 0)
  have hfl := FC_length hk 0
  have hset := hid (FC_set hk 0 n)
  have hP := hid (fun (w : World) h => piece_any (some ⟨g, 0, none⟩) 32 n key w h hn)
  have hcl := hid (fun (w : World) (h : Blk w g 243 (FC key 0)) => (show RdB w (some ⟨g, 0, none⟩) 32 key from blk_head h hk))
  have hlt := hb.lt
  have hSl := chaS_length key n
  have hF : Hid ((FC key 0)[32]? = some (.int .i64 0)) := hid (FC_used hk 0)
  generalize FC key 0 = F0 at *
  generalize FC key n = Fn at *
  generalize chaS key n = S at *
  go_enter Tryz.func149, Tryz.ntmps149
  go_wp2_with fail
  refine wp_region_parts [([0, 1, 2, 3, 4, 5, 6, 7, 8], 9)] [10] [] (by as_aux_lemma => kernel_rfl) (by as_aux_lemma => kernel_rfl) (by intro _ _ d _ _ h; cases d <;> exact h) ?_
  simp only [wpParts, pick, List.getElem?_cons_succ, List.getElem?_cons_zero, Option.toList_some, List.cons_append, List.nil_append]
  repeat (go_big_quiet_step (fail))
  refine wpQuiet_nil ?_
  go_wp2_with fail
  (with_reducible refine (hP.out _ (hcl.out _ hb.drew)).mono ?_); rintro e w2 ⟨A2, c2, rfl, o2, l2⟩
  go_wp2_with fail
  try refine ⟨by first | assumption | exact later_drew _ | exact later_alloc _ _ | exact Later.refl _, ?_⟩
  try simp only [wpParts, pick, List.getElem?_cons_succ, List.getElem?_cons_zero, Option.toList_some, List.cons_append, List.nil_append]
  repeat (go_big_quiet_step (fail))
  refine wpQuiet_nil ?_
  have hb2 := (hb.later (later_drew _)).later l2
  have hu2 := hb2.cellD 32 hF.out
  go_wp2_with (first
    | (refine wpList_store_in rfl rfl _ _ _ rfl g 32 _ _ hb2 rfl (by omega) rfl (by kernel_rfl) ?_; intro v3 w3 hv3 hb3 ho3)
    | fail)
  go_ret2
  have hbase : ∀ b, (Value.slice A2 n c2).ownBlock = some b → b ≠ g := fun b hb' e => by
    have := (World.ownsRow.lt o2 b hb').1
    simp at this
    omega
  exact ⟨_, _, rfl, own_mono (own_only o2 ho3 hbase) (by have := hl.size; simpa using this), ((hl.trans (later_drew _)).trans l2).only ho3 hg⟩
set_option maxRecDepth 100000 in
set_option maxHeartbeats 4000000 in
theorem cfturn_any (g m d : Nat) (B : Option Addr) (key : List UInt8) (ps : List (List UInt8)) (w0 w : World) (hp : Parts w0 (fun _ => False) B m ps) (hm : m ≤ 1048576) (hb : Blk w g 243 (FC key 0)) (hk : key.length = 32) (hl : Later w0 w) (hg : w0.heap.size ≤ g) (hn : ps.flatten.length ≤ 65536) :
    Calls Tryz.prog 128 #[.pointer (some ⟨g, 0, none⟩), .slice B m d] w fun e w' => ∃ A' c', e = .returned (.tuple #[.slice A' ps.flatten.length c', .int .i64 0]) ∧ OwnB w' w0.heap.size A' ps.flatten.length c' (xorB ps.flatten (chaS key ps.flatten.length)) ∧ Later w0 w' := by
  have hpl := hp.len
  have hN := hid (fun n h (w : World) (hb : Blk w g 243 (FC key 0)) hl => cnext_any g n key w0 w hb hk hl hg h)
  have hJ := hid (fun (w : World) h => cjoin_any B m d ps w h (by omega) (by omega))
  have hSl := chaS_length key ps.flatten.length
  have hF : Hid ((FC key 0)[32]? = some (.int .i64 0)) := hid (FC_used hk 0)
  have hft := hid (fun k => flatten_take_succ ps k)
  have hle := hid (fun k => flatten_take_le ps k)
  have hX := hid (fun (w : World) C e h => cxor2_any C e ps.flatten.length ps.flatten (chaS key ps.flatten.length) w h rfl hSl (by omega))
  have hall : ps.take m = ps := by rw [← hpl, List.take_length]
  generalize hS : chaS key ps.flatten.length = S at *
  generalize xorB ps.flatten S = X at *
  generalize FC key 0 = F0 at *
  generalize hTe : ps.flatten.length = T at *
  replace hS := hid hS
  go_enter Tryz.func128, Tryz.ntmps128
  go_wp2_with fail
  go_loopw [6, 8, 13] (fun t _ i wr => ∃ k : Nat, k ≤ m ∧ i = .int .i64 k ∧ t = .int .i64 ((ps.take k).flatten.length : Nat) ∧ Later w wr) (fun _ _ i _ => m - (intOf i).toNat)
  case atStart => exact ⟨0, by omega, rfl, rfl, Later.refl w⟩
  case round =>
    obtain ⟨k, hk', rfl, rfl, L⟩ := hrel
    by_cases hlt : k < m
    · obtain ⟨b, o, Ak, nk, ck, rfl, hb', hck, hcap, hrd, _⟩ := hp.at_ hlt
      replace hck := ((hl.trans L).below.cell (p := ⟨b, o + k, none⟩) hb').trans hck
      replace hb' : b < wr.heap.size := Nat.lt_of_lt_of_le hb' (hl.trans L).size
      have hu := (hb.later L).cellD 32 hF.out
      have e1 : (ps.take (k + 1)).flatten.length = (ps.take k).flatten.length + nk := by
        have h1 := hrd.len
        have h2 : k < ps.length := by omega
        rw [hft.out k h2, List.length_append]
        rw [List.getD_eq_getElem?_getD, List.getElem?_eq_getElem h2, Option.getD_some] at h1
        rw [h1]
      have e2 := hle.out (k + 1)
      generalize (ps.take k).flatten.length = s at *
      generalize hs' : (ps.take (k + 1)).flatten.length = s' at *
      replace hs' := hid hs'
      have hcmp : decide ((65536 : Int) - (s : Int) < (nk : Int)) = false := decide_eq_false (by omega)
      go_wp2
      exact ⟨⟨k + 1, by omega, by go_num, by rw [hs'.out, e1]; go_num, L⟩, by simp [intOf]; omega⟩
    · obtain rfl : k = m := by omega
      rw [hall, hTe]
      go_wp2_with fail
      (with_reducible refine (hN.out T hn _ (hb.later L) (hl.trans L)).mono ?_); rintro e w2 ⟨A2, c2, rfl, o2, l2⟩
      rw [hS.out] at o2
      go_wp2_with fail
      (with_reducible refine (hJ.out _ (hp.later l2)).mono ?_); rintro e w3 ⟨A3, c3, rfl, o3, l3⟩
      go_wp2_with fail
      have P4 : Parts (w3.alloc (.cells #[.slice A3 T c3, .slice A2 T c2] 22)) (fun _ => False) (some ⟨w3.heap.size, 0, none⟩) 2 [ps.flatten, S] :=
        parts_blk2 (Blk.new w3 22 [.slice A3 T c3, .slice A2 T c2]) (part_rd (o3.rd.later (later_alloc _ _)) o3.cap) (part_rd ((o2.later l3).rd.later (later_alloc _ _)) o2.cap)
      (with_reducible refine (hX.out _ _ _ P4).mono ?_); rintro e w5 ⟨A5, c5, rfl, o5, l5⟩
      have L5 := ((l2.trans l3).trans (later_alloc w3 _)).trans l5
      go_wp2_with fail
      go_ret2
      exact ⟨_, _, rfl, o5.mono ((l2.trans l3).trans (later_alloc w3 _)).size, L5⟩
set_option maxRecDepth 100000 in
set_option maxHeartbeats 4000000 in
theorem cturn_any (A : Option Addr) (c m d : Nat) (B : Option Addr) (key : List UInt8) (ps : List (List UInt8)) (w : World) (hk : RdB w A 32 key) (hp : Parts w (fun _ => False) B m ps) (hm : m ≤ 1048576) (hn : ps.flatten.length ≤ 65536) :
    Calls Tryz.prog 99 #[.slice A 32 c, .slice B m d] w fun e w' => ∃ A' c', e = .returned (.tuple #[.slice A' ps.flatten.length c', .int .i64 0]) ∧ OwnB w' w.heap.size A' ps.flatten.length c' (xorB ps.flatten (chaS key ps.flatten.length)) ∧ Later w w' := by
  have hT := hid (fun g (w' : World) hb hl hg => cfturn_any g m d B key ps w w' hp hm hb hk.len hl hg hn)
  generalize xorB ps.flatten (chaS key ps.flatten.length) = X at *
  generalize ps.flatten.length = T at *
  go_enter Tryz.func99, Tryz.ntmps99
  go_wp2_with fail
  (with_reducible refine (cnew_any A c key _ hk).mono ?_); rintro e w1 ⟨g, rfl, hg, hb, l1⟩
  go_wp2_with fail
  (with_reducible refine (hT.out g _ hb l1 hg).mono ?_); rintro e w2 ⟨A2, c2, rfl, o2, l2⟩
  go_wp2_with fail
  go_ret2
  exact ⟨_, _, rfl, o2, l2⟩
end Go.Proofs.YtdojjnbpidogfaaGreat
namespace Go.Proofs.YtdojjnbpidogfaaGreat
open Go.RowKit
open Go.BigFrame

theorem size288 : (Tryz.prog.info? 37).map (·.size) = some 288 := by kernel_rfl
theorem size768 : (Tryz.prog.info? 40).map (·.size) = some 768 := by kernel_rfl
theorem size240 : (Tryz.prog.info? 35).map (·.size) = some 240 := by kernel_rfl
theorem zero768 : (Tryz.prog.info? 40).bind (·.zero) = some (.agg (List.replicate 768 (W8 0)).toArray) := by kernel_rfl
theorem zcH : Tryz.zeroCells37.toList = (List.replicate 288 (0 : UInt8)).map W8 := by rw [List.map_replicate]; kernel_rfl
theorem zcP : Tryz.zeroCells40.toList = (List.replicate 768 (0 : UInt8)).map W8 := by rw [List.map_replicate]; kernel_rfl
theorem built_hdr0 : Tryz.prog.built 37 [] = some ((List.replicate 288 (0 : UInt8)).map W8).toArray := by rw [List.map_replicate]; kernel_rfl
theorem built_pkt0 : Tryz.prog.built 40 [] = some ((List.replicate 768 (0 : UInt8)).map W8).toArray := by rw [List.map_replicate]; kernel_rfl
theorem built_pkt1 (h : List UInt8) (hl : h.length = 288) : Tryz.prog.built 40 [(0, .agg (h.map W8).toArray)] = some ((h ++ List.replicate 480 0).map W8).toArray := by
  have hb := built_bytes (n := 768) (pl := [(0, 288), (288, 480)]) Tryz.underlying40 zero768 (by kernel_rfl) [(0, 0, h)] (by
    intro x hx
    simp only [List.mem_cons, List.not_mem_nil, or_false] at hx
    subst hx
    simp only [hl]; decide)
  rw [show putAll (List.replicate 768 0) ([(0, 0, h)].map fun x => (x.2.1, x.2.2)) = h ++ List.replicate 480 0 by
    simp only [List.map_cons, List.map_nil, putAll]
    rw [show List.replicate 768 (0 : UInt8) = List.replicate 288 0 ++ List.replicate 480 0 by rw [List.replicate_append_replicate], putB_first _ _ _ (by rw [List.length_replicate, hl])]] at hb
  exact hb
theorem subB_all (bs : List UInt8) (n : Nat) (h : bs.length = n) : subB bs 0 n = bs := by rw [subB, List.drop_zero, List.take_of_length_le (by omega)]
section
variable {ops : Array Oper} {rest : List Oper} {o : Oper} {a : Act} {w : World} {Q : Exit → Act → World → Prop}
theorem store_H (hgd : o.guard = none) (hd : o.dst = none) (x y : Operand) (ho : o.op = .store 37 x y) {g : Nat} {t : TypeId} {l : List Value} {bs : List UInt8} (hg : Blk w g t l) (hx : a.eval x = .pointer (some ⟨g, 0, none⟩)) (hy : a.eval y = .agg (bs.map W8).toArray) (hbl : bs.length = 288) (hl : l.length = 288)
    (h : ∀ w', Blk w' g t (bs.map W8) → Only g w w' → wpList Tryz.prog ops Q rest a w') : wpList Tryz.prog ops Q (o :: rest) a w :=
  store_Z 288 hgd hd x y ho hg hx hy size288 hbl hl h
theorem load_H (hw : Region.wanted o (yielded ops a.tmps) = true) (x : Operand) (ho : o.op = .load 37 x) {g : Nat} {t : TypeId} {bs : List UInt8} (hb : Blk w g t (bs.map W8)) (hl : bs.length = 288) (hx : a.eval x = .pointer (some ⟨g, 0, none⟩))
    (h : wpList Tryz.prog ops Q rest (a.put o.dst (.agg (bs.map W8).toArray)) w) : wpList Tryz.prog ops Q (o :: rest) a w :=
  load_Y 0 288 hw x ho hb hx Tryz.underlying37 rfl size288 (subB_all _ _ hl) hl h
theorem store_Pk (hgd : o.guard = none) (hd : o.dst = none) (x y : Operand) (ho : o.op = .store 40 x y) {g : Nat} {t : TypeId} {l : List Value} {bs : List UInt8} (hg : Blk w g t l) (hx : a.eval x = .pointer (some ⟨g, 0, none⟩)) (hy : a.eval y = .agg (bs.map W8).toArray) (hbl : bs.length = 768) (hl : l.length = 768)
    (h : ∀ w', Blk w' g t (bs.map W8) → Only g w w' → wpList Tryz.prog ops Q rest a w') : wpList Tryz.prog ops Q (o :: rest) a w :=
  store_Z 768 hgd hd x y ho hg hx hy size768 hbl hl h
theorem load_Pk (hw : Region.wanted o (yielded ops a.tmps) = true) (x : Operand) (ho : o.op = .load 40 x) {g : Nat} {t : TypeId} {bs : List UInt8} (hb : Blk w g t (bs.map W8)) (hl : bs.length = 768) (hx : a.eval x = .pointer (some ⟨g, 0, none⟩))
    (h : wpList Tryz.prog ops Q rest (a.put o.dst (.agg (bs.map W8).toArray)) w) : wpList Tryz.prog ops Q (o :: rest) a w :=
  load_Y 0 768 hw x ho hb hx Tryz.underlying40 rfl size768 (subB_all _ _ hl) hl h
end
theorem put_hdr (b : List UInt8) (h : b.length = 288) : putB (putB (putB (List.replicate 288 0) 0 (b.take 32)) 32 ((b.drop 32).take 16)) 48 (b.drop 48) = b := by
  have e1 : b = b.take 32 ++ ((b.drop 32).take 16 ++ b.drop 48) := by
    rw [show b.drop 48 = (b.drop 32).drop 16 by rw [List.drop_drop], List.take_append_drop, List.take_append_drop]
  have l1 : (b.take 32).length = 32 := by simp; omega
  have l2 : ((b.drop 32).take 16).length = 16 := by simp; omega
  have l3 : (b.drop 48).length = 240 := by simp; omega
  generalize b.take 32 = p at *
  generalize (b.drop 32).take 16 = q at *
  generalize b.drop 48 = r at *
  rw [show List.replicate 288 (0 : UInt8) = List.replicate 32 0 ++ (List.replicate 16 0 ++ List.replicate 240 0) by simp, putB_first _ _ _ (by rw [List.length_replicate, l1]), putB_here _ _ _ _ 32 l1 (by rw [List.length_replicate, l2]), ← List.append_assoc, putB_last _ _ _ 48 (by rw [List.length_append, l1, l2]) (by rw [List.length_replicate, l3]), List.append_assoc, e1]
set_option maxRecDepth 100000 in
set_option maxHeartbeats 4000000 in
theorem hparse_any (A : Option Addr) (c : Nat) (b : List UInt8) (w : World) (hb : RdB w A 288 b) (hc : 288 ≤ c) :
    Calls Tryz.prog 62 #[.slice A 288 c] w fun e w' => e = .returned (.tuple #[.agg (b.map W8).toArray, .int .i64 0]) ∧ Later w w' := by
  have hbl := hb.len
  obtain ⟨b0, p, rfl, hb00, _⟩ := hb.2 (by omega)
  have B0 : Bag w (w.alloc (.cells Tryz.zeroCells37 37)) [(w.heap.size, 37, (List.replicate 288 (0 : UInt8)).map W8)] := (Bag.none w).add (later_alloc _ _) (by simp) (Nat.le_refl _) ((Blk.new w _ Tryz.zeroCells37.toList).cast zcH)
  have hp := put_hdr b hbl
  have l0 : (List.replicate 288 (0 : UInt8)).length = 288 := by simp
  have HZ := hid zcH
  generalize hZ : List.replicate 288 (0 : UInt8) = Z at *
  have l1 : (putB Z 0 (b.take 32)).length = 288 := by rw [putB_length (by rw [List.length_take]; omega)]; exact l0
  have l2 : (putB (putB Z 0 (b.take 32)) 32 ((b.drop 32).take 16)).length = 288 := by rw [putB_length (by rw [List.length_take, List.length_drop]; omega)]; exact l1
  have e3 : ((b.drop 48).take 240) = b.drop 48 := List.take_of_length_le (by rw [List.length_drop]; omega)
  have HE := hid e3
  have HP := hid hp
  clear e3 hp hZ
  have hc32 : cutA (some ⟨b0, p, none⟩) 32 c = some ⟨b0, p + 32, none⟩ := by rw [cutA, if_neg (by omega)]; rfl
  have hc48 : cutA (some ⟨b0, p, none⟩) 48 c = some ⟨b0, p + 48, none⟩ := by rw [cutA, if_neg (by omega)]; rfl
  have h32 : Hid (∀ w, RdB w (some ⟨b0, p, none⟩) 288 b → RdB w (some ⟨b0, p + 32, none⟩) 256 (b.drop 32)) := hid (fun w h => by rw [← hc32]; exact RdB.cut h (by omega) hc)
  have h48 : Hid (∀ w, RdB w (some ⟨b0, p, none⟩) 288 b → RdB w (some ⟨b0, p + 48, none⟩) 240 (b.drop 48)) := hid (fun w h => by rw [← hc48]; exact RdB.cut h (by omega) hc)
  generalize hZ2 : putB (putB Z 0 (b.take 32)) 32 ((b.drop 32).take 16) = Z2 at *
  generalize hZ1 : putB Z 0 (b.take 32) = Z1 at *
  have H1 := hid hZ1
  have H2 := hid hZ2
  have hzl : (Z.map W8).length = 288 := by rw [List.length_map]; exact l0
  clear hZ1 hZ2
  go_enter Tryz.func62, Tryz.ntmps62
  have hrr := hb.later (B0.lat.trans (later_alloc _ (.cells Tryz.zeroCells37 37)))
  have hbb := (Blk.new' (n := w.heap.size + 1) (w.alloc (.cells Tryz.zeroCells37 37)) 37 Tryz.zeroCells37.toList (by simp)).cast HZ.out
  go_wp2_with (first
    | (refine wpList_copy_rd rfl _ _ _ _ rfl 5 Tryz.underlying22 size8 (w.heap.size + 1) 0 32 32 _ _ hbb (some ⟨b0, p, none⟩) 288 c (b.map W8) hrr (w8_one _) rfl rfl (by rw [List.length_map]; omega) ?_; intro w1 hb1 ho1; rw [← List.map_take, putB_map, H1.out] at hb1
       have B1 := B0.push (later_alloc _ _) (by simp) ho1 hb1)
    | fail)
  clear hb1 ho1 B0 hrr hbb
  generalize w.heap.size + 1 = g at *
  have B2 := B1.drew
  simp only [Act.put, List.setIfInBounds_toArray, List.set_cons_succ, List.set_cons_zero]
  refine wp_region_parts [] [0, 1, 2, 3] [4] (by as_aux_lemma => kernel_rfl) (by as_aux_lemma => kernel_rfl) (by intro _ _ d _ _ h; cases d <;> exact h) ?_
  simp only [wpParts, pick, List.getElem?_cons_succ, List.getElem?_cons_zero, Option.toList_some, List.cons_append, List.nil_append]
  repeat (go_big_quiet_step (fail))
  refine wpQuiet_nil ?_
  go_wp2_with (first
    | (refine wpList_copy_rd rfl _ _ _ _ rfl 5 Tryz.underlying22 size8 g 32 16 16 _ _ (B2.nth 0 rfl) (some ⟨b0, p + 32, none⟩) 256 (c - 32) ((b.drop 32).map W8) (h32.out _ (hb.later B2.lat)) (w8_one _) rfl rfl (by rw [List.length_map]; omega) ?_; intro w3 hb3 ho3; rw [← List.map_take, putB_map, H2.out] at hb3
       have B3 := (B2.write 0 rfl ho3 hb3).drew)
    | fail)
  clear hb3 ho3 B1 B2
  simp only [Act.put, List.setIfInBounds_toArray, List.set_cons_succ, List.set_cons_zero]
  refine wp_region_parts [] [0, 1, 2, 3] [4] (by as_aux_lemma => kernel_rfl) (by as_aux_lemma => kernel_rfl) (by intro _ _ d _ _ h; cases d <;> exact h) ?_
  simp only [wpParts, pick, List.getElem?_cons_succ, List.getElem?_cons_zero, Option.toList_some, List.cons_append, List.nil_append]
  repeat (go_big_quiet_step (fail))
  refine wpQuiet_nil ?_
  go_wp2_with (first
    | (refine wpList_copy_rd rfl _ _ _ _ rfl 5 Tryz.underlying22 size8 g 48 240 240 _ _ (B3.nth 0 rfl) (some ⟨b0, p + 48, none⟩) 240 (c - 48) ((b.drop 48).map W8) (h48.out _ (hb.later B3.lat)) (w8_one _) rfl rfl (by rw [List.length_map]; omega) ?_; intro w4 hb4 ho4; rw [← List.map_take, putB_map, HE.out, HP.out] at hb4
       have B4 := B3.write 0 rfl ho4 hb4)
    | (refine load_H rfl _ rfl (B4.nth 0 rfl) hbl rfl ?_)
    | (refine store_H rfl rfl _ _ rfl (B4.nth 1 rfl) rfl rfl hbl hzl ?_; intro w9 hb9 ho9)
    | fail)
  exact bodyPost_ret (results_blk_tmp rfl _ _ _ _ _ _ hb9 rfl Tryz.underlying37 rfl (by rw [List.length_map, hbl]; exact size288)) rfl ⟨rfl, (B4.write 1 rfl ho9 hb9).lat⟩
end Go.Proofs.YtdojjnbpidogfaaGreat

