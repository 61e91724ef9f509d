/-
  Steps: Next, Peel, and the document's; shallotlaw12.is of two that are the same.
-/
import Derived.Test.YtjohieongjnemaaKeys2
import Derived.Test.YtjohieongjnemaaCurveF
namespace Go.Proofs.Ytjohieongjnemaa
open Go.RowKit
open Go.BigFrame

set_option maxRecDepth 100000 in
set_option maxHeartbeats 4000000 in
theorem next_any (x b al : List UInt8) (hx : x.length = 192) (hb : subB x 96 32 = b) (hal : subB x 128 32 = al) (w : World) :
    Calls Try.prog 39 #[.agg (x.map W8).toArray] w fun e w' => e = .returned (.tuple #[.agg ((multB b al).map W8).toArray, .int .i64 (multE b al : Nat)]) ∧ Later w w' := by
  have hbl : b.length = 32 := by rw [← hb]; exact subB_length (by omega)
  have hall : al.length = 32 := by rw [← hal]; exact subB_length (by omega)
  have hM := hid (fun (w : World) g h1 h2 => mult_any (some ⟨g, 96, none⟩) (some ⟨g, 128, none⟩) 32 32 32 32 b al w h1 h2 (by omega) (by omega))
  have hml := multB_length b al
  generalize multB b al = M at *
  generalize multE b al = e9 at *
  have C1 := bag_new w 63 (x.map W8)
  have C2 : Bag w ((w.alloc (.cells (x.map W8).toArray 63)).alloc (.cells (List.replicate 32 (Value.int .u8 0)).toArray 47)) [(w.heap.size + 1, 47, List.replicate 32 (Value.int .u8 0)), (w.heap.size, 63, x.map W8)] :=
    C1.add (later_alloc _ _) (by simp) (by omega) (Blk.new' _ _ _ (by simp))
  clear C1
  go_enter Try.func39, Try.ntmps39
  go_wp2_with fail
  generalize hW : (w.alloc _).alloc _ = w0
  replace C2 : Bag w w0 [(w.heap.size + 1, 47, List.replicate 32 (Value.int .u8 0)), (w.heap.size, 63, x.map W8)] := by rw [← hW]; exact C2
  clear hW
  refine wp_region_parts [([0, 1, 2, 3, 4], 5)] [6, 7] [8, 9] (by as_aux_lemma => kernel_rfl) (by as_aux_lemma => kernel_rfl) (by intro _ _ d _ _ h; cases d <;> exact h) ?_
  simp only [wpParts, pick, List.getElem?_cons_succ, List.getElem?_cons_zero, Option.toList_some, List.cons_append, List.nil_append]
  repeat (go_big_quiet_step (fail))
  refine wpQuiet_nil ?_
  go_wp2_with fail
  (with_reducible refine (hM.out _ _ (rdB_sub (C2.drew.nth 1 rfl) hb hbl) (rdB_sub (C2.drew.nth 1 rfl) hal hall)).mono ?_); rintro e w2 ⟨rfl, j2⟩
  go_wp2_with fail
  try refine ⟨by first | assumption | exact later_drew _ | exact later_alloc _ _ | exact Later.refl _, ?_⟩
  try simp only [wpParts, pick, List.getElem?_cons_succ, List.getElem?_cons_zero, Option.toList_some, List.cons_append, List.nil_append]
  repeat (go_big_quiet_step (fail))
  refine wpQuiet_nil ?_
  go_wp2_with (first
    | (refine store_B rfl rfl _ _ rfl ((C2.drew.later j2).nth 0 rfl) rfl rfl hml rfl ?_; intro w9 hb9 ho9)
    | fail)
  exact bodyPost_ret (results_blk_tmp rfl _ _ _ _ _ _ hb9 rfl Try.underlying47 rfl (by rw [List.length_map, hml]; exact size32b)) rfl ⟨rfl, ((C2.drew.later j2).write 0 rfl ho9 hb9).lat⟩
set_option maxRecDepth 100000 in
set_option maxHeartbeats 4000000 in
theorem next_ref (x b al : List UInt8) (hx : x.length = 192) (hb : subB x 96 32 = b) (hal : subB x 128 32 = al) (w : World) :
    Calls Try.prog 42 #[.agg (x.map W8).toArray] w fun e w' => e = .returned (.tuple #[.agg ((multB b al).map W8).toArray, .int .i64 (multE b al : Nat)]) ∧ Later w w' := by
  have hbl : b.length = 32 := by rw [← hb]; exact subB_length (by omega)
  have hall : al.length = 32 := by rw [← hal]; exact subB_length (by omega)
  have hM := hid (fun (w : World) g h1 h2 => mult_ref (some ⟨g, 96, none⟩) (some ⟨g, 128, none⟩) 32 32 32 32 b al w h1 h2 (by omega) (by omega))
  have hml := multB_length b al
  generalize multB b al = M at *
  generalize multE b al = e9 at *
  have C1 := bag_new w 66 (x.map W8)
  have C2 : Bag w ((w.alloc (.cells (x.map W8).toArray 66)).alloc (.cells (List.replicate 32 (Value.int .u8 0)).toArray 47)) [(w.heap.size + 1, 47, List.replicate 32 (Value.int .u8 0)), (w.heap.size, 66, x.map W8)] :=
    C1.add (later_alloc _ _) (by simp) (by omega) (Blk.new' _ _ _ (by simp))
  clear C1
  go_enter Try.func42, Try.ntmps42
  go_wp2_with fail
  generalize hW : (w.alloc _).alloc _ = w0
  replace C2 : Bag w w0 [(w.heap.size + 1, 47, List.replicate 32 (Value.int .u8 0)), (w.heap.size, 66, x.map W8)] := by rw [← hW]; exact C2
  clear hW
  refine wp_region_parts [([0, 1, 2, 3, 4], 5)] [6, 7] [8, 9] (by as_aux_lemma => kernel_rfl) (by as_aux_lemma => kernel_rfl) (by intro _ _ d _ _ h; cases d <;> exact h) ?_
  simp only [wpParts, pick, List.getElem?_cons_succ, List.getElem?_cons_zero, Option.toList_some, List.cons_append, List.nil_append]
  repeat (go_big_quiet_step (fail))
  refine wpQuiet_nil ?_
  go_wp2_with fail
  (with_reducible refine (hM.out _ _ (rdB_sub (C2.drew.nth 1 rfl) hb hbl) (rdB_sub (C2.drew.nth 1 rfl) hal hall)).mono ?_); rintro e w2 ⟨rfl, j2⟩
  go_wp2_with fail
  try refine ⟨by first | assumption | exact later_drew _ | exact later_alloc _ _ | exact Later.refl _, ?_⟩
  try simp only [wpParts, pick, List.getElem?_cons_succ, List.getElem?_cons_zero, Option.toList_some, List.cons_append, List.nil_append]
  repeat (go_big_quiet_step (fail))
  refine wpQuiet_nil ?_
  go_wp2_with (first
    | (refine store_B rfl rfl _ _ rfl ((C2.drew.later j2).nth 0 rfl) rfl rfl hml rfl ?_; intro w9 hb9 ho9)
    | fail)
  exact bodyPost_ret (results_blk_tmp rfl _ _ _ _ _ _ hb9 rfl Try.underlying47 rfl (by rw [List.length_map, hml]; exact size32b)) rfl ⟨rfl, ((C2.drew.later j2).write 0 rfl ho9 hb9).lat⟩
/-- The step of a secret behind this public value. -/
def stepL (al s : List UInt8) : List UInt8 := k4 s ++ (al ++ s)
theorem stepL_length (al s : List UInt8) (h : al.length = 32) (hs : s.length = 32) : (stepL al s).length = 192 := by simp [stepL, k4_length, h, hs]
theorem stepL_alpha (al s : List UInt8) (h : al.length = 32) : subB (stepL al s) 128 32 = al := by rw [stepL, subB_here _ _ _ _ _ (k4_length s) h]
theorem stepL_blind (al s : List UInt8) : subB (stepL al s) 96 32 = derB s sBlind := by
  rw [stepL, k4, show derB s sMac ++ (derB s sStream ++ (derB s sPay ++ derB s sBlind)) ++ (al ++ s) = (derB s sMac ++ (derB s sStream ++ derB s sPay)) ++ (derB s sBlind ++ (al ++ s)) by simp only [List.append_assoc],
    subB_here _ _ _ _ _ (by simp [derB_length]) (derB_length _ _)]
theorem stepL_pay (al s : List UInt8) : subB (stepL al s) 64 32 = derB s sPay := by
  rw [stepL, k4, show derB s sMac ++ (derB s sStream ++ (derB s sPay ++ derB s sBlind)) ++ (al ++ s) = (derB s sMac ++ derB s sStream) ++ (derB s sPay ++ (derB s sBlind ++ (al ++ s))) by simp only [List.append_assoc],
    subB_here _ _ _ _ _ (by simp [derB_length]) (derB_length _ _)]
def peelB (ks us : List UInt8) : List UInt8 := if multE ks us = 0 then stepL us (multB ks us) else List.replicate 192 0
theorem peelB_length (ks us : List UInt8) : (peelB ks us).length = 192 := by
  unfold peelB
  split
  · rename_i h
    exact stepL_length _ _ (multE_len h).2 (multB_length _ _)
  · exact List.length_replicate
theorem zc192 : Try.zeroCells63.toList.length = 192 := by kernel_rfl
theorem zc192R : Try.zeroCells66.toList = (List.replicate 192 (0 : UInt8)).map W8 := by kernel_rfl
set_option maxRecDepth 100000 in
set_option maxHeartbeats 4000000 in
theorem peel_any (A B : Option Addr) (n c m d : Nat) (ks us : List UInt8) (w : World) (hk : RdB w A n ks) (hu : RdB w B m us) (hn : n ≤ 140737488355328) (hm : m ≤ 140737488355328) :
    Calls Try.prog 40 #[.slice A n c, .slice B m d] w fun e w' => e = .returned (.tuple #[.agg ((peelB ks us).map W8).toArray, .int .i64 (multE ks us : Nat)]) ∧ Later w w' := by
  have hkl := hk.len
  have hul := hu.len
  have B0 := bag_new w 63 Try.zeroCells63.toList
  have hz0 := zc192
  have hM := hid (fun (w : World) A B c d h1 h2 => mult_any A B n c m d ks us w h1 h2 hn hm)
  have hml := multB_length ks us
  have hP1 := hid (fun (h : multE ks us = 0) => show peelB ks us = stepL us (multB ks us) by rw [peelB, if_pos h])
  have hP2 := hid (fun (h : ¬ multE ks us = 0) => show peelB ks us = List.replicate 192 0 by rw [peelB, if_neg h])
  have hlen := hid (fun (h : multE ks us = 0) => (multE_len h).2)
  have hPl := peelB_length ks us
  generalize peelB ks us = PL at *
  generalize multB ks us = M at *
  generalize multE ks us = e9 at *
  by_cases he : e9 = 0
  · have hP := hP1.out he
    have hul2 := hlen.out he
    have hS := hid (fun w => stepOf_any us M hul2 hml w)
    rw [show k4 M ++ (us ++ M) = PL from hP.symm] at hS
    obtain rfl : m = 32 := by omega
    subst he
    clear hP1 hP2 hlen hP
    have hput : putB (List.replicate 32 (0 : UInt8)) 0 us = us := putB_all _ _ (by simp [hul2])
    have hz32 : (List.replicate 32 (0 : UInt8)).length = 32 := by simp
    have hzm : (List.replicate 32 (Value.int .u8 0)) = (List.replicate 32 (0 : UInt8)).map W8 := by rw [List.map_replicate]; rfl
    generalize List.replicate 32 (0 : UInt8) = Z at *
    have HP := hid hput
    have HZ := hid hzm
    clear hput hzm
    go_enter Try.func40, Try.ntmps40
    go_wp2_with fail
    generalize hW : w.alloc _ = w0
    replace B0 : Bag w w0 [(w.heap.size, 63, Try.zeroCells63.toList)] := by rw [← hW]; exact B0
    clear hW
    (with_reducible refine (hM.out _ _ _ _ _ (hk.later B0.lat) (hu.later B0.lat)).mono ?_); rintro e w1 ⟨rfl, j1⟩
    go_wp2_with (first
      | (refine store_B rfl rfl _ _ rfl (Blk.new w1 _ (List.replicate 32 (.int .u8 0))) rfl rfl hml rfl ?_; intro w2 hb2 ho2
         have B1 := B0.push (j1.trans (later_alloc w1 _)) j1.size ho2 hb2
         have B2 := B1.add (later_alloc w2 (.cells (List.replicate 32 (Value.int .u8 0)).toArray 47)) (k := w2.heap.size) (by have h1 := (B1.nth 0 rfl).lt; have h2 := (B1.nth 1 rfl).lt; simp; omega) B1.lat.size ((Blk.new w2 _ (List.replicate 32 (.int .u8 0))).cast HZ.out))
      | (refine copy_Y 0 32 rfl _ _ _ _ rfl 5 Try.underlying22 size8 (B2.nth 0 rfl) (hu.later B2.lat) rfl rfl (by omega) ?_; intro w3 hb3 ho3
         rw [HP.out] at hb3
         have B3 := B2.write 0 rfl ho3 hb3)
      | (refine load_B rfl _ rfl (B3.nth 0 rfl) hul2 rfl ?_)
      | (refine load_B rfl _ rfl (B3.nth 1 rfl) hml rfl ?_)
      | fail)
    (with_reducible refine (hS.out _).mono ?_); rintro e w4 ⟨rfl, j4⟩
    go_wp2_with (first
      | (refine store_St rfl rfl _ _ rfl ((B3.later j4).nth 2 rfl) rfl rfl hPl hz0 ?_; intro w9 hb9 ho9)
      | fail)
    exact bodyPost_ret (results_blk_tmp rfl _ _ _ _ _ _ hb9 rfl Try.underlying63 rfl (by rw [List.length_map, hPl]; exact size192)) rfl ⟨rfl, ((B3.later j4).write 2 rfl ho9 hb9).lat⟩
  · have hP := hP2.out he
    have hb0 := built_step0
    rw [← hP] at hb0
    have hne : ((e9 : Int) != 0) = true := by simp; omega
    clear hP1 hP2 hlen hP
    go_enter Try.func40, Try.ntmps40
    go_wp2_with fail
    generalize hW : w.alloc _ = w0
    replace B0 : Bag w w0 [(w.heap.size, 63, Try.zeroCells63.toList)] := by rw [← hW]; exact B0
    clear hW
    (with_reducible refine (hM.out _ _ _ _ _ (hk.later B0.lat) (hu.later B0.lat)).mono ?_); rintro e w1 ⟨rfl, j1⟩
    go_wp2_with (first
      | (refine store_B rfl rfl _ _ rfl (Blk.new w1 _ (List.replicate 32 (.int .u8 0))) rfl rfl hml rfl ?_; intro w2 hb2 ho2
         have B1 := B0.push (j1.trans (later_alloc w1 _)) j1.size ho2 hb2)
      | (refine wpList_build_is rfl 63 _ rfl (PL.map W8) ?hb ?_; (case hb => simp only [List.map_toArray, List.map_nil]; exact hb0))
      | (refine store_St rfl rfl _ _ rfl (B1.nth 1 rfl) rfl rfl hPl hz0 ?_; intro w9 hb9 ho9)
      | fail)
    exact bodyPost_ret (results_blk_tmp rfl _ _ _ _ _ _ hb9 rfl Try.underlying63 rfl (by rw [List.length_map, hPl]; exact size192)) rfl ⟨rfl, (B1.write 1 rfl ho9 hb9).lat⟩
theorem put_peel (us M : List UInt8) (hu : us.length = 32) (hM : M.length = 32) (K : List UInt8) (hK : K.length = 128) :
    putB (putB (putB (List.replicate 192 (0 : UInt8)) 128 us) 160 M) 0 K = K ++ (us ++ M) := by
  rw [show List.replicate 192 (0 : UInt8) = List.replicate 128 0 ++ (List.replicate 32 0 ++ List.replicate 32 0) by simp]
  rw [putB_here _ _ _ _ 128 (by simp) (by simp [hu]), ← List.append_assoc, putB_last _ _ _ 160 (by simp [hu]) (by simp [hM]), List.append_assoc, putB_first _ _ _ (by simp [hK])]
set_option maxRecDepth 100000 in
set_option maxHeartbeats 4000000 in
theorem peel_ref (A B : Option Addr) (n c m d : Nat) (ks us : List UInt8) (w : World) (hk : RdB w A n ks) (hu : RdB w B m us) (hn : n ≤ 140737488355328) (hm : m ≤ 140737488355328) :
    Calls Try.prog 41 #[.slice A n c, .slice B m d] w fun e w' => e = .returned (.tuple #[.agg ((peelB ks us).map W8).toArray, .int .i64 (multE ks us : Nat)]) ∧ Later w w' := by
  have hkl := hk.len
  have hul := hu.len
  have hzz := zc192R
  have B0 : Bag w (w.alloc (.cells Try.zeroCells66 66)) [(w.heap.size, 66, (List.replicate 192 (0 : UInt8)).map W8)] := (Bag.none w).add (later_alloc _ _) (by simp) (Nat.le_refl _) ((Blk.new w _ Try.zeroCells66.toList).cast hzz)
  have hM := hid (fun (w : World) A B c d h1 h2 => mult_ref A B n c m d ks us w h1 h2 hn hm)
  have hml := multB_length ks us
  have hP1 := hid (fun (h : multE ks us = 0) => show peelB ks us = stepL us (multB ks us) by rw [peelB, if_pos h])
  have hP2 := hid (fun (h : ¬ multE ks us = 0) => show peelB ks us = List.replicate 192 0 by rw [peelB, if_neg h])
  have hlen := hid (fun (h : multE ks us = 0) => (multE_len h).2)
  have hPl := peelB_length ks us
  have hzl : (List.replicate 192 (0 : UInt8)).length = 192 := by simp
  generalize peelB ks us = PL at *
  generalize multB ks us = M at *
  generalize multE ks us = e9 at *
  by_cases he : e9 = 0
  · have hP := hP1.out he
    have hul2 := hlen.out he
    have hO := hid (fun (w : World) g h => of_ref12 (some ⟨g, 0, none⟩) 32 32 M w h (by omega))
    rw [show ofB M = k4 M by rw [ofB, if_pos hml], show ofE M = 0 by rw [ofE, if_pos hml]] at hO
    have hput := put_peel us M hul2 hml (k4 M) (k4_length M)
    have hkl4 := k4_length M
    rw [stepL] at hP
    rw [← hP] at hput
    generalize k4 M = K at *
    obtain rfl : m = 32 := by omega
    subst he
    clear hP1 hP2 hlen hP
    generalize hZ0 : List.replicate 192 (0 : UInt8) = Z at *
    have l1 : (putB Z 128 us).length = 192 := by rw [putB_length (by omega)]; exact hzl
    have l2 : (putB (putB Z 128 us) 160 M).length = 192 := by rw [putB_length (by omega)]; exact l1
    generalize hP1' : putB Z 128 us = Z1 at *
    generalize hP2' : putB Z1 160 M = Z2 at *
    have P1 := hid hP1'
    have P2 := hid hP2'
    have P3 := hid hput
    have HZ := hid hzz
    have hZl : (Z.map W8).length = 192 := by rw [List.length_map, hzl]
    clear hP1' hP2' hput hzz hZ0
    go_enter Try.func41, Try.ntmps41
    go_wp2_with fail
    generalize hW : w.alloc _ = w0
    replace B0 : Bag w w0 [(w.heap.size, 66, Z.map W8)] := by rw [← hW]; exact B0
    clear hW
    (with_reducible refine (hM.out _ _ _ _ _ (hk.later B0.lat) (hu.later B0.lat)).mono ?_); rintro e w1 ⟨rfl, j1⟩
    go_wp2_with (first
      | (refine store_B rfl rfl _ _ rfl (Blk.new w1 _ (List.replicate 32 (.int .u8 0))) rfl rfl hml rfl ?_; intro w2 hb2 ho2
         have B1 := B0.push (j1.trans (later_alloc w1 _)) j1.size ho2 hb2
         have B2 := B1.add (later_alloc w2 (.cells Try.zeroCells66 66)) (k := w2.heap.size) (by have h1 := (B1.nth 0 rfl).lt; have h2 := (B1.nth 1 rfl).lt; simp; omega) B1.lat.size ((Blk.new w2 _ Try.zeroCells66.toList).cast HZ.out))
      | (refine copy_Y 128 32 rfl _ _ _ _ rfl 5 Try.underlying22 size8 (B2.nth 0 rfl) (hu.later B2.lat) rfl rfl (by omega) ?_; intro w3 hb3 ho3
         rw [P1.out] at hb3
         have B3 := B2.write 0 rfl ho3 hb3)
      | (refine load_B rfl _ rfl (B3.nth 1 rfl) hml rfl ?_)
      | (refine store_Y 160 32 rfl rfl _ _ rfl (B3.nth 0 rfl) rfl rfl size32c hml (by omega) ?_; intro w4 hb4 ho4; rw [P2.out] at hb4
         have B4 := B3.write 0 rfl ho4 hb4)
      | fail)
    (with_reducible refine (hO.out _ _ (blk_rdB (B4.nth 1 rfl) hml)).mono ?_); rintro e w5 ⟨rfl, j5⟩
    go_wp2_with (first
      | (refine store_Y 0 128 rfl rfl _ _ rfl ((B4.later j5).nth 0 rfl) rfl rfl size128 hkl4 (by omega) ?_; intro w6 hb6 ho6; rw [P3.out] at hb6
         have B5 := (B4.later j5).write 0 rfl ho6 hb6)
      | (refine load_SR rfl _ rfl (B5.nth 0 rfl) hPl rfl ?_)
      | (refine store_SR rfl rfl _ _ rfl (B5.nth 2 rfl) rfl rfl hPl hZl ?_; intro w9 hb9 ho9)
      | fail)
    exact bodyPost_ret (results_blk_tmp rfl _ _ _ _ _ _ hb9 rfl Try.underlying66 rfl (by rw [List.length_map, hPl]; exact size192r)) rfl ⟨rfl, (B5.write 2 rfl ho9 hb9).lat⟩
  · have hP := hP2.out he
    have hb0 := built_step0R
    rw [← hP] at hb0
    have hne : ((e9 : Int) != 0) = true := by simp; omega
    have hz0 : ((List.replicate 192 (0 : UInt8)).map W8).length = 192 := by rw [List.length_map]; exact hzl
    clear hP1 hP2 hlen hP hzl hzz
    generalize List.replicate 192 (0 : UInt8) = Z at *
    go_enter Try.func41, Try.ntmps41
    go_wp2_with fail
    generalize hW : w.alloc _ = w0
    replace B0 : Bag w w0 [(w.heap.size, 66, Z.map W8)] := by rw [← hW]; exact B0
    clear hW
    (with_reducible refine (hM.out _ _ _ _ _ (hk.later B0.lat) (hu.later B0.lat)).mono ?_); rintro e w1 ⟨rfl, j1⟩
    go_wp2_with (first
      | (refine store_B rfl rfl _ _ rfl (Blk.new w1 _ (List.replicate 32 (.int .u8 0))) rfl rfl hml rfl ?_; intro w2 hb2 ho2
         have B1 := B0.push (j1.trans (later_alloc w1 _)) j1.size ho2 hb2)
      | (refine wpList_build_is rfl 66 _ rfl (PL.map W8) ?hb ?_; (case hb => simp only [List.map_toArray, List.map_nil]; exact hb0))
      | (refine store_SR rfl rfl _ _ rfl (B1.nth 1 rfl) rfl rfl hPl hz0 ?_; intro w9 hb9 ho9)
      | fail)
    exact bodyPost_ret (results_blk_tmp rfl _ _ _ _ _ _ hb9 rfl Try.underlying66 rfl (by rw [List.length_map, hPl]; exact size192r)) rfl ⟨rfl, (B1.write 1 rfl ho9 hb9).lat⟩
set_option maxRecDepth 100000 in
set_option maxHeartbeats 4000000 in
/-- The law's 'is', of a step and itself. -/
theorem is12_same (x : List UInt8) (hx : x.length = 192) (w : World) :
    Calls Try.prog 38 #[.agg (x.map W8).toArray, .agg (x.map W8).toArray] w fun e w' => e = .returned (.bool true) ∧ Later w w' := by
  obtain ⟨k, hk⟩ : ∃ k : Y128, k.val = subB x 0 128 := ⟨⟨_, subB_length (by omega)⟩, rfl⟩
  obtain ⟨al, hal⟩ : ∃ k : Y32, k.val = subB x 128 32 := ⟨⟨_, subB_length (by omega)⟩, rfl⟩
  obtain ⟨s, hs⟩ : ∃ k : Y32, k.val = subB x 160 32 := ⟨⟨_, subB_length (by omega)⟩, rfl⟩
  have C1 := bag_new w 63 (x.map W8)
  have C2 : Bag w ((w.alloc (.cells (x.map W8).toArray 63)).alloc (.cells (x.map W8).toArray 66)) [(w.heap.size + 1, 66, x.map W8), (w.heap.size, 63, x.map W8)] :=
    C1.add (later_alloc _ _) (by simp) (by omega) (Blk.new' _ _ _ (by simp))
  clear C1
  have hkl := k.2
  have hall := al.2
  have hsl := s.2
  have H1 := hid hk
  have H2 := hid hal
  have H3 := hid hs
  clear hk hal hs
  go_enter Try.func38, Try.ntmps38
  go_wp2_with (first
    | (refine load_Y 0 128 rfl _ rfl (C2.nth 0 rfl) rfl Try.underlying49 rfl size128 H1.out.symm hkl ?_)
    | (refine load_Y 0 128 rfl _ rfl (C2.nth 1 rfl) rfl Try.underlying49 rfl size128 H1.out.symm hkl ?_)
    | (refine load_Y 128 32 rfl _ rfl (C2.nth 0 rfl) rfl Try.underlying47 rfl size32c H2.out.symm hall ?_)
    | (refine load_Y 128 32 rfl _ rfl (C2.nth 1 rfl) rfl Try.underlying47 rfl size32c H2.out.symm hall ?_)
    | (refine load_Y 160 32 rfl _ rfl (C2.nth 0 rfl) rfl Try.underlying47 rfl size32c H3.out.symm hsl ?_)
    | (refine load_Y 160 32 rfl _ rfl (C2.nth 1 rfl) rfl Try.underlying47 rfl size32c H3.out.symm hsl ?_)
    | fail)
  go_ret
  exact ⟨rfl, C2.lat⟩
end Go.Proofs.Ytjohieongjnemaa
