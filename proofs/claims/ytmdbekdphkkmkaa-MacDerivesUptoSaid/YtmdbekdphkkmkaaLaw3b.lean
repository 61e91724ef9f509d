/-
  The laws MacTags, MacChecks, walked.
-/
import Derived.Test.YtmdbekdphkkmkaaLaw3
namespace Go.Proofs.Ytmdbekdphkkmkaa
open Go.RowKit

set_option maxRecDepth 100000 in
set_option maxHeartbeats 2000000 in
theorem macTags_walk (A B : Option Addr) (n c m d : Nat) (key : List UInt8) (ps : List (List UInt8)) (w : World) (hx : RdB w A n key) (hp : Parts w (fun _ => False) B m ps) (hk : key.length ≤ 1048576) (hm : ps.flatten.length + m ≤ 1048576) (hq : ∀ p ∈ ps, p.length ≤ 1048576) :
    Calls Try.prog 12 #[.slice A n c, .slice B m d] w fun e w' => e = .returned (.bool true) ∧ Later w w' := by
  have hkl := hx.len
  have hj := fun w h => join_any B m d ps w h (by omega) (by omega)
  have hcs := fun w h => copies_any B m d ps w h (by omega) (fun p h => by have := hq p h; omega)
  have hsh := fun A c B d w h1 h2 h3 => short_any A B n c m d key ps w h1 h2 (by omega) h3 (by omega) (by omega)
  have htg := fun A c B d w h1 h2 h3 => tag_any A B n c m d key ps w h1 h2 (by omega) h3 (by omega) (by omega)
  have hT := macTag_length key ps.flatten
  have hrt := fun B m d w h1 h2 h3 => refTag_any A B n c m d key ps.flatten w h1 (by omega) h2 h3
  have hrs := fun B m d w h1 h2 h3 => refShort_any A B n c m d key ps.flatten w h1 (by omega) h2 h3
  have hck := fun A c C e0 B d w h1 h2 h3 h4 h5 => check_any A B C n c 1 d 16 e0 key ((macTag key ps.flatten).take 16) [ps.flatten] w h1 h2 (by omega) h3 (by omega) h4 (by omega) h5
  rw [flatten_one, decide_eq_true (rfl : (macTag key ps.flatten).take 16 = (macTag key ps.flatten).take 16)] at hck
  have hS : ((macTag key ps.flatten).take 16).length = 16 := by simp [hT]
  generalize (macTag key ps.flatten).take 16 = S at *
  generalize macTag key ps.flatten = T at *
  generalize ps.flatten = F at *
  obtain ⟨T, rfl⟩ := sub32 hT
  have HJ := hid hj
  have HCS := hid hcs
  have HSH := hid hsh
  have HTG := hid htg
  have HRT := hid hrt
  have HRS := hid hrs
  have HCK := hid hck
  clear hj hcs hsh htg hrt hrs hck hq
  generalize hFl : F.length = fl at *
  go_enter Try.func12, Try.ntmps12
  go_wp2_with fail
  refine (awake03 _).mono ?_
  rintro e w1 ⟨rfl, hl1⟩
  go_wp2_with fail
  refine (HJ.out _ (hp.later hl1)).mono ?_
  rintro e w2 ⟨A2, c2, rfl, hown2, hl2⟩
  go_wp2_with fail
  have L := hl1.trans hl2
  refine (copy_any A n c key _ (hx.later L) (by omega)).mono ?_
  rintro e w3 ⟨A3, c3, rfl, hown3, hl3⟩
  go_wp2_with fail
  have L := L.trans hl3
  refine (HCS.out _ (hp.later L)).mono ?_
  rintro e w4 ⟨A4, c4, rfl, hop4, hl4⟩
  go_wp2_with fail
  have L := L.trans hl4
  refine (HSH.out A3 c3 A4 c4 _ (hown3.later hl4).rd hown3.cap hop4.parts).mono ?_
  rintro e w5 ⟨A5, c5, rfl, hown5, hl5⟩
  go_wp2_with fail
  have L := L.trans hl5
  refine (copy_any A n c key _ (hx.later L) (by omega)).mono ?_
  rintro e w6 ⟨A6, c6, rfl, hown6, hl6⟩
  go_wp2_with fail
  have L := L.trans hl6
  refine (HCS.out _ (hp.later L)).mono ?_
  rintro e w7 ⟨A7, c7, rfl, hop7, hl7⟩
  go_wp2_with fail
  have L := L.trans hl7
  refine (HTG.out A6 c6 A7 c7 _ (hown6.later hl7).rd hown6.cap hop7.parts).mono ?_
  rintro e w8 ⟨rfl, hl8⟩
  go_wp2_with fail
  have L := L.trans hl8
  have M := ((((hl3.trans hl4).trans hl5).trans hl6).trans hl7).trans hl8
  refine (HRT.out A2 fl c2 _ (hx.later L) (hown2.later M).rd (by omega)).mono ?_
  rintro e w9 ⟨rfl, hl9⟩
  go_wp2_with fail
  have L := L.trans hl9
  have M := M.trans hl9
  refine (HRS.out A2 fl c2 _ (hx.later L) (hown2.later M).rd (by omega)).mono ?_
  rintro e w10 ⟨A10, c10, rfl, hown10, hl10⟩
  go_wp2_with fail
  have L := L.trans hl10
  have M := M.trans hl10
  have N5 := (((hl6.trans hl7).trans hl8).trans hl9).trans hl10
  refine (equal_any A5 A10 16 16 c5 c10 S S _ (hown5.later N5).rd hown10.rd (by omega) (by omega)).mono ?_
  rintro e w11 ⟨rfl, hl11⟩
  rw [decide_eq_true (rfl : S = S)]
  go_wp2_with fail
  have L := L.trans hl11
  have M := M.trans hl11
  refine (copy_any A n c key _ (hx.later L) (by omega)).mono ?_
  rintro e w12 ⟨A12, c12, rfl, hown12, hl12⟩
  go_wp2_with fail
  have L := L.trans hl12
  have M := M.trans hl12
  refine (HCK.out A12 c12 A5 c5 (some ⟨w12.heap.size, 0, none⟩) 1 _ (OwnB.later hown12 (later_alloc _ _)).rd hown12.cap ((hown5.later N5).later ((hl11.trans hl12).alloc _)).rd (parts_of ((Blk.new w12 22 [.slice A2 fl c2]).rd rfl) ⟨part_of ((hown2.later M).later (later_alloc _ _)).rd hown2.cap, trivial⟩) (by omega)).mono ?_
  rintro e w13 ⟨rfl, hl13⟩
  go_wp2
  go_ret
  exact ⟨rfl, (L.alloc _).trans hl13⟩
end Go.Proofs.Ytmdbekdphkkmkaa
