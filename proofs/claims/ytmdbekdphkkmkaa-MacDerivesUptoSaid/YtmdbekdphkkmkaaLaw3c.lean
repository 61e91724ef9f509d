/-
  The law MacChecks, walked.
-/
import Derived.Test.YtmdbekdphkkmkaaLaw3b
namespace Go.Proofs.Ytmdbekdphkkmkaa
open Go.RowKit

def emptyTag : List UInt8 := [182, 19, 103, 154, 8, 20, 217, 236, 119, 47, 149, 215, 120, 195, 95, 197]
set_option maxRecDepth 100000 in
theorem empty_tag : (macTag [] [].flatten).take 16 = emptyTag := by decide +kernel
theorem parts_nil (w : World) : Parts w (fun _ => False) none 0 [] := ⟨[], ⟨rfl, fun h => absurd h (by omega)⟩, avoid_false _ _, rfl, fun j v p hv => by simp at hv⟩
set_option maxRecDepth 100000 in
set_option maxHeartbeats 2000000 in
theorem macChecks_walk (A B C : Option Addr) (n c m d k e0 : Nat) (key tag : List UInt8) (ps : List (List UInt8)) (w : World) (hx : RdB w A n key) (hg : RdB w C k tag) (hp : Parts w (fun _ => False) B m ps) (hk : key.length ≤ 1048576) (ht : tag.length ≤ 1048576) (hm : ps.flatten.length + m ≤ 1048576) (hq : ∀ p ∈ ps, p.length ≤ 1048576) :
    Calls Try.prog 13 #[.slice A n c, .slice C k e0, .slice B m d] w fun e w' => e = .returned (.bool true) ∧ Later w w' := by
  have hkl := hx.len
  have hgl := hg.len
  have he := fun e0 C w h => check_any none none C 0 0 0 0 16 e0 [] emptyTag [] w (rdb_none w) (Nat.le_refl _) (by omega) h (by omega) (parts_nil w) (by omega) (by simp)
  rw [empty_tag, decide_eq_true (rfl : emptyTag = emptyTag)] at he
  have hj := fun w h => join_any B m d ps w h (by omega) (by omega)
  have hcs := fun w h => copies_any B m d ps w h (by omega) (fun p h => by have := hq p h; omega)
  have hrs := fun B m d w h1 h2 h3 => refShort_any A B n c m d key ps.flatten w h1 (by omega) h2 h3
  have hck := fun A c C e0 B d w h1 h2 h3 h5 => check_any A B C n c m d k e0 key tag ps w h1 h2 (by omega) h3 (by omega) h5 (by omega) (by omega)
  have hS : ((macTag key ps.flatten).take 16).length = 16 := by simp [macTag_length]
  generalize (macTag key ps.flatten).take 16 = S at *
  generalize ps.flatten = F at *
  have hD : decide (S = tag) = decide (tag = S) := by rw [decide_eq_decide]; exact ⟨Eq.symm, Eq.symm⟩
  rw [hD] at hck
  have heq := fun D D' d d' w h1 h2 => equal_any D D' k 16 d d' tag S w h1 h2 (by omega) (by omega)
  generalize decide (tag = S) = R at *
  have HE := hid he
  have HJ := hid hj
  have HCS := hid hcs
  have HRS := hid hrs
  have HCK := hid hck
  have HEQ := hid heq
  clear he hj hcs hrs hck heq hq hD
  generalize hFl : F.length = fl at *
  go_enter Try.func13, Try.ntmps13
  go_wp2_with fail
  refine (awake03 _).mono ?_
  rintro e w1 ⟨rfl, hl1⟩
  go_wp2_with fail
  have hE1 : RdB (w1.alloc (.cells (emptyTag.map W8).toArray 5)) (some ⟨w1.heap.size, 0, none⟩) 16 emptyTag := (Blk.new w1 _ _).rd rfl
  refine (HE.out 16 (some ⟨w1.heap.size, 0, none⟩) _ hE1).mono ?_
  rintro e w2 ⟨rfl, hl2⟩
  go_wp2_with fail
  have L := (hl1.alloc _).trans hl2
  refine (copy_any A n c key _ (hx.later L) (by omega)).mono ?_
  rintro e w3 ⟨A3, c3, rfl, hown3, hl3⟩
  go_wp2_with fail
  have L := L.trans hl3
  refine (copy_any C k e0 tag _ (hg.later L) (by omega)).mono ?_
  rintro e w4 ⟨A4, c4, rfl, hown4, hl4⟩
  go_wp2_with fail
  have L := L.trans hl4
  refine (HCS.out _ (hp.later L)).mono ?_
  rintro e w5 ⟨A5, c5, rfl, hop5, hl5⟩
  go_wp2_with fail
  have L := L.trans hl5
  refine (HCK.out A3 c3 A4 c4 A5 c5 _ ((hown3.later hl4).later hl5).rd hown3.cap (hown4.later hl5).rd hop5.parts).mono ?_
  rintro e w6 ⟨rfl, hl6⟩
  go_wp2_with fail
  have L := L.trans hl6
  refine (HJ.out _ (hp.later L)).mono ?_
  rintro e w7 ⟨A7, c7, rfl, hown7, hl7⟩
  go_wp2_with fail
  have L := L.trans hl7
  refine (HRS.out A7 fl c7 _ (hx.later L) hown7.rd (by omega)).mono ?_
  rintro e w8 ⟨A8, c8, rfl, hown8, hl8⟩
  go_wp2_with fail
  have L := L.trans hl8
  refine (HEQ.out C A8 e0 c8 _ (hg.later L) hown8.rd).mono ?_
  rintro e w9 ⟨rfl, hl9⟩
  go_wp2
  go_ret
  exact ⟨by simp, L.trans hl9⟩
end Go.Proofs.Ytmdbekdphkkmkaa
