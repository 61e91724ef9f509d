/-
  The law MacExpands, walked.
-/
import Derived.Test.YtmdbekdphkkmkaaExpand3
namespace Go.Proofs.Ytmdbekdphkkmkaa
open Go.RowKit

theorem expand_is (A B : Option Addr) (n c m d : Nat) (I : Int) (N : Nat) (hI : I = (N : Int)) (key : List UInt8) (ps : List (List UInt8)) (w : World) (hx : RdB w A n key) (hc : n ≤ c) (hn : n ≤ 140737488355328) (hp : Parts w (fun _ => False) B m ps) (hm : m ≤ 140737488355328) (hlen : ps.flatten.length ≤ 70368744177664) (hN : N ≤ 8160) :
    Calls Try.prog 49 #[.slice A n c, .int .i64 I, .slice B m d] w fun e w' => ∃ A', e = .returned (.tuple #[.slice A' N N, .int .i64 0]) ∧ Front w' w.heap.size A' N (expB key ps.flatten N) ∧ Later w w' := by
  subst hI
  exact expand_ok A B n c m d N key ps w hx hc hn hp hm hlen hN
set_option maxRecDepth 100000 in
set_option maxHeartbeats 4000000 in
theorem macExpands_bad (A B : Option Addr) (n c m d : Nat) (N : Int) (hN : N < 0 ∨ 8160 < N) (key : List UInt8) (ps : List (List UInt8)) (w : World) (hx : RdB w A n key) (hp : Parts w (fun _ => False) B m ps) (hk : key.length ≤ 1048576) (hm : ps.flatten.length + m ≤ 1048576) (hq : ∀ p ∈ ps, p.length ≤ 1048576) :
    Calls Try.prog 11 #[.slice A n c, .int .i64 N, .slice B m d] w fun e w' => e = .returned (.bool true) ∧ Later w w' := by
  have hkl := hx.len
  have hj := fun w h => join_any B m d ps w h (by omega) (by omega)
  have hcs := fun w h => copies_any B m d ps w h (by omega) (fun p h => by have := hq p h; omega)
  have hT := macTag_length ps.flatten key
  have hxt := fun A c B d w h1 h2 h3 h4 => extract_any A B ps.flatten.length c n d ps.flatten key w h1 h2 (by omega) h3 h4 (by omega)
  have hrt := fun A c B d w h1 h2 => refTag_any A B ps.flatten.length c n d ps.flatten key w h1 (by omega) h2 (by omega)
  generalize macTag ps.flatten key = T at *
  generalize ps.flatten = F at *
  obtain ⟨T, rfl⟩ := sub32 hT
  have HJ := hid hj
  have HCS := hid hcs
  have HXT := hid hxt
  have HRT := hid hrt
  have HN := hid hN
  clear hj hcs hxt hrt hq hN
  generalize hFl : F.length = fl at *
  go_enter Try.func11, Try.ntmps11
  go_wp2_with fail
  refine (awake03 _).mono ?_
  rintro e w1 ⟨rfl, hl1⟩
  go_wp2_with fail
  refine (copy_any A n c key _ (hx.later hl1) (by omega)).mono ?_
  rintro e w2 ⟨A2, c2, rfl, hown2, hl2⟩
  go_wp2_with fail
  have L := hl1.trans hl2
  refine (HCS.out _ (hp.later L)).mono ?_
  rintro e w3 ⟨A3, c3, rfl, hop3, hl3⟩
  go_wp2_with fail
  have L := L.trans hl3
  refine (expand_bad A2 A3 n c2 m c3 N _ HN.out).mono ?_
  rintro e w4 ⟨rfl, rfl⟩
  go_wp2_with fail
  refine (HJ.out _ (hp.later L)).mono ?_
  rintro e w5 ⟨A5, c5, rfl, hown5, hl5⟩
  go_wp2_with fail
  have L := L.trans hl5
  refine (refExpand_bad A A5 n c fl c5 N _ HN.out).mono ?_
  rintro e w6 ⟨rfl, rfl⟩
  go_wp2_with fail
  refine (equal_any none none 0 0 0 0 [] [] _ (rdb_none _) (rdb_none _) (by omega) (by omega)).mono ?_
  rintro e w7 ⟨rfl, hl7⟩
  rw [decide_eq_true (rfl : ([] : List UInt8) = [])]
  have L := L.trans hl7
  go_wp2_with fail
  refine (HJ.out _ (hp.later L)).mono ?_
  rintro e w8 ⟨A8, c8, rfl, hown8, hl8⟩
  go_wp2_with fail
  have L := L.trans hl8
  refine (copy_any A n c key _ (hx.later L) (by omega)).mono ?_
  rintro e w9 ⟨A9, c9, rfl, hown9, hl9⟩
  go_wp2_with fail
  have L := L.trans hl9
  refine (HXT.out A8 c8 A9 c9 _ (hown8.later hl9).rd hown8.cap hown9.rd hown9.cap).mono ?_
  rintro e wa ⟨rfl, hla⟩
  go_wp2_with fail
  have L := L.trans hla
  refine (HJ.out _ (hp.later L)).mono ?_
  rintro e wb ⟨Ab, cb, rfl, hownb, hlb⟩
  go_wp2_with fail
  have L := L.trans hlb
  refine (HRT.out Ab cb A c _ hownb.rd (hx.later L)).mono ?_
  rintro e wc ⟨rfl, hlc⟩
  go_wp2
  go_ret
  exact ⟨rfl, L.trans hlc⟩
set_option maxRecDepth 100000 in
set_option maxHeartbeats 4000000 in
theorem macExpands_ok (A B : Option Addr) (n c m d : Nat) (N : Nat) (hN : N ≤ 8160) (key : List UInt8) (ps : List (List UInt8)) (w : World) (hx : RdB w A n key) (hp : Parts w (fun _ => False) B m ps) (hk : key.length ≤ 1048576) (hm : ps.flatten.length + m ≤ 1048576) (hq : ∀ p ∈ ps, p.length ≤ 1048576) :
    Calls Try.prog 11 #[.slice A n c, .int .i64 (N : Int), .slice B m d] w fun e w' => e = .returned (.bool true) ∧ Later w w' := by
  have hkl := hx.len
  have hj := fun w h => join_any B m d ps w h (by omega) (by omega)
  have hcs := fun w h => copies_any B m d ps w h (by omega) (fun p h => by have := hq p h; omega)
  have hex := fun A c B d I K w hI h1 h2 h3 hK => expand_is A B n c m d I K hI key ps w h1 h2 (by omega) h3 (by omega) (by omega) hK
  have hrx := fun B m d w h1 h2 hm => refExpand_ok A B n c m d N key ps.flatten w h1 (by omega) h2 hm hN
  have hpre := expB_prefix key ps.flatten N (N + 33) (by omega)
  have hel := expB_length key ps.flatten N
  have hT := macTag_length ps.flatten key
  have hxt := fun A c B d w h1 h2 h3 h4 => extract_any A B ps.flatten.length c n d ps.flatten key w h1 h2 (by omega) h3 h4 (by omega)
  have hrt := fun A c B d w h1 h2 => refTag_any A B ps.flatten.length c n d ps.flatten key w h1 (by omega) h2 (by omega)
  generalize macTag ps.flatten key = T at *
  generalize ps.flatten = F at *
  obtain ⟨T, rfl⟩ := sub32 hT
  have HJ := hid hj
  have HCS := hid hcs
  have HXT := hid hxt
  have HRT := hid hrt
  have HEX := hid hex
  have HRX := hid hrx
  clear hj hcs hxt hrt hq hex hrx
  generalize hFl : F.length = fl at *
  go_enter Try.func11, Try.ntmps11
  go_wp2_with fail
  refine (awake03 _).mono ?_
  rintro e w1 ⟨rfl, hl1⟩
  go_wp2_with fail
  refine (copy_any A n c key _ (hx.later hl1) (by omega)).mono ?_
  rintro e w2 ⟨A2, c2, rfl, hown2, hl2⟩
  go_wp2_with fail
  have L := hl1.trans hl2
  refine (HCS.out _ (hp.later L)).mono ?_
  rintro e w3 ⟨A3, c3, rfl, hop3, hl3⟩
  go_wp2_with fail
  have L := L.trans hl3
  refine (HEX.out A2 c2 A3 c3 _ N _ rfl (hown2.later hl3).rd hown2.cap hop3.parts hN).mono ?_
  rintro e w4 ⟨A4, rfl, hfr4, hl4⟩
  have L := L.trans hl4
  go_wp2_with fail
  refine (HJ.out _ (hp.later L)).mono ?_
  rintro e w5 ⟨A5, c5, rfl, hown5, hl5⟩
  go_wp2_with fail
  have L := L.trans hl5
  refine (HRX.out A5 fl c5 _ (hx.later L) hown5.rd (by omega)).mono ?_
  rintro e w6 ⟨A6, c6, rfl, hown6, hl6⟩
  have L := L.trans hl6
  generalize hE : expB key F N = E at *
  go_wp2_with fail
  refine (equal_any A4 A6 N N N c6 E E _ ((hfr4.later hl5).later hl6).rd hown6.rd (by omega) (by omega)).mono ?_
  rintro e w7 ⟨rfl, hl7⟩
  rw [decide_eq_true (rfl : E = E)]
  have L := L.trans hl7
  go_wp2_with fail
  refine (HJ.out _ (hp.later L)).mono ?_
  rintro e w8 ⟨A8, c8, rfl, hown8, hl8⟩
  go_wp2_with fail
  have L := L.trans hl8
  refine (copy_any A n c key _ (hx.later L) (by omega)).mono ?_
  rintro e w9 ⟨A9, c9, rfl, hown9, hl9⟩
  go_wp2_with fail
  have L := L.trans hl9
  refine (HXT.out A8 c8 A9 c9 _ (hown8.later hl9).rd hown8.cap hown9.rd hown9.cap).mono ?_
  rintro e wa ⟨rfl, hla⟩
  go_wp2_with fail
  have L := L.trans hla
  refine (HJ.out _ (hp.later L)).mono ?_
  rintro e wb ⟨Ab, cb, rfl, hownb, hlb⟩
  go_wp2_with fail
  have L := L.trans hlb
  refine (HRT.out Ab cb A c _ hownb.rd (hx.later L)).mono ?_
  rintro e wc ⟨rfl, hlc⟩
  have L := L.trans hlc
  have hfrc : Front wc w3.heap.size A4 N E := ((((((hfr4.later hl5).later hl6).later hl7).later hl8).later hl9).later hla).later hlb |>.later hlc
  have hE' := hid hE
  clear hE hel
  by_cases h80 : 8000 < N
  · have h80' : (8000 : Int) < (N : Int) := by omega
    go_wp2
    go_ret
    exact ⟨rfl, L⟩
  · have h80' : ¬ (8000 : Int) < (N : Int) := by omega
    go_wp2_with fail
    refine (copy_any A n c key _ (hx.later L) (by omega)).mono ?_
    rintro e wd ⟨Ad, cd, rfl, hownd, hld⟩
    have L := L.trans hld
    go_wp2_with fail
    refine (HCS.out _ (hp.later L)).mono ?_
    rintro e we ⟨Ae, ce, rfl, hope, hle⟩
    have L := L.trans hle
    go_wp2_with fail
    refine (HEX.out Ad cd Ae ce _ (N + 33) _ (by omega) (hownd.later hle).rd hownd.cap hope.parts (by omega)).mono ?_
    rintro e wf ⟨Af, rfl, hfrf, hlf⟩
    have L := L.trans hlf
    have hcut := RdB.take hfrf.rd (m := N) (by omega)
    rw [hpre] at hcut
    go_wp2_with fail
    refine (equal_any Af A4 N N (N + 33) N E E _ hcut (((hfrc.later hld).later hle).later hlf).rd (by omega) (by omega)).mono ?_
    rintro e wg ⟨rfl, hlg⟩
    rw [decide_eq_true (rfl : E = E)]
    go_wp2
    go_ret
    exact ⟨by simp, L.trans hlg⟩
theorem macExpands_walk (A B : Option Addr) (n c m d : Nat) (N : Int) (key : List UInt8) (ps : List (List UInt8)) (w : World) (hx : RdB w A n key) (hp : Parts w (fun _ => False) B m ps) (hk : key.length ≤ 1048576) (hm : ps.flatten.length + m ≤ 1048576) (hq : ∀ p ∈ ps, p.length ≤ 1048576) :
    Calls Try.prog 11 #[.slice A n c, .int .i64 N, .slice B m d] w fun e w' => e = .returned (.bool true) ∧ Later w w' := by
  by_cases h : N < 0 ∨ 8160 < N
  · exact macExpands_bad A B n c m d N h key ps w hx hp hk hm hq
  · obtain ⟨K, rfl⟩ := Int.eq_ofNat_of_zero_le (show 0 ≤ N by omega)
    exact macExpands_ok A B n c m d K (by omega) key ps w hx hp hk hm hq
end Go.Proofs.Ytmdbekdphkkmkaa
