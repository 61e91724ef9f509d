/-
  The law MacTaggers, walked.
-/
import Derived.Test.YtmdbekdphkkmkaaLaw3c
namespace Go.Proofs.Ytmdbekdphkkmkaa
open Go.RowKit

theorem ne_tagger : (72 : TypeId) ≠ 5 := by decide
theorem HashAt.grownT {w w' : World} {t : TypeId} {g base : Nat} {rest : List Value} {bs : List UInt8} {v : Value} {n : Nat} {vs : List Value} (h : HashAt w g t rest bs) (ht : t ≠ 5) (hown : w.ownsRow base 5 1 v n vs) (hg : w.grownBy w' v.ownBlock) : HashAt w' g t rest bs := by
  obtain ⟨st, op, h1, h2⟩ := h
  exact ⟨st, op, h1, blk_grown h2 hown ht hg⟩
theorem own_hashT {w : World} {t : TypeId} {g base : Nat} {rest : List Value} {bs : List UInt8} {v : Value} {n : Nat} {vs : List Value} (hown : w.ownsRow base 5 1 v n vs) (ht : t ≠ 5) (h : HashAt w g t rest bs) : ∀ b, v.ownBlock = some b → b ≠ g := by
  intro b hb
  obtain ⟨st, op, h1, h2⟩ := h
  rcases hown.2 with ⟨rfl, _⟩ | ⟨g2, c2, cur2, rfl, _, hh2, _⟩
  · simp [Value.ownBlock] at hb
  · simp only [Value.ownBlock, Option.some.injEq] at hb
    subst hb
    exact fun e => (Blk.ne_type (l := cur2.toList) (t := 5) hh2 h2 (fun e => ht e.symm)) e
theorem rd_pre {w : World} {g n : Nat} {t : TypeId} {vs rest : List Value} (h : Blk w g t (vs ++ rest)) (hn : vs.length = n) : Rd w (some ⟨g, 0, none⟩) n vs :=
  ⟨hn, fun _ => ⟨g, 0, rfl, h.lt, fun j u hu => by rw [Nat.zero_add]; exact h.cellD j (by rw [List.getElem?_append_left (List.getElem?_eq_some_iff.1 hu).1]; exact hu)⟩⟩
theorem turn_ne (x : UInt8) : x ^^^ 64 ≠ x := by
  intro h
  have h2 : x ^^^ (x ^^^ 64) = x ^^^ x := by rw [h]
  rw [← UInt8.xor_assoc, UInt8.xor_self, UInt8.zero_xor] at h2
  cases h2
theorem set_turn (S : List UInt8) (j : Nat) (h : j < S.length) : S ≠ S.set j (S.getD j 0 ^^^ 64) := by
  intro e
  have h1 : S[j]? = (S.set j (S.getD j 0 ^^^ 64))[j]? := by rw [← e]
  rw [List.getElem?_set_self h, List.getElem?_eq_getElem h, List.getD_eq_getElem?_getD, List.getElem?_eq_getElem h] at h1
  simp only [Option.some.injEq, Option.getD_some] at h1
  exact turn_ne _ h1.symm
set_option maxRecDepth 100000 in
set_option maxHeartbeats 4000000 in
theorem macTaggers_walk (A B : Option Addr) (n c m d : Nat) (key : List UInt8) (ps : List (List UInt8)) (w : World) (hx : RdB w A n key) (hp : Parts w (fun _ => False) B m ps) (hk : key.length ≤ 1048576) (hm : ps.flatten.length + m ≤ 1048576) (hq : ∀ p ∈ ps, p.length ≤ 1048576) :
    Calls Try.prog 10 #[.slice A n c, .slice B m d] w fun e w' => e = .returned (.bool true) ∧ Later w w' := by
  have hkl := hx.len
  have hpl := hp.len
  have HQ := hid hq
  clear hq
  have hs0 := fun g w hh => tagSum_any g key [] w hh (by simp)
  have hr0 := fun w h => refTag_any A none n c 0 0 key [] w h (by omega) (rdb_none w) (by omega)
  have hT0 := macTag_length key []
  have HN := hid (fun A c w h1 h2 => newTagger_any A n c key w h1 h2 (by omega))
  generalize macTag key [] = T0 at *
  have HS0 := hid hs0
  have HR0 := hid hr0
  clear hs0 hr0
  have hm54 : (maskB (macKey key) 54 ++ []).length = 64 := by rw [List.append_nil, maskB_length, macKey_length]
  go_enter Try.func10, Try.ntmps10
  go_wp2_with (first
    | (go_at_call 42; refine (awake03 _).mono ?_; rintro e w1 ⟨rfl, hl1⟩)
    | (go_at_call 29; refine (copy_any A n c key _ (hx.later hl1) (by omega)).mono ?_; rintro e w2 ⟨A2, c2, rfl, hown2, hl2⟩)
    | (go_at_call 43; refine (HN.out A2 c2 _ hown2.rd hown2.cap).mono ?_; rintro e w3 ⟨g, rfl, hg, hh3, hl3⟩)
    | (go_at_call 31; refine (len_is g 72 _ _ 64 _ hh3 hm54).mono ?_; rintro e w4 ⟨rfl, rfl⟩)
    | (go_at_call 44; refine (HS0.out g _ hh3).mono ?_; rintro e w5 ⟨rfl, hl5⟩)
    | (go_at_call 45; refine (HR0.out _ (hx.later (((hl1.trans hl2).trans hl3).trans hl5))).mono ?_; rintro e w6 ⟨rfl, hl6⟩))
  have hgw : w.heap.size ≤ g := by have := (hl1.trans hl2).size; omega
  have hL6 := (((hl1.trans hl2).trans hl3).trans hl5).trans hl6
  have hh6 := HashAt.later hh3 (hl5.trans hl6)
  clear hl1 hl2 hl3 hl5 hl6 hown2 hg hh3
  go_loopw [6, 33] (fun v6 v33 wr => ∃ (k : Nat) (A6 : Option Addr) (q c6 : Nat), k ≤ m ∧ v33 = .int .i64 k ∧ v6 = .slice A6 q c6 ∧ OwnB wr w.heap.size A6 q c6 (ps.take k).flatten ∧ TagAt wr g key (ps.take k).flatten ∧ Later w wr) (fun _ i _ => m - (intOf i).toNat)
  case atStart => exact ⟨0, _, _, _, by omega, rfl, rfl, own_nil _ _ _, hh6, hL6⟩
  case round =>
    clear hh6 hL6
    obtain ⟨k, A6, q, c6, hk', rfl, rfl, hown, hh, hl⟩ := hrel
    have hlt6 := own_below hown
    have hgw' := HashAt.lt hh
    have hql := hown.len
    by_cases hlt : k < m
    · as_aux_lemma =>
      obtain ⟨b, o, Ak, nk, ck, rfl, hb, hck, hcap, hrd, _⟩ := hp.at_ hlt
      have hck' := (hl.below.cell (p := ⟨b, o + k, none⟩) hb).trans hck
      have hpl' := hrd.len
      have hs := take_succ_getD ps k (by omega)
      have hs' : (ps.take (k + 1)).flatten = (ps.take k).flatten ++ ps.getD k [] := by rw [hs]; simp
      have hle := flatten_take_le ps (k + 1)
      rw [hs', List.length_append] at hle
      have HS := hid hs'
      clear hs hs' hck
      generalize ps.getD k [] = x at *
      generalize (ps.take k).flatten = F at *
      have hFx : (maskB (macKey key) 54 ++ (F ++ x)).length = 64 + (q + nk) := by rw [List.length_append, maskB_length, macKey_length, List.length_append]; omega
      have hm64 : (maskB (macKey key) 54 ++ F).length = 64 + q := by rw [List.length_append, maskB_length, macKey_length]; omega
      go_wp2
      refine wp_region_parts [([0, 1, 2, 3], 4), ([], 5)] [] [6] (by as_aux_lemma => kernel_rfl) (by as_aux_lemma => kernel_rfl) (by intro _ _ d _ _ h; cases d <;> exact h) ?_
      simp only [wpParts, pick, List.getElem?_cons_succ, List.getElem?_cons_zero, Option.toList_some, List.cons_append, List.nil_append]
      repeat (go_big_quiet_step (fail))
      refine wpQuiet_nil ?_
      go_wp2_with (go_at_call 29; refine (copy_any Ak nk ck x _ (hrd.later hl.drew) (by omega)).mono ?_; rintro e w3 ⟨A3, c3, rfl, hown3, hl3⟩)
      try refine ⟨by first | assumption | exact later_drew _ | exact later_alloc _ _ | exact Later.refl _, ?_⟩
      try simp only [wpParts, pick, List.getElem?_cons_succ, List.getElem?_cons_zero, Option.toList_some, List.cons_append, List.nil_append]
      repeat (go_big_quiet_step (fail))
      refine wpQuiet_nil ?_
      go_wp2
      try refine ⟨by first | assumption | exact later_drew _ | exact later_alloc _ _ | exact Later.refl _, ?_⟩
      try simp only [wpParts, pick, List.getElem?_cons_succ, List.getElem?_cons_zero, Option.toList_some, List.cons_append, List.nil_append]
      repeat (go_big_quiet_step (fail))
      refine wpQuiet_nil ?_
      have Lr := (later_drew wr).trans (hl3.alloc (.cells #[.slice A3 nk c3] 22))
      go_wp2_with (first
        | (go_at_call 34; refine (write_any g 72 ((macKey key).map W8) (maskB (macKey key) 54 ++ F) (some ⟨w3.heap.size, 0, none⟩) 1 1 [x] _ (HashAt.later hh Lr) (parts_bad ((Blk.new w3 22 [.slice A3 nk c3]).rd rfl) (avoid_lt (by have := hl3.size; simp at this; omega)) ⟨part_own (hown3.later (later_alloc _ _)) hgw', trivial⟩) (by omega) (by rw [flatten_one]; omega)).mono ?_; rintro e w4 ⟨rfl, hh4, ho4⟩
           rw [flatten_one] at hh4
           have ht4 := TagAt.write hh4
           have hown4 := own_only (hown.later Lr) ho4 (own_hashT hown ne_tagger hh)
           have hl4 := (hl.trans Lr).only ho4 hgw)
        | (refine wpList_append_rd rfl _ _ _ rfl 5 _ 1 Try.underlying22 info8 rfl w _ q _ hown4 hl4 Ak nk ck _ (hrd.later hl4) (w8_one _) rfl rfl (by omega) (by omega) ?_; intro A5 c5 w5 hown5 hl5 hg5 _
           have ht5 : TagAt w5 g key (F ++ x) := HashAt.grownT ht4 ne_tagger hown4 hg5
           have hown5' := own_cut hown5 rfl rfl)
        | (go_at_call 31; refine (len_is g 72 _ _ (64 + (q + nk)) _ ht5 hFx).mono ?_; rintro e w7 ⟨rfl, rfl⟩))
      refine ⟨⟨k + 1, A5, q + nk, c5, by omega, by go_num, rfl, ?_, ?_, hl5⟩, by simp only [intOf]; omega⟩
      · rw [HS.out]
        exact hown5'
      · rw [HS.out]
        exact ht5
    · as_aux_lemma =>
      have hkm : k = m := by omega
      rw [hkm, List.take_of_length_le (by omega)] at hown hh hql
      clear hkm
      generalize ps.flatten = F at *
      have hT := macTag_length key F
      have hs := fun w hh => tagSum_any g key F w hh (by omega)
      have hrt := fun B m d w h1 h2 h3 => refTag_any A B n c m d key F w h1 (by omega) h2 h3
      have hrs := fun B m d w h1 h2 h3 => refShort_any A B n c m d key F w h1 (by omega) h2 h3
      have hri := fun B m d w h1 h2 h3 => refInside_any A B n c m d key F w h1 (by omega) h2 h3
      have hft := fun C k e0 tag w h1 h2 h3 => fits_any g C k e0 key F tag w h1 (by omega) h2 h3
      have hI : (macIn key F).length = 32 := shaSum_length _
      have hin := fun w (h : TagAt w g key F) => hsum_any g 72 ((macKey key).map W8) (maskB (macKey key) 54 ++ F) w h (by rw [List.length_append, maskB_length, macKey_length]; omega)
      have hie : shaSum (maskB (macKey key) 54 ++ F) = macIn key F := rfl
      rw [hie] at hin
      clear hie
      have hS : ((macTag key F).take 16).length = 16 := by simp [hT]
      generalize (macTag key F).take 16 = S at *
      generalize macTag key F = T at *
      generalize macIn key F = I at *
      obtain ⟨T, rfl⟩ := sub32 hT
      obtain ⟨I, rfl⟩ := sub32 hI
      have h15 : decide (S = S.take 15) = false := decide_eq_false (fun e => by have := congrArg List.length e; simp [hS] at this)
      have hj16 : q % 16 < 16 := Nat.mod_lt _ (by omega)
      have hturn : decide (S = S.set (q % 16) (S.getD (q % 16) 0 ^^^ 64)) = false := decide_eq_false (set_turn S (q % 16) (by omega))
      have f1 := fun C e0 w h1 h2 => hft C 16 e0 S w h1 h2 (by omega)
      have f2 := fun C e0 w h1 h2 => hft C 15 e0 (S.take 15) w h1 h2 (by omega)
      have f3 := fun C e0 w h1 h2 => hft C 16 e0 (S.set (q % 16) (S.getD (q % 16) 0 ^^^ 64)) w h1 h2 (by omega)
      rw [decide_eq_true (rfl : S = S)] at f1
      rw [h15] at f2
      rw [hturn] at f3
      have hSj : S[q % 16]? = some (S.getD (q % 16) 0) := by rw [List.getD_eq_getElem?_getD, List.getElem?_eq_getElem (by omega)]; rfl
      generalize S.getD (q % 16) 0 = sj at *
      have HS := hid hs
      have HRT := hid hrt
      have HRS := hid hrs
      have HRI := hid hri
      have HIN := hid hin
      have F1 := hid f1
      have F2 := hid f2
      have F3 := hid f3
      clear hs hrt hrs hri hin f1 f2 f3 hft h15 hturn
      go_wp2_with fail
      refine (HRS.out A6 q c6 _ (hx.later hl) hown.rd (by omega)).mono ?_
      rintro e w9 ⟨A9, c9, rfl, hown9, hl9⟩
      go_wp2_with fail
      have hcap := hown9.cap
      have ht9 := HashAt.later hh hl9
      have hall9 := hown.later hl9
      have hin9 := hl.trans hl9
      have hne9 := own_hashT hown9 ne_tagger ht9
      clear hh hown hl9
      refine (HS.out _ ht9).mono ?_
      rintro e wa ⟨rfl, hla⟩
      go_wp2_with fail
      have L := hla
      refine (HRT.out A6 q c6 _ (hx.later (hin9.trans L)) (hall9.later L).rd (by omega)).mono ?_
      rintro e wb ⟨rfl, hlb⟩
      go_wp2_with fail
      have L := L.trans hlb
      refine (HIN.out _ (HashAt.later ht9 L)).mono ?_
      rintro e wc ⟨rfl, hlc⟩
      go_wp2_with fail
      have L := L.trans hlc
      refine (HRI.out A6 q c6 _ (hx.later (hin9.trans L)) (hall9.later L).rd (by omega)).mono ?_
      rintro e wd ⟨rfl, hld⟩
      go_wp2_with fail
      have L := L.trans hld
      refine (F1.out A9 c9 _ (HashAt.later ht9 L) (hown9.later L).rd).mono ?_
      rintro e we ⟨rfl, hle⟩
      go_wp2_with fail
      have L := L.trans hle
      refine (F2.out A9 c9 _ (HashAt.later ht9 L) ((hown9.later L).rd.take (by omega))).mono ?_
      rintro e wf ⟨rfl, hlf⟩
      have L := L.trans hlf
      rcases own_blk hown9 with ⟨_, h0⟩ | ⟨g9, rest, rfl, hbase, hblk, -⟩
      · omega
      have hblkf := hblk.later L
      have d0 := hblkf.cellD (q % 16) (u := W8 sj) (by rw [List.getElem?_append_left (by rw [List.length_map]; omega)]; exact w8_get hSj)
      have hgg : g ≠ g9 := fun e => hne9 g9 rfl e.symm
      go_wp2_with (first
        | (refine wpList_store_in rfl rfl _ _ _ rfl _ _ _ _ hblkf rfl ?hl rfl (by kernel_rfl) ?_; (case hl => rw [List.length_append, List.length_map, hS]; omega); intro v' w10 hv' hb10 ho10; simp [go_sem] at hv'; subst hv'
           rw [List.set_append_left _ _ (by rw [List.length_map]; omega), map_set8] at hb10)
        | (go_at_call 48; go_loud (refine (F3.out (some ⟨g9, 0, none⟩) c9 _ (HashAt.only (HashAt.later ht9 L) ho10 hgg) (rd_pre hb10 (by simp [hS]))).mono ?_; rintro e w11 ⟨rfl, hl11⟩))
        | (go_at_call 44; refine (HS.out _ (HashAt.later (HashAt.only (HashAt.later ht9 L) ho10 hgg) hl11)).mono ?_; rintro e w12 ⟨rfl, hl12⟩)
        | (go_at_call 45; refine (HRT.out A6 q c6 _ (hx.later ((((hin9.trans L).only ho10 (by have := hl.size; omega)).trans hl11).trans hl12)) (((OwnB.rd (own_only (hall9.later L) ho10 (fun b hb => by have := hlt6 b hb; omega))).later hl11).later hl12) (by omega)).mono ?_; rintro e w13 ⟨rfl, hl13⟩))
      go_ret
      exact ⟨by simp, ((((hin9.trans L).only ho10 (by have := hl.size; omega)).trans hl11).trans hl12).trans hl13⟩
end Go.Proofs.Ytmdbekdphkkmkaa
