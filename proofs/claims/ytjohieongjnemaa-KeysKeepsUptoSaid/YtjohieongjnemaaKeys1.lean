/-
  keys.Of, and the document's.
-/
import Derived.Test.YtjohieongjnemaaByteStr
import Derived.Test.YtjohieongjnemaaMacB
import Derived.Test.YtjohieongjnemaaCMult
import Derived.Test.YtjohieongjnemaaBag
namespace Go.Proofs.Ytjohieongjnemaa
open Go.RowKit
open Go.BigFrame

abbrev sMac : ByteArray := ⟨#[109, 97, 99]⟩
abbrev sStream : ByteArray := ⟨#[115, 116, 114, 101, 97, 109]⟩
abbrev sPay : ByteArray := ⟨#[112, 97, 121]⟩
abbrev sBlind : ByteArray := ⟨#[98, 108, 105, 110, 100]⟩
/-- The four keys of a secret, one behind the other. -/
def k4 (s : List UInt8) : List UInt8 := derB s sMac ++ (derB s sStream ++ (derB s sPay ++ derB s sBlind))
theorem k4_length (s : List UInt8) : (k4 s).length = 128 := by simp [k4, derB_length]
theorem k4_keys (s : List UInt8) : keysAt s [sMac, sStream, sPay, sBlind] 4 = k4 s := by
  rw [keysAt, k4]
  simp
def ofB (s : List UInt8) : List UInt8 := if s.length = 32 then k4 s else List.replicate 128 0
def ofE (s : List UInt8) : Nat := if s.length = 32 then 0 else 2
theorem ofB_length (s : List UInt8) : (ofB s).length = 128 := by
  unfold ofB
  split
  · exact k4_length s
  · simp
theorem size128 : (Try.prog.info? 49).map (·.size) = some 128 := by kernel_rfl
theorem zero128 : (Try.prog.info? 49).bind (·.zero) = some (.agg (List.replicate 128 (W8 0)).toArray) := by kernel_rfl
theorem built_keys (p q r s : List UInt8) (hp : p.length = 32) (hq : q.length = 32) (hr : r.length = 32) (hs : s.length = 32) :
    Program.built Try.prog 49 [(0, .agg (p.map W8).toArray), (1, .agg (q.map W8).toArray), (2, .agg (r.map W8).toArray), (3, .agg (s.map W8).toArray)] = some ((p ++ (q ++ (r ++ s))).map W8).toArray := by
  have h := built_bytes (n := 128) (pl := [(0, 32), (32, 32), (64, 32), (96, 32)]) Try.underlying49 zero128 (by kernel_rfl) [(0, 0, p), (1, 32, q), (2, 64, r), (3, 96, s)] (by
    intro x hx
    simp only [List.mem_cons, List.not_mem_nil, or_false] at hx
    rcases hx with rfl | rfl | rfl | rfl <;> simp [hp, hq, hr, hs])
  rw [show putAll (List.replicate 128 0) ([(0, 0, p), (1, 32, q), (2, 64, r), (3, 96, s)].map fun x => (x.2.1, x.2.2)) = p ++ (q ++ (r ++ s)) by
    simp only [List.map_cons, List.map_nil, putAll]
    rw [show List.replicate 128 (0 : UInt8) = List.replicate 32 0 ++ (List.replicate 32 0 ++ (List.replicate 32 0 ++ List.replicate 32 0)) by simp]
    rw [putB_first _ _ _ (by simp [hp]), putB_here _ _ _ _ 32 hp (by simp [hq])]
    rw [← List.append_assoc p q, putB_here _ _ _ _ 64 (by simp [hp, hq]) (by simp [hr]), ← List.append_assoc _ r, putB_last _ _ _ 96 (by simp [hp, hq, hr]) (by simp [hs])]
    simp] at h
  exact h
theorem built_keys0 : Program.built Try.prog 49 [] = some ((List.replicate 128 (0 : UInt8)).map W8).toArray := by
  rw [List.map_replicate]
  kernel_rfl
theorem built_keys2 (p q : List UInt8) (hp : p.length = 32) (hq : q.length = 32) :
    Program.built Try.prog 49 [(0, .agg (p.map W8).toArray), (1, .agg (q.map W8).toArray)] = some ((p ++ (q ++ (List.replicate 32 0 ++ List.replicate 32 0))).map W8).toArray := by
  have h := built_bytes (n := 128) (pl := [(0, 32), (32, 32), (64, 32), (96, 32)]) Try.underlying49 zero128 (by kernel_rfl) [(0, 0, p), (1, 32, q)] (by
    intro x hx
    simp only [List.mem_cons, List.not_mem_nil, or_false] at hx
    rcases hx with rfl | rfl <;> simp [hp, hq])
  rw [show putAll (List.replicate 128 0) ([(0, 0, p), (1, 32, q)].map fun x => (x.2.1, x.2.2)) = p ++ (q ++ (List.replicate 32 0 ++ List.replicate 32 0)) by
    simp only [List.map_cons, List.map_nil, putAll]
    rw [show List.replicate 128 (0 : UInt8) = List.replicate 32 0 ++ (List.replicate 32 0 ++ (List.replicate 32 0 ++ List.replicate 32 0)) by simp]
    rw [putB_first _ _ _ (by simp [hp]), putB_here _ _ _ _ 32 hp (by simp [hq])]] at h
  exact h
section
variable {ops : Array Oper} {rest : List Oper} {o : Oper} {a : Act} {w : World} {Q : Exit → Act → World → Prop}
theorem store_K (hgd : o.guard = none) (hd : o.dst = none) (x y : Operand) (ho : o.op = .store 49 x y) {g : Nat} {t : TypeId} {l : List Value} {bs : List UInt8} (hg : Blk w g t l) (hx : a.eval x = .pointer (some ⟨g, 0, none⟩)) (hy : a.eval y = .agg (bs.map W8).toArray) (hbl : bs.length = 128) (hl : l.length = 128)
    (h : ∀ w', Blk w' g t (bs.map W8) → Only g w w' → wpList Try.prog ops Q rest a w') : wpList Try.prog ops Q (o :: rest) a w :=
  store_Z 128 hgd hd x y ho hg hx hy size128 hbl hl h
theorem load_K (hw : Region.wanted o (yielded ops a.tmps) = true) (x : Operand) (ho : o.op = .load 49 x) {g : Nat} {t : TypeId} {bs : List UInt8} (hb : Blk w g t (bs.map W8)) (hl : bs.length = 128) (hx : a.eval x = .pointer (some ⟨g, 0, none⟩))
    (h : wpList Try.prog ops Q rest (a.put o.dst (.agg (bs.map W8).toArray)) w) : wpList Try.prog ops Q (o :: rest) a w :=
  wpList_load_blk hw _ x ho g t _ hb hx _ Try.underlying49 rfl 128 size128 (by rw [List.length_map, hl]) h
end
set_option maxRecDepth 100000 in
set_option maxHeartbeats 4000000 in
theorem of_keys (A : Option Addr) (n c : Nat) (s : List UInt8) (w : World) (hx : RdB w A n s) (hc : n ≤ c) (hn : n ≤ 35184372088832) :
    Calls Try.prog 33 #[.slice A n c] w fun e w' => e = .returned (.tuple #[.agg ((ofB s).map W8).toArray, .int .i64 (ofE s : Nat)]) ∧ Later w w' := by
  have hl := hx.len
  have B0 := bag_new w 49 Try.zeroCells49.toList
  have hz0 : Try.zeroCells49.toList.length = 128 := by kernel_rfl
  by_cases h32 : n = 32
  · subst h32
    have e1 : ofE s = 0 := by rw [ofE, if_pos hl]
    have e2 : ofB s = k4 s := by rw [ofB, if_pos hl]
    rw [e1, e2]
    clear e1 e2
    have hD := hid (fun (w : World) B d h1 h2 => derive_any A B 32 c 4 d s [sMac, sStream, sPay, sBlind] w h1 hc hn h2 (by omega) (by omega) (by intro x hx; simp only [List.mem_cons, List.not_mem_nil, or_false] at hx; rcases hx with rfl | rfl | rfl | rfl <;> decide))
    rw [k4_keys] at hD
    rw [k4] at *
    have hp := derB_length s sMac
    have hq := derB_length s sStream
    have hr := derB_length s sPay
    have ht := derB_length s sBlind
    generalize derB s sMac = p at *
    generalize derB s sStream = q at *
    generalize derB s sPay = r at *
    generalize derB s sBlind = t at *
    have hbk := built_keys p q r t hp hq hr ht
    obtain ⟨K, hK⟩ : ∃ K, K = p ++ (q ++ (r ++ t)) := ⟨_, rfl⟩
    rw [← hK] at hD hbk ⊢
    have s0 : subB K 0 32 = p := by rw [hK, subB_first _ _ _ hp]
    have s1 : subB K 32 32 = q := by rw [hK, subB_here _ _ _ _ _ hp hq]
    have s2 : subB K 64 32 = r := by rw [hK, ← List.append_assoc, subB_here _ _ _ _ _ (by simp [hp, hq]) hr]
    have s3 : subB K 96 32 = t := by rw [hK, ← List.append_assoc, ← List.append_assoc, subB_last _ _ _ _ (by simp [hp, hq, hr]) ht]
    have hKl : K.length = 128 := by rw [hK]; simp [hp, hq, hr, ht]
    clear hK
    go_enter Try.func33, Try.ntmps33
    go_wp2_with fail
    generalize hW : (w.alloc _).alloc _ = w1
    have B1 : Bag w w1 [(w.heap.size, 49, Try.zeroCells49.toList)] := by rw [← hW]; exact B0.later (later_alloc _ _)
    have hS : Strs w1 (some ⟨w.heap.size + 1, 0, none⟩) 4 [sMac, sStream, sPay, sBlind] := by
      rw [← hW]
      exact Blk.rd (Blk.new' (w.alloc (.cells Try.zeroCells49 49)) 9 [Value.string sMac, Value.string sStream, Value.string sPay, Value.string sBlind] (by simp)) rfl
    clear hW
    (with_reducible refine (hD.out _ _ 4 (hx.later B1.lat) hS).mono ?_); rintro e w2 ⟨g, rfl, hg, hb2, j2⟩
    have B2 := (B1.later j2).add (later_drew _) (k := g) (by have := (B1.nth 0 rfl).lt; simp; omega) (by have := B1.lat.size; omega) hb2.drew
    clear hS hb2 hg B0 j2 B1
    go_wp2_with fail
    refine wp_region_parts [] [0, 1, 2, 3, 4, 5, 6, 7, 8, 9, 10, 11, 12] [13, 14] (by as_aux_lemma => kernel_rfl) (by as_aux_lemma => kernel_rfl) (by intro _ _ d _ _ h; cases d <;> exact h) ?_
    simp only [wpParts, pick, List.getElem?_cons_succ, List.getElem?_cons_zero, Option.toList_some, List.cons_append, List.nil_append]
    repeat (first | go_big_quiet_skip | (go_big_quiet_want; (first | refine quiet_Y 0 32 _ rfl (B2.nth 0 rfl) rfl Try.underlying47 rfl size32c s0 hp ?_ | refine quiet_Y 32 32 _ rfl (B2.nth 0 rfl) rfl Try.underlying47 rfl size32c s1 hq ?_ | refine quiet_Y 64 32 _ rfl (B2.nth 0 rfl) rfl Try.underlying47 rfl size32c s2 hr ?_ | refine quiet_Y 96 32 _ rfl (B2.nth 0 rfl) rfl Try.underlying47 rfl size32c s3 ht ?_ | refine quiet_build _ _ rfl (K.map W8) (by simp only [List.map_toArray, List.map_cons, List.map_nil]; exact hbk) ?_); simp only [Act.put, List.setIfInBounds_toArray, List.set_cons_succ, List.set_cons_zero]; go_big_quiet_on) | (go_big_quiet_step (fail)))
    refine wpQuiet_nil ?_
    go_wp2_with (first
      | (refine store_K rfl rfl _ _ rfl (B2.nth 1 rfl) rfl rfl hKl hz0 ?_; intro w9 hb9 ho9)
      | fail)
    exact bodyPost_ret (results_blk_tmp rfl _ _ _ _ _ _ hb9 rfl Try.underlying49 rfl (by rw [List.length_map, hKl]; exact size128)) rfl ⟨rfl, (B2.write 1 rfl ho9 hb9).lat⟩
  · have e1 : ofE s = 2 := by rw [ofE, if_neg (by omega)]
    have e2 : ofB s = List.replicate 128 0 := by rw [ofB, if_neg (by omega)]
    rw [e1, e2]
    clear e1 e2
    have hb0 := built_keys0
    have hzl : (List.replicate 128 (0 : UInt8)).length = 128 := by simp
    generalize List.replicate 128 (0 : UInt8) = Z at *
    have hne : ((n : Int) != 32) = true := by simp; omega
    go_enter Try.func33, Try.ntmps33
    go_wp2_with (first
      | (refine wpList_build_is rfl 49 _ rfl (Z.map W8) ?hb ?_; (case hb => simp only [List.map_toArray, List.map_nil]; exact hb0))
      | (refine store_K rfl rfl _ _ rfl (B0.nth 0 rfl) rfl rfl hzl hz0 ?_; intro w9 hb9 ho9)
      | fail)
    exact bodyPost_ret (results_blk_tmp rfl _ _ _ _ _ _ hb9 rfl Try.underlying49 rfl (by rw [List.length_map, hzl]; exact size128)) rfl ⟨rfl, (later_alloc _ _).only ho9 (Nat.le_refl _)⟩
end Go.Proofs.Ytjohieongjnemaa
