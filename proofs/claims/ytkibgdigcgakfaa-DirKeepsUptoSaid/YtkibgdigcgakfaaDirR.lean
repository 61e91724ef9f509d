/-
  dir: stops, hops, routes: plain.
  dir: routes.
  shallotref09.Route.
  dir: Publics, Total.
-/
import Derived.Test.YtkibgdigcgakfaaDirX
import Derived.Test.YtkibgdigcgakfaaHops
namespace Go.Proofs.Ytkibgdigcgakfaa
open Go.RowKit
open Go.BigFrame

/-- A stop. -/
structure Stp where
  nm : ByteArray
  delay : Int
  flags : Int
def stp0 : Stp := ⟨.empty, 0, 0⟩
def SC (x : Stp) : List Value := [.string x.nm, .int .i64 x.delay, .int .i64 x.flags]
theorem SC_length (x : Stp) : (SC x).length = 3 := rfl
theorem SC_one (x : Stp) : ∀ u ∈ SC x, u.oneCell' = true := by
  intro u hu
  simp only [SC, List.mem_cons, List.not_mem_nil, or_false] at hu
  rcases hu with rfl | rfl | rfl <;> rfl
abbrev RdS : World → Option Addr → Nat → List Stp → Prop := RdF SC 3 stp0
/-! ### Routes -/
def badS (t : Stp) : Bool := decide (t.delay < 0) || decide (1000000 < t.delay) || decide (t.flags < 0) || decide (255 < t.flags)
def hopOf (xs : List Nod) (t : Stp) : Hp := ⟨(findBy (byName t.nm) xs).1, t.delay, t.flags⟩
def missN (xs : List Nod) (t : Stp) : Bool := (findBy (byName t.nm) xs).2 != 0
/-- The error of a route. -/
def routeE (xs : List Nod) (ts : List Stp) : Nat := if ts.any badS then 1 else if ts.length < 1 ∨ 5 < ts.length then 2 else if checkN xs ≠ 0 then checkN xs else if ts.any (missN xs) then 4 else 0
def routeL (xs : List Nod) (ts : List Stp) : List Hp := ts.map (hopOf xs)
theorem anyS_true {ts : List Stp} {p : Stp → Bool} {k : Nat} (hk : k < ts.length) (h : p (ts.getD k stp0) = true) : ts.any p = true := by
  rw [List.any_eq_true]
  refine ⟨_, List.getElem_mem hk, ?_⟩
  rwa [List.getD_eq_getElem?_getD, List.getElem?_eq_getElem hk] at h
theorem anyS_false {ts : List Stp} {p : Stp → Bool} (h : ∀ k, k < ts.length → p (ts.getD k stp0) = false) : ts.any p = false := by
  rw [List.any_eq_false]
  intro x hx
  obtain ⟨k, hk, rfl⟩ := List.getElem_of_mem hx
  have := h k hk
  rw [List.getD_eq_getElem?_getD, List.getElem?_eq_getElem hk] at this
  simpa using this
theorem route_arg {xs : List Nod} {ts : List Stp} {k : Nat} (hk : k < ts.length) (h : badS (ts.getD k stp0) = true) : routeE xs ts = 1 := by rw [routeE, if_pos (anyS_true hk h)]
theorem route_size {xs : List Nod} {ts : List Stp} (hb : ∀ k, k < ts.length → badS (ts.getD k stp0) = false) (h : ts.length < 1 ∨ 5 < ts.length) : routeE xs ts = 2 := by
  rw [routeE, if_neg (by rw [anyS_false hb]; decide), if_pos h]
theorem route_check {xs : List Nod} {ts : List Stp} (hb : ∀ k, k < ts.length → badS (ts.getD k stp0) = false) (h : ¬ (ts.length < 1 ∨ 5 < ts.length)) (hc : checkN xs ≠ 0) : routeE xs ts = checkN xs := by
  rw [routeE, if_neg (by rw [anyS_false hb]; decide), if_neg h, if_pos hc]
theorem route_name {xs : List Nod} {ts : List Stp} {k : Nat} (hb : ∀ k, k < ts.length → badS (ts.getD k stp0) = false) (h : ¬ (ts.length < 1 ∨ 5 < ts.length)) (hc : checkN xs = 0) (hk : k < ts.length) (hm : missN xs (ts.getD k stp0) = true) : routeE xs ts = 4 := by
  rw [routeE, if_neg (by rw [anyS_false hb]; decide), if_neg h, if_neg (fun f => f hc), if_pos (anyS_true hk hm)]
theorem route_ok {xs : List Nod} {ts : List Stp} (hb : ∀ k, k < ts.length → badS (ts.getD k stp0) = false) (h : ¬ (ts.length < 1 ∨ 5 < ts.length)) (hc : checkN xs = 0) (hm : ∀ k, k < ts.length → missN xs (ts.getD k stp0) = false) : routeE xs ts = 0 := by
  rw [routeE, if_neg (by rw [anyS_false hb]; decide), if_neg h, if_neg (fun f => f hc), if_neg (by rw [anyS_false hm]; decide)]
/-- Behind 'k' rounds. -/
def hopsAt (xs : List Nod) (ts : List Stp) (k : Nat) : List Hp := (ts.take k).map (hopOf xs) ++ List.replicate (ts.length - k) hp0
theorem hopsAt_zero (xs : List Nod) (ts : List Stp) : hopsAt xs ts 0 = List.replicate ts.length hp0 := by simp [hopsAt]
theorem hopsAt_all (xs : List Nod) (ts : List Stp) : hopsAt xs ts ts.length = routeL xs ts := by simp [hopsAt, routeL]
theorem hopsAt_length (xs : List Nod) (ts : List Stp) (k : Nat) (h : k ≤ ts.length) : (hopsAt xs ts k).length = ts.length := by simp [hopsAt]; omega
theorem hopsAt_step (xs : List Nod) (ts : List Stp) (k : Nat) (h : k < ts.length) : (hopsAt xs ts k).set k (hopOf xs (ts.getD k stp0)) = hopsAt xs ts (k + 1) := by
  have hl : ((ts.take k).map (hopOf xs)).length = k := by simp; omega
  rw [hopsAt, hopsAt, List.set_append_right _ _ (by omega), hl, Nat.sub_self, show ts.length - k = ts.length - (k + 1) + 1 by omega, List.replicate_succ, List.set_cons_zero, List.take_succ_eq_append_getElem h, List.map_append, List.append_assoc,
    List.getD_eq_getElem?_getD, List.getElem?_eq_getElem h]
  rfl
theorem hops_step (xs : List Nod) (ts : List Stp) (k : Nat) (h : k < ts.length) : spliced ((hopsAt xs ts k).flatMap HC) (k * 68) (HC (hopOf xs (ts.getD k stp0))) = (hopsAt xs ts (k + 1)).flatMap HC := by
  rw [← hopsAt_step xs ts k h]
  exact flatF_set HC_length hp0 (off := 0) _ k (by rw [hopsAt_length _ _ _ (by omega)]; exact h) (by rw [HC_length]; omega) (by rw [spliced_all _ _ (by rw [HC_length, HC_length])])
/-- In a checked directory a name stands once. -/
theorem names_once {xs : List Nod} (hc : checkN xs = 0) {i j : Nat} {s : ByteArray} (hi : i < xs.length) (hj : j < i) (h : byName s (xs.getD i nod0) = true) : byName s (xs.getD j nod0) = false := by
  cases e : byName s (xs.getD j nod0)
  · rfl
  · have hs : sameN (xs.getD i nod0) (xs.getD j nod0) = true := by
      rw [byName, beq_iff_eq] at h e
      rw [sameN, h, e]
      simp
    rw [checkN] at hc
    split at hc
    · omega
    · split at hc
      · omega
      · rw [if_pos (range_true hi (range_true hj hs))] at hc
        omega
theorem find_last {xs : List Nod} (hc : checkN xs = 0) {i : Nat} {s : ByteArray} (hi : i < xs.length) (h : byName s (xs.getD i nod0) = true) : findBy (byName s) xs = (xs.getD i nod0, 0) :=
  find_hit hi (fun _ hj => names_once hc hi hj h) h
end Go.Proofs.Ytkibgdigcgakfaa
namespace Go.Proofs.Ytkibgdigcgakfaa
open Go.RowKit
open Go.BigFrame

theorem size3s : (Try.prog.info? 46).map (·.size) = some 3 := by kernel_rfl
theorem infoH : (Try.prog.info? 60).map (fun i => (i.zero, i.size, i.bytes)) = some (some (.agg (HC hp0).toArray), 68, 104) := by kernel_rfl
theorem sizeH : (Try.prog.info? 60).map (·.size) = some 68 := by kernel_rfl
theorem zeroH : (Try.prog.info? 60).bind (·.zero) = some (.agg (HC hp0).toArray) := by kernel_rfl
section
variable {ops : Array Oper} {rest : List Oper} {o : Oper} {a : Act} {w : World} {Q : Exit → Act → World → Prop}
theorem load_stp (hgd : Region.wanted o (yielded ops a.tmps) = true) (x : Operand) (ho : o.op = .load 46 x) {g off : Nat} {y : Stp} (hc : ∀ i v, (SC y)[i]? = some v → w.cell? ⟨g, off + i, none⟩ = some v) (hx : a.eval x = .pointer (some ⟨g, off, none⟩))
    (h : wpList Try.prog ops Q rest (a.put o.dst (.agg (SC y).toArray)) w) : wpList Try.prog ops Q (o :: rest) a w :=
  wpList_load_at hgd _ x ho g off _ hc hx _ Try.underlying46 rfl size3s h
theorem store_stp (hgd : o.guard = none) (hd : o.dst = none) (x y : Operand) (ho : o.op = .store 46 x y) {g : Nat} {t : TypeId} {l : List Value} {z : Stp} (hg : Blk w g t l) (hx : a.eval x = .pointer (some ⟨g, 0, none⟩)) (hy : a.eval y = .agg (SC z).toArray) (hl : l.length = 3)
    (h : ∀ w', Blk w' g t (SC z) → Only g w w' → wpList Try.prog ops Q rest a w') : wpList Try.prog ops Q (o :: rest) a w :=
  wpList_store_blk hgd hd _ x y ho g t l _ hg hx hy 3 size3s rfl hl (SC_one _) h
end
theorem spliced_mid (p q r v : List Value) (k : Nat) (hk : p.length = k) (h : q.length = v.length) : spliced (p ++ q ++ r) k v = p ++ v ++ r := by
  subst hk
  rw [spliced, show p.length + v.length = (p ++ q).length by rw [List.length_append, h], List.drop_left' rfl, List.append_assoc p q r, List.take_left' rfl]
theorem HC_put (x : Nod) (d f : Int) : spliced (spliced (spliced (HC hp0) 0 (NC x)) 66 [.int .i64 d]) 67 [.int .i64 f] = HC ⟨x, d, f⟩ := by
  have h1 : spliced (HC hp0) 0 (NC x) = NC x ++ [.int .i64 0] ++ [.int .i64 0] := by
    have := spliced_mid [] (NC nod0) [.int .i64 0, .int .i64 0] (NC x) 0 rfl (by rw [NC_length, NC_length])
    rw [List.nil_append, List.nil_append] at this
    rw [List.append_assoc]
    exact this
  have h2 := spliced_mid (NC x) [.int .i64 0] [.int .i64 0] [.int .i64 d] 66 (NC_length x) rfl
  have h3 := spliced_mid (NC x ++ [.int .i64 d]) [.int .i64 0] [] [.int .i64 f] 67 (by rw [List.length_append, NC_length]; rfl) rfl
  rw [List.append_nil, List.append_nil] at h3
  rw [h1, h2, h3, HC, List.append_assoc]
  rfl
theorem built_hop (x : Nod) (d f : Int) : Try.prog.built 60 [(0, .agg (NC x).toArray), (1, .int .i64 d), (2, .int .i64 f)] = some (HC ⟨x, d, f⟩).toArray := by
  rw [built_struct (pl := [(0, 66), (66, 1), (67, 1)]) Try.underlying60 zeroH (by kernel_rfl), fill_cons (vs := NC x) (off := 0) rfl (by rw [NC_length]; rfl) (by rw [NC_length, HC_length]; omega),
    fill_cons (vs := [.int .i64 d]) (off := 66) rfl rfl (by rw [spliced_length _ _ _ (by rw [NC_length, HC_length]; omega), HC_length]; simp), fill_cons (vs := [.int .i64 f]) (off := 67) rfl rfl (by rw [spliced_length _ _ _ (by rw [spliced_length _ _ _ (by rw [NC_length, HC_length]; omega), HC_length]; simp), spliced_length _ _ _ (by rw [NC_length, HC_length]; omega), HC_length]; simp), fill_nil, HC_put]
theorem badS_iff (t : Stp) : badS t = true ↔ (t.delay < 0 ∨ 1000000 < t.delay ∨ t.flags < 0 ∨ 255 < t.flags) := by
  rw [badS]
  simp only [Bool.or_eq_true, decide_eq_true_eq, or_assoc]
theorem badS_no {t : Stp} (h : ¬ (t.delay < 0 ∨ 1000000 < t.delay ∨ t.flags < 0 ∨ 255 < t.flags)) : badS t = false := by
  cases e : badS t
  · rfl
  · exact absurd ((badS_iff t).1 e) h
theorem find_err (p : Nod → Bool) (xs : List Nod) : (findBy p xs).2 = 0 ∨ (findBy p xs).2 = 4 := by
  unfold findBy
  split
  · exact .inl rfl
  · exact .inr rfl
theorem belowS {p : Nat → Prop} {k : Nat} (h : ∀ j, j < k → p j) (hk : p k) : ∀ j, j < k + 1 → p j := below_succ h hk
set_option maxRecDepth 100000 in
set_option maxHeartbeats 4000000 in
theorem droute_any (A B : Option Addr) (n c m d : Nat) (xs : List Nod) (ts : List Stp) (w : World) (hx : RdN w A n xs) (hn : n ≤ 1099511627776) (hs : ∀ x ∈ xs, x.nm.size ≤ 140737488355328) (ht : RdS w B m ts) (hm : m ≤ 1099511627776) :
    Calls Try.prog 19 #[.slice A n c, .slice B m d] w fun e w' => ∃ v, e = .returned (.tuple #[v, .int .i64 (routeE xs ts : Nat)]) ∧ (routeE xs ts ≠ 0 → v = .slice none 0 0) ∧ (routeE xs ts = 0 → ∃ g, v = .slice (some ⟨g, 0, none⟩) m m ∧ w.heap.size ≤ g ∧ Blk w' g 60 ((routeL xs ts).flatMap HC)) ∧ Later w w' := by
  have hml := ht.1
  go_enter Try.func19, Try.ntmps19
  go_wp2
  go_loopw [16] (fun i wr => ∃ k : Nat, i = .int .i64 k ∧ k ≤ m ∧ Hid (∀ j, j < k → badS (ts.getD j stp0) = false) ∧ Later w wr) (fun i _ => m - (intOf i).toNat)
  case atStart => exact ⟨0, rfl, by omega, hid (fun j hj => absurd hj (by omega)), Later.refl w⟩
  case round =>
    obtain ⟨k, rfl, hk, hp, L⟩ := hrel
    by_cases hlt : k < m
    · obtain ⟨b, o, rfl, hb, hc⟩ := (ht.later L).at_ hlt
      have hbad := hid (fun h : badS (ts.getD k stp0) = true => route_arg (xs := xs) (by omega) h)
      have hgood := hid (fun h : badS (ts.getD k stp0) = false => belowS (p := fun j => badS (ts.getD j stp0) = false) hp.out h)
      generalize ts.getD k stp0 = t at *
      go_wp2_with (first
        | (refine load_stp rfl _ rfl hc rfl ?_)
        | (refine store_stp rfl rfl _ _ rfl (Blk.new wr _ (SC stp0)) rfl rfl (SC_length _) ?_; intro w2 hb2 ho2; have d1 := hb2.cellD 1 (u := .int .i64 t.delay) rfl; have d2 := hb2.cellD 2 (u := .int .i64 t.flags) rfl; have L2 := (L.trans (later_alloc wr _)).only ho2 L.size)
        | fail)
      all_goals
        try simp only [Bool.not_eq_true', Bool.not_eq_false', decide_eq_true_eq, decide_eq_false_iff_not] at *
        first
          | exact ⟨⟨k + 1, rfl, by omega, hid (hgood.out (badS_no (by omega))), L2⟩, by simp [intOf]; omega⟩
          | (go_ret2; exact ⟨.slice none 0 0, by rw [hbad.out ((badS_iff t).2 (by omega))]; rfl, fun _ => rfl, fun h => absurd (h.symm.trans (hbad.out ((badS_iff t).2 (by omega)))) (by decide), L2⟩)
    · obtain rfl : k = m := by omega
      have hall := hid (show ∀ j, j < ts.length → badS (ts.getD j stp0) = false by rw [hml]; exact hp.out)
      clear hp
      by_cases h5 : k < 1 ∨ 5 < k
      · have hE := hid (route_size (xs := xs) hall.out (by omega))
        have hdec : (decide ((k : Int) < 1) || decide (5 < (k : Int))) = true := by simp; omega
        go_wp2
        all_goals
          go_ret2
          exact ⟨.slice none 0 0, by rw [hE.out]; rfl, fun _ => rfl, fun h => absurd (h.symm.trans hE.out) (by decide), L⟩
      · have hC := hid (dcheck_any A n c xs wr (hx.later L) hn hs)
        go_wp2_with fail
        refine (hC.out).mono ?_
        rintro e w2 ⟨rfl, l2⟩
        replace L := L.trans l2
        clear l2
        by_cases hc0 : checkN xs = 0
        · have hcc := hid hc0
          rw [hc0]
          clear hc0
          go_wp2_with (first
            | (refine wpList_make_f HC_length (by omega) hp0 rfl _ _ _ rfl 60 104 Try.underlying42 infoH _ _ _ _ k rfl rfl rfl rfl (by omega) (by omega) ?_; intro w3 hb3 hl3)
            | fail)
          rw [← hml, ← hopsAt_zero xs] at hb3
          have hgl : w.heap.size ≤ w2.heap.size := L.size
          replace L := L.trans hl3
          clear hl3
          generalize w2.heap.size = g at *
          go_loopw [57] (fun i wr => ∃ j : Nat, i = .int .i64 j ∧ j ≤ k ∧ Hid (∀ i, i < j → missN xs (ts.getD i stp0) = false) ∧ Blk wr g 60 ((hopsAt xs ts j).flatMap HC) ∧ Later w wr) (fun i _ => k - (intOf i).toNat)
          case atStart => exact ⟨0, rfl, by omega, hid (fun j hj => absurd hj (by omega)), hb3, L⟩
          case round =>
            clear hb3 L
            obtain ⟨j, rfl, hj, hmm, hN, L⟩ := hrel
            by_cases hlt : j < k
            · obtain ⟨b, o, rfl, hb, hc⟩ := (ht.later L).at_ hlt
              have hmiss := hid (fun h : missN xs (ts.getD j stp0) = true => route_name (xs := xs) (ts := ts) hall.out (by omega) hcc.out (by omega) h)
              have hgood := hid (fun h : missN xs (ts.getD j stp0) = false => belowS (p := fun j => missN xs (ts.getD j stp0) = false) hmm.out h)
              have hst := hid (hops_step xs ts j (by omega))
              have hfl : ((hopsAt xs ts j).flatMap HC).length = k * 68 := by rw [flatF_length HC_length, hopsAt_length _ _ _ (by omega), hml]
              generalize ts.getD j stp0 = t at *
              have hNm := hid (fun w h => dnamed_any A n c xs t.nm w h hn)
              have hMi := hid (show missN xs t = ((findBy (byName t.nm) xs).2 != 0) from rfl)
              have hHo := hid (show hopOf xs t = ⟨(findBy (byName t.nm) xs).1, t.delay, t.flags⟩ from rfl)
              have hfour := hid (find_err (byName t.nm) xs)
              generalize findBy (byName t.nm) xs = R at *
              obtain ⟨y, E⟩ := R
              simp only at hNm hMi hHo hfour
              generalize (hopsAt xs ts j).flatMap HC = l at *
              go_wp2_with (first
                | (refine load_stp rfl _ rfl hc rfl ?_)
                | (refine store_stp rfl rfl _ _ rfl (Blk.new wr _ (SC stp0)) rfl rfl (SC_length _) ?_; intro w4 hb4 ho4; have d0 := hb4.cellD 0 (u := .string t.nm) rfl; have L4 := (L.trans (later_alloc wr _)).only ho4 L.size)
                | fail)
              have hN4 := (hN.later (later_alloc wr _)).only ho4 (by have := hN.lt; omega)
              refine (hNm.out _ (hx.later L4)).mono ?_
              rintro e w5 ⟨rfl, l5⟩
              replace hb4 := hb4.later l5
              replace hN4 := hN4.later l5
              replace L4 := L4.trans l5
              clear d0
              by_cases hE0 : E = 0
              · subst hE0
                have hgood' := hid (hgood.out (by rw [hMi.out]; rfl))
                have hz : ((0 : Nat) : Int) = 0 := rfl
                rw [hz]
                have hlt4 := hb4.lt
                have hltN := hN4.lt
                go_wp2_with (first
                  | (refine store_nod size66d rfl rfl _ _ rfl (Blk.new w5 _ (NC nod0)) rfl rfl (NC_length _) ?_; intro w6 hb6 ho6
                     have hb46 := (hb4.later (later_alloc w5 (.cells (NC nod0).toArray 52))).only ho6 (by omega)
                     have hN6 := (hN4.later (later_alloc w5 (.cells (NC nod0).toArray 52))).only ho6 (by omega)
                     have d1 := hb46.cellD 1 (u := .int .i64 t.delay) rfl
                     have d2 := hb46.cellD 2 (u := .int .i64 t.flags) rfl)
                  | (refine load_dnode rfl _ rfl (blk_cells hb6) rfl ?_)
                  | (refine wpList_build_w rfl _ _ rfl (HC ⟨y, t.delay, t.flags⟩) (by simp only [List.map_toArray, List.map_cons, List.map_nil]; exact built_hop _ _ _) ?_)
                  | (refine wpList_store_agg rfl rfl 60 _ _ rfl g (j * 68) 60 l (HC ⟨y, t.delay, t.flags⟩) hN6 rfl rfl (by rw [HC_length]; exact sizeH) ?hf (HC_one _) ?_; (case hf => rw [hfl, HC_length]; omega); intro w7 hb7 ho7; rw [← hHo.out, hst.out] at hb7)
                  | fail)
                exact ⟨⟨j + 1, rfl, by omega, hgood', hb7, ((L4.trans (later_alloc _ _)).only ho6 L4.size).only ho7 hgl⟩, by simp [intOf]; omega⟩
              · have hne : ((E : Int) != 0) = true := by simpa using hE0
                have hE4 := hid (hmiss.out (by rw [hMi.out]; simpa using hE0))
                have h4 : E = 4 := hfour.out.resolve_left hE0
                subst h4
                go_wp2_with (first
                  | (refine store_nod size66d rfl rfl _ _ rfl (Blk.new w5 _ (NC nod0)) rfl rfl (NC_length _) ?_; intro w6 hb6 ho6)
                  | fail)
                go_ret2
                exact ⟨.slice none 0 0, by rw [hE4.out]; rfl, fun _ => rfl, fun h => absurd (h.symm.trans hE4.out) (by decide), (L4.trans (later_alloc _ _)).only ho6 L4.size⟩
            · obtain rfl : j = k := by omega
              have hE := hid (route_ok (xs := xs) (ts := ts) hall.out (by omega) hcc.out (by rw [hml]; exact hmm.out))
              rw [← hml, hopsAt_all] at hN
              go_wp2
              go_ret2
              exact ⟨.slice (some ⟨g, 0, none⟩) j j, by rw [hE.out]; rfl, fun h => absurd hE.out h, fun _ => ⟨g, rfl, hgl, hN⟩, L⟩
        · have hE := hid (route_check (xs := xs) (ts := ts) hall.out (by omega) hc0)
          have hne : ((checkN xs : Int) != 0) = true := by simpa using hc0
          have hcc := hid hc0
          clear hc0
          go_wp2
          go_ret2
          exact ⟨.slice none 0 0, by rw [hE.out]; rfl, fun _ => rfl, fun h => absurd (hE.out.symm.trans h) hcc.out, L⟩
end Go.Proofs.Ytkibgdigcgakfaa
namespace Go.Proofs.Ytkibgdigcgakfaa
open Go.RowKit
open Go.BigFrame

end Go.Proofs.Ytkibgdigcgakfaa
namespace Go.Proofs.Ytkibgdigcgakfaa
open Go.RowKit
open Go.BigFrame

/-- 32 bytes in a block. -/
def S32 (b : Nat) : Value := .slice (some ⟨b, 0, none⟩) 32 32
theorem pubs_set (gs : List Nat) (k b : Nat) (hg : gs.length = k) (n : Nat) (hk : k < n) (z : Value) : (gs.map S32 ++ List.replicate (n - k) z).set k (S32 b) = (gs ++ [b]).map S32 ++ List.replicate (n - (k + 1)) z := by
  have hl : (gs.map S32).length = k := by rw [List.length_map, hg]
  rw [List.set_append_right _ _ (by omega), hl, Nat.sub_self, show n - k = n - (k + 1) + 1 by omega, List.replicate_succ, List.set_cons_zero, List.map_append, List.append_assoc]
  rfl
set_option maxRecDepth 100000 in
set_option maxHeartbeats 2000000 in
theorem dpublics_any (A : Option Addr) (n c : Nat) (xs : List Hp) (w : World) (hx : RdH w A n xs) (hn : n ≤ 1099511627776) :
    Calls Try.prog 24 #[.slice A n c] w fun e w' => ∃ (g : Nat) (gs : List Nat), e = .returned (.slice (some ⟨g, 0, none⟩) n n) ∧ w.heap.size ≤ g ∧ Blk w' g 31 (gs.map S32) ∧ gs.length = n ∧ (∀ (j b : Nat), gs[j]? = some b → g < b ∧ Blk w' b 5 ((xs.getD j hp0).nod.pub.val.map W8)) ∧ gs.Pairwise (· < ·) ∧ Later w w' := by
  have hxl := hx.1
  go_enter Try.func24, Try.ntmps24
  go_wp2_with (first
    | (refine wpList_make_n rfl _ _ 57 rfl 31 (.slice none 0 0) 24 Try.underlying57 infoB rfl _ _ _ _ n rfl rfl rfl rfl (by omega) (by omega) ?_; intro w1 hb1 hl1)
    | fail)
  have hgl : w.heap.size ≤ w.heap.size := Nat.le_refl _
  generalize hge : w.heap.size = g at hb1 ⊢
  replace hgl : w.heap.size ≤ g := Nat.le_of_eq hge
  clear hge
  go_loopw [10] (fun i wr => ∃ (k : Nat) (gs : List Nat), i = .int .i64 k ∧ k ≤ n ∧ gs.length = k ∧ Blk wr g 31 (gs.map S32 ++ List.replicate (n - k) (.slice none 0 0)) ∧ Hid (∀ (j b : Nat), gs[j]? = some b → g < b ∧ b < wr.heap.size ∧ Blk wr b 5 ((xs.getD j hp0).nod.pub.val.map W8)) ∧ Hid (gs.Pairwise (· < ·)) ∧ Later w wr) (fun i _ => n - (intOf i).toNat)
  case atStart => exact ⟨0, [], rfl, by omega, rfl, hb1, hid (fun j b h => by simp at h), hid List.Pairwise.nil, hl1⟩
  case round =>
    clear hb1 hl1
    obtain ⟨k, gs, rfl, hk, hgs, hb, hall, hpw, L⟩ := hrel
    by_cases hlt : k < n
    · obtain ⟨b, o, rfl, hbb, hc⟩ := (hx.later L).at_ hlt
      have hcn : ∀ i v, (NC (xs.getD k hp0).nod)[i]? = some v → wr.cell? ⟨b, o + k * 68 + i, none⟩ = some v := fun i v hv => hc i v (HC_nod _ hv)
      have hlast := hid (show ∀ b' : Nat, (gs ++ [b'])[k]? = some b' from fun b' => by rw [List.getElem?_append_right (by omega), hgs, Nat.sub_self]; rfl)
      generalize hz : xs.getD k hp0 = z at hcn
      have hzz := hid hz
      clear hz hc
      have hgw : g < wr.heap.size := hb.lt
      go_wp2_with (first
        | (refine load_dnode rfl _ rfl hcn rfl ?_)
        | fail)
      (with_reducible refine (nodePublic_any z.nod _).mono ?_); rintro e w2 ⟨g2, rfl, hg2, hp2, l2⟩
      replace hb := hb.later l2
      have hlen : (gs.map S32 ++ List.replicate (n - k) (Value.slice none 0 0)).length = n := by simp; omega
      go_wp2_with (first
        | (refine wpList_store_in rfl rfl _ _ _ rfl g k _ _ hb rfl ?hl rfl (by kernel_rfl) ?_; (case hl => rw [hlen]; exact hlt); intro v w3 hv hb3 ho3; have hv' : v = S32 g2 := hv.symm; subst hv'; rw [pubs_set gs k g2 hgs n hlt] at hb3)
        | fail)
      refine ⟨⟨k + 1, gs ++ [g2], rfl, by omega, by rw [List.length_append, hgs]; rfl, hb3, ?_, ?_, (L.trans l2).only ho3 hgl⟩, by simp [intOf]; omega⟩
      · refine hid fun j b' h => ?_
        rcases Nat.lt_or_ge j k with hj | hj
        · rw [List.getElem?_append_left (by omega)] at h
          obtain ⟨h1, h2, h3⟩ := hall.out j b' h
          have h4 := (h3.later l2).only ho3 (by omega)
          exact ⟨h1, h4.lt, h4⟩
        · have hjk : j = k := by
            have := (List.getElem?_eq_some_iff.1 h).1
            rw [List.length_append, hgs] at this
            simp at this
            omega
          subst hjk
          rw [hlast.out g2] at h
          obtain rfl : g2 = b' := by simpa using h
          have h4 := hp2.only ho3 (by omega)
          rw [hzz.out]
          exact ⟨by omega, h4.lt, h4⟩
      · refine hid (List.pairwise_append.2 ⟨hpw.out, List.pairwise_singleton _ _, fun a ha b' hb' => ?_⟩)
        obtain rfl : b' = g2 := by simpa using hb'
        obtain ⟨j, hj⟩ := List.getElem?_of_mem ha
        have := (hall.out j a hj).2.1
        omega
    · obtain rfl : k = n := by omega
      rw [Nat.sub_self, List.replicate_zero, List.append_nil] at hb
      go_wp2
      go_ret
      exact ⟨g, gs, rfl, hgl, hb, hgs, fun j b h => ⟨(hall.out j b h).1, (hall.out j b h).2.2⟩, hpw.out, L⟩
end Go.Proofs.Ytkibgdigcgakfaa
