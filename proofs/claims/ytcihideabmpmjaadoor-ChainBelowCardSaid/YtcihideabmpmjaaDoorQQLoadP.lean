/- Package match: the calls, over any table (all but climbs). -/
import Derived.Test.YtcihideabmpmjaaDoorQMaPlainP
import Derived.Test.YtcihideabmpmjaaDoorQRoNoneP
import Derived.Test.YtcihideabmpmjaaDoorQKdRowsP
import Derived.BigQuiet
import Derived.Deep.MidRow
namespace Go.Proofs.YtcihideabmpmjaaDoor
open Go.RowKit

/-- A table: its memory, its groups, all closed. -/
structure TabK (S R : Nat → Prop) (w : World) (t : Nat) (gs : List (List Sb)) : Prop where
  tab : TabAt S R w t gs
  ok : TabOk gs
  c : TabC gs
section
variable {S R : Nat → Prop} {w : World} {t : Nat} {gs : List (List Sb)}
theorem TabK.below {w' : World} (h : TabK S R w t gs) (hb : Below w.heap.size w w') : TabK S R w' t gs := ⟨h.tab.below hb, h.ok, h.c⟩
theorem TabK.ext (h : TabK S R w t gs) (x : Ext w) : TabK S R x.val t gs := h.below x.2
set_option maxRecDepth 100000 in
theorem get_out (ht : TabAt S R w t gs) (hok : total gs ≤ 10000) (id : Int) (hid : ¬ (0 ≤ id ∧ id < total gs)) : Calls Tryd.prog 13 #[.pointer (some ⟨t, 0, none⟩), .int .i64 id] w fun e w' => e = .returned (.tuple #[.agg #[.bool false, .slice none 0 0, .int .i64 0, .slice none 0 0, .slice none 0 0, .slice none 0 0], .int .i64 4]) ∧ Below w.heap.size w w' := by
  have hb : Below w.heap.size w (w.alloc (.cells #[.bool false, .slice none 0 0, .int .i64 0, .slice none 0 0, .slice none 0 0, .slice none 0 0] 41)) := (Below.refl _ _).alloc (Nat.le_refl _) _
  have C := Lib.hid (made_any (ht.below hb))
  have C2 := has_any (ht.below hb) id hok
  rw [show (decide (0 ≤ id) && decide (id < total gs)) = false by rw [Bool.eq_false_iff]; simpa using hid] at C2
  have HC2 := Lib.hid C2
  clear ht hok hid C2
  go_enter Tryd.func13, Tryd.ntmps13
  go_wp2_with fail
  refine C.out.mono ?_
  rintro e w1 ⟨rfl, rfl⟩
  go_wp2_with fail
  refine HC2.out.mono ?_
  rintro e w1 ⟨rfl, rfl⟩
  go_wp2
  refine bodyPost_ret (v := .tuple #[.agg #[.bool false, .slice none 0 0, .int .i64 0, .slice none 0 0, .slice none 0 0, .slice none 0 0], .int .i64 4]) (by simp [results, Tryd.results13, go_sem]) rfl ⟨rfl, ?_⟩
  exact (Below.refl _ _).alloc (Nat.le_refl _) _
/-- Get, of a number that the table has. -/
theorem get_k (h : TabK S R w t gs) {id : Nat} {y : Sb} (hy : (tabL gs)[id]? = some y) : Calls Tryd.prog 13 #[.pointer (some ⟨t, 0, none⟩), .int .i64 id] w fun e w' => ∃ ds : List Value, e = .returned (.tuple #[.agg ds.toArray, .int .i64 0]) ∧ (∀ w'', Upd (fun b => b < w.heap.size) w' w'' → SubAt w'' ds y) ∧ Below w.heap.size w w' := by
  obtain ⟨j, k, g, x, h1, h2, h3, h4, h5, rfl⟩ := tabL_loc hy
  have := get_own h.tab h.ok h1 h2 h3 h4 h5 (h.c.drec h.ok.total h1 (List.mem_of_getElem? h5))
  rw [getG_mapP] at this
  exact this
end
def neverB (v : Vl) : Bool := decide (v = ⟨3, false, 0, 0⟩)
theorem mgiven_any (h n : Int) (w : World) : Calls Tryd.prog 56 #[.agg #[.int .i64 h, .int .i64 n]] w fun e w' => e = .returned (.bool (givenB ⟨h, n⟩)) ∧ Below w.heap.size w w' := by
  unfold givenB
  go_enter Tryd.func56, Tryd.ntmps56
  go_wp2
  all_goals
    go_ret
    exact ⟨retb (by first | (simp_all; done) | (simp_all; omega) | (rw [Bool.eq_iff_iff]; simp_all; done) | (rw [Bool.eq_iff_iff]; simp_all; omega)), (Below.refl _ _).alloc (Nat.le_refl _) _⟩
theorem absent_tab {S R : Nat → Prop} {t : Nat} {gs : List (List Sb)} (w : World) (h : TabK S R w t gs) : Calls Tryd.prog 33 #[.pointer (some ⟨t, 0, none⟩)] w fun e w' => e = .returned (.bool false) ∧ Below w.heap.size w w' := by
  have C := Lib.hid (get_out h.tab h.ok.total (-1) (by omega))
  clear h
  go_enter Tryd.func33, Tryd.ntmps33
  go_wp2_with fail
  refine C.out.mono ?_
  rintro e w1 ⟨rfl, hb⟩
  go_wp2
  go_ret
  exact ⟨rfl, hb.alloc hb.size _⟩
/-- The closed heap types of a table of n types. -/
def closedB (n : Nat) (h : Hp) : Bool := givenB h || (decide (h.k = 15) && decide (0 ≤ h.n) && decide (h.n < n))
theorem closed_iff {n : Nat} {h : Hp} : closedB n h = true ↔ ClosedP n h := by
  simp [closedB, ClosedP, given_iff, NumC, and_assoc]
theorem closed_f {n : Nat} {h : Hp} (hg : givenB h = false) (hn : h.k ≠ 15 ∨ h.n < 0 ∨ (n : Int) ≤ h.n) : false = closedB n h := by
  unfold closedB
  rw [hg]
  symm
  rcases hn with hn | hn | hn
  · simp [hn]
  · have : ¬ 0 ≤ h.n := by omega
    simp [this]
  · have : ¬ h.n < n := by omega
    simp [this]
theorem closed_t {n : Nat} {h : Hp} (hg : givenB h = true) : true = closedB n h := by unfold closedB; rw [hg]; rfl
theorem closed_t2 {n : Nat} {h : Hp} (hg : givenB h = false) (h1 : h.k = 15) (h2 : 0 ≤ h.n) (h3 : h.n < n) : true = closedB n h := by
  unfold closedB; rw [hg]; simp [h1, h2, h3]
theorem lenK {S R : Nat → Prop} {t : Nat} {gs : List (List Sb)} {w : World} (h : TabK S R w t gs) : Calls Tryd.prog 19 #[.pointer (some ⟨t, 0, none⟩)] w fun e w' => e = .returned (.int .i64 (total gs)) ∧ Below w.heap.size w w' :=
  (len_any h.tab).mono fun _ _ ⟨h1, h2⟩ => ⟨h1, by subst h2; exact Below.refl _ _⟩
set_option maxHeartbeats 1000000 in
theorem closed_tab {S R : Nat → Prop} {t : Nat} {gs : List (List Sb)} (h n : Int) (w : World) (ht : TabK S R w t gs) : Calls Tryd.prog 34 #[.pointer (some ⟨t, 0, none⟩), .agg #[.int .i64 h, .int .i64 n]] w fun e w' => e = .returned (.bool (closedB (total gs) ⟨h, n⟩)) ∧ Below w.heap.size w w' := by
  have H := Lib.hid (ht.below ((Below.refl _ _).alloc (Nat.le_refl _) (.cells #[.int .i64 h, .int .i64 n] 52)))
  have htl := ht.ok.total
  clear ht
  obtain ⟨b, hbb⟩ : ∃ b, givenB ⟨h, n⟩ = b := ⟨_, rfl⟩
  have HB := Lib.hid hbb
  clear hbb
  have c0 : ∀ x : Ext (w.alloc (.cells #[.int .i64 h, .int .i64 n] 52)), x.val.cell? ⟨w.heap.size, 0, none⟩ = some (.int .i64 h) := fun x => x.cell (heap_cell (World.alloc_heap_new _ _) 0)
  have c1 : ∀ x : Ext (w.alloc (.cells #[.int .i64 h, .int .i64 n] 52)), x.val.cell? ⟨w.heap.size, 1, none⟩ = some (.int .i64 n) := fun x => x.cell (heap_cell (World.alloc_heap_new _ _) 1)
  have fin : ∀ (r : Bool) (x : Ext (w.alloc (.cells #[.int .i64 h, .int .i64 n] 52))), r = closedB (total gs) ⟨h, n⟩ → (Ending.returned (.bool r) = .returned (.bool (closedB (total gs) ⟨h, n⟩)) ∧ Below w.heap.size w x.val) := fun r x e => ⟨retb e, ((Below.refl _ _).alloc (Nat.le_refl _) _).trans (x.2.mono (by simp))⟩
  have FIN := Lib.hid fin
  clear fin
  cases b
  · rcases hk : (h == 15) with _ | _
    · have hk' : h ≠ 15 := by simpa using hk
      have HK := Lib.hid hk'
      clear hk'
      go_enter Tryd.func34, Tryd.ntmps34
      go_wp2
      refine wp_region_calm (by kernel_rfl) (by kernel_rfl) ?_
      repeat (go_big_quiet_step (first | (go_at_call 56; exact Ext.call _ ((mgiven_any h n _).mono (by rintro e w' ⟨rfl, hb⟩; exact ⟨by rw [HB.out], hb⟩)))))
      refine wpQuiet_nil ?_
      rintro _ ⟨x, rfl⟩
      go_wp2
      go_ret
      exact FIN.out _ x (closed_f HB.out (.inl HK.out))
    · have hk' : h = 15 := by simpa using hk
      have HK := Lib.hid hk'
      clear hk'
      rcases hn : decide (0 ≤ n) with _ | _
      · have hn' : ¬ 0 ≤ n := by simpa using hn
        have HN := Lib.hid hn'
        clear hn'
        go_enter Tryd.func34, Tryd.ntmps34
        go_wp2
        refine wp_region_calm (by kernel_rfl) (by kernel_rfl) ?_
        repeat (go_big_quiet_step (first | (go_at_call 56; exact Ext.call _ ((mgiven_any h n _).mono (by rintro e w' ⟨rfl, hb⟩; exact ⟨by rw [HB.out], hb⟩)))))
        refine wpQuiet_nil ?_
        rintro _ ⟨x, rfl⟩
        go_wp2
        go_ret
        exact FIN.out _ x (closed_f HB.out (.inr (.inl (by have := HN.out; dsimp only; omega))))
      · have hn' : 0 ≤ n := by simpa using hn
        have HN := Lib.hid hn'
        clear hn'
        have hn2 : decide (n < 0) = false := by simpa using hn
        rcases hl : decide (n < (total gs : Nat)) with _ | _
        · have hl' : ¬ n < (total gs : Nat) := by simpa using hl
          have HL := Lib.hid hl'
          clear hl'
          go_enter Tryd.func34, Tryd.ntmps34
          go_wp2
          refine wp_region_calm (by kernel_rfl) (by kernel_rfl) ?_
          repeat (go_big_quiet_step (first | (go_at_call 56; exact Ext.call _ ((mgiven_any h n _).mono (by rintro e w' ⟨rfl, hb⟩; exact ⟨by rw [HB.out], hb⟩))) | (go_at_call 19; exact Ext.call _ (lenK (H.out.ext _)))))
          refine wpQuiet_nil ?_
          rintro _ ⟨x, rfl⟩
          go_wp2
          go_ret
          exact FIN.out _ x (closed_f HB.out (.inr (.inr (by have := HL.out; dsimp only; omega))))
        · have hl' : n < (total gs : Nat) := by simpa using hl
          have HL := Lib.hid hl'
          clear hl'
          go_enter Tryd.func34, Tryd.ntmps34
          go_wp2
          refine wp_region_calm (by kernel_rfl) (by kernel_rfl) ?_
          repeat (go_big_quiet_step (first | (go_at_call 56; exact Ext.call _ ((mgiven_any h n _).mono (by rintro e w' ⟨rfl, hb⟩; exact ⟨by rw [HB.out], hb⟩))) | (go_at_call 19; exact Ext.call _ (lenK (H.out.ext _)))))
          refine wpQuiet_nil ?_
          rintro _ ⟨x, rfl⟩
          go_wp2
          go_ret
          exact FIN.out _ x (closed_t2 HB.out HK.out HN.out HL.out)
  · go_enter Tryd.func34, Tryd.ntmps34
    go_wp2
    refine wp_region_calm (by kernel_rfl) (by kernel_rfl) ?_
    repeat (go_big_quiet_step (first | (go_at_call 56; exact Ext.call _ ((mgiven_any h n _).mono (by rintro e w' ⟨rfl, hb⟩; exact ⟨by rw [HB.out], hb⟩)))))
    refine wpQuiet_nil ?_
    rintro _ ⟨x, rfl⟩
    go_wp2
    go_ret
    exact FIN.out _ x (closed_t HB.out)
theorem ret2 {k q : IntKind} {a b c d : Int} (h : a = b) (h' : c = d) : Ending.returned (.tuple #[.int k a, .int q c]) = .returned (.tuple #[.int k b, .int q d]) := by rw [h, h']
set_option maxHeartbeats 1000000 in
theorem family_any (k : Int) (w : World) : Calls Tryd.prog 36 #[.int .i64 k] w fun e w' => e = .returned (.tuple #[.int .i64 (fam k).1, .int .i64 (fam k).2]) ∧ w = w' := by
  go_enter Tryd.func36, Tryd.ntmps36
  go_wp2
  all_goals
    go_ret2
    refine ⟨ret2 ?_ ?_, rfl⟩ <;> (unfold fam; simp_all)
set_option maxHeartbeats 1000000 in
theorem below_any (a b : Int) (w : World) : Calls Tryd.prog 38 #[.int .i64 a, .int .i64 b] w fun e w' => e = .returned (.bool (belowB a b)) ∧ w = w' := by
  unfold belowB
  obtain ⟨t1, h1⟩ : ∃ t, (fam a).1 = t := ⟨_, rfl⟩
  obtain ⟨b1, h2⟩ : ∃ t, (fam a).2 = t := ⟨_, rfl⟩
  obtain ⟨t2, h3⟩ : ∃ t, (fam b).1 = t := ⟨_, rfl⟩
  obtain ⟨b2, h4⟩ : ∃ t, (fam b).2 = t := ⟨_, rfl⟩
  rw [h1, h2, h3]
  have H1 := Lib.hid h1; have H2 := Lib.hid h2; have H3 := Lib.hid h3; have H4 := Lib.hid h4
  clear h1 h2 h3 h4
  go_enter Tryd.func38, Tryd.ntmps38
  go_wp2_with fail
  refine (family_any a _).mono ?_
  rintro e w' ⟨rfl, rfl⟩
  rw [H1.out, H2.out]
  go_wp2_with fail
  refine (family_any b _).mono ?_
  rintro e w' ⟨rfl, rfl⟩
  rw [H3.out, H4.out]
  clear H1 H2 H3 H4
  go_wp2
  all_goals
    go_ret
    refine ⟨retb ?_, rfl⟩
    unfold belowG
    first | (simp_all; done) | (rw [Bool.eq_iff_iff]; simp_all; done)

theorem reti {a b : Int} (h : a = b) : Ending.returned (.int .i64 a) = .returned (.int .i64 b) := by rw [h]
set_option maxRecDepth 100000 in
theorem kindOf_any (f : Bool) (v1 v2 v3 v4 : Value) (k : Int) (w : World) : Calls Tryd.prog 37 #[.agg #[.bool f, v1, .int .i64 k, v2, v3, v4]] w fun e w' => e = .returned (.int .i64 (kindK k)) ∧ Below w.heap.size w w' := by
  go_enter Tryd.func37, Tryd.ntmps37
  go_wp2
  all_goals
    go_ret
    refine ⟨reti ?_, (Below.refl _ _).alloc (Nat.le_refl _) _⟩
    unfold kindK; simp_all
end Go.Proofs.YtcihideabmpmjaaDoor

/- package chain: lines in memory; the small calls. -/
namespace Go.Proofs.YtcihideabmpmjaaDoor
open Go.RowKit

/-- The cells of a line: its depth, its numbers, zeros. -/
def idsC (p : List Nat) : List Value := p.map (fun k : Nat => Value.int .i32 (k : Int)) ++ List.replicate (64 - p.length) (.int .i32 0)
def lineC (p : List Nat) : List Value := .int .i32 ((p.length : Int) - 1) :: idsC p
def linesC (L : List (List Nat)) : List Value := L.flatMap lineC
theorem idsC_len {p : List Nat} (h : p.length ≤ 64) : (idsC p).length = 64 := by simp [idsC]; omega
theorem lineC_len {p : List Nat} (h : p.length ≤ 64) : (lineC p).length = 65 := by simp [lineC, idsC_len h]
theorem linesC_snoc (L : List (List Nat)) (p : List Nat) : linesC (L ++ [p]) = linesC L ++ lineC p := by simp [linesC]
theorem linesC_len {L : List (List Nat)} (h : ∀ p ∈ L, p.length ≤ 64) : (linesC L).length = L.length * 65 := by
  induction L with
  | nil => rfl
  | cons p L ih => rw [linesC, List.flatMap_cons, List.length_append, lineC_len (h p (by simp))]; have := ih fun q hq => h q (by simp [hq]); rw [linesC] at this; rw [this]; simp; omega
theorem linesC_at : ∀ {L : List (List Nat)}, (∀ p ∈ L, p.length ≤ 64) → ∀ {i : Nat} {p : List Nat}, L[i]? = some p → ∀ j, j < 65 → (linesC L)[i * 65 + j]? = (lineC p)[j]?
  | [], _, i, p, hi => by simp at hi
  | q :: L, h, 0, p, hi => fun j hj => by
    simp at hi; subst hi
    rw [linesC, List.flatMap_cons, List.getElem?_append_left (by rw [lineC_len (h _ (by simp))]; omega)]; simp
  | q :: L, h, i + 1, p, hi => fun j hj => by
    rw [List.getElem?_cons_succ] at hi
    have := linesC_at (L := L) (fun p hp => h p (by simp [hp])) hi j hj
    rw [linesC, List.flatMap_cons, List.getElem?_append_right (by rw [lineC_len (h _ (by simp))]; omega), lineC_len (h _ (by simp)), show (i + 1) * 65 + j - 65 = i * 65 + j by omega]
    exact this
theorem lineC_zero (p : List Nat) : (lineC p)[0]? = some (.int .i32 ((p.length : Int) - 1)) := rfl
theorem lineC_at {p : List Nat} (j : Nat) (hj : j < 64) : (lineC p)[1 + j]? = some (.int .i32 ((p.getD j 0 : Nat) : Int)) := by
  rw [Nat.add_comm, lineC, List.getElem?_cons_succ, idsC, List.getD_eq_getElem?_getD]
  by_cases h : j < p.length
  · rw [List.getElem?_append_left (by simpa using h), List.getElem?_map, List.getElem?_eq_getElem h]; rfl
  · rw [List.getElem?_append_right (by simp; omega), List.getElem?_replicate, if_pos (by simp; omega), List.getElem?_eq_none (by omega)]; rfl
theorem lineC_one (p : List Nat) : ∀ v ∈ lineC p, v.oneCell' = true := fun v hv => by
  simp only [lineC, idsC, List.mem_cons, List.mem_append, List.mem_map, List.mem_replicate] at hv
  rcases hv with rfl | ⟨x, _, rfl⟩ | ⟨_, rfl⟩ <;> rfl
/-- Lines at t; S: the blocks that are theirs. -/
structure LinesAt (S : Nat → Prop) (w : World) (t : Nat) (L : List (List Nat)) : Prop where
  ex : ∃ ov, w.heap[t]? = some (.cells #[ov, .pointer (some ⟨t, 0, none⟩)] 58 (0, 0)) ∧ w.ownsRow 0 81 65 ov L.length (linesC L) ∧ ∀ b, ov.ownBlock = some b → S b
  st : S t
  lt : ∀ k, S k → k < w.heap.size
  ok : (∀ p ∈ L, p.length ≤ 64 ∧ p ≠ []) ∧ L.length ≤ 10000 ∧ (∀ p ∈ L, ∀ x ∈ p, x < 10000)
section
variable {S : Nat → Prop} {w w' : World} {t : Nat} {L : List (List Nat)}
theorem LinesAt.keep (h : LinesAt S w t L) (u : Upd (fun b => ¬ S b) w w') : LinesAt S w' t L := by
  obtain ⟨ov, h1, h2, h3⟩ := h.ex
  exact ⟨⟨ov, u.heap_some h1 (fun hk => hk h.st), ownsRow_upd h2 u (fun b hb hk => hk (h3 b hb)), h3⟩, h.st, fun k hk => Nat.lt_of_lt_of_le (h.lt k hk) u.size, h.ok⟩
theorem LinesAt.below (h : LinesAt S w t L) (hb : Below w.heap.size w w') : LinesAt S w' t L := h.keep ((Upd.of_below hb : Upd (fun _ => False) w w').mono fun _ _ h => h.elim)
/-- A line's cells in memory. -/
theorem LinesAt.at (h : LinesAt S w t L) : ∃ ao co, w.heap[t]? = some (.cells #[.slice ao L.length co, .pointer (some ⟨t, 0, none⟩)] 58 (0, 0)) ∧ ∀ (i : Nat) p, L[i]? = some p → ∃ b, ao = some ⟨b, 0, none⟩ ∧ b < w.heap.size ∧ ∀ j u, (lineC p)[j]? = some u → w.cell? ⟨b, i * 65 + j, none⟩ = some u := by
  obtain ⟨ov, h1, h2, h3⟩ := h.ex
  obtain ⟨ao, co, rfl, _⟩ := ownsRow_form h2
  refine ⟨ao, co, h1, fun i p hi => ?_⟩
  have hl := (List.getElem?_eq_some_iff.1 hi).1
  obtain ⟨g, cap, cur, e, hr, _, _, hc⟩ := ownsRow_some h2 (by omega)
  simp only [Value.slice.injEq, true_and] at e
  obtain ⟨rfl, rfl⟩ := e
  refine ⟨g, rfl, heap_lt hr, fun j u hu => ?_⟩
  have hj := (List.getElem?_eq_some_iff.1 hu).1
  rw [lineC_len (h.ok.1 p (List.mem_of_getElem? hi)).1] at hj
  rw [hc (i * 65 + j) (by omega), linesC_at (fun p hp => (h.ok.1 p hp).1) hi j hj, hu]
end
theorem sizeLines : (Tryd.prog.info? 58).map (·.size) = some 2 := by kernel_rfl
theorem eq_sameL (a : Addr) (w : World) : (binOp .eql 26 (.pointer (some a)) (.pointer (some a))).run Tryd.prog w = .ok (.bool true) w := by
  obtain ⟨j, hj, _⟩ := Option.map_eq_some_iff.1 sizeLines
  have h : ∀ d : Nat, (Op.equalIn (d + 1) 26 (.pointer (some a)) (.pointer (some a))).run Tryd.prog w = .ok true w := fun d => by
    simp [Op.equalIn, run_underlying Tryd.underlying26, sizeOf, typeInfo, hj, run_sameAddr_same]
  simp only [binOp]
  simp [Op.equal, Op.maxDepth, h 9999]
theorem chNew_any (w : World) : Calls Tryd.prog 8 #[] w fun e w' => ∃ t S, e = .returned (.pointer (some ⟨t, 0, none⟩)) ∧ LinesAt S w' t [] ∧ (∀ k, S k → w.heap.size ≤ k) ∧ Below w.heap.size w w' := by
  go_enter Tryd.func8, Tryd.ntmps8
  go_wp2
  go_ret
  exact ⟨w.heap.size, fun b => b = w.heap.size, rfl, ⟨⟨_, heap_alloc_at _ _ rfl, owns_zero _ _ _ _, fun b h => by simp [Value.ownBlock] at h⟩, rfl, fun k hk => by subst hk; simp, by simp, by simp, by simp⟩, fun k hk => by omega, (Below.refl _ _).alloc (Nat.le_refl _) _⟩
section
variable {S : Nat → Prop} {w : World} {t : Nat} {L : List (List Nat)}
theorem chMade_any (h : LinesAt S w t L) : Calls Tryd.prog 27 #[.pointer (some ⟨t, 0, none⟩)] w fun e w' => e = .returned (.bool true) ∧ w' = w := by
  obtain ⟨ov, h1, _⟩ := h.ex
  have c1 := heap_cell h1 1
  simp at c1
  have hq := eq_sameL ⟨t, 0, none⟩
  clear h h1
  go_enter Tryd.func27, Tryd.ntmps27
  go_wp2
  go_ret
  exact ⟨rfl, rfl⟩
def hasL (L : List (List Nat)) (id : Int) : Bool := decide (0 ≤ id) && decide (id < L.length)
set_option maxRecDepth 100000 in
theorem chHas_any (h : LinesAt S w t L) (id : Int) : Calls Tryd.prog 31 #[.pointer (some ⟨t, 0, none⟩), .int .i64 id] w fun e w' => e = .returned (.bool (hasL L id)) ∧ w' = w := by
  obtain ⟨ao, co, h1, _⟩ := h.at
  have c0 := heap_cell h1 0
  simp at c0
  have C := Lib.hid (chMade_any h)
  have hl := h.ok.2.1
  clear h h1
  by_cases h0 : 0 ≤ id
  · by_cases hlt : id < L.length
    · have hd : hasL L id = true := by simp [hasL, h0, hlt]
      rw [hd]
      go_enter Tryd.func31, Tryd.ntmps31
      go_wp2_with fail
      refine C.out.mono ?_
      rintro e w1 ⟨rfl, rfl⟩
      go_wp2
      go_ret
      first | exact ⟨rfl, rfl⟩ | exact ⟨by simp [hlt], rfl⟩
    · have hd : hasL L id = false := by simp [hasL, hlt]
      rw [hd]
      go_enter Tryd.func31, Tryd.ntmps31
      go_wp2_with fail
      refine C.out.mono ?_
      rintro e w1 ⟨rfl, rfl⟩
      go_wp2
      go_ret
      first | exact ⟨rfl, rfl⟩ | exact ⟨by simp [hlt], rfl⟩
  · have hd : hasL L id = false := by simp [hasL, h0]
    rw [hd]
    have h0' : id < 0 := by omega
    go_enter Tryd.func31, Tryd.ntmps31
    go_wp2_with fail
    refine C.out.mono ?_
    rintro e w1 ⟨rfl, rfl⟩
    go_wp2
    go_ret
    exact ⟨rfl, rfl⟩
theorem chLen_any (h : LinesAt S w t L) : Calls Tryd.prog 12 #[.pointer (some ⟨t, 0, none⟩)] w fun e w' => e = .returned (.int .i64 L.length) ∧ w' = w := by
  obtain ⟨ao, co, h1, _⟩ := h.at
  have c0 := heap_cell h1 0
  simp at c0
  have C := Lib.hid (chMade_any h)
  clear h h1
  go_enter Tryd.func12, Tryd.ntmps12
  go_wp2_with fail
  refine C.out.mono ?_
  rintro e w1 ⟨rfl, rfl⟩
  go_wp2
  go_ret
  exact ⟨rfl, rfl⟩
/-- A line in memory: where it lies, how deep it is. -/
theorem LinesAt.get (h : LinesAt S w t L) {i : Nat} {p : List Nat} (hi : L[i]? = some p) : ∃ b co d, w.heap[t]? = some (.cells #[.slice (some ⟨b, 0, none⟩) L.length co, .pointer (some ⟨t, 0, none⟩)] 58 (0, 0)) ∧ b < w.heap.size ∧ p.length = d + 1 ∧ d < 64 ∧ w.cell? ⟨b, i * 65, none⟩ = some (.int .i32 d) ∧ (∀ j, j < 64 → w.cell? ⟨b, i * 65 + 1 + j, none⟩ = some (.int .i32 ((p.getD j 0 : Nat) : Int))) ∧ (∀ j u, (lineC p)[j]? = some u → w.cell? ⟨b, i * 65 + j, none⟩ = some u) := by
  obtain ⟨ao, co, h1, h2⟩ := h.at
  obtain ⟨b, rfl, hb, hc⟩ := h2 i p hi
  obtain ⟨k1, k2⟩ := h.ok.1 p (List.mem_of_getElem? hi)
  have hp : 0 < p.length := List.length_pos_iff.2 k2
  refine ⟨b, co, p.length - 1, h1, hb, by omega, by omega, ?_, fun j hj => ?_, hc⟩
  · have := hc 0 _ (lineC_zero p)
    rw [Nat.add_zero] at this
    rw [this]
    congr 2
    omega
  · have := hc (1 + j) _ (lineC_at j hj)
    rw [← Nat.add_assoc] at this
    exact this
set_option maxRecDepth 100000 in
theorem chDepth_any (h : LinesAt S w t L) (id : Int) : Calls Tryd.prog 15 #[.pointer (some ⟨t, 0, none⟩), .int .i64 id] w fun e w' => e = .returned (.int .i64 (depthL L id)) ∧ w' = w := by
  have C := Lib.hid (chHas_any h id)
  by_cases hin : 0 ≤ id ∧ id < L.length
  · obtain ⟨i, rfl⟩ : ∃ i : Nat, id = i := ⟨id.toNat, by omega⟩
    obtain ⟨p, hp⟩ : ∃ p, L[i]? = some p := ⟨L[i]'(by omega), by simp⟩
    obtain ⟨b, co, d, h1, _, hd, hd64, c1, _, _⟩ := h.get hp
    have c0 := heap_cell h1 0
    simp at c0
    have e1 : hasL L (i : Int) = true := by simp [hasL]; omega
    rw [e1] at C
    have e2 : depthL L (i : Int) = d := by unfold depthL; rw [if_pos hin, Int.toNat_natCast, getD_some hp, hd]; omega
    rw [e2]
    have hil : (i : Int) < L.length := hin.2
    have hl := h.ok.2.1
    clear h h1 hin hp hd e1 e2
    go_enter Tryd.func15, Tryd.ntmps15
    go_wp2_with fail
    refine C.out.mono ?_
    rintro e w1 ⟨rfl, rfl⟩
    go_wp2
    go_ret
    exact ⟨rfl, rfl⟩
  · have e1 : hasL L id = false := by rw [Bool.eq_false_iff]; simpa [hasL] using hin
    rw [e1] at C
    have e2 : depthL L id = -1 := by unfold depthL; rw [if_neg hin]
    rw [e2]
    clear h hin e1 e2
    go_enter Tryd.func15, Tryd.ntmps15
    go_wp2_with fail
    refine C.out.mono ?_
    rintro e w1 ⟨rfl, rfl⟩
    go_wp2
    go_ret
    exact ⟨rfl, rfl⟩
end
end Go.Proofs.YtcihideabmpmjaaDoor

/- Of no program: in a quiet region a whole struct is loaded out of the middle of a row. -/
namespace Go.Proofs.YtcihideabmpmjaaDoor
open Go Go.RowKit
theorem quiet_load_mid {P : Program} {C : World → Prop} {o : Oper} {a : Act} {K : Act → Prop} (ty : TypeId) (x : Operand) (ho : o.op = .load ty x)
    (b off : Nat) (hx : a.eval x = .pointer (some ⟨b, off, none⟩)) (cs : List Value) (d : TypeDesc) (hS : ∀ w, C w → w.rangeAt b off cs)
    (hu : P.underlying ty = some d) (hd : d.isRow = true) (hi : (P.info? ty).map (·.size) = some cs.length) (hk : K (a.put o.dst (.agg cs.toArray))) : o.quiet P a C K :=
  ⟨_, fun w hw => by
    unfold Oper.quietAt execOp
    simp only [ho, hx, Instr.loadAt, Instr.sureAddr, Sem.run_bind, Sem.run_pure, Result.andThen_ok, run_loadVar_mid w b off ty cs d (hS w hw) hu hd hi]
    first | exact ⟨rfl, rfl⟩ | exact ⟨_, rfl⟩ | trivial, hk⟩
theorem wpQuiet_load_mid {P : Program} {ops : Array Oper} {C : World → Prop} {o : Oper} {rest : List Oper} {a : Act} {Q : Act → Prop} (hg : o.guard = none) (ty : TypeId) (x : Operand) (ho : o.op = .load ty x)
    (b off : Nat) (hx : a.eval x = .pointer (some ⟨b, off, none⟩)) (cs : List Value) (d : TypeDesc) (hS : ∀ w, C w → w.rangeAt b off cs)
    (hu : P.underlying ty = some d) (hd : d.isRow = true) (hi : (P.info? ty).map (·.size) = some cs.length) (hk : wpQuiet P ops C Q rest (a.put o.dst (.agg cs.toArray))) : wpQuiet P ops C Q (o :: rest) a :=
  Go.BigFrame.wpQuiet_want (by simp [Region.wanted, hg]) fun K hK => quiet_load_mid ty x ho b off hx cs d hS hu hd hi (hK _ hk)
end Go.Proofs.YtcihideabmpmjaaDoor
