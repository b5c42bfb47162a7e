/- Package match: the calls, over any table (all but climbs). -/
import Derived.Test.YtcihideabmpmjaaDoorQMaPlainP
import Derived.Test.YtcihideabmpmjaaDoorQRoNoneP
import Derived.Test.YtcihideabmpmjaaDoorQKdRowsP
namespace Go.Proofs.YtcihideabmpmjaaDoor
open Go.RowKit

/-- A table: its memory, its groups, all closed. -/
structure TabK (S R : Nat → Prop) (w : World) (t : Nat) (gs : List (List Sb)) : Prop where
  tab : TabAt S R w t gs
  ok : TabOk gs
  c : TabC gs
section
variable {S R : Nat → Prop} {w : World} {t : Nat} {gs : List (List Sb)}
theorem TabK.below {w' : World} (h : TabK S R w t gs) (hb : Below w.heap.size w w') : TabK S R w' t gs := ⟨h.tab.below hb, h.ok, h.c⟩
theorem TabK.ext (h : TabK S R w t gs) (x : Ext w) : TabK S R x.val t gs := h.below x.2
set_option maxRecDepth 100000 in
theorem get_out (ht : TabAt S R w t gs) (hok : total gs ≤ 10000) (id : Int) (hid : ¬ (0 ≤ id ∧ id < total gs)) : Calls Tryd.prog 13 #[.pointer (some ⟨t, 0, none⟩), .int .i64 id] w fun e w' => e = .returned (.tuple #[.agg #[.bool false, .slice none 0 0, .int .i64 0, .slice none 0 0, .slice none 0 0, .slice none 0 0], .int .i64 4]) ∧ Below w.heap.size w w' := by
  have hb : Below w.heap.size w (w.alloc (.cells #[.bool false, .slice none 0 0, .int .i64 0, .slice none 0 0, .slice none 0 0, .slice none 0 0] 41)) := (Below.refl _ _).alloc (Nat.le_refl _) _
  have C := Lib.hid (made_any (ht.below hb))
  have C2 := has_any (ht.below hb) id hok
  rw [show (decide (0 ≤ id) && decide (id < total gs)) = false by rw [Bool.eq_false_iff]; simpa using hid] at C2
  have HC2 := Lib.hid C2
  clear ht hok hid C2
  go_enter Tryd.func13, Tryd.ntmps13
  go_wp2_with fail
  refine C.out.mono ?_
  rintro e w1 ⟨rfl, rfl⟩
  go_wp2_with fail
  refine HC2.out.mono ?_
  rintro e w1 ⟨rfl, rfl⟩
  go_wp2
  refine bodyPost_ret (v := .tuple #[.agg #[.bool false, .slice none 0 0, .int .i64 0, .slice none 0 0, .slice none 0 0, .slice none 0 0], .int .i64 4]) (by simp [results, Tryd.results13, go_sem]) rfl ⟨rfl, ?_⟩
  exact (Below.refl _ _).alloc (Nat.le_refl _) _
/-- Get, of a number that the table has. -/
theorem get_k (h : TabK S R w t gs) {id : Nat} {y : Sb} (hy : (tabL gs)[id]? = some y) : Calls Tryd.prog 13 #[.pointer (some ⟨t, 0, none⟩), .int .i64 id] w fun e w' => ∃ ds : List Value, e = .returned (.tuple #[.agg ds.toArray, .int .i64 0]) ∧ (∀ w'', Upd (fun b => b < w.heap.size) w' w'' → SubAt w'' ds y) ∧ Below w.heap.size w w' := by
  obtain ⟨j, k, g, x, h1, h2, h3, h4, h5, rfl⟩ := tabL_loc hy
  have := get_own h.tab h.ok h1 h2 h3 h4 h5 (h.c.drec h.ok.total h1 (List.mem_of_getElem? h5))
  rw [getG_mapP] at this
  exact this
end
def neverB (v : Vl) : Bool := decide (v = ⟨3, false, 0, 0⟩)
theorem mgiven_any (h n : Int) (w : World) : Calls Tryd.prog 56 #[.agg #[.int .i64 h, .int .i64 n]] w fun e w' => e = .returned (.bool (givenB ⟨h, n⟩)) ∧ Below w.heap.size w w' := by
  unfold givenB
  go_enter Tryd.func56, Tryd.ntmps56
  go_wp2
  all_goals
    go_ret
    exact ⟨retb (by first | (simp_all; done) | (simp_all; omega) | (rw [Bool.eq_iff_iff]; simp_all; done) | (rw [Bool.eq_iff_iff]; simp_all; omega)), (Below.refl _ _).alloc (Nat.le_refl _) _⟩
theorem absent_tab {S R : Nat → Prop} {t : Nat} {gs : List (List Sb)} (w : World) (h : TabK S R w t gs) : Calls Tryd.prog 33 #[.pointer (some ⟨t, 0, none⟩)] w fun e w' => e = .returned (.bool false) ∧ Below w.heap.size w w' := by
  have C := Lib.hid (get_out h.tab h.ok.total (-1) (by omega))
  clear h
  go_enter Tryd.func33, Tryd.ntmps33
  go_wp2_with fail
  refine C.out.mono ?_
  rintro e w1 ⟨rfl, hb⟩
  go_wp2
  go_ret
  exact ⟨rfl, hb.alloc hb.size _⟩
/-- The closed heap types of a table of n types. -/
def closedB (n : Nat) (h : Hp) : Bool := givenB h || (decide (h.k = 15) && decide (0 ≤ h.n) && decide (h.n < n))
theorem closed_iff {n : Nat} {h : Hp} : closedB n h = true ↔ ClosedP n h := by
  simp [closedB, ClosedP, given_iff, NumC, and_assoc]
theorem closed_f {n : Nat} {h : Hp} (hg : givenB h = false) (hn : h.k ≠ 15 ∨ h.n < 0 ∨ (n : Int) ≤ h.n) : false = closedB n h := by
  unfold closedB
  rw [hg]
  symm
  rcases hn with hn | hn | hn
  · simp [hn]
  · have : ¬ 0 ≤ h.n := by omega
    simp [this]
  · have : ¬ h.n < n := by omega
    simp [this]
theorem closed_t {n : Nat} {h : Hp} (hg : givenB h = true) : true = closedB n h := by unfold closedB; rw [hg]; rfl
theorem closed_t2 {n : Nat} {h : Hp} (hg : givenB h = false) (h1 : h.k = 15) (h2 : 0 ≤ h.n) (h3 : h.n < n) : true = closedB n h := by
  unfold closedB; rw [hg]; simp [h1, h2, h3]
theorem lenK {S R : Nat → Prop} {t : Nat} {gs : List (List Sb)} {w : World} (h : TabK S R w t gs) : Calls Tryd.prog 19 #[.pointer (some ⟨t, 0, none⟩)] w fun e w' => e = .returned (.int .i64 (total gs)) ∧ Below w.heap.size w w' :=
  (len_any h.tab).mono fun _ _ ⟨h1, h2⟩ => ⟨h1, by subst h2; exact Below.refl _ _⟩
set_option maxHeartbeats 1000000 in
theorem closed_tab {S R : Nat → Prop} {t : Nat} {gs : List (List Sb)} (h n : Int) (w : World) (ht : TabK S R w t gs) : Calls Tryd.prog 34 #[.pointer (some ⟨t, 0, none⟩), .agg #[.int .i64 h, .int .i64 n]] w fun e w' => e = .returned (.bool (closedB (total gs) ⟨h, n⟩)) ∧ Below w.heap.size w w' := by
  have H := Lib.hid (ht.below ((Below.refl _ _).alloc (Nat.le_refl _) (.cells #[.int .i64 h, .int .i64 n] 52)))
  have htl := ht.ok.total
  clear ht
  obtain ⟨b, hbb⟩ : ∃ b, givenB ⟨h, n⟩ = b := ⟨_, rfl⟩
  have HB := Lib.hid hbb
  clear hbb
  have c0 : ∀ x : Ext (w.alloc (.cells #[.int .i64 h, .int .i64 n] 52)), x.val.cell? ⟨w.heap.size, 0, none⟩ = some (.int .i64 h) := fun x => x.cell (heap_cell (World.alloc_heap_new _ _) 0)
  have c1 : ∀ x : Ext (w.alloc (.cells #[.int .i64 h, .int .i64 n] 52)), x.val.cell? ⟨w.heap.size, 1, none⟩ = some (.int .i64 n) := fun x => x.cell (heap_cell (World.alloc_heap_new _ _) 1)
  have fin : ∀ (r : Bool) (x : Ext (w.alloc (.cells #[.int .i64 h, .int .i64 n] 52))), r = closedB (total gs) ⟨h, n⟩ → (Ending.returned (.bool r) = .returned (.bool (closedB (total gs) ⟨h, n⟩)) ∧ Below w.heap.size w x.val) := fun r x e => ⟨retb e, ((Below.refl _ _).alloc (Nat.le_refl _) _).trans (x.2.mono (by simp))⟩
  have FIN := Lib.hid fin
  clear fin
  cases b
  · rcases hk : (h == 15) with _ | _
    · have hk' : h ≠ 15 := by simpa using hk
      have HK := Lib.hid hk'
      clear hk'
      go_enter Tryd.func34, Tryd.ntmps34
      go_wp2
      refine wp_region_calm (by kernel_rfl) (by kernel_rfl) ?_
      repeat (go_big_quiet_step (first | (go_at_call 56; exact Ext.call _ ((mgiven_any h n _).mono (by rintro e w' ⟨rfl, hb⟩; exact ⟨by rw [HB.out], hb⟩)))))
      refine wpQuiet_nil ?_
      rintro _ ⟨x, rfl⟩
      go_wp2
      go_ret
      exact FIN.out _ x (closed_f HB.out (.inl HK.out))
    · have hk' : h = 15 := by simpa using hk
      have HK := Lib.hid hk'
      clear hk'
      rcases hn : decide (0 ≤ n) with _ | _
      · have hn' : ¬ 0 ≤ n := by simpa using hn
        have HN := Lib.hid hn'
        clear hn'
        go_enter Tryd.func34, Tryd.ntmps34
        go_wp2
        refine wp_region_calm (by kernel_rfl) (by kernel_rfl) ?_
        repeat (go_big_quiet_step (first | (go_at_call 56; exact Ext.call _ ((mgiven_any h n _).mono (by rintro e w' ⟨rfl, hb⟩; exact ⟨by rw [HB.out], hb⟩)))))
        refine wpQuiet_nil ?_
        rintro _ ⟨x, rfl⟩
        go_wp2
        go_ret
        exact FIN.out _ x (closed_f HB.out (.inr (.inl (by have := HN.out; dsimp only; omega))))
      · have hn' : 0 ≤ n := by simpa using hn
        have HN := Lib.hid hn'
        clear hn'
        have hn2 : decide (n < 0) = false := by simpa using hn
        rcases hl : decide (n < (total gs : Nat)) with _ | _
        · have hl' : ¬ n < (total gs : Nat) := by simpa using hl
          have HL := Lib.hid hl'
          clear hl'
          go_enter Tryd.func34, Tryd.ntmps34
          go_wp2
          refine wp_region_calm (by kernel_rfl) (by kernel_rfl) ?_
          repeat (go_big_quiet_step (first | (go_at_call 56; exact Ext.call _ ((mgiven_any h n _).mono (by rintro e w' ⟨rfl, hb⟩; exact ⟨by rw [HB.out], hb⟩))) | (go_at_call 19; exact Ext.call _ (lenK (H.out.ext _)))))
          refine wpQuiet_nil ?_
          rintro _ ⟨x, rfl⟩
          go_wp2
          go_ret
          exact FIN.out _ x (closed_f HB.out (.inr (.inr (by have := HL.out; dsimp only; omega))))
        · have hl' : n < (total gs : Nat) := by simpa using hl
          have HL := Lib.hid hl'
          clear hl'
          go_enter Tryd.func34, Tryd.ntmps34
          go_wp2
          refine wp_region_calm (by kernel_rfl) (by kernel_rfl) ?_
          repeat (go_big_quiet_step (first | (go_at_call 56; exact Ext.call _ ((mgiven_any h n _).mono (by rintro e w' ⟨rfl, hb⟩; exact ⟨by rw [HB.out], hb⟩))) | (go_at_call 19; exact Ext.call _ (lenK (H.out.ext _)))))
          refine wpQuiet_nil ?_
          rintro _ ⟨x, rfl⟩
          go_wp2
          go_ret
          exact FIN.out _ x (closed_t2 HB.out HK.out HN.out HL.out)
  · go_enter Tryd.func34, Tryd.ntmps34
    go_wp2
    refine wp_region_calm (by kernel_rfl) (by kernel_rfl) ?_
    repeat (go_big_quiet_step (first | (go_at_call 56; exact Ext.call _ ((mgiven_any h n _).mono (by rintro e w' ⟨rfl, hb⟩; exact ⟨by rw [HB.out], hb⟩)))))
    refine wpQuiet_nil ?_
    rintro _ ⟨x, rfl⟩
    go_wp2
    go_ret
    exact FIN.out _ x (closed_t HB.out)
theorem ret2 {k q : IntKind} {a b c d : Int} (h : a = b) (h' : c = d) : Ending.returned (.tuple #[.int k a, .int q c]) = .returned (.tuple #[.int k b, .int q d]) := by rw [h, h']
set_option maxHeartbeats 1000000 in
theorem family_any (k : Int) (w : World) : Calls Tryd.prog 36 #[.int .i64 k] w fun e w' => e = .returned (.tuple #[.int .i64 (fam k).1, .int .i64 (fam k).2]) ∧ w = w' := by
  go_enter Tryd.func36, Tryd.ntmps36
  go_wp2
  all_goals
    go_ret2
    refine ⟨ret2 ?_ ?_, rfl⟩ <;> (unfold fam; simp_all)
set_option maxHeartbeats 1000000 in
theorem below_any (a b : Int) (w : World) : Calls Tryd.prog 38 #[.int .i64 a, .int .i64 b] w fun e w' => e = .returned (.bool (belowB a b)) ∧ w = w' := by
  unfold belowB
  obtain ⟨t1, h1⟩ : ∃ t, (fam a).1 = t := ⟨_, rfl⟩
  obtain ⟨b1, h2⟩ : ∃ t, (fam a).2 = t := ⟨_, rfl⟩
  obtain ⟨t2, h3⟩ : ∃ t, (fam b).1 = t := ⟨_, rfl⟩
  obtain ⟨b2, h4⟩ : ∃ t, (fam b).2 = t := ⟨_, rfl⟩
  rw [h1, h2, h3]
  have H1 := Lib.hid h1; have H2 := Lib.hid h2; have H3 := Lib.hid h3; have H4 := Lib.hid h4
  clear h1 h2 h3 h4
  go_enter Tryd.func38, Tryd.ntmps38
  go_wp2_with fail
  refine (family_any a _).mono ?_
  rintro e w' ⟨rfl, rfl⟩
  rw [H1.out, H2.out]
  go_wp2_with fail
  refine (family_any b _).mono ?_
  rintro e w' ⟨rfl, rfl⟩
  rw [H3.out, H4.out]
  clear H1 H2 H3 H4
  go_wp2
  all_goals
    go_ret
    refine ⟨retb ?_, rfl⟩
    unfold belowG
    first | (simp_all; done) | (rw [Bool.eq_iff_iff]; simp_all; done)

theorem reti {a b : Int} (h : a = b) : Ending.returned (.int .i64 a) = .returned (.int .i64 b) := by rw [h]
set_option maxRecDepth 100000 in
theorem kindOf_any (f : Bool) (v1 v2 v3 v4 : Value) (k : Int) (w : World) : Calls Tryd.prog 37 #[.agg #[.bool f, v1, .int .i64 k, v2, v3, v4]] w fun e w' => e = .returned (.int .i64 (kindK k)) ∧ Below w.heap.size w w' := by
  go_enter Tryd.func37, Tryd.ntmps37
  go_wp2
  all_goals
    go_ret
    refine ⟨reti ?_, (Below.refl _ _).alloc (Nat.le_refl _) _⟩
    unfold kindK; simp_all
end Go.Proofs.YtcihideabmpmjaaDoor
