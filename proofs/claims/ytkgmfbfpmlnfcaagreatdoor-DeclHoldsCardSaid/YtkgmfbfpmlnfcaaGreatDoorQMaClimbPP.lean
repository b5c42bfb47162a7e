/- Package match: the calls, over any table (all but climbs). -/
import Derived.Test.YtkgmfbfpmlnfcaaGreatDoorQRoNoneP
import Derived.Test.YtkgmfbfpmlnfcaaGreatDoorQKdSubP
import Derived.Test.YtkgmfbfpmlnfcaaGreatDoorQKdOpenP
import Derived.Test.YtkgmfbfpmlnfcaaGreatDoorQMaTabP
namespace Go.Proofs.YtkgmfbfpmlnfcaaGreatDoor
open Go.RowKit

/-- A table: its memory, its groups, all closed. -/
structure TabK (S R : Nat → Prop) (w : World) (t : Nat) (gs : List (List Sb)) : Prop where
  tab : TabAt S R w t gs
  ok : TabOk gs
  c : TabC gs
section
variable {S R : Nat → Prop} {w : World} {t : Nat} {gs : List (List Sb)}
theorem TabK.below {w' : World} (h : TabK S R w t gs) (hb : Below w.heap.size w w') : TabK S R w' t gs := ⟨h.tab.below hb, h.ok, h.c⟩
theorem TabK.ext (h : TabK S R w t gs) (x : Ext w) : TabK S R x.val t gs := h.below x.2
set_option maxRecDepth 100000 in
theorem get_out (ht : TabAt S R w t gs) (hok : total gs ≤ 10000) (id : Int) (hid : ¬ (0 ≤ id ∧ id < total gs)) : Calls Tryz.prog 12 #[.pointer (some ⟨t, 0, none⟩), .int .i64 id] w fun e w' => e = .returned (.tuple #[.agg #[.bool false, .slice none 0 0, .int .i64 0, .slice none 0 0, .slice none 0 0, .slice none 0 0], .int .i64 4]) ∧ Below w.heap.size w w' := by
  have hb : Below w.heap.size w (w.alloc (.cells #[.bool false, .slice none 0 0, .int .i64 0, .slice none 0 0, .slice none 0 0, .slice none 0 0] 44)) := (Below.refl _ _).alloc (Nat.le_refl _) _
  have C := Lib.hid (made_any (ht.below hb))
  have C2 := has_any (ht.below hb) id hok
  rw [show (decide (0 ≤ id) && decide (id < total gs)) = false by rw [Bool.eq_false_iff]; simpa using hid] at C2
  have HC2 := Lib.hid C2
  clear ht hok hid C2
  go_enter Tryz.func12, Tryz.ntmps12
  go_wp2_with fail
  refine C.out.mono ?_
  rintro e w1 ⟨rfl, rfl⟩
  go_wp2_with fail
  refine HC2.out.mono ?_
  rintro e w1 ⟨rfl, rfl⟩
  go_wp2
  refine bodyPost_ret (v := .tuple #[.agg #[.bool false, .slice none 0 0, .int .i64 0, .slice none 0 0, .slice none 0 0, .slice none 0 0], .int .i64 4]) (by simp [results, Tryz.results12, go_sem]) rfl ⟨rfl, ?_⟩
  exact (Below.refl _ _).alloc (Nat.le_refl _) _
/-- Get, of a number that the table has. -/
theorem get_k (h : TabK S R w t gs) {id : Nat} {y : Sb} (hy : (tabL gs)[id]? = some y) : Calls Tryz.prog 12 #[.pointer (some ⟨t, 0, none⟩), .int .i64 id] w fun e w' => ∃ ds : List Value, e = .returned (.tuple #[.agg ds.toArray, .int .i64 0]) ∧ (∀ w'', Upd (fun b => b < w.heap.size) w' w'' → SubAt w'' ds y) ∧ Below w.heap.size w w' := by
  obtain ⟨j, k, g, x, h1, h2, h3, h4, h5, rfl⟩ := tabL_loc hy
  have := get_own h.tab h.ok h1 h2 h3 h4 h5 (h.c.drec h.ok.total h1 (List.mem_of_getElem? h5))
  rw [getG_mapP] at this
  exact this
end
def neverB (v : Vl) : Bool := decide (v = ⟨3, false, 0, 0⟩)
theorem never_any (v : Vl) (w : World) : Calls Tryz.prog 59 #[.agg (cellsV v).toArray] w fun e w' => e = .returned (.bool (neverB v)) ∧ Below w.heap.size w w' := by
  obtain ⟨k, nl, h, n⟩ := v
  simp only [cellsV, neverB]
  go_enter Tryz.func59, Tryz.ntmps59
  go_wp2
  all_goals
    go_ret
    exact ⟨retb (by simp_all), (Below.refl _ _).alloc (Nat.le_refl _) _⟩
theorem mgiven_any (h n : Int) (w : World) : Calls Tryz.prog 52 #[.agg #[.int .i64 h, .int .i64 n]] w fun e w' => e = .returned (.bool (givenB ⟨h, n⟩)) ∧ Below w.heap.size w w' := by
  unfold givenB
  go_enter Tryz.func52, Tryz.ntmps52
  go_wp2
  all_goals
    go_ret
    exact ⟨retb (by first | (simp_all; done) | (simp_all; omega) | (rw [Bool.eq_iff_iff]; simp_all; done) | (rw [Bool.eq_iff_iff]; simp_all; omega)), (Below.refl _ _).alloc (Nat.le_refl _) _⟩
theorem absent_tab {S R : Nat → Prop} {t : Nat} {gs : List (List Sb)} (w : World) (h : TabK S R w t gs) : Calls Tryz.prog 26 #[.pointer (some ⟨t, 0, none⟩)] w fun e w' => e = .returned (.bool false) ∧ Below w.heap.size w w' := by
  have C := Lib.hid (get_out h.tab h.ok.total (-1) (by omega))
  clear h
  go_enter Tryz.func26, Tryz.ntmps26
  go_wp2_with fail
  refine C.out.mono ?_
  rintro e w1 ⟨rfl, hb⟩
  go_wp2
  go_ret
  exact ⟨rfl, hb.alloc hb.size _⟩
/-- The closed heap types of a table of n types. -/
def closedB (n : Nat) (h : Hp) : Bool := givenB h || (decide (h.k = 15) && decide (0 ≤ h.n) && decide (h.n < n))
theorem closed_iff {n : Nat} {h : Hp} : closedB n h = true ↔ ClosedP n h := by
  simp [closedB, ClosedP, given_iff, NumC, and_assoc]
theorem closed_f {n : Nat} {h : Hp} (hg : givenB h = false) (hn : h.k ≠ 15 ∨ h.n < 0 ∨ (n : Int) ≤ h.n) : false = closedB n h := by
  unfold closedB
  rw [hg]
  symm
  rcases hn with hn | hn | hn
  · simp [hn]
  · have : ¬ 0 ≤ h.n := by omega
    simp [this]
  · have : ¬ h.n < n := by omega
    simp [this]
theorem closed_t {n : Nat} {h : Hp} (hg : givenB h = true) : true = closedB n h := by unfold closedB; rw [hg]; rfl
theorem closed_t2 {n : Nat} {h : Hp} (hg : givenB h = false) (h1 : h.k = 15) (h2 : 0 ≤ h.n) (h3 : h.n < n) : true = closedB n h := by
  unfold closedB; rw [hg]; simp [h1, h2, h3]
theorem lenK {S R : Nat → Prop} {t : Nat} {gs : List (List Sb)} {w : World} (h : TabK S R w t gs) : Calls Tryz.prog 16 #[.pointer (some ⟨t, 0, none⟩)] w fun e w' => e = .returned (.int .i64 (total gs)) ∧ Below w.heap.size w w' :=
  (len_any h.tab).mono fun _ _ ⟨h1, h2⟩ => ⟨h1, by subst h2; exact Below.refl _ _⟩
set_option maxHeartbeats 1000000 in
theorem closed_tab {S R : Nat → Prop} {t : Nat} {gs : List (List Sb)} (h n : Int) (w : World) (ht : TabK S R w t gs) : Calls Tryz.prog 29 #[.pointer (some ⟨t, 0, none⟩), .agg #[.int .i64 h, .int .i64 n]] w fun e w' => e = .returned (.bool (closedB (total gs) ⟨h, n⟩)) ∧ Below w.heap.size w w' := by
  have H := Lib.hid (ht.below ((Below.refl _ _).alloc (Nat.le_refl _) (.cells #[.int .i64 h, .int .i64 n] 49)))
  have htl := ht.ok.total
  clear ht
  obtain ⟨b, hbb⟩ : ∃ b, givenB ⟨h, n⟩ = b := ⟨_, rfl⟩
  have HB := Lib.hid hbb
  clear hbb
  have c0 : ∀ x : Ext (w.alloc (.cells #[.int .i64 h, .int .i64 n] 49)), x.val.cell? ⟨w.heap.size, 0, none⟩ = some (.int .i64 h) := fun x => x.cell (heap_cell (World.alloc_heap_new _ _) 0)
  have c1 : ∀ x : Ext (w.alloc (.cells #[.int .i64 h, .int .i64 n] 49)), x.val.cell? ⟨w.heap.size, 1, none⟩ = some (.int .i64 n) := fun x => x.cell (heap_cell (World.alloc_heap_new _ _) 1)
  have fin : ∀ (r : Bool) (x : Ext (w.alloc (.cells #[.int .i64 h, .int .i64 n] 49))), r = closedB (total gs) ⟨h, n⟩ → (Ending.returned (.bool r) = .returned (.bool (closedB (total gs) ⟨h, n⟩)) ∧ Below w.heap.size w x.val) := fun r x e => ⟨retb e, ((Below.refl _ _).alloc (Nat.le_refl _) _).trans (x.2.mono (by simp))⟩
  have FIN := Lib.hid fin
  clear fin
  cases b
  · rcases hk : (h == 15) with _ | _
    · have hk' : h ≠ 15 := by simpa using hk
      have HK := Lib.hid hk'
      clear hk'
      go_enter Tryz.func29, Tryz.ntmps29
      go_wp2
      refine wp_region_calm (by kernel_rfl) (by kernel_rfl) ?_
      repeat (go_big_quiet_step (first | (go_at_call 52; exact Ext.call _ ((mgiven_any h n _).mono (by rintro e w' ⟨rfl, hb⟩; exact ⟨by rw [HB.out], hb⟩)))))
      refine wpQuiet_nil ?_
      rintro _ ⟨x, rfl⟩
      go_wp2
      go_ret
      exact FIN.out _ x (closed_f HB.out (.inl HK.out))
    · have hk' : h = 15 := by simpa using hk
      have HK := Lib.hid hk'
      clear hk'
      rcases hn : decide (0 ≤ n) with _ | _
      · have hn' : ¬ 0 ≤ n := by simpa using hn
        have HN := Lib.hid hn'
        clear hn'
        go_enter Tryz.func29, Tryz.ntmps29
        go_wp2
        refine wp_region_calm (by kernel_rfl) (by kernel_rfl) ?_
        repeat (go_big_quiet_step (first | (go_at_call 52; exact Ext.call _ ((mgiven_any h n _).mono (by rintro e w' ⟨rfl, hb⟩; exact ⟨by rw [HB.out], hb⟩)))))
        refine wpQuiet_nil ?_
        rintro _ ⟨x, rfl⟩
        go_wp2
        go_ret
        exact FIN.out _ x (closed_f HB.out (.inr (.inl (by have := HN.out; dsimp only; omega))))
      · have hn' : 0 ≤ n := by simpa using hn
        have HN := Lib.hid hn'
        clear hn'
        have hn2 : decide (n < 0) = false := by simpa using hn
        rcases hl : decide (n < (total gs : Nat)) with _ | _
        · have hl' : ¬ n < (total gs : Nat) := by simpa using hl
          have HL := Lib.hid hl'
          clear hl'
          go_enter Tryz.func29, Tryz.ntmps29
          go_wp2
          refine wp_region_calm (by kernel_rfl) (by kernel_rfl) ?_
          repeat (go_big_quiet_step (first | (go_at_call 52; exact Ext.call _ ((mgiven_any h n _).mono (by rintro e w' ⟨rfl, hb⟩; exact ⟨by rw [HB.out], hb⟩))) | (go_at_call 16; exact Ext.call _ (lenK (H.out.ext _)))))
          refine wpQuiet_nil ?_
          rintro _ ⟨x, rfl⟩
          go_wp2
          go_ret
          exact FIN.out _ x (closed_f HB.out (.inr (.inr (by have := HL.out; dsimp only; omega))))
        · have hl' : n < (total gs : Nat) := by simpa using hl
          have HL := Lib.hid hl'
          clear hl'
          go_enter Tryz.func29, Tryz.ntmps29
          go_wp2
          refine wp_region_calm (by kernel_rfl) (by kernel_rfl) ?_
          repeat (go_big_quiet_step (first | (go_at_call 52; exact Ext.call _ ((mgiven_any h n _).mono (by rintro e w' ⟨rfl, hb⟩; exact ⟨by rw [HB.out], hb⟩))) | (go_at_call 16; exact Ext.call _ (lenK (H.out.ext _)))))
          refine wpQuiet_nil ?_
          rintro _ ⟨x, rfl⟩
          go_wp2
          go_ret
          exact FIN.out _ x (closed_t2 HB.out HK.out HN.out HL.out)
  · go_enter Tryz.func29, Tryz.ntmps29
    go_wp2
    refine wp_region_calm (by kernel_rfl) (by kernel_rfl) ?_
    repeat (go_big_quiet_step (first | (go_at_call 52; exact Ext.call _ ((mgiven_any h n _).mono (by rintro e w' ⟨rfl, hb⟩; exact ⟨by rw [HB.out], hb⟩)))))
    refine wpQuiet_nil ?_
    rintro _ ⟨x, rfl⟩
    go_wp2
    go_ret
    exact FIN.out _ x (closed_t HB.out)
theorem ret2 {k q : IntKind} {a b c d : Int} (h : a = b) (h' : c = d) : Ending.returned (.tuple #[.int k a, .int q c]) = .returned (.tuple #[.int k b, .int q d]) := by rw [h, h']
set_option maxHeartbeats 1000000 in
theorem family_any (k : Int) (w : World) : Calls Tryz.prog 31 #[.int .i64 k] w fun e w' => e = .returned (.tuple #[.int .i64 (fam k).1, .int .i64 (fam k).2]) ∧ w = w' := by
  go_enter Tryz.func31, Tryz.ntmps31
  go_wp2
  all_goals
    go_ret2
    refine ⟨ret2 ?_ ?_, rfl⟩ <;> (unfold fam; simp_all)
set_option maxHeartbeats 1000000 in
theorem below_any (a b : Int) (w : World) : Calls Tryz.prog 33 #[.int .i64 a, .int .i64 b] w fun e w' => e = .returned (.bool (belowB a b)) ∧ w = w' := by
  unfold belowB
  obtain ⟨t1, h1⟩ : ∃ t, (fam a).1 = t := ⟨_, rfl⟩
  obtain ⟨b1, h2⟩ : ∃ t, (fam a).2 = t := ⟨_, rfl⟩
  obtain ⟨t2, h3⟩ : ∃ t, (fam b).1 = t := ⟨_, rfl⟩
  obtain ⟨b2, h4⟩ : ∃ t, (fam b).2 = t := ⟨_, rfl⟩
  rw [h1, h2, h3]
  have H1 := Lib.hid h1; have H2 := Lib.hid h2; have H3 := Lib.hid h3; have H4 := Lib.hid h4
  clear h1 h2 h3 h4
  go_enter Tryz.func33, Tryz.ntmps33
  go_wp2_with fail
  refine (family_any a _).mono ?_
  rintro e w' ⟨rfl, rfl⟩
  rw [H1.out, H2.out]
  go_wp2_with fail
  refine (family_any b _).mono ?_
  rintro e w' ⟨rfl, rfl⟩
  rw [H3.out, H4.out]
  clear H1 H2 H3 H4
  go_wp2
  all_goals
    go_ret
    refine ⟨retb ?_, rfl⟩
    unfold belowG
    first | (simp_all; done) | (rw [Bool.eq_iff_iff]; simp_all; done)

theorem reti {a b : Int} (h : a = b) : Ending.returned (.int .i64 a) = .returned (.int .i64 b) := by rw [h]
set_option maxRecDepth 100000 in
theorem kindOf_any (f : Bool) (v1 v2 v3 v4 : Value) (k : Int) (w : World) : Calls Tryz.prog 32 #[.agg #[.bool f, v1, .int .i64 k, v2, v3, v4]] w fun e w' => e = .returned (.int .i64 (kindK k)) ∧ Below w.heap.size w w' := by
  go_enter Tryz.func32, Tryz.ntmps32
  go_wp2
  all_goals
    go_ret
    refine ⟨reti ?_, (Below.refl _ _).alloc (Nat.le_refl _) _⟩
    unfold kindK; simp_all
end Go.Proofs.YtkgmfbfpmlnfcaaGreatDoor

/- package decl: what was declared so far, in memory. -/
namespace Go.Proofs.YtkgmfbfpmlnfcaaGreatDoor
open Go.RowKit Go.Maps Go.WideMaps

/-- Types that lie in a row of their own; what their lists hold stays whatever the entry bears. -/
structure TysAt (S0 : Nat → Prop) (wE w : World) (vt : Value) (ts : List Sb) : Prop where
  ex : ∃ cs : List (List Value), cs.length = ts.length ∧ (∀ c ∈ cs, c.length = 6) ∧ (∀ c ∈ cs, ∀ u ∈ c, u.oneCell' = true) ∧ w.ownsRow wE.heap.size 44 6 vt ts.length cs.flatten ∧ ∀ (i : Nat) c x, cs[i]? = some c → ts[i]? = some x → ∀ w'', Upd S0 wE w'' → SubAt w'' c x
/-- What was declared so far: at d, over the table t; it writes S (the table), T (its rows), d. -/
structure DcAt (w0 : World) (S0 : Nat → Prop) (wE : World) (S R T : Nat → Prop) (w : World) (t d : Nat) (dc : DcS) (vi vt vd : Value) : Prop where
  tab : TabN w0 S R w t dc.gs
  c : TabC dc.gs
  box : w.heap[d]? = some (.cells #[.pointer (some ⟨t, 0, none⟩), vi, vt, vd] 57 (0, 0))
  ids : ∀ w'', Upd (fun b => S b ∨ T b ∨ b = d ∨ b < wE.heap.size) w w'' → IntsAt w'' vi dc.ids
  tys : TysAt S0 wE w vt dc.types
  dep : w.ownsRow wE.heap.size 3 1 vd dc.depths.length (dc.depths.map (Value.int .i64))
  tt : ∀ b, vt.ownBlock = some b → T b
  tv : ∀ b, vd.ownBlock = some b → T b
  td : ∀ b, T b → b < w.heap.size ∧ wE.heap.size ≤ b ∧ ¬ S b ∧ ¬ R b ∧ b ≠ d
  dd : ¬ S d ∧ ¬ R d ∧ wE.heap.size ≤ d
  up : Upd S0 wE w
  fr : Fresh S0 wE S
  e0 : w0.heap.size ≤ wE.heap.size
variable {w0 wE w w' : World} {S0 S R T : Nat → Prop} {t d : Nat} {dc : DcS} {vi vt vd : Value} {ts : List Sb}
theorem TabN.upd {gs : List (List Sb)} {W : Nat → Prop} (h : TabN w0 S R w t gs) (u : Upd W w w') (hW : ∀ b, W b → ¬ S b ∧ ¬ R b ∧ w0.heap.size ≤ b) : TabN w0 S R w' t gs :=
  ⟨h.tab.keep (u.mono fun b _ hb => ⟨(hW b hb).1, (hW b hb).2.1⟩), h.ok, h.base, h.be.trans (u.below (fun b hb => (hW b hb).2.2) h.be.size)⟩
theorem TysAt.below (h : TysAt S0 wE w vt ts) (hb : Below w.heap.size w w') : TysAt S0 wE w' vt ts := by
  obtain ⟨cs, h1, h2, h3, h4, h5⟩ := h.ex
  exact ⟨cs, h1, h2, h3, ownsRow_upd (S := fun _ => False) h4 (Upd.of_below hb) (fun _ _ q => q), h5⟩
theorem TysAt.keep (h : TysAt S0 wE w vt ts) {W : Nat → Prop} (hu : Upd W w w') (hb : ∀ b, vt.ownBlock = some b → ¬ W b) : TysAt S0 wE w' vt ts := by
  obtain ⟨cs, h1, h2, h3, h4, h5⟩ := h.ex
  exact ⟨cs, h1, h2, h3, ownsRow_upd h4 hu hb, h5⟩
theorem DcAt.below (h : DcAt w0 S0 wE S R T w t d dc vi vt vd) (hb : Below w.heap.size w w') : DcAt w0 S0 wE S R T w' t d dc vi vt vd :=
  ⟨h.tab.below hb, h.c, (hb.block _ (heap_lt h.box)).trans h.box, fun w'' hu => h.ids w'' ((Upd.of_below hb).trans' hu), h.tys.below hb, ownsRow_upd (S := fun _ => False) h.dep (Upd.of_below hb) (fun _ _ q => q), h.tt, h.tv, fun b hb' => by have h1 := h.td b hb'; have := hb.size; exact ⟨by omega, h1.2⟩, h.dd, h.up.trans' (Upd.of_below hb), h.fr, h.e0⟩
/-- Both rows are not one. -/
theorem DcAt.apart (h : DcAt w0 S0 wE S R T w t d dc vi vt vd) : ∀ b, vt.ownBlock = some b → ¬ vd.ownBlock = some b := fun b hb hv => by
  obtain ⟨cs, _, _, _, h4, _⟩ := h.tys.ex
  rcases own_ne h4 h.dep (by decide) with h | h
  · rw [h] at hb; cases hb
  · exact h (hb.trans hv.symm)
theorem DcAt.k (h : DcAt w0 S0 wE S R T w t d dc vi vt vd) : TabK S R w t dc.gs := ⟨h.tab.tab, h.tab.ok, h.c⟩
/-- One of the types, in memory. -/
theorem TysAt.at (h : TysAt S0 wE w vt ts) (hu : Upd S0 wE w) {i : Nat} {x : Sb} (hx : ts[i]? = some x) : ∃ b cap a1 c1 a2 c2 a3 c3 a4 c4, vt = .slice (some ⟨b, 0, none⟩) ts.length cap ∧ SubAt w [.bool x.fin, .slice a1 x.sups.length c1, .int .i64 x.k, .slice a2 x.ps.length c2, .slice a3 x.rs.length c3, .slice a4 x.fs.length c4] x ∧
    w.cell? ⟨b, i * 6, none⟩ = some (.bool x.fin) ∧ w.cell? ⟨b, i * 6 + 1, none⟩ = some (.slice a1 x.sups.length c1) ∧ w.cell? ⟨b, i * 6 + 2, none⟩ = some (.int .i64 x.k) ∧ w.cell? ⟨b, i * 6 + 3, none⟩ = some (.slice a2 x.ps.length c2) ∧ w.cell? ⟨b, i * 6 + 4, none⟩ = some (.slice a3 x.rs.length c3) ∧ w.cell? ⟨b, i * 6 + 5, none⟩ = some (.slice a4 x.fs.length c4) := by
  obtain ⟨cs, h1, h2, _, h4, h5⟩ := h.ex
  have hi := (List.getElem?_eq_some_iff.1 hx).1
  obtain ⟨c, hc⟩ : ∃ c, cs[i]? = some c := ⟨cs[i]'(by omega), by simp⟩
  obtain ⟨vs, vp, vr, vf, rfl, k1, k2, k3, k4⟩ := (h5 i c x hc hx w hu).ex
  obtain ⟨a1, c1, rfl⟩ := RowAt.form k1
  obtain ⟨a2, c2, rfl⟩ := RowAt.form k2
  obtain ⟨a3, c3, rfl⟩ := RowAt.form k3
  obtain ⟨a4, c4, rfl⟩ := RowAt.form k4
  obtain ⟨b, cap, cur, e, _, _, _, hcell⟩ := ownsRow_some h4 (by omega)
  have at' : ∀ j, j < 6 → w.cell? ⟨b, i * 6 + j, none⟩ = ([.bool x.fin, .slice a1 x.sups.length c1, .int .i64 x.k, .slice a2 x.ps.length c2, .slice a3 x.rs.length c3, .slice a4 x.fs.length c4] : List Value)[j]? := fun j hj => by
    rw [hcell (i * 6 + j) (by omega)]; exact flatten_at h2 i _ hc j hj
  exact ⟨b, cap, a1, c1, a2, c2, a3, c3, a4, c4, e, ⟨⟨_, _, _, _, rfl, k1, k2, k3, k4⟩⟩, at' 0 (by omega), at' 1 (by omega), at' 2 (by omega), at' 3 (by omega), at' 4 (by omega), at' 5 (by omega)⟩
/-- A depth is kept. -/
theorem DcAt.push (h : DcAt w0 S0 wE S R T w t d dc vi vt vd) {w1 w' : World} {v' : Value} {x : Int} (hb : Below w.heap.size w w1)
    (ho : w'.ownsRow wE.heap.size 3 1 v' (dc.depths ++ [x]).length ((dc.depths ++ [x]).map (Value.int .i64))) (hg : w1.grownBy w' vd.ownBlock) (hm : v'.ownBlock = vd.ownBlock ∨ v'.ownBlock = some w1.heap.size) :
    ∃ T' vd', DcAt w0 S0 wE S R T' (w'.setCell ⟨d, 3, none⟩ v') t d { dc with depths := dc.depths ++ [x] } vi vt vd' ∧ Upd (fun b => T b ∨ b = d) w (w'.setCell ⟨d, 3, none⟩ v') ∧ Fresh T w T' := by
  have hdl := heap_lt h.box
  have hnd : ∀ b, vd.ownBlock = some b → b ≠ d := fun b hb' => (h.td b (h.tv b hb')).2.2.2.2
  have hu1 : Upd (fun b => vd.ownBlock = some b) w w' := ((Upd.of_below hb : Upd (fun b => vd.ownBlock = some b) w w1)).trans' ((Upd.refl _ _).grown hg (fun k hk => .inl hk))
  have hbox' : w'.heap[d]? = some (.cells #[.pointer (some ⟨t, 0, none⟩), vi, vt, vd] 57 (0, 0)) := hu1.heap_some h.box (fun e => hnd d e rfl)
  have hu2 : Upd (fun b => T b ∨ b = d) w (w'.setCell ⟨d, 3, none⟩ v') := (hu1.mono fun b _ hb' => .inl (h.tv b hb')).setCell (.inl (.inr rfl)) _
  have hu3 : Upd (fun b => b = d) w' (w'.setCell ⟨d, 3, none⟩ v') := Upd.setCell (S := fun b => b = d) (Upd.refl _ _) (.inl rfl) _
  have hS : ∀ b, (T b ∨ b = d) → ¬ S b ∧ ¬ R b ∧ wE.heap.size ≤ b := fun b hb' => hb'.elim (fun q => have := h.td b q; ⟨this.2.2.1, this.2.2.2.1, this.2.1⟩) (fun q => by subst q; exact h.dd)
  have hvn : ∀ b, v'.ownBlock = some b → (T b ∨ w.heap.size ≤ b) ∧ b < w'.heap.size ∧ wE.heap.size ≤ b := fun b hb' => by
    have h2 := ho.lt b hb'
    refine ⟨?_, h2.2, h2.1⟩
    rcases hm with e | e
    · exact .inl (h.tv b (e.symm.trans hb'))
    · have := hb.size
      rw [e] at hb'
      cases hb'
      exact .inr (by omega)
  have hsz : (w'.setCell ⟨d, 3, none⟩ v').heap.size = w'.heap.size := by simp [World.setCell]
  have hT : ∀ b, (T b ∨ v'.ownBlock = some b) → b < (w'.setCell ⟨d, 3, none⟩ v').heap.size ∧ wE.heap.size ≤ b ∧ ¬ S b ∧ ¬ R b ∧ b ≠ d := fun b hb' => by
    have key : T b ∨ w.heap.size ≤ b := hb'.elim .inl (fun q => (hvn b q).1)
    have hlt : b < w'.heap.size := hb'.elim (fun q => Nat.lt_of_lt_of_le (h.td b q).1 hu1.size) (fun q => (hvn b q).2.1)
    rw [hsz]
    rcases key with q | q
    · exact ⟨hlt, (h.td b q).2⟩
    · exact ⟨hlt, Nat.le_trans h.up.size q, fun hs => by have := (h.tab.tab.lt b hs).1; omega, fun hs => by have := h.tab.tab.rlt b hs; omega, by omega⟩
  have hfT : Fresh T w (fun b => T b ∨ v'.ownBlock = some b) := fun b hb' => hb'.elim .inl (fun q => (hvn b q).1)
  refine ⟨fun b => T b ∨ v'.ownBlock = some b, v', ⟨h.tab.upd hu2 (fun b hb' => ⟨(hS b hb').1, (hS b hb').2.1, Nat.le_trans h.e0 (hS b hb').2.2⟩), h.c, ?_, fun w'' hu => ?_, ?_, ?_, fun b hb' => .inl (h.tt b hb'), fun b hb' => .inr hb', hT, h.dd, h.up.trans (fun b hb' => .inr (hS b hb').2.2) hu2, h.fr, h.e0⟩, hu2, hfT⟩
  · have := heap_set_at hbox' 3 v'
    simpa using this
  · refine h.ids w'' ((hu2.mono fun b _ hb' => .inr (hb'.imp id .inl)).trans (fun b hb' => ?_) hu)
    rcases hb' with q | q | q | q
    · exact .inl (.inl q)
    · exact (hfT b q).imp (fun q => .inr (.inl q)) id
    · exact .inl (.inr (.inr (.inl q)))
    · exact .inl (.inr (.inr (.inr q)))
  · refine h.tys.keep (W := fun b => vd.ownBlock = some b ∨ b = d) ((hu1.mono fun b _ q => .inl q).setCell (.inl (.inr rfl)) _) (fun b hb' q => ?_)
    exact q.elim (h.apart b hb') (h.td b (h.tt b hb')).2.2.2.2
  · exact ownsRow_upd ho hu3 (fun b hb' e => (hT b (.inr hb')).2.2.2.2 e)
end Go.Proofs.YtkgmfbfpmlnfcaaGreatDoor

/- package decl: none, super, stands. -/
namespace Go.Proofs.YtkgmfbfpmlnfcaaGreatDoor
open Go.RowKit Go.Maps Go.WideMaps

def superI (s : Sb) : Int := match superD s with
  | none => 0
  | some a => a
def superB (s : Sb) : Bool := (superD s).isSome
set_option maxRecDepth 100000 in
set_option maxHeartbeats 4000000 in
theorem super_any (cs : List Value) (s : Sb) (w : World) (hs : SubAt w cs s) (hl : s.sups.length ≤ 1000000) : Calls Tryz.prog 57 #[.agg cs.toArray] w fun e w' => e = .returned (.tuple #[.int .i64 (superI s), .bool (superB s)]) ∧ Below w.heap.size w w' := by
  obtain ⟨vs, vp, vr, vf, rfl, k1, k2, k3, k4⟩ := hs.ex
  obtain ⟨a1, c1, rfl⟩ := RowAt.form k1
  obtain ⟨a2, c2, rfl⟩ := RowAt.form k2
  obtain ⟨a3, c3, rfl⟩ := RowAt.form k3
  obtain ⟨a4, c4, rfl⟩ := RowAt.form k4
  rcases hsp : s.sups with _ | ⟨h, r⟩
  · have e0 : superI s = 0 ∧ superB s = false := by simp [superI, superB, superD, hsp]
    rw [e0.1, e0.2]
    simp only [List.length_nil]
    clear k1 k2 k3 k4 hs e0 hsp hl
    go_enter Tryz.func57, Tryz.ntmps57
    go_wp2
    go_ret2
    exact ⟨rfl, (Below.refl _ _).alloc (Nat.le_refl _) _⟩
  · rw [← hsp]
    obtain ⟨n, hn⟩ : ∃ n, s.sups.length = n := ⟨_, rfl⟩
    have hn0 : 0 < n := by rw [← hn, hsp]; simp
    unfold HpsAt at k1
    rw [hn] at k1 hl ⊢
    obtain ⟨b, off, rfl, hb, _, hc⟩ := RowAt.at k1 (by decide) hn0
    have p0 : w.cell? ⟨b, off, none⟩ = some (.int .i64 h.k) := by have := hc 0 (by omega); rw [hsp] at this; simpa [flatH, cellsH] using this
    have p1 : w.cell? ⟨b, off + 1, none⟩ = some (.int .i64 h.n) := by have := hc 1 (by omega); rw [hsp] at this; simpa [flatH, cellsH] using this
    have hn' : (0 : Int) < n := by omega
    have hnz : ¬ (n : Int) = 0 := by omega
    have hnz' : ((n : Int) == 0) = false := by simpa using hnz
    by_cases hk : h.k = 13
    · have e0 : superI s = h.n ∧ superB s = true := by simp [superI, superB, superD, hsp, hk]
      rw [e0.1, e0.2]
      rw [hk] at p0
      clear k1 k2 k3 k4 hs e0 hsp hn hc hk
      go_enter Tryz.func57, Tryz.ntmps57
      go_wp2
      go_ret2
      exact ⟨rfl, (Below.refl _ _).alloc (Nat.le_refl _) _⟩
    · have e0 : superI s = -1 ∧ superB s = true := by simp [superI, superB, superD, hsp, hk]
      rw [e0.1, e0.2]
      have hk1 : (h.k == 13) = false := by simpa using hk
      have hk2 : (h.k != 13) = true := by simpa using hk
      clear k1 k2 k3 k4 hs e0 hsp hn hc
      go_enter Tryz.func57, Tryz.ntmps57
      go_wp2
      go_ret2
      exact ⟨rfl, (Below.refl _ _).alloc (Nat.le_refl _) _⟩
variable {w0 wE w : World} {S0 S R T : Nat → Prop} {t d : Nat} {dc : DcS} {vi vt vd : Value}
set_option maxRecDepth 100000 in
set_option maxHeartbeats 8000000 in
/-- stands: may a type's Super be one? -/
theorem dcStands_any (h : DcAt w0 S0 wE S R T w t d dc vi vt vd) (cs : List Value) (s : Sb) (hs : SubAt w cs s) (n : Nat) (hn : n ≤ dc.types.length) (hl : s.sups.length ≤ 1000000) (hn6 : n ≤ 100000) : Calls Tryz.prog 37 #[.pointer (some ⟨d, 0, none⟩), .agg cs.toArray, .int .i64 n] w fun e w' => e = .returned (.int .i64 (standsD dc.types s n)) ∧ Below w.heap.size w w' := by
  obtain ⟨vs, vp, vr, vf, rfl, k1, k2, k3, k4⟩ := hs.ex
  obtain ⟨a1, c1, rfl⟩ := RowAt.form k1
  obtain ⟨a2, c2, rfl⟩ := RowAt.form k2
  obtain ⟨a3, c3, rfl⟩ := RowAt.form k3
  obtain ⟨a4, c4, rfl⟩ := RowAt.form k4
  clear k1 k2 k3 k4
  obtain ⟨sl, hsl⟩ : ∃ sl, s.sups.length = sl := ⟨_, rfl⟩
  obtain ⟨W1, hW1⟩ : ∃ W1 : World, W1 = w.alloc (.cells #[.bool s.fin, .slice a1 s.sups.length c1, .int .i64 s.k, .slice a2 s.ps.length c2, .slice a3 s.rs.length c3, .slice a4 s.fs.length c4] 44) := ⟨_, rfl⟩
  have hb1 : Below w.heap.size w W1 := by rw [hW1]; exact (Below.refl _ _).alloc (Nat.le_refl _) _
  have z1 : W1.heap[w.heap.size]? = some (.cells #[.bool s.fin, .slice a1 s.sups.length c1, .int .i64 s.k, .slice a2 s.ps.length c2, .slice a3 s.rs.length c3, .slice a4 s.fs.length c4] 44 (0, 0)) := by rw [hW1]; exact heap_alloc_at _ _ rfl
  have C1 := super_any _ s W1 (hs.below hb1 (Nat.le_refl _)) hl
  rw [hsl] at C1 z1
  have C1 := Lib.hid C1
  have HB1 := Lib.hid hb1; have HSL := Lib.hid hsl; have HL := Lib.hid hl; have Z1 := Lib.hid z1; have H := Lib.hid h; have HN := Lib.hid hn
  rw [hsl] at hW1
  have HW1 := Lib.hid hW1
  rw [hsl]
  have hsl6 : (sl : Int) ≤ 1000000 := by omega
  clear hb1 hsl hl z1 h hs hW1 hn
  obtain ⟨r, hr⟩ : ∃ r, standsD dc.types s n = r := ⟨_, rfl⟩
  rw [hr]
  unfold standsD at hr
  by_cases hgt : 1 < s.sups.length
  · rw [if_pos hgt] at hr
    subst hr
    have hg1 : (1 : Int) < sl := by have := HSL.out; omega
    clear hgt
    go_enter Tryz.func37, Tryz.ntmps37
    go_wp2
    go_ret
    exact ⟨rfl, (Below.refl _ _).alloc (Nat.le_refl _) _⟩
  rw [if_neg hgt] at hr
  have hg1 : ¬ (1 : Int) < sl := by have := HSL.out; omega
  clear hgt
  cases hsd : superD s with
  | none =>
    rw [hsd] at hr
    have e1 : superI s = 0 := by unfold superI; rw [hsd]
    have e2 : superB s = false := by unfold superB; rw [hsd]; rfl
    rw [e1, e2] at C1
    dsimp only at hr
    subst hr
    clear hsd e1 e2
    go_enter Tryz.func37, Tryz.ntmps37
    go_wp2_with fail
    rw [← HW1.out]
    refine C1.out.mono ?_
    rintro e w2 ⟨rfl, hb2⟩
    have HB2 := Lib.hid hb2
    clear hb2
    go_wp2
    go_ret
    exact ⟨rfl, HB1.out.trans (HB2.out.mono HB1.out.size)⟩
  | some a =>
    rw [hsd] at hr
    have e1 : superI s = a := by unfold superI; rw [hsd]
    have e2 : superB s = true := by unfold superB; rw [hsd]; rfl
    rw [e1, e2] at C1
    dsimp only at hr
    clear hsd e1 e2
    go_enter Tryz.func37, Tryz.ntmps37
    go_wp2_with fail
    rw [← HW1.out]
    refine C1.out.mono ?_
    rintro e w2 ⟨rfl, hb2⟩
    have hbe : Below w.heap.size w w2 := HB1.out.trans (hb2.mono HB1.out.size)
    have q1 := (hb2.block _ (heap_lt Z1.out)).trans Z1.out
    have HBE := Lib.hid hbe; have HB2 := Lib.hid hb2; have Q1 := Lib.hid q1
    clear hb2 hbe q1
    by_cases ha : a < 0
    · rw [if_pos (.inl ha)] at hr
      subst hr
      have ha1 : decide (a < 0) = true := by simpa using ha
      go_wp2
      go_ret
      exact ⟨rfl, HBE.out⟩
    have ha1 : decide (a < 0) = false := by simpa using ha
    by_cases hna : (n : Int) ≤ a
    · rw [if_pos (.inr hna)] at hr
      subst hr
      have hna1 : decide (a ≥ (n : Int)) = true := by simpa using hna
      go_wp2
      go_ret
      exact ⟨rfl, HBE.out⟩
    rw [if_neg (by omega)] at hr
    obtain ⟨k, rfl⟩ : ∃ k : Nat, a = k := ⟨a.toNat, by omega⟩
    have hkn : k < n := by omega
    simp only [Int.toNat_natCast] at hr
    obtain ⟨u, hu⟩ : ∃ u, dc.types[k]? = some u := ⟨dc.types[k]'(by have := HN.out; omega), by simp⟩
    rw [hu] at hr
    dsimp only at hr
    have hdc := H.out.below HBE.out
    obtain ⟨tb, tc, d1, f1, d2, f2, d3, f3, d4, f4, rfl, gs, p0, p1, p2, p3, p4, p5⟩ := hdc.tys.at hdc.up hu
    have y2 := heap_cell hdc.box 2
    simp only [List.getElem?_toArray, List.getElem?_cons_succ, List.getElem?_cons_zero] at y2
    have x2 := heap_cell Q1.out 2
    simp only [List.getElem?_toArray, List.getElem?_cons_succ, List.getElem?_cons_zero] at x2
    have hkl : (k : Int) < dc.types.length := by have := HN.out; omega
    have hk6 : (k : Int) < 1000000 := by omega
    have hna1 : decide (n ≤ k) = false := by simpa using hkn
    have hna2 : ¬ (n : Int) ≤ k := hna
    have hna3 : decide ((n : Int) ≤ k) = false := by simpa using hna
    clear gs hdc p1 p3 p4 p5 hu hkn
    cases hfin : u.fin with
    | true =>
      rw [hfin] at hr p0
      rw [if_pos rfl] at hr
      subst hr
      clear hfin
      go_wp2
      go_ret
      exact ⟨rfl, HBE.out⟩
    | false =>
      rw [hfin] at hr p0
      rw [if_neg (by simp)] at hr
      clear hfin
      by_cases hk : u.k = s.k
      · rw [if_neg (by simpa using hk)] at hr
        subst hr
        rw [hk] at p2
        clear hk
        go_wp2
        go_quiet (fail)
        go_wp2
        go_ret
        exact ⟨rfl, ⟨HBE.out.os, HBE.out.tape, HBE.out.output, HBE.out.size, HBE.out.block⟩⟩
      · rw [if_pos hk] at hr
        subst hr
        have hk1 : (u.k != s.k) = true := by simpa using hk
        go_wp2
        go_quiet (fail)
        go_wp2
        go_ret
        exact ⟨rfl, ⟨HBE.out.os, HBE.out.tape, HBE.out.output, HBE.out.size, HBE.out.block⟩⟩
set_option maxRecDepth 100000 in
theorem dcNone_any {gs : List (List Sb)} (ht : TabAt S R w t gs) (hok : total gs ≤ 10000) : Calls Tryz.prog 18 #[.pointer (some ⟨t, 0, none⟩)] w fun e w' => e = .returned (.bool false) ∧ Below w.heap.size w w' := by
  have C0 := Lib.hid (get_out ht hok (-1) (by omega))
  clear ht hok
  go_enter Tryz.func18, Tryz.ntmps18
  go_wp2_with fail
  refine C0.out.mono ?_
  rintro e w1 ⟨rfl, hb1⟩
  have HB1 := Lib.hid hb1
  clear hb1
  go_wp2
  go_ret
  exact ⟨rfl, HB1.out.alloc HB1.out.size _⟩
end Go.Proofs.YtkgmfbfpmlnfcaaGreatDoor

/- package match, climbs: what stands between two rounds (no program in sight). -/
namespace Go.Proofs.YtkgmfbfpmlnfcaaGreatDoor
open Go.RowKit

theorem nodup_le {Z : List Nat} (h : Z.Nodup) {n : Nat} (hl : ∀ z ∈ Z, z < n) : Z.length ≤ n := by
  induction n generalizing Z with
  | zero =>
    cases Z with
    | nil => exact Nat.le_refl _
    | cons z Z => have := hl z (by simp); omega
  | succ n ih =>
    have h1 := ih (Z := Z.erase n) (h.erase n) (fun z hz => by
      have h2 := (h.mem_erase_iff).1 hz
      have := hl z h2.2
      have := h2.1
      omega)
    have h2 := List.length_erase (a := n) (l := Z)
    split at h2 <;> omega
/-- T: what is still to be looked at, Z: what was met, at: what is being looked at, of whose Supers the first i were met. -/
structure ClP (ts : List Sb) (b : Hp) (id : Nat) (T Z : List Nat) (at? : Option Nat) : Prop where
  has : id ∈ Z
  sub : ∀ x ∈ T, x ∈ Z
  up : ∀ z ∈ Z, UpTo ts id z
  nodup : Z.Nodup
  lt : ∀ z ∈ Z, z < ts.length
  tl : T.length ≤ Z.length
  done : ∀ z ∈ Z, z ∉ T → some z ≠ at? → ¬ Hits ts b z ∧ ∀ s, ts[z]? = some s → ∀ h ∈ s.sups, ∀ k : Nat, h.n = (k : Int) → k ∈ Z
variable {ts : List Sb} {b : Hp} {id : Nat} {T Z : List Nat}
theorem ClP.start (h : id < ts.length) : ClP ts b id [id] [id] none :=
  ⟨by simp, by simp, fun z hz => by simp at hz; subst hz; exact .refl, by simp, fun z hz => by simp at hz; omega, by simp, fun z hz hn => absurd hz hn⟩
theorem ClP.len (h : ClP ts b id T Z none) : Z.length ≤ ts.length := nodup_le h.nodup h.lt
theorem ClP.len' {a : Option Nat} (h : ClP ts b id T Z a) : Z.length ≤ ts.length := nodup_le h.nodup h.lt
theorem ClP.pop {z : Nat} (h : ClP ts b id (T ++ [z]) Z none) : ClP ts b id T Z (some z) :=
  ⟨h.has, fun x hx => h.sub x (by simp [hx]), h.up, h.nodup, h.lt, by have := h.tl; simp at this; omega, fun y hy hn hne => h.done y hy (fun hm => by
    simp at hm
    rcases hm with hm | hm
    · exact hn hm
    · exact hne (by rw [hm])) (by simp)⟩
theorem ClP.push {z k : Nat} {s : Sb} {h' : Hp} (h : ClP ts b id T Z (some z)) (hz : z ∈ Z) (hs : ts[z]? = some s) (hh : h' ∈ s.sups) (hk : h'.n = (k : Int)) (hc : Clo ts) (hn : k ∉ Z) : ClP ts b id (T ++ [k]) (Z ++ [k]) (some z) := by
  have hu : UpTo ts id k := (h.up z hz).step hs hh hk
  have hl : k < ts.length := UpTo.lt hc (h.lt id h.has) hu
  refine ⟨by simp [h.has], fun x hx => ?_, fun x hx => ?_, ?_, fun x hx => ?_, by have := h.tl; simp; omega, fun x hx hm hne => ?_⟩
  · simp at hx ⊢
    exact hx.imp (h.sub x) (fun e => e)
  · simp at hx
    rcases hx with hx | rfl
    · exact h.up x hx
    · exact hu
  · rw [List.nodup_append]
    exact ⟨h.nodup, by simp, fun a ha c hc e => by simp at hc; subst hc; subst e; exact hn ha⟩
  · simp at hx
    rcases hx with hx | rfl
    · exact h.lt x hx
    · exact hl
  · simp at hx hm
    rcases hx with hx | rfl
    · obtain ⟨h1, h2⟩ := h.done x hx hm.1 hne
      exact ⟨h1, fun s' hs' y hy k' hk' => by simp; exact .inl (h2 s' hs' y hy k' hk')⟩
    · exact absurd rfl hm.2
theorem ClP.close {z : Nat} {s : Sb} (h : ClP ts b id T Z (some z)) (hs : ts[z]? = some s) (hno : ¬ Hits ts b z) (hall : ∀ y ∈ s.sups, ∀ k : Nat, y.n = (k : Int) → k ∈ Z) : ClP ts b id T Z none :=
  ⟨h.has, h.sub, h.up, h.nodup, h.lt, h.tl, fun y hy hn _ => by
    by_cases e : y = z
    · subst e
      exact ⟨hno, fun s' hs' => by rw [hs] at hs'; obtain rfl := Option.some.inj hs'; exact hall⟩
    · exact h.done y hy hn (fun e' => e (Option.some.inj e'))⟩
theorem ClP.none (h : ClP ts b id [] Z none) : ¬ ClimbP ts id b := by
  rintro ⟨j, hj, hh⟩
  have hz : j ∈ Z := up_in (Z := fun z => z ∈ Z) h.has (fun j k s y hj hs hy hk => (h.done j hj (by simp) (by simp)).2 s hs y hy k hk) hj
  exact (h.done j hz (by simp) (by simp)).1 hh
end Go.Proofs.YtkgmfbfpmlnfcaaGreatDoor
