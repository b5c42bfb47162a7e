/- geodelaw09: box, ints, known. -/
import Derived.Test.YtoamhiaagaaaaaaGreatDoorQKdEqualP
namespace Go.Proofs.YtoamhiaagaaaaaaGreatDoor
open Go.RowKit Go.Maps Go.WideMaps

theorem addG_ok {gs : List (List Sb)} {ids : List Int} {g : List Sb} (hok : TabOk gs) (hl : ids.length ≤ 100000) (hr : RawG g) : TabOk (addG gs ids g).2.2 := by
  unfold addG
  split
  · exact hok
  · rename_i h1
    split
    · exact hok
    · rename_i h2
      split
      · exact hok
      · split
        · exact hok
        · refine enterG_ok hok (rollG_good (fun i hi => ?_) (by omega) hr (fun x hx => ?_))
          · have h := h2
            simp only [Decidable.not_not, List.all_eq_true] at h
            have := h i hi
            have ht := hok.total
            simp [inTab] at this; omega
          · have h := h1
            simp only [Decidable.not_not, List.all_eq_true] at h
            exact h x hx
/-- A table that was made since w0. -/
structure TabN (w0 : World) (S R : Nat → Prop) (w : World) (t : Nat) (gs : List (List Sb)) : Prop where
  tab : TabAt S R w t gs
  ok : TabOk gs
  base : ∀ k, S k → w0.heap.size ≤ k
  be : Below w0.heap.size w0 w
theorem TabN.below {w0 w w' : World} {S R : Nat → Prop} {t : Nat} {gs : List (List Sb)} (h : TabN w0 S R w t gs) (hb : Below w.heap.size w w') : TabN w0 S R w' t gs :=
  ⟨h.tab.below hb, h.ok, h.base, h.be.trans (hb.mono h.be.size)⟩
def AddN2 (w0 : World) (S R : Nat → Prop) (w : World) (t : Nat) (A : List Int × Int × List (List Sb)) (e : Ending) (w' : World) : Prop :=
  ∃ u S' R', e = .returned (.tuple #[u, .int .i64 A.2.1]) ∧ TabN w0 S' R' w' t A.2.2 ∧ (∀ w'', Upd (fun b => S' b ∨ b < w.heap.size) w' w'' → IntsAt w'' u A.1) ∧ Upd S w w' ∧ Fresh S w S' ∧ Fresh R w R'
theorem add_n2 {w0 : World} {S R : Nat → Prop} {w : World} {t : Nat} {v1 v2 : Value} {gs : List (List Sb)} {ids : List Int} {g : List Sb} (ht : TabN w0 S R w t gs) (h1 : ∀ w', Upd S w w' → IntsAt w' v1 ids) (hl : ids.length ≤ 100000) (h2 : GrpAt w v2 g) (hr : RawG g) (htab : Tab w0) :
    Calls Tryz.prog 9 #[.pointer (some ⟨t, 0, none⟩), v1, v2] w (AddN2 w0 S R w t (addG gs ids g)) := by
  refine (add_any2 S R w t v1 v2 gs ids g ht.tab ht.ok h1 hl h2 hr (htab.on ht.be)).mono ?_
  rintro e w' ⟨u, S', R', he, h3, h4, h5, h6, h7⟩
  have hs := ht.be.size
  exact ⟨u, S', R', he, ⟨h3, addG_ok ht.ok hl hr, fun k hk => (h6 k hk).elim (ht.base k) (fun h => by omega), ht.be.trans (h5.below ht.base hs)⟩, h4, h5, h6, h7⟩
def AddN (w0 : World) (S R : Nat → Prop) (w : World) (t : Nat) (A : List Int × Int × List (List Sb)) (e : Ending) (w' : World) : Prop :=
  ∃ u S' R', e = .returned (.tuple #[u, .int .i64 A.2.1]) ∧ TabN w0 S' R' w' t A.2.2 ∧ (∀ w'', Upd S' w' w'' → IntsAt w'' u A.1) ∧ Upd S w w' ∧ Fresh S w S' ∧ Fresh R w R'
theorem add_n {w0 : World} {S R : Nat → Prop} {w : World} {t : Nat} {v1 v2 : Value} {gs : List (List Sb)} {ids : List Int} {g : List Sb} (ht : TabN w0 S R w t gs) (h1 : ∀ w', Upd S w w' → IntsAt w' v1 ids) (hl : ids.length ≤ 100000) (h2 : GrpAt w v2 g) (hr : RawG g) (htab : Tab w0) :
    Calls Tryz.prog 9 #[.pointer (some ⟨t, 0, none⟩), v1, v2] w (AddN w0 S R w t (addG gs ids g)) := by
  refine (add_any S R w t v1 v2 gs ids g ht.tab ht.ok h1 hl h2 hr (htab.on ht.be)).mono ?_
  rintro e w' ⟨u, S', R', he, h3, h4, h5, h6, h7⟩
  have hs := ht.be.size
  exact ⟨u, S', R', he, ⟨h3, addG_ok ht.ok hl hr, fun k hk => (h6 k hk).elim (ht.base k) (fun h => by omega), ht.be.trans (h5.below ht.base hs)⟩, h4, h5, h6, h7⟩
def bx (n : Int) : Sb := ⟨false, [], 2, [], [], [⟨0, ⟨3, true, 13, n⟩, false⟩]⟩
set_option maxRecDepth 100000 in
theorem box_any (n : Int) (w : World) : Calls Tryz.prog 15 #[.int .i64 n] w fun e w' => ∃ a4 c4, e = .returned (.agg #[.bool false, .slice none 0 0, .int .i64 2, .slice none 0 0, .slice none 0 0, .slice a4 1 c4]) ∧ SubAt w' [.bool false, .slice none 0 0, .int .i64 2, .slice none 0 0, .slice none 0 0, .slice a4 1 c4] (bx n) ∧ Below w.heap.size w w' := by
  go_enter Tryz.func15, Tryz.ntmps15
  go_wp2
  refine bodyPost_ret (v := .agg #[.bool false, .slice none 0 0, .int .i64 2, .slice none 0 0, .slice none 0 0, .slice (some ⟨w.heap.size + 1, 0, none⟩) 1 1]) (by simp [results, Tryz.results15, go_sem]) rfl ?_
  generalize hW : World.alloc _ _ = W1
  have hb : Below w.heap.size w W1 := by rw [← hW]; exact ((Below.refl _ _).alloc (Nat.le_refl _) _).alloc (by simp) _
  have z1 : W1.heap[w.heap.size + 1]? = some (.cells #[.int .i64 0, .int .i64 3, .bool true, .int .i64 13, .int .i64 n, .bool false] 107 (0, 0)) := by rw [← hW]; exact heap_alloc_at _ _ (by simp)
  refine ⟨_, _, rfl, ⟨_, _, _, _, rfl, RowAt.nil _ _, RowAt.nil _ _, RowAt.nil _ _, ⟨rfl, .inr ⟨_, 1, rfl, Nat.le_refl _, fun j u hj => ?_⟩⟩⟩, hb⟩
  rw [Addr.add_lit, Nat.zero_add, heap_cell z1]
  simpa [bx, flatF, cellsF] using hj
set_option maxRecDepth 100000 in
set_option maxHeartbeats 4000000 in
theorem ints_any (a b : Value) (l m : List Int) (w : World) (ha : IntsAt w a l) (hb : IntsAt w b m) (hl : l.length ≤ 1000000) (_ : m.length ≤ 1000000) :
    Calls Tryz.prog 11 #[a, b] w fun e w' => e = .returned (.bool (decide (l = m))) ∧ ∃ n, w' = w.drewN n := by
  obtain ⟨ao, ca, rfl⟩ := RowAt.form ha
  obtain ⟨bo, cb, rfl⟩ := RowAt.form hb
  by_cases hlen : l.length = m.length
  · obtain ⟨n, hn⟩ : ∃ n, l.length = n := ⟨_, rfl⟩
    have hn2 : m.length = n := by rw [← hlen]; exact hn
    have HA := Lib.hid ha; have HB := Lib.hid hb; have HN := Lib.hid hn; have HN2 := Lib.hid hn2
    rw [hn] at hl
    rw [hn, hn2]
    have HL := Lib.hid hl
    clear ha hb hlen hn hn2 hl
    go_enter Tryz.func11, Tryz.ntmps11
    go_wp2
    go_loopw [5] (fun t5 wr => ∃ i : Nat, i ≤ n ∧ t5 = .int .i64 i ∧ l.take i = m.take i ∧ ∃ k, wr = w.drewN k) (fun t5 _ => n - (intOf t5).toNat)
    case atStart => exact ⟨0, by omega, rfl, rfl, 0, rfl⟩
    case round =>
      obtain ⟨i, hi, rfl, htk, nd, rfl⟩ := hrel
      have HT := Lib.hid htk
      clear htk
      by_cases hlt : i < n
      · obtain ⟨x, hx⟩ : ∃ x, l[i]? = some x := ⟨l[i]'(by rw [HN.out]; exact hlt), by simp⟩
        obtain ⟨y, hy⟩ : ∃ y, m[i]? = some y := ⟨m[i]'(by rw [HN2.out]; exact hlt), by simp⟩
        obtain ⟨b1, o1, e1, _, p0⟩ := IntsAt.at HA.out hx
        obtain ⟨b2, o2, e2, _, q0⟩ := IntsAt.at HB.out hy
        subst e1 e2
        have HX := Lib.hid hx; have HY := Lib.hid hy; have HI := Lib.hid hlt
        have hlt' : (i : Int) < n := by omega
        have hi6 : (i : Int) < 1000000 := by have := HL.out; omega
        clear hx hy hlt hi
        by_cases e0 : x = y
        · subst e0
          have HX2 := Lib.hid (take_eq HX.out HY.out HT.out)
          go_wp2
          go_quiet (fail)
          go_wp2
          go_roundw
          case rel => exact ⟨i + 1, HI.out, by go_num, HX2.out, _, rfl⟩
          case measure => have := HI.out; simp [intOf]; omega
        · have NE := Lib.hid (get_ne HX.out HY.out e0)
          have e1 : (x != y) = true := by simpa using e0
          clear e0
          go_wp2
          go_quiet (fail)
          go_wp2
          go_ret
          exact ⟨retd (decide_eq_false NE.out), _, drewN_drewN _ _ _⟩
      · obtain rfl : i = n := by omega
        have hlt' : ¬ (i : Int) < i := by omega
        have hlm : l = m := by have := HT.out; rw [List.take_of_length_le (by rw [HN.out]; exact Nat.le_refl _), List.take_of_length_le (by rw [HN2.out]; exact Nat.le_refl _)] at this; exact this
        have EQ := Lib.hid hlm
        clear hlm hlt hi
        go_wp2
        go_ret
        exact ⟨retd (decide_eq_true EQ.out), _, rfl⟩
  · have hne : l ≠ m := fun e => hlen (by rw [e])
    have NE := Lib.hid hne
    have h2 : ((l.length : Int) == m.length) = false := by simp; omega
    have h3 : ¬ ((l.length : Int) = m.length) := by omega
    clear ha hb hne hlen
    go_enter Tryz.func11, Tryz.ntmps11
    go_wp2
    go_ret
    exact ⟨retd (decide_eq_false NE.out), 0, rfl⟩
theorem grp_of {W : World} {q : Nat} {css : List (List Value)} {g : List Sb} (h : W.heap[q]? = some (.cells css.flatten.toArray 48 (0, 0))) (hl : css.length = g.length) (h6 : ∀ c ∈ css, c.length = 6) (hs : ∀ (i : Nat) c x, css[i]? = some c → g[i]? = some x → SubAt W c x) (n c : Nat) (hn : n = g.length) (hc : n ≤ c) : GrpAt W (.slice (some ⟨q, 0, none⟩) n c) g := by
  subst hn
  have hfl : ∀ css : List (List Value), (∀ c ∈ css, c.length = 6) → css.flatten.length = css.length * 6 := by
    intro css
    induction css with
    | nil => intro _; rfl
    | cons c cs ih => intro h; rw [List.flatten_cons, List.length_append, ih (fun x hx => h x (by simp [hx])), h c (by simp), List.length_cons]; omega
  refine ⟨css, hl, h6, ⟨by rw [hfl css h6, hl], .inr ⟨_, c, rfl, hc, fun j u hj => ?_⟩⟩, hs⟩
  rw [Addr.add_lit, Nat.zero_add, heap_cell h]
  simpa using hj
theorem bx_raw1 (n : Int) (h : 0 ≤ n ∧ n ≤ 100) : RawG [bx n] :=
  ⟨by simp, fun x hx => by
    simp at hx; subst hx
    exact ⟨by simp [bx], by simp [bx], by simp [bx], fun f hf => by simp [bx] at hf; subst hf; unfold B64; dsimp only; omega, ⟨by simp [bx], by simp [bx], by simp [bx], by simp [bx]⟩⟩, fun x hx => by simp at hx; subst hx; simp [cnt, bx]⟩
theorem raw_app {g h : List Sb} (a : RawG g) (b : RawG h) (hl : (g ++ h).length ≤ 1000) : RawG (g ++ h) :=
  ⟨hl, fun x hx => (List.mem_append.1 hx).elim (a.fits x) (b.fits x), fun x hx => (List.mem_append.1 hx).elim (a.cnt x) (b.cnt x)⟩
def gsK1 : List (List Sb) := (addG [] [] [bx 0]).2.2
def gsK3 : List (List Sb) := (addG gsK1 [0, 0] [bx 2, bx 3]).2.2
theorem add1 : addG [] [] [bx 0] = ([0], 0, gsK1) := by decide +kernel
theorem add2 : addG gsK1 [0] [bx 1] = ([0, 0], 0, gsK1) := by decide +kernel
theorem add3 : addG gsK1 [0, 0] [bx 2, bx 3] = ([0, 0, 1, 2], 0, gsK3) := by decide +kernel
theorem add4 : addG gsK3 [] [bx 1] = ([], 2, gsK3) := by decide +kernel
theorem totK3 : total gsK3 = 3 := by decide +kernel
end Go.Proofs.YtoamhiaagaaaaaaGreatDoor

/- geodelaw09: known. -/
namespace Go.Proofs.YtoamhiaagaaaaaaGreatDoor
open Go.RowKit Go.Maps Go.WideMaps

theorem TabN.ids {w0 : World} {S R S' : Nat → Prop} {w w' : World} {t : Nat} {gs : List (List Sb)} {u : Value} {l : List Int} (_ : TabN w0 S R w t gs) (h : ∀ w'', Upd S w w'' → IntsAt w'' u l) (hu : Upd S w w') (hf : Fresh S w S') : ∀ w'', Upd S' w' w'' → IntsAt w'' u l := fun w'' k => h w'' (hu.trans hf k)
def bxC (_ : Int) (a4 : Option Addr) (c4 : Nat) : List Value := [.bool false, .slice none 0 0, .int .i64 2, .slice none 0 0, .slice none 0 0, .slice a4 1 c4]
theorem intsAt_new {W : World} {q : Nat} {l : List Int} (h : W.heap[q]? = some (.cells (l.map (Value.int .i64)).toArray 3 (0, 0))) (n : Nat) (hn : n = l.length) : IntsAt W (.slice (some ⟨q, 0, none⟩) n n) l := by
  subst hn
  refine ⟨by simp, .inr ⟨_, l.length, rfl, Nat.le_refl _, fun j u hj => ?_⟩⟩
  rw [Addr.add_lit, Nat.zero_add, heap_cell h]
  simpa using hj
set_option maxRecDepth 100000 in
set_option maxHeartbeats 16000000 in
theorem known_any (w : World) (htab : Tab w) : Calls Tryz.prog 7 #[] w fun e w' => e = .returned (.bool true) ∧ Below w.heap.size w w' := by
  have HTAB := Lib.hid htab
  clear htab
  go_enter Tryz.func7, Tryz.ntmps7
  go_wp2_with fail
  refine (new_any w).mono ?_
  rintro e w1 ⟨t, S0, rfl, hta, hba, hbe⟩
  have HT0 := Lib.hid (⟨hta, ⟨by simp, by simp, by simp, by simp [total]⟩, hba, hbe⟩ : TabN w S0 (fun _ => False) w1 t [])
  have HI0 := Lib.hid (fun w' (_ : Upd S0 w1 w') => (RowAt.nil w' 1 : IntsAt w' (.slice none 0 0) []))
  clear hta hba hbe
  go_wp2_with fail
  refine (box_any 0 w1).mono ?_
  rintro e x10 ⟨a10, c10, rfl, sb10, hx10⟩
  have SB10 := Lib.hid sb10; have HX10 := Lib.hid hx10
  clear sb10 hx10
  have hbA1 : Below w1.heap.size w1 (x10.alloc (.cells #[.bool false, .slice none 0 0, .int .i64 2, .slice none 0 0, .slice none 0 0, .slice a10 1 c10] 48)) := HX10.out.alloc HX10.out.size _
  have hg1 : GrpAt (x10.alloc (.cells #[.bool false, .slice none 0 0, .int .i64 2, .slice none 0 0, .slice none 0 0, .slice a10 1 c10] 48)) (.slice (some ⟨x10.heap.size, 0, none⟩) 1 1) [bx 0] := by
    refine grp_of (css := [[.bool false, .slice none 0 0, .int .i64 2, .slice none 0 0, .slice none 0 0, .slice a10 1 c10]]) (heap_alloc_at _ _ rfl) rfl (by simp) (fun j c x hc hx => ?_) 1 1 rfl (Nat.le_refl _)
    have h0 : j = 0 := by have := (List.getElem?_eq_some_iff.1 hc).1; simp at this; omega
    subst h0; simp at hc hx; subst hc hx; exact (SB10.out.below ((Below.refl _ _).alloc (Nat.le_refl _) _) (Nat.le_refl _))
  have C1 := add_n (HT0.out.below hbA1) (fun w' hu => HI0.out w' ((Upd.of_below hbA1 : Upd S0 _ _).trans' hu)) (ids := []) (by simp) hg1 (bx_raw1 0 (by omega)) HTAB.out
  rw [add1] at C1
  have HC1 := Lib.hid C1; have HBA1 := Lib.hid hbA1
  clear C1 hg1 hbA1
  go_wp2_with fail
  refine HC1.out.mono ?_
  rintro e w2 ⟨u1, S1, R1, rfl, ht1, hi1, hu1, hf1, _⟩
  have HT1 := Lib.hid ht1; have HI1 := Lib.hid hi1
  have hua1 : Upd S0 w1 w2 := (Upd.of_below HBA1.out : Upd S0 _ _).trans' hu1
  have hfa1 : Fresh S0 w1 S1 := fun k hk => (hf1 k hk).imp id (fun h => Nat.le_trans HBA1.out.size h)
  have HUA1 := Lib.hid hua1; have HFA1 := Lib.hid hfa1
  clear ht1 hi1 hu1 hf1 hua1 hfa1
  go_wp2_with fail
  refine (box_any 1 w2).mono ?_
  rintro e x20 ⟨a20, c20, rfl, sb20, hx20⟩
  have SB20 := Lib.hid sb20; have HX20 := Lib.hid hx20
  clear sb20 hx20
  have hbA2 : Below w2.heap.size w2 (x20.alloc (.cells #[.bool false, .slice none 0 0, .int .i64 2, .slice none 0 0, .slice none 0 0, .slice a20 1 c20] 48)) := HX20.out.alloc HX20.out.size _
  have hg2 : GrpAt (x20.alloc (.cells #[.bool false, .slice none 0 0, .int .i64 2, .slice none 0 0, .slice none 0 0, .slice a20 1 c20] 48)) (.slice (some ⟨x20.heap.size, 0, none⟩) 1 1) [bx 1] := by
    refine grp_of (css := [[.bool false, .slice none 0 0, .int .i64 2, .slice none 0 0, .slice none 0 0, .slice a20 1 c20]]) (heap_alloc_at _ _ rfl) rfl (by simp) (fun j c x hc hx => ?_) 1 1 rfl (Nat.le_refl _)
    have h0 : j = 0 := by have := (List.getElem?_eq_some_iff.1 hc).1; simp at this; omega
    subst h0; simp at hc hx; subst hc hx; exact (SB20.out.below ((Below.refl _ _).alloc (Nat.le_refl _) _) (Nat.le_refl _))
  have C2 := add_n (HT1.out.below hbA2) (fun w' hu => HI1.out w' ((Upd.of_below hbA2 : Upd S1 _ _).trans' hu)) (ids := [0]) (by simp) hg2 (bx_raw1 1 (by omega)) HTAB.out
  rw [add2] at C2
  have HC2 := Lib.hid C2; have HBA2 := Lib.hid hbA2
  clear C2 hg2 hbA2
  go_wp2_with fail
  refine HC2.out.mono ?_
  rintro e w3 ⟨u2, S2, R2, rfl, ht2, hi2, hu2, hf2, _⟩
  have HT2 := Lib.hid ht2; have HI2 := Lib.hid hi2
  have hua2 : Upd S1 w2 w3 := (Upd.of_below HBA2.out : Upd S1 _ _).trans' hu2
  have hfa2 : Fresh S1 w2 S2 := fun k hk => (hf2 k hk).imp id (fun h => Nat.le_trans HBA2.out.size h)
  have HUA2 := Lib.hid hua2; have HFA2 := Lib.hid hfa2
  clear ht2 hi2 hu2 hf2 hua2 hfa2
  go_wp2_with fail
  refine (box_any 2 w3).mono ?_
  rintro e x30 ⟨a30, c30, rfl, sb30, hx30⟩
  have SB30 := Lib.hid sb30; have HX30 := Lib.hid hx30
  clear sb30 hx30
  go_wp2_with fail
  refine (box_any 3 x30).mono ?_
  rintro e x31 ⟨a31, c31, rfl, sb31, hx31⟩
  have SB31 := Lib.hid sb31; have HX31 := Lib.hid hx31
  clear sb31 hx31
  have hbA3 : Below w3.heap.size w3 (x31.alloc (.cells #[.bool false, .slice none 0 0, .int .i64 2, .slice none 0 0, .slice none 0 0, .slice a30 1 c30, .bool false, .slice none 0 0, .int .i64 2, .slice none 0 0, .slice none 0 0, .slice a31 1 c31] 48)) := (HX30.out.trans (HX31.out.mono HX30.out.size)).alloc (HX30.out.trans (HX31.out.mono HX30.out.size)).size _
  have hg3 : GrpAt (x31.alloc (.cells #[.bool false, .slice none 0 0, .int .i64 2, .slice none 0 0, .slice none 0 0, .slice a30 1 c30, .bool false, .slice none 0 0, .int .i64 2, .slice none 0 0, .slice none 0 0, .slice a31 1 c31] 48)) (.slice (some ⟨x31.heap.size, 0, none⟩) 2 2) [bx 2, bx 3] := by
    refine grp_of (css := [[.bool false, .slice none 0 0, .int .i64 2, .slice none 0 0, .slice none 0 0, .slice a30 1 c30], [.bool false, .slice none 0 0, .int .i64 2, .slice none 0 0, .slice none 0 0, .slice a31 1 c31]]) (heap_alloc_at _ _ rfl) rfl (by simp) (fun j c x hc hx => ?_) 2 2 rfl (Nat.le_refl _)
    have h0 : j = 0 ∨ j = 1 := by have := (List.getElem?_eq_some_iff.1 hc).1; simp at this; omega
    rcases h0 with rfl | rfl
    · simp at hc hx; subst hc hx; exact ((SB30.out.below HX31.out (Nat.le_refl _)).below ((Below.refl _ _).alloc (Nat.le_refl _) _) (Nat.le_refl _))
    · simp at hc hx; subst hc hx; exact (SB31.out.below ((Below.refl _ _).alloc (Nat.le_refl _) _) (Nat.le_refl _))
  have C3 := add_n (HT2.out.below hbA3) (fun w' hu => HI2.out w' ((Upd.of_below hbA3 : Upd S2 _ _).trans' hu)) (ids := [0, 0]) (by simp) hg3 (raw_app (bx_raw1 2 (by omega)) (bx_raw1 3 (by omega)) (by simp)) HTAB.out
  rw [add3] at C3
  have HC3 := Lib.hid C3; have HBA3 := Lib.hid hbA3
  clear C3 hg3 hbA3
  go_wp2_with fail
  refine HC3.out.mono ?_
  rintro e w4 ⟨u3, S3, R3, rfl, ht3, hi3, hu3, hf3, _⟩
  have HT3 := Lib.hid ht3; have HI3 := Lib.hid hi3
  have hua3 : Upd S2 w3 w4 := (Upd.of_below HBA3.out : Upd S2 _ _).trans' hu3
  have hfa3 : Fresh S2 w3 S3 := fun k hk => (hf3 k hk).imp id (fun h => Nat.le_trans HBA3.out.size h)
  have HUA3 := Lib.hid hua3; have HFA3 := Lib.hid hfa3
  clear ht3 hi3 hu3 hf3 hua3 hfa3
  go_wp2_with fail
  refine (box_any 1 w4).mono ?_
  rintro e x40 ⟨a40, c40, rfl, sb40, hx40⟩
  have SB40 := Lib.hid sb40; have HX40 := Lib.hid hx40
  clear sb40 hx40
  have hbA4 : Below w4.heap.size w4 (x40.alloc (.cells #[.bool false, .slice none 0 0, .int .i64 2, .slice none 0 0, .slice none 0 0, .slice a40 1 c40] 48)) := HX40.out.alloc HX40.out.size _
  have hg4 : GrpAt (x40.alloc (.cells #[.bool false, .slice none 0 0, .int .i64 2, .slice none 0 0, .slice none 0 0, .slice a40 1 c40] 48)) (.slice (some ⟨x40.heap.size, 0, none⟩) 1 1) [bx 1] := by
    refine grp_of (css := [[.bool false, .slice none 0 0, .int .i64 2, .slice none 0 0, .slice none 0 0, .slice a40 1 c40]]) (heap_alloc_at _ _ rfl) rfl (by simp) (fun j c x hc hx => ?_) 1 1 rfl (Nat.le_refl _)
    have h0 : j = 0 := by have := (List.getElem?_eq_some_iff.1 hc).1; simp at this; omega
    subst h0; simp at hc hx; subst hc hx; exact (SB40.out.below ((Below.refl _ _).alloc (Nat.le_refl _) _) (Nat.le_refl _))
  have C4 := add_n (HT3.out.below hbA4) (fun w' hu => (fun w' (_ : Upd S3 _ w') => (RowAt.nil w' 1 : IntsAt w' (.slice none 0 0) [])) w' ((Upd.of_below hbA4 : Upd S3 _ _).trans' hu)) (ids := []) (by simp) hg4 (bx_raw1 1 (by omega)) HTAB.out
  rw [add4] at C4
  have HC4 := Lib.hid C4; have HBA4 := Lib.hid hbA4
  clear C4 hg4 hbA4
  go_wp2_with fail
  refine HC4.out.mono ?_
  rintro e w5 ⟨u4, S4, R4, rfl, ht4, hi4, hu4, hf4, _⟩
  have HT4 := Lib.hid ht4; have HI4 := Lib.hid hi4
  have hua4 : Upd S3 w4 w5 := (Upd.of_below HBA4.out : Upd S3 _ _).trans' hu4
  have hfa4 : Fresh S3 w4 S4 := fun k hk => (hf4 k hk).imp id (fun h => Nat.le_trans HBA4.out.size h)
  have HUA4 := Lib.hid hua4; have HFA4 := Lib.hid hfa4
  clear ht4 hi4 hu4 hf4 hua4 hfa4
  have i1 := HI1.out; have i2 := HI2.out; have i3 := HI3.out
  have j1 : ∀ w'', Upd S4 w5 w'' → IntsAt w'' u1 [0] := fun w'' k => i1 w'' (HUA2.out.trans HFA2.out (HUA3.out.trans HFA3.out (HUA4.out.trans HFA4.out k)))
  have j2 : ∀ w'', Upd S4 w5 w'' → IntsAt w'' u2 [0, 0] := fun w'' k => i2 w'' (HUA3.out.trans HFA3.out (HUA4.out.trans HFA4.out k))
  have j3 : ∀ w'', Upd S4 w5 w'' → IntsAt w'' u3 [0, 0, 1, 2] := fun w'' k => i3 w'' (HUA4.out.trans HFA4.out k)
  have J1 := Lib.hid j1; have J2 := Lib.hid j2; have J3 := Lib.hid j3
  clear i1 i2 i3 j1 j2 j3
  have K1 := ints_any u1 (.slice (some ⟨w5.heap.size, 0, none⟩) 1 1) [0] [0] (w5.alloc (.cells #[.int .i64 0] 3)) (J1.out _ (Upd.of_below ((Below.refl w5.heap.size w5).alloc (Below.refl w5.heap.size w5).size _))) (intsAt_new (l := [0]) (heap_alloc_at _ _ rfl) 1 rfl) (by simp) (by simp)
  rw [decide_eq_true rfl] at K1
  have HK1 := Lib.hid K1
  clear K1
  go_wp2_with fail
  refine HK1.out.mono ?_
  rintro e y1 ⟨rfl, n1, hy1⟩
  have by1 : Below w5.heap.size w5 y1 := by
    have h := (Below.refl w5.heap.size w5).alloc (Below.refl w5.heap.size w5).size (.cells #[.int .i64 0] 3)
    rw [hy1]; exact ⟨h.os, h.tape, h.output, h.size, h.block⟩
  have BY1 := Lib.hid by1
  clear by1 hy1
  have K2 := ints_any u2 (.slice (some ⟨y1.heap.size, 0, none⟩) 2 2) [0, 0] [0, 0] (y1.alloc (.cells #[.int .i64 0, .int .i64 0] 3)) (J2.out _ (Upd.of_below (BY1.out.alloc BY1.out.size _))) (intsAt_new (l := [0, 0]) (heap_alloc_at _ _ rfl) 2 rfl) (by simp) (by simp)
  rw [decide_eq_true rfl] at K2
  have HK2 := Lib.hid K2
  clear K2
  go_wp2_with fail
  refine HK2.out.mono ?_
  rintro e y2 ⟨rfl, n2, hy2⟩
  have by2 : Below w5.heap.size w5 y2 := by
    have h := BY1.out.alloc BY1.out.size (.cells #[.int .i64 0, .int .i64 0] 3)
    rw [hy2]; exact ⟨h.os, h.tape, h.output, h.size, h.block⟩
  have BY2 := Lib.hid by2
  clear by2 hy2
  have K3 := ints_any u3 (.slice (some ⟨y2.heap.size, 0, none⟩) 4 4) [0, 0, 1, 2] [0, 0, 1, 2] (y2.alloc (.cells #[.int .i64 0, .int .i64 0, .int .i64 1, .int .i64 2] 3)) (J3.out _ (Upd.of_below (BY2.out.alloc BY2.out.size _))) (intsAt_new (l := [0, 0, 1, 2]) (heap_alloc_at _ _ rfl) 4 rfl) (by simp) (by simp)
  rw [decide_eq_true rfl] at K3
  have HK3 := Lib.hid K3
  clear K3
  go_wp2_with fail
  refine HK3.out.mono ?_
  rintro e y3 ⟨rfl, n3, hy3⟩
  have by3 : Below w5.heap.size w5 y3 := by
    have h := BY2.out.alloc BY2.out.size (.cells #[.int .i64 0, .int .i64 0, .int .i64 1, .int .i64 2] 3)
    rw [hy3]; exact ⟨h.os, h.tape, h.output, h.size, h.block⟩
  have BY3 := Lib.hid by3
  clear by3 hy3
  have KL := len_any (HT4.out.tab.below BY3.out)
  rw [totK3] at KL
  have HKL := Lib.hid KL
  clear KL
  go_wp2_with fail
  refine HKL.out.mono ?_
  rintro e y4 ⟨rfl, rfl⟩
  go_wp2
  go_ret
  exact ⟨rfl, HT4.out.be.trans (BY3.out.mono HT4.out.be.size)⟩
end Go.Proofs.YtoamhiaagaaaaaaGreatDoor
