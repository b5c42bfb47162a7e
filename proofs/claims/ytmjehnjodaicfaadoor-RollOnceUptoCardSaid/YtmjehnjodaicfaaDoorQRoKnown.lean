/- geodelaw09: box, ints, known. -/
import Derived.Test.YtmjehnjodaicfaaDoorQRoAdd
import Derived.Test.YtmjehnjodaicfaaDoorQKdEqual
namespace Go.Proofs.YtmjehnjodaicfaaDoor
open Go.RowKit Go.Maps Go.WideMaps

theorem addG_ok {gs : List (List Sb)} {ids : List Int} {g : List Sb} (hok : TabOk gs) (hl : ids.length ≤ 100000) (hr : RawG g) : TabOk (addG gs ids g).2.2 := by
  unfold addG
  split
  · exact hok
  · rename_i h1
    split
    · exact hok
    · rename_i h2
      split
      · exact hok
      · split
        · exact hok
        · refine enterG_ok hok (rollG_good (fun i hi => ?_) (by omega) hr (fun x hx => ?_))
          · have h := h2
            simp only [Decidable.not_not, List.all_eq_true] at h
            have := h i hi
            have ht := hok.total
            simp [inTab] at this; omega
          · have h := h1
            simp only [Decidable.not_not, List.all_eq_true] at h
            exact h x hx
/-- A table that was made since w0. -/
structure TabN (w0 : World) (S R : Nat → Prop) (w : World) (t : Nat) (gs : List (List Sb)) : Prop where
  tab : TabAt S R w t gs
  ok : TabOk gs
  base : ∀ k, S k → w0.heap.size ≤ k
  be : Below w0.heap.size w0 w
theorem TabN.below {w0 w w' : World} {S R : Nat → Prop} {t : Nat} {gs : List (List Sb)} (h : TabN w0 S R w t gs) (hb : Below w.heap.size w w') : TabN w0 S R w' t gs :=
  ⟨h.tab.below hb, h.ok, h.base, h.be.trans (hb.mono h.be.size)⟩
def AddN (w0 : World) (S R : Nat → Prop) (w : World) (t : Nat) (A : List Int × Int × List (List Sb)) (e : Ending) (w' : World) : Prop :=
  ∃ u S' R', e = .returned (.tuple #[u, .int .i64 A.2.1]) ∧ TabN w0 S' R' w' t A.2.2 ∧ (∀ w'', Upd S' w' w'' → IntsAt w'' u A.1) ∧ Upd S w w' ∧ Fresh S w S' ∧ Fresh R w R'
theorem add_n {w0 : World} {S R : Nat → Prop} {w : World} {t : Nat} {v1 v2 : Value} {gs : List (List Sb)} {ids : List Int} {g : List Sb} (ht : TabN w0 S R w t gs) (h1 : ∀ w', Upd S w w' → IntsAt w' v1 ids) (hl : ids.length ≤ 100000) (h2 : GrpAt w v2 g) (hr : RawG g) (htab : Tab w0) :
    Calls Tryd.prog 9 #[.pointer (some ⟨t, 0, none⟩), v1, v2] w (AddN w0 S R w t (addG gs ids g)) := by
  refine (add_any S R w t v1 v2 gs ids g ht.tab ht.ok h1 hl h2 hr (htab.on ht.be)).mono ?_
  rintro e w' ⟨u, S', R', he, h3, h4, h5, h6, h7⟩
  have hs := ht.be.size
  exact ⟨u, S', R', he, ⟨h3, addG_ok ht.ok hl hr, fun k hk => (h6 k hk).elim (ht.base k) (fun h => by omega), ht.be.trans (h5.below ht.base hs)⟩, h4, h5, h6, h7⟩
def bx (n : Int) : Sb := ⟨false, [], 2, [], [], [⟨0, ⟨3, true, 13, n⟩, false⟩]⟩
set_option maxRecDepth 100000 in
theorem box_any (n : Int) (w : World) : Calls Tryd.prog 12 #[.int .i64 n] w fun e w' => ∃ a4 c4, e = .returned (.agg #[.bool false, .slice none 0 0, .int .i64 2, .slice none 0 0, .slice none 0 0, .slice a4 1 c4]) ∧ SubAt w' [.bool false, .slice none 0 0, .int .i64 2, .slice none 0 0, .slice none 0 0, .slice a4 1 c4] (bx n) ∧ Below w.heap.size w w' := by
  go_enter Tryd.func12, Tryd.ntmps12
  go_wp2
  refine bodyPost_ret (v := .agg #[.bool false, .slice none 0 0, .int .i64 2, .slice none 0 0, .slice none 0 0, .slice (some ⟨w.heap.size + 1, 0, none⟩) 1 1]) (by simp [results, Tryd.results12, go_sem]) rfl ?_
  generalize hW : World.alloc _ _ = W1
  have hb : Below w.heap.size w W1 := by rw [← hW]; exact ((Below.refl _ _).alloc (Nat.le_refl _) _).alloc (by simp) _
  have z1 : W1.heap[w.heap.size + 1]? = some (.cells #[.int .i64 0, .int .i64 3, .bool true, .int .i64 13, .int .i64 n, .bool false] 78 (0, 0)) := by rw [← hW]; exact heap_alloc_at _ _ (by simp)
  refine ⟨_, _, rfl, ⟨_, _, _, _, rfl, RowAt.nil _ _, RowAt.nil _ _, RowAt.nil _ _, ⟨rfl, .inr ⟨_, 1, rfl, Nat.le_refl _, fun j u hj => ?_⟩⟩⟩, hb⟩
  rw [Addr.add_lit, Nat.zero_add, heap_cell z1]
  simpa [bx, flatF, cellsF] using hj
set_option maxRecDepth 100000 in
set_option maxHeartbeats 4000000 in
theorem ints_any (a b : Value) (l m : List Int) (w : World) (ha : IntsAt w a l) (hb : IntsAt w b m) (hl : l.length ≤ 1000000) (hm : m.length ≤ 1000000) :
    Calls Tryd.prog 22 #[a, b] w fun e w' => e = .returned (.bool (decide (l = m))) ∧ ∃ n, w' = w.drewN n := by
  obtain ⟨ao, ca, rfl⟩ := RowAt.form ha
  obtain ⟨bo, cb, rfl⟩ := RowAt.form hb
  by_cases hlen : l.length = m.length
  · obtain ⟨n, hn⟩ : ∃ n, l.length = n := ⟨_, rfl⟩
    have hn2 : m.length = n := by rw [← hlen]; exact hn
    have HA := Lib.hid ha; have HB := Lib.hid hb; have HN := Lib.hid hn; have HN2 := Lib.hid hn2
    rw [hn] at hl
    rw [hn, hn2]
    have HL := Lib.hid hl
    clear ha hb hlen hm hn hn2 hl
    go_enter Tryd.func22, Tryd.ntmps22
    go_wp2
    go_loopw [5] (fun t5 wr => ∃ i : Nat, i ≤ n ∧ t5 = .int .i64 i ∧ l.take i = m.take i ∧ ∃ k, wr = w.drewN k) (fun t5 _ => n - (intOf t5).toNat)
    case atStart => exact ⟨0, by omega, rfl, rfl, 0, rfl⟩
    case round =>
      obtain ⟨i, hi, rfl, htk, nd, rfl⟩ := hrel
      have HT := Lib.hid htk
      clear htk
      by_cases hlt : i < n
      · obtain ⟨x, hx⟩ : ∃ x, l[i]? = some x := ⟨l[i]'(by rw [HN.out]; exact hlt), by simp⟩
        obtain ⟨y, hy⟩ : ∃ y, m[i]? = some y := ⟨m[i]'(by rw [HN2.out]; exact hlt), by simp⟩
        obtain ⟨b1, o1, e1, _, p0⟩ := IntsAt.at HA.out hx
        obtain ⟨b2, o2, e2, _, q0⟩ := IntsAt.at HB.out hy
        subst e1 e2
        have HX := Lib.hid hx; have HY := Lib.hid hy; have HI := Lib.hid hlt
        have hlt' : (i : Int) < n := by omega
        have hi6 : (i : Int) < 1000000 := by have := HL.out; omega
        clear hx hy hlt hi
        by_cases e0 : x = y
        · subst e0
          have HX2 := Lib.hid (take_eq HX.out HY.out HT.out)
          go_wp2
          go_quiet (fail)
          go_wp2
          go_roundw
          case rel => exact ⟨i + 1, HI.out, by go_num, HX2.out, _, rfl⟩
          case measure => have := HI.out; simp [intOf]; omega
        · have NE := Lib.hid (get_ne HX.out HY.out e0)
          have e1 : (x != y) = true := by simpa using e0
          clear e0
          go_wp2
          go_quiet (fail)
          go_wp2
          go_ret
          exact ⟨retd (decide_eq_false NE.out), _, drewN_drewN _ _ _⟩
      · obtain rfl : i = n := by omega
        have hlt' : ¬ (i : Int) < i := by omega
        have hlm : l = m := by have := HT.out; rw [List.take_of_length_le (by rw [HN.out]; exact Nat.le_refl _), List.take_of_length_le (by rw [HN2.out]; exact Nat.le_refl _)] at this; exact this
        have EQ := Lib.hid hlm
        clear hlm hlt hi
        go_wp2
        go_ret
        exact ⟨retd (decide_eq_true EQ.out), _, rfl⟩
  · have hne : l ≠ m := fun e => hlen (by rw [e])
    have NE := Lib.hid hne
    have h2 : ((l.length : Int) == m.length) = false := by simp; omega
    have h3 : ¬ ((l.length : Int) = m.length) := by omega
    clear ha hb hne hlen
    go_enter Tryd.func22, Tryd.ntmps22
    go_wp2
    go_ret
    exact ⟨retd (decide_eq_false NE.out), 0, rfl⟩
theorem grp_of {W : World} {q : Nat} {css : List (List Value)} {g : List Sb} (h : W.heap[q]? = some (.cells css.flatten.toArray 48 (0, 0))) (hl : css.length = g.length) (h6 : ∀ c ∈ css, c.length = 6) (hs : ∀ (i : Nat) c x, css[i]? = some c → g[i]? = some x → SubAt W c x) (n c : Nat) (hn : n = g.length) (hc : n ≤ c) : GrpAt W (.slice (some ⟨q, 0, none⟩) n c) g := by
  subst hn
  have hfl : ∀ css : List (List Value), (∀ c ∈ css, c.length = 6) → css.flatten.length = css.length * 6 := by
    intro css
    induction css with
    | nil => intro _; rfl
    | cons c cs ih => intro h; rw [List.flatten_cons, List.length_append, ih (fun x hx => h x (by simp [hx])), h c (by simp), List.length_cons]; omega
  refine ⟨css, hl, h6, ⟨by rw [hfl css h6, hl], .inr ⟨_, c, rfl, hc, fun j u hj => ?_⟩⟩, hs⟩
  rw [Addr.add_lit, Nat.zero_add, heap_cell h]
  simpa using hj
theorem bx_raw1 (n : Int) (h : 0 ≤ n ∧ n ≤ 100) : RawG [bx n] :=
  ⟨by simp, fun x hx => by
    simp at hx; subst hx
    exact ⟨by simp [bx], by simp [bx], by simp [bx], fun f hf => by simp [bx] at hf; subst hf; unfold B64; dsimp only; omega, ⟨by simp [bx], by simp [bx], by simp [bx], by simp [bx]⟩⟩, fun x hx => by simp at hx; subst hx; simp [cnt, bx]⟩
theorem raw_app {g h : List Sb} (a : RawG g) (b : RawG h) (hl : (g ++ h).length ≤ 1000) : RawG (g ++ h) :=
  ⟨hl, fun x hx => (List.mem_append.1 hx).elim (a.fits x) (b.fits x), fun x hx => (List.mem_append.1 hx).elim (a.cnt x) (b.cnt x)⟩
def gsK1 : List (List Sb) := (addG [] [] [bx 0]).2.2
def gsK3 : List (List Sb) := (addG gsK1 [0, 0] [bx 2, bx 3]).2.2
theorem add1 : addG [] [] [bx 0] = ([0], 0, gsK1) := by decide +kernel
theorem add2 : addG gsK1 [0] [bx 1] = ([0, 0], 0, gsK1) := by decide +kernel
theorem add3 : addG gsK1 [0, 0] [bx 2, bx 3] = ([0, 0, 1, 2], 0, gsK3) := by decide +kernel
theorem add4 : addG gsK3 [] [bx 1] = ([], 2, gsK3) := by decide +kernel
theorem totK3 : total gsK3 = 3 := by decide +kernel
end Go.Proofs.YtmjehnjodaicfaaDoor
