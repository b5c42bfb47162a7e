/- package kind: which types are the same. -/
import Derived.Test.YtoamhiaagaaaaaaGreatDoorQKdSubP
namespace Go.Proofs.YtoamhiaagaaaaaaGreatDoor
open Go.RowKit

theorem drewN_drewN (w : World) (a b : Nat) : (w.drewN a).drewN b = w.drewN (a + b) := by
  simp [World.drewN, Nat.add_assoc]
theorem RowAt.drewN {w : World} {c n : Nat} {v : Value} {xs : List Value} (h : RowAt w c v n xs) (k : Nat) : RowAt (w.drewN k) c v n xs := h.keep fun _ _ h => h
theorem retd {p : Prop} [Decidable p] {b : Bool} (h : decide p = b) : Ending.returned (.bool b) = .returned (.bool (decide p)) := by rw [h]
theorem get_ne {α : Type} {l m : List α} {i : Nat} {x y : α} (hx : l[i]? = some x) (hy : m[i]? = some y) (h : x ≠ y) : l ≠ m := fun e => h (by rw [e] at hx; rw [hx] at hy; exact Option.some.inj hy)
theorem take_eq {α : Type} {l m : List α} {i : Nat} {x : α} (hx : l[i]? = some x) (hy : m[i]? = some x) (h : l.take i = m.take i) : l.take (i + 1) = m.take (i + 1) := by
  rw [List.take_add_one, List.take_add_one, h, hx, hy]
set_option maxRecDepth 100000 in
set_option maxHeartbeats 4000000 in
theorem equalH_any (a b : Value) (l m : List Hp) (w : World) (ha : HpsAt w a l) (hb : HpsAt w b m) (hl : l.length ≤ 1000000) (hm : m.length ≤ 1000000) :
    Calls Tryz.prog 81 #[a, b] w fun e w' => e = .returned (.bool (decide (l = m))) ∧ ∃ n, w' = w.drewN n := by
  obtain ⟨ao, ca, rfl⟩ := RowAt.form ha
  obtain ⟨bo, cb, rfl⟩ := RowAt.form hb
  by_cases hlen : l.length = m.length
  · obtain ⟨n, hn⟩ : ∃ n, l.length = n := ⟨_, rfl⟩
    have hn2 : m.length = n := by rw [← hlen]; exact hn
    have HA := Lib.hid ha; have HB := Lib.hid hb; have HN := Lib.hid hn; have HN2 := Lib.hid hn2
    rw [hn] at hl
    rw [hn, hn2]
    have HL := Lib.hid hl
    clear ha hb hlen hm hn hn2 hl
    go_enter Tryz.func81, Tryz.ntmps81
    go_wp2
    go_loopw [5, 13] (fun _ t13 wr => ∃ i : Nat, i ≤ n ∧ t13 = .int .i64 i ∧ l.take i = m.take i ∧ ∃ k, wr = w.drewN k) (fun _ t13 _ => n - (intOf t13).toNat)
    case atStart => exact ⟨0, by omega, rfl, rfl, 0, rfl⟩
    case round =>
      obtain ⟨i, hi, rfl, htk, nd, rfl⟩ := hrel
      have HT := Lib.hid htk
      clear htk
      by_cases hlt : i < n
      · obtain ⟨x, hx⟩ : ∃ x, l[i]? = some x := ⟨l[i]'(by rw [HN.out]; exact hlt), by simp⟩
        obtain ⟨y, hy⟩ : ∃ y, m[i]? = some y := ⟨m[i]'(by rw [HN2.out]; exact hlt), by simp⟩
        obtain ⟨x0, x1⟩ := x
        obtain ⟨y0, y1⟩ := y
        obtain ⟨b1, o1, e1, _, p0, p1⟩ := hps_at HA.out hx
        obtain ⟨b2, o2, e2, _, q0, q1⟩ := hps_at HB.out hy
        subst e1 e2
        dsimp only at p0 p1 q0 q1
        have HX := Lib.hid hx; have HY := Lib.hid hy; have HI := Lib.hid hlt
        have hlt' : (i : Int) < n := by omega
        have HI6 := Lib.hid (show (i : Int) < 1000000 by have := HL.out; omega)
        clear hx hy hlt hi
        by_cases e0 : x0 = y0
        · subst e0
          by_cases e1 : x1 = y1
          · subst e1
            have HX2 := Lib.hid (take_eq HX.out HY.out HT.out)
            have hi6 := HI6.out
            go_wp2
            go_quiet (fail)
            go_wp2
            go_roundw
            case rel => exact ⟨i + 1, HI.out, by go_num, HX2.out, _, rfl⟩
            case measure => have := HI.out; simp [intOf]; omega
          · have NE := Lib.hid (get_ne HX.out HY.out (fun e => e1 (by simp at e; simp [e])))
            go_wp2
            go_quiet (fail)
            go_wp2
            go_ret
            exact ⟨retd (decide_eq_false NE.out), _, drewN_drewN _ _ _⟩
        · have NE := Lib.hid (get_ne HX.out HY.out (fun e => e0 (by simp at e; simp [e])))
          go_wp2
          go_quiet (fail)
          go_wp2
          go_ret
          exact ⟨retd (decide_eq_false NE.out), _, drewN_drewN _ _ _⟩
      · obtain rfl : i = n := by omega
        have hlt' : ¬ (i : Int) < i := by omega
        have hlm : l = m := by have := HT.out; rw [List.take_of_length_le (by rw [HN.out]; exact Nat.le_refl _), List.take_of_length_le (by rw [HN2.out]; exact Nat.le_refl _)] at this; exact this
        have EQ := Lib.hid hlm
        clear hlm hlt hi
        go_wp2
        go_ret
        exact ⟨retd (decide_eq_true EQ.out), _, rfl⟩
  · have hne : l ≠ m := fun e => hlen (by rw [e])
    have h1 : ((l.length : Int) != (m.length : Int)) = true := by simpa using fun h => hlen (by omega)
    have NE := Lib.hid hne
    clear hne ha hb hlen
    go_enter Tryz.func81, Tryz.ntmps81
    go_wp2
    go_ret
    exact ⟨retd (decide_eq_false NE.out), 0, rfl⟩
set_option maxRecDepth 100000 in
set_option maxHeartbeats 4000000 in
theorem equalV_any (a b : Value) (l m : List Vl) (w : World) (ha : ValsAt w a l) (hb : ValsAt w b m) (hl : l.length ≤ 1000000) (hm : m.length ≤ 1000000) :
    Calls Tryz.prog 111 #[a, b] w fun e w' => e = .returned (.bool (decide (l = m))) ∧ ∃ n, w' = w.drewN n := by
  obtain ⟨ao, ca, rfl⟩ := RowAt.form ha
  obtain ⟨bo, cb, rfl⟩ := RowAt.form hb
  by_cases hlen : l.length = m.length
  · obtain ⟨n, hn⟩ : ∃ n, l.length = n := ⟨_, rfl⟩
    have hn2 : m.length = n := by rw [← hlen]; exact hn
    have HA := Lib.hid ha; have HB := Lib.hid hb; have HN := Lib.hid hn; have HN2 := Lib.hid hn2
    rw [hn] at hl
    rw [hn, hn2]
    have HL := Lib.hid hl
    clear ha hb hlen hm hn hn2 hl
    go_enter Tryz.func111, Tryz.ntmps111
    go_wp2
    go_loopw [5, 13] (fun _ t13 wr => ∃ i : Nat, i ≤ n ∧ t13 = .int .i64 i ∧ l.take i = m.take i ∧ ∃ k, wr = w.drewN k) (fun _ t13 _ => n - (intOf t13).toNat)
    case atStart => exact ⟨0, by omega, rfl, rfl, 0, rfl⟩
    case round =>
      obtain ⟨i, hi, rfl, htk, nd, rfl⟩ := hrel
      have HT := Lib.hid htk
      clear htk
      by_cases hlt : i < n
      · obtain ⟨x, hx⟩ : ∃ x, l[i]? = some x := ⟨l[i]'(by rw [HN.out]; exact hlt), by simp⟩
        obtain ⟨y, hy⟩ : ∃ y, m[i]? = some y := ⟨m[i]'(by rw [HN2.out]; exact hlt), by simp⟩
        obtain ⟨x0, x1, x2, x3⟩ := x
        obtain ⟨y0, y1, y2, y3⟩ := y
        obtain ⟨b1, o1, e1, _, p0, p1, p2, p3⟩ := vals_at HA.out hx
        obtain ⟨b2, o2, e2, _, q0, q1, q2, q3⟩ := vals_at HB.out hy
        subst e1 e2
        dsimp only at p0 p1 p2 p3 q0 q1 q2 q3
        have HX := Lib.hid hx; have HY := Lib.hid hy; have HI := Lib.hid hlt
        have hlt' : (i : Int) < n := by omega
        have HI6 := Lib.hid (show (i : Int) < 1000000 by have := HL.out; omega)
        clear hx hy hlt hi
        by_cases e0 : x0 = y0
        · subst e0
          by_cases e1 : x1 = y1
          · subst e1
            by_cases e2 : x2 = y2
            · subst e2
              by_cases e3 : x3 = y3
              · subst e3
                have HX2 := Lib.hid (take_eq HX.out HY.out HT.out)
                have hi6 := HI6.out
                go_wp2
                go_quiet (fail)
                go_wp2
                go_roundw
                case rel => exact ⟨i + 1, HI.out, by go_num, HX2.out, _, rfl⟩
                case measure => have := HI.out; simp [intOf]; omega
              · have NE := Lib.hid (get_ne HX.out HY.out (fun e => e3 (by simp at e; simp [e])))
                go_wp2
                go_quiet (fail)
                go_wp2
                go_ret
                exact ⟨retd (decide_eq_false NE.out), _, drewN_drewN _ _ _⟩
            · have NE := Lib.hid (get_ne HX.out HY.out (fun e => e2 (by simp at e; simp [e])))
              go_wp2
              go_quiet (fail)
              go_wp2
              go_ret
              exact ⟨retd (decide_eq_false NE.out), _, drewN_drewN _ _ _⟩
          · have NE := Lib.hid (get_ne HX.out HY.out (fun e => e1 (by simp at e; simp [e])))
            go_wp2
            go_quiet (fail)
            go_wp2
            go_ret
            exact ⟨retd (decide_eq_false NE.out), _, drewN_drewN _ _ _⟩
        · have NE := Lib.hid (get_ne HX.out HY.out (fun e => e0 (by simp at e; simp [e])))
          go_wp2
          go_quiet (fail)
          go_wp2
          go_ret
          exact ⟨retd (decide_eq_false NE.out), _, drewN_drewN _ _ _⟩
      · obtain rfl : i = n := by omega
        have hlt' : ¬ (i : Int) < i := by omega
        have hlm : l = m := by have := HT.out; rw [List.take_of_length_le (by rw [HN.out]; exact Nat.le_refl _), List.take_of_length_le (by rw [HN2.out]; exact Nat.le_refl _)] at this; exact this
        have EQ := Lib.hid hlm
        clear hlm hlt hi
        go_wp2
        go_ret
        exact ⟨retd (decide_eq_true EQ.out), _, rfl⟩
  · have hne : l ≠ m := fun e => hlen (by rw [e])
    have h1 : ((l.length : Int) != (m.length : Int)) = true := by simpa using fun h => hlen (by omega)
    have NE := Lib.hid hne
    clear hne ha hb hlen
    go_enter Tryz.func111, Tryz.ntmps111
    go_wp2
    go_ret
    exact ⟨retd (decide_eq_false NE.out), 0, rfl⟩
set_option maxRecDepth 100000 in
set_option maxHeartbeats 4000000 in
theorem equalF_any (a b : Value) (l m : List Fl) (w : World) (ha : FlsAt w a l) (hb : FlsAt w b m) (hl : l.length ≤ 1000000) (hm : m.length ≤ 1000000) :
    Calls Tryz.prog 83 #[a, b] w fun e w' => e = .returned (.bool (decide (l = m))) ∧ ∃ n, w' = w.drewN n := by
  obtain ⟨ao, ca, rfl⟩ := RowAt.form ha
  obtain ⟨bo, cb, rfl⟩ := RowAt.form hb
  by_cases hlen : l.length = m.length
  · obtain ⟨n, hn⟩ : ∃ n, l.length = n := ⟨_, rfl⟩
    have hn2 : m.length = n := by rw [← hlen]; exact hn
    have HA := Lib.hid ha; have HB := Lib.hid hb; have HN := Lib.hid hn; have HN2 := Lib.hid hn2
    rw [hn] at hl
    rw [hn, hn2]
    have HL := Lib.hid hl
    clear ha hb hlen hm hn hn2 hl
    go_enter Tryz.func83, Tryz.ntmps83
    go_wp2
    go_loopw [5, 13] (fun _ t13 wr => ∃ i : Nat, i ≤ n ∧ t13 = .int .i64 i ∧ l.take i = m.take i ∧ ∃ k, wr = w.drewN k) (fun _ t13 _ => n - (intOf t13).toNat)
    case atStart => exact ⟨0, by omega, rfl, rfl, 0, rfl⟩
    case round =>
      obtain ⟨i, hi, rfl, htk, nd, rfl⟩ := hrel
      have HT := Lib.hid htk
      clear htk
      by_cases hlt : i < n
      · obtain ⟨x, hx⟩ : ∃ x, l[i]? = some x := ⟨l[i]'(by rw [HN.out]; exact hlt), by simp⟩
        obtain ⟨y, hy⟩ : ∃ y, m[i]? = some y := ⟨m[i]'(by rw [HN2.out]; exact hlt), by simp⟩
        obtain ⟨x0, ⟨x1, x2, x3, x4⟩, x5⟩ := x
        obtain ⟨y0, ⟨y1, y2, y3, y4⟩, y5⟩ := y
        obtain ⟨b1, o1, e1, _, p0, p1, p2, p3, p4, p5⟩ := fls_at HA.out hx
        obtain ⟨b2, o2, e2, _, q0, q1, q2, q3, q4, q5⟩ := fls_at HB.out hy
        subst e1 e2
        dsimp only at p0 p1 p2 p3 p4 p5 q0 q1 q2 q3 q4 q5
        have HX := Lib.hid hx; have HY := Lib.hid hy; have HI := Lib.hid hlt
        have hlt' : (i : Int) < n := by omega
        have HI6 := Lib.hid (show (i : Int) < 1000000 by have := HL.out; omega)
        clear hx hy hlt hi
        by_cases e0 : x0 = y0
        · subst e0
          by_cases e1 : x1 = y1
          · subst e1
            by_cases e2 : x2 = y2
            · subst e2
              by_cases e3 : x3 = y3
              · subst e3
                by_cases e4 : x4 = y4
                · subst e4
                  by_cases e5 : x5 = y5
                  · subst e5
                    have HX2 := Lib.hid (take_eq HX.out HY.out HT.out)
                    have hi6 := HI6.out
                    go_wp2
                    go_quiet (fail)
                    go_wp2
                    go_roundw
                    case rel => exact ⟨i + 1, HI.out, by go_num, HX2.out, _, rfl⟩
                    case measure => have := HI.out; simp [intOf]; omega
                  · have NE := Lib.hid (get_ne HX.out HY.out (fun e => e5 (by simp at e; simp [e])))
                    go_wp2
                    go_quiet (fail)
                    go_wp2
                    go_ret
                    exact ⟨retd (decide_eq_false NE.out), _, drewN_drewN _ _ _⟩
                · have NE := Lib.hid (get_ne HX.out HY.out (fun e => e4 (by simp at e; simp [e])))
                  go_wp2
                  go_quiet (fail)
                  go_wp2
                  go_ret
                  exact ⟨retd (decide_eq_false NE.out), _, drewN_drewN _ _ _⟩
              · have NE := Lib.hid (get_ne HX.out HY.out (fun e => e3 (by simp at e; simp [e])))
                go_wp2
                go_quiet (fail)
                go_wp2
                go_ret
                exact ⟨retd (decide_eq_false NE.out), _, drewN_drewN _ _ _⟩
            · have NE := Lib.hid (get_ne HX.out HY.out (fun e => e2 (by simp at e; simp [e])))
              go_wp2
              go_quiet (fail)
              go_wp2
              go_ret
              exact ⟨retd (decide_eq_false NE.out), _, drewN_drewN _ _ _⟩
          · have NE := Lib.hid (get_ne HX.out HY.out (fun e => e1 (by simp at e; simp [e])))
            go_wp2
            go_quiet (fail)
            go_wp2
            go_ret
            exact ⟨retd (decide_eq_false NE.out), _, drewN_drewN _ _ _⟩
        · have NE := Lib.hid (get_ne HX.out HY.out (fun e => e0 (by simp at e; simp [e])))
          go_wp2
          go_quiet (fail)
          go_wp2
          go_ret
          exact ⟨retd (decide_eq_false NE.out), _, drewN_drewN _ _ _⟩
      · obtain rfl : i = n := by omega
        have hlt' : ¬ (i : Int) < i := by omega
        have hlm : l = m := by have := HT.out; rw [List.take_of_length_le (by rw [HN.out]; exact Nat.le_refl _), List.take_of_length_le (by rw [HN2.out]; exact Nat.le_refl _)] at this; exact this
        have EQ := Lib.hid hlm
        clear hlm hlt hi
        go_wp2
        go_ret
        exact ⟨retd (decide_eq_true EQ.out), _, rfl⟩
  · have hne : l ≠ m := fun e => hlen (by rw [e])
    have h1 : ((l.length : Int) != (m.length : Int)) = true := by simpa using fun h => hlen (by omega)
    have NE := Lib.hid hne
    clear hne ha hb hlen
    go_enter Tryz.func83, Tryz.ntmps83
    go_wp2
    go_ret
    exact ⟨retd (decide_eq_false NE.out), 0, rfl⟩
theorem sameVals_any (a b : Value) (l m : List Vl) (w : World) (ha : ValsAt w a l) (hb : ValsAt w b m) (hl : l.length ≤ 1000000) (hm : m.length ≤ 1000000) :
    Calls Tryz.prog 82 #[a, b] w fun e w' => e = .returned (.bool (decide (l = m))) ∧ ∃ n, w' = w.drewN n := by
  go_enter Tryz.func82, Tryz.ntmps82
  go_wp2_with fail
  refine (equalV_any a b l m w ha hb hl hm).mono ?_
  rintro e w' ⟨rfl, n, rfl⟩
  go_wp2
  go_ret
  exact ⟨rfl, n, rfl⟩
end Go.Proofs.YtoamhiaagaaaaaaGreatDoor
