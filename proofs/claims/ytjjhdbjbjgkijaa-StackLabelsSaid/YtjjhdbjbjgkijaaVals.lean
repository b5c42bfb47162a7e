/- Lists of value types: how they lie in memory; slices.Clone and slices.Equal of them, kind.SameVals. -/
import Derived.Test.YtjjhdbjbjgkijaaAppend2
import Derived.WalkLawsBesides
import Derived.WalkSpells
import Derived.RegionTactic
import Derived.Deep.QuietTactic
import Derived.BigQuiet
import Derived.Outline
import Derived.Lib.Hide
import Derived.DataReads
namespace Go.Proofs.Ytjjhdbjbjgkijaa
open Go.RowKit

/-- A value type: its kind, whether it may be null, its heap type's kind and number. -/
structure Vl where
  k : Int
  nl : Bool
  h : Int
  n : Int
deriving DecidableEq
def cellsV (v : Vl) : List Value := [.int .i64 v.k, .bool v.nl, .int .i64 v.h, .int .i64 v.n]
def flatV (l : List Vl) : List Value := l.flatMap cellsV
theorem flatV_len (l : List Vl) : (flatV l).length = 4 * l.length := by
  induction l with
  | nil => rfl
  | cons v l ih =>
    unfold flatV at ih ⊢
    rw [List.flatMap_cons, List.length_append, ih]
    simp [cellsV]; omega
theorem flatV_append (a b : List Vl) : flatV (a ++ b) = flatV a ++ flatV b := List.flatMap_append
theorem flatV_at (l : List Vl) (i : Nat) (hi : i < l.length) : (flatV l)[4 * i]? = some (.int .i64 l[i].k) ∧ (flatV l)[4 * i + 1]? = some (.bool l[i].nl) ∧ (flatV l)[4 * i + 2]? = some (.int .i64 l[i].h) ∧ (flatV l)[4 * i + 3]? = some (.int .i64 l[i].n) := by
  induction l generalizing i with
  | nil => simp at hi
  | cons v l ih =>
    have e : flatV (v :: l) = cellsV v ++ flatV l := List.flatMap_cons
    cases i with
    | zero => rw [e]; exact ⟨rfl, rfl, rfl, rfl⟩
    | succ i =>
      have hi' : i < l.length := by simpa using hi
      obtain ⟨h0, h1, h2, h3⟩ := ih i hi'
      have hl : (cellsV v).length = 4 := rfl
      rw [e]
      refine ⟨?_, ?_, ?_, ?_⟩
      · rw [List.getElem?_append_right (by omega), show 4 * (i + 1) - (cellsV v).length = 4 * i by omega]; exact h0
      · rw [List.getElem?_append_right (by omega), show 4 * (i + 1) + 1 - (cellsV v).length = 4 * i + 1 by omega]; exact h1
      · rw [List.getElem?_append_right (by omega), show 4 * (i + 1) + 2 - (cellsV v).length = 4 * i + 2 by omega]; exact h2
      · rw [List.getElem?_append_right (by omega), show 4 * (i + 1) + 3 - (cellsV v).length = 4 * i + 3 by omega]; exact h3

/-- A slice of value types reads as this list. -/
def ValsAt (w : World) (v : Value) (l : List Vl) : Prop :=
  (v = .slice none 0 0 ∧ l = []) ∨ ∃ (a : Addr) (cap : Nat), v = .slice (some a) l.length cap ∧ l.length ≤ cap ∧ ∀ j u, (flatV l)[j]? = some u → w.cell? (a.add j) = some u

theorem ValsAt.of_own {w : World} {base : Nat} {v : Value} {l : List Vl} {e : TypeId} (h : w.ownsRow base e 4 v l.length (flatV l)) : ValsAt w v l := by
  rcases h.2 with ⟨rfl, h0⟩ | ⟨g, cap, cur, rfl, hg, hh, hc, _, _, _⟩
  · exact .inl ⟨rfl, List.eq_nil_of_length_eq_zero h0⟩
  · exact .inr ⟨⟨g, 0, none⟩, cap, rfl, hc, fun j u hu => h.cells (g := g) rfl j u hu⟩

theorem ValsAt.form {w : World} {v : Value} {l : List Vl} (h : ValsAt w v l) : ∃ ao cap, v = .slice ao l.length cap := by
  rcases h with ⟨rfl, rfl⟩ | ⟨a, cap, rfl, _⟩
  · exact ⟨_, _, rfl⟩
  · exact ⟨_, _, rfl⟩
theorem ValsAt.some {w : World} {ao : Option Addr} {cap : Nat} {l : List Vl} (h : ValsAt w (.slice ao l.length cap) l) (hl : 0 < l.length) : ∃ b off, ao = Option.some ⟨b, off, none⟩ ∧
    ∀ i (hi : i < l.length), w.cell? ⟨b, off + i * 4, none⟩ = Option.some (.int .i64 l[i].k) ∧ w.cell? ⟨b, off + i * 4 + 1, none⟩ = Option.some (.bool l[i].nl) ∧ w.cell? ⟨b, off + i * 4 + 2, none⟩ = Option.some (.int .i64 l[i].h) ∧ w.cell? ⟨b, off + i * 4 + 3, none⟩ = Option.some (.int .i64 l[i].n) := by
  rcases h with ⟨_, rfl⟩ | ⟨⟨b, off, sp⟩, cap', e, _, hc⟩
  · simp at hl
  · simp only [Value.slice.injEq, true_and] at e
    obtain ⟨rfl, _⟩ := e
    have hsp : sp = none := by
      have h0 := hc 0 _ (flatV_at l 0 hl).1
      simpa [Addr.add] using World.cell?_spot h0
    subst hsp
    have hc : ∀ j u, (flatV l)[j]? = Option.some u → w.cell? ⟨b, off + j, none⟩ = Option.some u := fun j u hu => by have := hc j u hu; rwa [Addr.add_lit] at this
    refine ⟨b, off, rfl, fun i hi => ?_⟩
    obtain ⟨h0, h1, h2, h3⟩ := flatV_at l i hi
    refine ⟨?_, ?_, ?_, ?_⟩
    · have := hc _ _ h0; rwa [Nat.mul_comm] at this
    · have := hc _ _ h1; rwa [Nat.mul_comm, ← Nat.add_assoc] at this
    · have := hc _ _ h2; rwa [Nat.mul_comm, ← Nat.add_assoc] at this
    · have := hc _ _ h3; rwa [Nat.mul_comm, ← Nat.add_assoc] at this

theorem retb {a b : Bool} (h : a = b) : Ending.returned (.bool a) = .returned (.bool b) := by rw [h]

def EqPost (l m : List Vl) (w : World) (e : Ending) (w' : World) : Prop := e = .returned (.bool (decide (l = m))) ∧ ∃ n, w' = w.drewN n

theorem drewN_drewN (w : World) (a b : Nat) : (w.drewN a).drewN b = w.drewN (a + b) := by
  simp [World.drewN, Nat.add_assoc]

set_option maxHeartbeats 1000000 in
theorem equal_any (a b : Value) (l m : List Vl) (w : World) (ha : ValsAt w a l) (hb : ValsAt w b m) (hl : l.length ≤ 1000000) (hm : m.length ≤ 1000000) :
    Calls Try.prog 30 #[a, b] w (EqPost l m w) := by
  obtain ⟨ao, ca, rfl⟩ := ha.form
  obtain ⟨bo, cb, rfl⟩ := hb.form
  by_cases hlen : l.length = m.length
  · have HA := Lib.hid ha
    have HB := Lib.hid hb
    clear ha hb
    rw [← hlen] at HB ⊢
    have HL := Lib.hid hlen
    clear hlen hm
    go_enter Try.func30, Try.ntmps30
    go_wp2
    go_loopw [5, 13] (fun _ t13 wr => ∃ i : Nat, i ≤ l.length ∧ t13 = .int .i64 i ∧ l.take i = m.take i ∧ ∃ n, wr = w.drewN n) (fun _ t13 _ => l.length - (intOf t13).toNat)
    case atStart => exact ⟨0, by omega, rfl, rfl, 0, rfl⟩
    case round =>
      obtain ⟨i, hi, rfl, htk, nd, rfl⟩ := hrel
      have HT := Lib.hid htk
      clear htk
      by_cases hlt : i < l.length
      · have hlt2 : i < m.length := by rw [← HL.out]; exact hlt
        obtain ⟨b1, o1, rfl, hc1⟩ := HA.out.some (by omega)
        obtain ⟨b2, o2, rfl, hc2⟩ := ValsAt.some (l := m) (by have := HB.out; rw [HL.out] at this; exact this) (by omega)
        obtain ⟨⟨k1, n1, h1, m1⟩, hx⟩ : ∃ x, l[i] = x := ⟨_, rfl⟩
        obtain ⟨⟨k2, n2, h2, m2⟩, hy⟩ : ∃ y, m[i] = y := ⟨_, rfl⟩
        have c1 := hc1 i hlt
        have c2 := hc2 i hlt2
        rw [hx] at c1; rw [hy] at c2
        have hne : ¬ (k1 = k2 ∧ n1 = n2 ∧ h1 = h2 ∧ m1 = m2) → l ≠ m := by
          intro h e
          subst e
          rw [hx] at hy
          apply h
          simpa using hy
        have HNE := Lib.hid hne
        have HXY : Hid (k1 = k2 → n1 = n2 → h1 = h2 → m1 = m2 → l.take (i + 1) = m.take (i + 1)) := Lib.hid fun e1 e2 e3 e4 => by
          rw [List.take_succ_eq_append_getElem hlt, List.take_succ_eq_append_getElem hlt2, HT.out, hx, hy, e1, e2, e3, e4]
        obtain ⟨p0, p1, p2, p3⟩ := c1
        obtain ⟨q0, q1, q2, q3⟩ := c2
        dsimp only at p0 p1 p2 p3 q0 q1 q2 q3
        clear hc1 hc2 hx hy hne
        by_cases e1 : k1 = k2
        · subst e1
          by_cases e2 : n1 = n2
          · subst e2
            by_cases e3 : h1 = h2
            · subst e3
              by_cases e4 : m1 = m2
              · subst e4
                have HX2 := Lib.hid (HXY.out rfl rfl rfl rfl)
                clear HXY
                go_wp2
                go_quiet (fail)
                go_wp2
                go_roundw
                case rel => exact ⟨i + 1, by omega, by go_num, HX2.out, _, rfl⟩
                case measure => simp [intOf]; omega
              · have NE := Lib.hid (HNE.out (fun h => e4 h.2.2.2))
                go_wp2
                go_quiet (fail)
                go_wp2
                go_ret
                exact ⟨retb (by rw [decide_eq_false_iff_not.2 NE.out]), _, drewN_drewN _ _ _⟩
            · have NE := Lib.hid (HNE.out (fun h => e3 h.2.2.1))
              go_wp2
              go_quiet (fail)
              go_wp2
              go_ret
              exact ⟨retb (by rw [decide_eq_false_iff_not.2 NE.out]), _, drewN_drewN _ _ _⟩
          · have NE := Lib.hid (HNE.out (fun h => e2 h.2.1))
            go_wp2
            go_quiet (fail)
            go_wp2
            go_ret
            exact ⟨retb (by rw [decide_eq_false_iff_not.2 NE.out]), _, drewN_drewN _ _ _⟩
        · have NE := Lib.hid (HNE.out (fun h => e1 h.1))
          go_wp2
          go_quiet (fail)
          go_wp2
          go_ret
          exact ⟨retb (by rw [decide_eq_false_iff_not.2 NE.out]), _, drewN_drewN _ _ _⟩
      · obtain rfl : i = l.length := by omega
        have hlm : l = m := by have := HT.out; rw [List.take_of_length_le (Nat.le_refl _), HL.out, List.take_of_length_le (Nat.le_refl _)] at this; exact this
        have EQ := Lib.hid hlm
        clear hlm
        go_wp2
        go_ret
        exact ⟨retb (by rw [decide_eq_true EQ.out]), _, rfl⟩
  · have hne : l ≠ m := fun e => hlen (by rw [e])
    have h1 : ((l.length : Int) != (m.length : Int)) = true := by simpa using fun h => hlen (by omega)
    have NE := Lib.hid hne
    clear hne ha hb hlen
    go_enter Try.func30, Try.ntmps30
    go_wp2
    go_ret
    exact ⟨retb (by rw [decide_eq_false_iff_not.2 NE.out]), 0, rfl⟩
end Go.Proofs.Ytjjhdbjbjgkijaa
