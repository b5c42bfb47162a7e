/- geoderef11: the lines of the reference are the lines that chain grows (no program in sight). -/
import Derived.Test.YtoamhiaagaaaaaaGreatDoorQChLaw
namespace Go.Proofs.YtoamhiaagaaaaaaGreatDoor
open Go.RowKit

/-- The reference's line of a type: from it upwards. -/
def lineR (ts : List Sb) : Nat → Nat → List Nat → Int × List Nat
  | 0, _, _ => (4, [])
  | f + 1, cur, out => match ts[cur]? with
    | none => (4, [])
    | some y => match y.sups with
      | [] => if 64 < out.length then (111, []) else (0, out)
      | [s] => if s.k ≠ 15 ∨ (cur : Int) ≤ s.n then (110, []) else lineR ts f s.n.toNat (s.n.toNat :: out)
      | _ => (110, [])
/-- The reference's lines of a table, from the line on behind those. -/
def linesR (ts : List Sb) : Nat → List (List Nat) → Int × List (List Nat)
  | 0, L => (0, L)
  | n + 1, L => if (lineR ts (L.length + 1) L.length [L.length]).1 = 0 then linesR ts n (L ++ [(lineR ts (L.length + 1) L.length [L.length]).2]) else ((lineR ts (L.length + 1) L.length [L.length]).1, L)
theorem ite_iff {α : Type} {p q : Prop} [Decidable p] [Decidable q] {a b : α} (h : p ↔ q) : (if p then a else b) = if q then a else b := by
  by_cases hp : p
  · rw [if_pos hp, if_pos (h.1 hp)]
  · rw [if_neg hp, if_neg (fun e => hp (h.2 e))]
section
variable {ts : List Sb} {L : List (List Nat)}
theorem lineR_up (h : LineOk ts L) : ∀ (k : Nat) p, L[k]? = some p → ∀ (f : Nat), k < f → ∀ tail : List Nat, lineR ts f k (k :: tail) = if 64 < p.length + tail.length then (111, []) else (0, p ++ tail) := by
  intro k
  induction k using Nat.strongRecOn with
  | ind k ih =>
    intro p hp f hf tail
    obtain ⟨f, rfl⟩ : ∃ g, f = g + 1 := ⟨f - 1, by omega⟩
    obtain ⟨y, hy, hor⟩ := h.ex k p hp
    rw [lineR, hy]
    dsimp only
    rcases hor with ⟨hs, rfl⟩ | ⟨m, q, hs, hm, hq, hq6, rfl⟩
    · rw [hs]
      dsimp only
      simp only [List.length_cons, List.length_nil, List.singleton_append]
      refine ite_iff ?_
      constructor <;> intro _ <;> omega
    · rw [hs]
      dsimp only
      rw [if_neg (by simp; omega)]
      rw [show ((m : Nat) : Int).toNat = m from Int.toNat_natCast m, ih m hm q hq f (by omega) (k :: tail)]
      simp only [List.length_cons, List.length_append, List.length_nil, List.append_assoc, List.singleton_append]
      refine ite_iff ?_
      constructor <;> intro _ <;> omega
theorem lineR_next (h : LineOk ts L) {y : Sb} (hy : ts[L.length]? = some y) (hc : ∀ s ∈ y.sups, 0 ≤ s.n) :
    (lineR ts (L.length + 1) L.length [L.length]).1 = (nextL L L.length y.sups).1 ∧ ((nextL L L.length y.sups).1 = 0 → (lineR ts (L.length + 1) L.length [L.length]).2 = (nextL L L.length y.sups).2) := by
  rw [lineR, hy]
  dsimp only
  match hs : y.sups with
  | [] => simp [nextL]
  | [s] =>
    dsimp only [nextL]
    have h0 := hc s (by rw [hs]; simp)
    by_cases hb : s.k ≠ 15 ∨ (L.length : Int) ≤ s.n
    · rw [if_pos hb, if_pos (hb.imp id .inl)]
      simp
    · have hn : ¬ (s.k ≠ 15 ∨ (L.length : Int) ≤ s.n ∨ s.n < 0 ∨ (L.length : Int) ≤ s.n) := by
        intro e
        rcases e with e | e | e | e
        · exact hb (.inl e)
        · exact hb (.inr e)
        · omega
        · exact hb (.inr e)
      rw [if_neg hb, if_neg hn]
      obtain ⟨m, hm⟩ := Int.eq_ofNat_of_zero_le h0
      have hml : m < L.length := by
        have : ¬ (L.length : Int) ≤ s.n := fun e => hb (.inr e)
        omega
      obtain ⟨p, hp⟩ : ∃ p, L[m]? = some p := ⟨L[m], by simp [hml]⟩
      rw [hm, show ((m : Nat) : Int).toNat = m from Int.toNat_natCast m, lineR_up h m p hp L.length hml [L.length], getD_some hp]
      simp only [List.length_cons, List.length_nil]
      by_cases h6 : 64 ≤ p.length
      · rw [if_pos (by omega), if_pos h6]
        simp
      · rw [if_neg (by omega), if_neg h6]
        simp
  | a :: b :: r => simp [nextL]
theorem linesR_grow (hc : ∀ y ∈ ts, ∀ s ∈ y.sups, 0 ≤ s.n) : ∀ (n : Nat) (L : List (List Nat)), LineOk ts L → L.length + n = ts.length → linesR ts n L = growL ts n L := by
  intro n
  induction n with
  | zero => intro L _ _; rfl
  | succ n ih =>
    intro L h hl
    obtain ⟨y, hy⟩ : ∃ y, ts[L.length]? = some y := ⟨ts[L.length]'(by omega), by simp⟩
    obtain ⟨h1, h2⟩ := lineR_next h hy (hc y (List.mem_of_getElem? hy))
    rw [linesR, growL, hy]
    dsimp only
    rw [h1]
    by_cases he : (nextL L L.length y.sups).1 = 0
    · rw [if_pos he, if_pos he, h2 he]
      exact ih _ (h.next hy he) (by simp; omega)
    · rw [if_neg he, if_neg he]
theorem growL_take (h : LineOk ts L) : ∀ j, j ≤ L.length → growL ts ts.length [] = growL ts (ts.length - j) (L.take j) := by
  intro j
  induction j with
  | zero => intro _; simp
  | succ j ih =>
    intro hj
    rw [ih (by omega)]
    have hle := h.le
    obtain ⟨p, hp⟩ : ∃ p, L[j]? = some p := ⟨L[j], by simp [show j < L.length by omega]⟩
    obtain ⟨y, hy, hor⟩ := h.ex j p hp
    have hjl : (L.take j).length = j := by rw [List.length_take]; omega
    have hn : nextL (L.take j) j y.sups = (0, p) := by
      rcases hor with ⟨hs, rfl⟩ | ⟨m, q, hs, hm, hq, hq6, rfl⟩
      · rw [hs]; rfl
      · have hq' : (L.take j).getD m [] = q := by rw [getD_some (by rw [List.getElem?_take, if_pos hm]; exact hq)]
        rw [hs]
        dsimp only [nextL]
        rw [hjl, if_neg (by simp; omega), show ((m : Nat) : Int).toNat = m from Int.toNat_natCast m, hq', if_neg (by omega)]
    rw [show ts.length - j = (ts.length - (j + 1)) + 1 by omega, growL, hjl, hy]
    dsimp only
    rw [hn, if_pos rfl, List.take_add_one, hp]
    rfl
/-- What is grown is what the reference's lines are. -/
theorem grow_linesR (h : LineOk ts L) (hc : ∀ y ∈ ts, ∀ s ∈ y.sups, 0 ≤ s.n) : growAll ts L = linesR ts ts.length [] := by
  rw [linesR_grow hc ts.length [] LineOk.nil (by simp), growL_take h L.length (Nat.le_refl _), List.take_length]
  rfl
/-- A table that has grown has its lines still. -/
theorem LineOk.more {ts' : List Sb} (h : LineOk ts L) (hp : ∀ (i : Nat) y, ts[i]? = some y → ts'[i]? = some y) (hl : ts.length ≤ ts'.length) : LineOk ts' L :=
  ⟨Nat.le_trans h.le hl, fun id p hid => by
    obtain ⟨y, hy, hor⟩ := h.ex id p hid
    exact ⟨y, hp id y hy, hor⟩⟩
end
end Go.Proofs.YtoamhiaagaaaaaaGreatDoor
