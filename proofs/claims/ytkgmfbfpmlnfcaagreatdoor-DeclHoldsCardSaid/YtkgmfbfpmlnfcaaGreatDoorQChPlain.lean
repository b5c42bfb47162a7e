/- package chain: the lines of a table's types (no program in sight). -/
import Derived.Test.YtkgmfbfpmlnfcaaGreatDoorQMaTabP
namespace Go.Proofs.YtkgmfbfpmlnfcaaGreatDoor
open Go.RowKit

/-- A type's line, by the lines of those ahead of it: the error, the line. -/
def nextL (L : List (List Nat)) (id : Nat) (sups : List Hp) : Int × List Nat :=
  match sups with
  | [] => (0, [id])
  | [s] => if s.k ≠ 15 ∨ (id : Int) ≤ s.n ∨ s.n < 0 ∨ (L.length : Int) ≤ s.n then (110, []) else if 64 ≤ (L.getD s.n.toNat []).length then (111, []) else (0, L.getD s.n.toNat [] ++ [id])
  | _ => (110, [])
/-- So many further types get their lines, or the first error. -/
def growL (ts : List Sb) : Nat → List (List Nat) → Int × List (List Nat)
  | 0, L => (0, L)
  | n + 1, L => match ts[L.length]? with
    | none => (0, L)
    | some s => if (nextL L L.length s.sups).1 = 0 then growL ts n (L ++ [(nextL L L.length s.sups).2]) else ((nextL L L.length s.sups).1, L)
def growAll (ts : List Sb) (L : List (List Nat)) : Int × List (List Nat) := growL ts (ts.length - L.length) L
/-- What a table's lines are: each ends in its type, has at most 64 numbers, all of the table. -/
structure LinesOk (L : List (List Nat)) : Prop where
  last : ∀ (i : Nat) p, L[i]? = some p → p.getLast? = some i
  len : ∀ p ∈ L, 0 < p.length ∧ p.length ≤ 64
  num : ∀ p ∈ L, ∀ x ∈ p, x < L.length
theorem linesOk_nil : LinesOk [] := ⟨fun i p h => by simp at h, by simp, by simp⟩
theorem linesOk_next {L : List (List Nat)} (h : LinesOk L) {sups : List Hp} (he : (nextL L L.length sups).1 = 0) : LinesOk (L ++ [(nextL L L.length sups).2]) := by
  obtain ⟨p, hp, hl, hn, hlast⟩ : ∃ p, (nextL L L.length sups).2 = p ∧ (0 < p.length ∧ p.length ≤ 64) ∧ (∀ x ∈ p, x < L.length + 1) ∧ p.getLast? = some L.length := by
    refine ⟨_, rfl, ?_⟩
    match sups, he with
    | [], _ => exact ⟨by simp [nextL], by simp [nextL], by simp [nextL]⟩
    | [s], he =>
      unfold nextL at he ⊢
      dsimp only at he ⊢
      split at he
      · simp at he
      · rename_i h1
        split at he
        · simp at he
        · rename_i h2
          rw [if_neg h1, if_neg h2]
          have hlt : s.n.toNat < L.length := by omega
          have hm : L.getD s.n.toNat [] ∈ L := by
            rw [List.getD_eq_getElem?_getD, List.getElem?_eq_getElem hlt]; exact List.getElem_mem _
          refine ⟨⟨by simp, by rw [List.length_append, List.length_singleton]; omega⟩, fun x hx => ?_, by simp⟩
          simp at hx
          rcases hx with hx | rfl
          · have := h.num _ hm x (by rw [List.getD_eq_getElem?_getD]; exact hx); omega
          · omega
    | a :: b :: r, he => unfold nextL at he; simp at he
  rw [hp]
  refine ⟨fun i q hq => ?_, fun q hq => ?_, fun q hq x hx => ?_⟩
  · by_cases hi : i < L.length
    · rw [List.getElem?_append_left hi] at hq; exact h.last i q hq
    · have h1 := (List.getElem?_eq_some_iff.1 hq).1
      simp at h1
      obtain rfl : i = L.length := by omega
      simp at hq
      subst hq; exact hlast
  · simp at hq
    rcases hq with hq | rfl
    · exact h.len q hq
    · exact hl
  · simp at hq ⊢
    rcases hq with hq | rfl
    · have := h.num q hq x hx; omega
    · exact hn x hx
/-- Who is below whom. -/
def belowL (L : List (List Nat)) (a b : Int) : Bool :=
  decide (0 ≤ a) && decide (a < L.length) && decide (0 ≤ b) && decide (b < L.length) &&
    (decide (((L.getD a.toNat []).getD ((L.getD b.toNat []).length - 1) 0 : Nat) = b.toNat) && decide ((L.getD b.toNat []).length ≤ (L.getD a.toNat []).length))
def depthL (L : List (List Nat)) (a : Int) : Int := if 0 ≤ a ∧ a < L.length then ((L.getD a.toNat []).length : Int) - 1 else -1
end Go.Proofs.YtkgmfbfpmlnfcaaGreatDoor
