/- Tables that grow: small plain laws. -/
import Derived.Test.YtkgmfbfpmlnfcaaGreatDoorQMaTabP
namespace Go.Proofs.YtkgmfbfpmlnfcaaGreatDoor
open Go.RowKit

theorem firstOf_succD {rs : List (List Sb)} {i : Nat} {g : List Sb} (h : rs[i]? = some g) : firstOf rs (i + 1) = firstOf rs i + g.length := by
  unfold firstOf
  rw [List.take_add_one, h]
  exact total_snoc _ _
theorem entry_oneD {gs : List (List Sb)} {i j : Nat} {g h : List Sb} (hg : gs[i]? = some g) (hh : gs[j]? = some h) {id : Nat} (h1 : firstOf gs i ≤ id ∧ id < firstOf gs i + g.length) (h2 : firstOf gs j ≤ id ∧ id < firstOf gs j + h.length) : i = j := by
  rcases Nat.lt_trichotomy i j with hlt | rfl | hlt
  · have := firstOf_mono gs (show i + 1 ≤ j from hlt)
    rw [firstOf_succD hg] at this; omega
  · rfl
  · have := firstOf_mono gs (show j + 1 ≤ i from hlt)
    rw [firstOf_succD hh] at this; omega
theorem addG_extD (gs : List (List Sb)) (ids : List Int) (g : List Sb) : ∃ tail, (addG gs ids g).2.2 = gs ++ tail := by
  unfold addG
  split
  · exact ⟨[], by simp⟩
  · split
    · exact ⟨[], by simp⟩
    · split
      · exact ⟨[], by simp⟩
      · split
        · exact ⟨[], by simp⟩
        · dsimp only
          unfold enterG
          cases findG gs (rollG ids g).1 with
          | some i => exact ⟨[], by simp⟩
          | none =>
            dsimp only
            split
            · exact ⟨[], by simp⟩
            · split
              · exact ⟨[], by simp⟩
              · exact ⟨_, rfl⟩
theorem tabL_extD (gs tail : List (List Sb)) : ∃ r, tabL (gs ++ tail) = tabL gs ++ r := by
  refine snocRec (P := fun tail => ∃ r, tabL (gs ++ tail) = tabL gs ++ r) ⟨[], by simp⟩ (fun tl g ih => ?_) tail
  obtain ⟨r, hr⟩ := ih
  rw [← List.append_assoc, tabL_snoc, hr]
  exact ⟨_, by rw [List.append_assoc]⟩
end Go.Proofs.YtkgmfbfpmlnfcaaGreatDoor
