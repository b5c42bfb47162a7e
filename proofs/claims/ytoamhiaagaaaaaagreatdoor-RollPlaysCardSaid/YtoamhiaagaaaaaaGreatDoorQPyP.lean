/- geodelaw09: RollPlays: plain laws. -/
import Derived.Test.YtoamhiaagaaaaaaGreatDoorQMaWalkP
import Derived.Test.YtoamhiaagaaaaaaGreatDoorQRoGetP
namespace Go.Proofs.YtoamhiaagaaaaaaGreatDoor
open Go.RowKit Go.Maps Go.WideMaps

theorem entry_one {gs : List (List Sb)} {i j : Nat} {g h : List Sb} (hg : gs[i]? = some g) (hh : gs[j]? = some h) {id : Nat} (h1 : firstOf gs i ≤ id ∧ id < firstOf gs i + g.length) (h2 : firstOf gs j ≤ id ∧ id < firstOf gs j + h.length) : i = j := by
  rcases Nat.lt_trichotomy i j with hlt | rfl | hlt
  · have := firstOf_mono (gs := gs) (show i + 1 ≤ j from hlt)
    rw [firstOf_succ hg] at this; omega
  · rfl
  · have := firstOf_mono (gs := gs) (show j + 1 ≤ i from hlt)
    rw [firstOf_succ hh] at this; omega
theorem filter_at (rs : List (List Sb)) {j : Nat} {g : List Sb} (h : rs[j]? = some g) (hg : g ≠ []) : ∃ i : Nat, (rs.filter fun g => decide (g ≠ []))[i]? = some g ∧ firstOf (rs.filter fun g => decide (g ≠ [])) i = firstOf rs j := by
  obtain ⟨a, b, rfl, rfl⟩ : ∃ a b, rs = a ++ g :: b ∧ a.length = j := by
    have hlt := (List.getElem?_eq_some_iff.1 h).1
    refine ⟨rs.take j, rs.drop (j + 1), ?_, by simp; omega⟩
    conv => lhs; rw [← List.take_append_drop j rs]
    rw [List.drop_eq_getElem_cons hlt, (List.getElem?_eq_some_iff.1 h).2]
  rw [List.filter_append, List.filter_cons_of_pos (by simpa using hg)]
  refine ⟨(a.filter fun g => decide (g ≠ [])).length, by simp, ?_⟩
  unfold firstOf
  rw [List.take_left, List.take_left, total_filter]
/-- What the reference finds under a number is what package roll has. -/
theorem find_same {gs rs : List (List Sb)} (h : RefOk gs rs) {j m id : Nat} {g : List Sb} (hj : rs[j]? = some g) (hm : m < g.length) (hid : id = firstOf rs j + m) : ∃ i : Nat, gs[i]? = some g ∧ (ofL gs)[id]? = some (i : Int) ∧ firstOf gs i = firstOf rs j ∧ id < total gs := by
  obtain ⟨i, h1, h2⟩ := filter_at rs hj (fun e => by subst e; simp at hm)
  rw [h] at h1 h2
  have hlt : id < total gs := by have := firstOf_add h1; omega
  obtain ⟨i2, g2, k1, k2, k3, k4⟩ := ofL_at gs id hlt
  obtain rfl := entry_one h1 k1 (id := id) (by omega) ⟨k3, k4⟩
  exact ⟨i, h1, k2, h2, hlt⟩
/-- The place of a number's list. -/
theorem at_four (m : Int) : ∃ a : Nat, a < 4 ∧ ((m.tmod 4) + 4).tmod 4 = a := by
  have h1 := Int.tmod_lt_of_pos m (show (0 : Int) < 4 by decide)
  have h2 := Int.lt_tmod_of_pos m (show (0 : Int) < 4 by decide)
  refine ⟨(((m.tmod 4) + 4).tmod 4).toNat, ?_, ?_⟩
  · have h3 := Int.tmod_lt_of_pos (m.tmod 4 + 4) (show (0 : Int) < 4 by decide)
    omega
  · have h4 : 0 ≤ (m.tmod 4 + 4).tmod 4 := Int.tmod_nonneg _ (by omega)
    omega
end Go.Proofs.YtoamhiaagaaaaaaGreatDoor
