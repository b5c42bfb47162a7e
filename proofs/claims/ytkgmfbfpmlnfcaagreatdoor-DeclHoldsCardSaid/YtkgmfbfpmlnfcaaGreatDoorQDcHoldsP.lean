/- geodelaw12: DeclHolds: small plain laws. -/
import Derived.Test.YtkgmfbfpmlnfcaaGreatDoorQDcLine
import Derived.Test.YtkgmfbfpmlnfcaaGreatDoorQDcMoveD
import Derived.Test.YtkgmfbfpmlnfcaaGreatDoorQRoGetP
import Derived.Test.YtkgmfbfpmlnfcaaGreatDoorQDcMatchP
namespace Go.Proofs.YtkgmfbfpmlnfcaaGreatDoor
open Go.RowKit

theorem checkD_types : ∀ (l : List (List Sb)) (d : DcS), (checkD d l).1 = 0 → (checkD d l).2.2.types = d.types ++ l.flatten
  | [], d, _ => by simp [checkD]
  | g :: l, d, h => by
    rw [checkD] at h ⊢
    by_cases h1 : (addD d g).1 ≠ 0
    · rw [if_pos h1] at h; exact absurd h h1
    · rw [if_neg h1] at h ⊢
      obtain ⟨_, _, k3, _⟩ := addD_ok (by simpa using h1 : (addD d g).1 = 0)
      rw [checkD_types l _ h, k3, List.flatten_cons, List.append_assoc]
theorem checkD_tot : ∀ (l : List (List Sb)) (d : DcS), total (checkD d l).2.2.gs ≤ total d.gs + sumL l
  | [], d => by simp [checkD]
  | g :: l, d => by
    have h := addG_tot d.gs d.ids g
    rw [← addD_gs] at h
    rw [checkD, sumL_cons]
    split
    · omega
    · have := checkD_tot l (addD d g).2.2; omega
/-- A module over a new table, and over another one. -/
theorem alone_law {gs : List (List Sb)} (hG : TabOk gs) (m : List (List Sb)) (hr : ∀ g ∈ m, RawG g) (hs : sumL m ≤ 1000) (ht : total gs ≤ 1000) :
    (checkD ⟨[], [], [], gs⟩ m).1 = (checkD ⟨[], [], [], []⟩ m).1 ∧ ((checkD ⟨[], [], [], []⟩ m).1 = 0 → (checkD ⟨[], [], [], gs⟩ m).2.2.ids.length = (checkD ⟨[], [], [], []⟩ m).2.2.ids.length) := by
  have h0 : MvD (fun i => i) ⟨[], [], [], []⟩ ⟨[], [], [], gs⟩ := ⟨⟨tabC_nil, fun j g h => by simp at h, fun i j h _ => by simp [total] at h⟩, rfl, by simp, rfl, rfl, ⟨by simp, by simp, by simp, by simp [total]⟩, hG⟩
  obtain ⟨h1, _, h3⟩ := MvD.check m h0 hr (by simp; omega) (by simp [total]; omega) (by dsimp only; omega)
  refine ⟨h1, fun h => ?_⟩
  obtain ⟨ψ, k⟩ := h3 h
  rw [k.ids, List.length_map]
/-- The type at a place of a group, among all. -/
theorem flat_at2 {l : List (List Sb)} {i k : Nat} {g : List Sb} {s : Sb} (hg : l[i]? = some g) (hs : g[k]? = some s) : l.flatten[((l.take i).map List.length).sum + k]? = some s := by
  have hlt := (List.getElem?_eq_some_iff.1 hg).1
  have e : l = l.take i ++ g :: l.drop (i + 1) := by
    conv => lhs; rw [← List.take_append_drop i l]
    rw [List.drop_eq_getElem_cons hlt, (List.getElem?_eq_some_iff.1 hg).2]
  have hl : ((l.take i).flatten).length = ((l.take i).map List.length).sum := List.length_flatten
  have hk := (List.getElem?_eq_some_iff.1 hs).1
  rw [show l.flatten = (l.take i).flatten ++ (g ++ (l.drop (i + 1)).flatten) by
    conv => lhs; rw [e]
    rw [List.flatten_append, List.flatten_cons]]
  rw [List.getElem?_append_right (by omega), hl, Nat.add_sub_cancel_left, List.getElem?_append_left hk]
  exact hs
/-- What a type that was declared is, in the table. -/
structure HoldT (gs : List (List Sb)) (L : List (List Nat)) (ids : List Int) (n : Nat) (s : Sb) (m : Nat) (y : Sb) : Prop where
  id : ids[n]? = some (m : Int)
  at_ : (tabL gs)[m]? = some y
  len : y.sups.length = s.sups.length
  up : s.sups.length = 1 → ∃ (q : Nat) (up : Sb), y.sups = [⟨15, (q : Int)⟩] ∧ (tabL gs)[q]? = some up ∧ CompP (tabL gs) y up ∧ HeapP (tabL gs) ⟨15, (m : Int)⟩ ⟨15, (q : Int)⟩ ∧ belowL L m q = true ∧ up.fs.length ≤ y.fs.length
  one : s.sups.length ≤ 1
theorem holdT_of {l : List (List Sb)} {d : DcS} (hd : checkD ⟨[], [], [], []⟩ l = (0, 0, d)) {i k : Nat} {g : List Sb} {s : Sb} (hg : l[i]? = some g) (hs : g[k]? = some s) : ∃ m y, HoldT d.gs (growAll (tabL d.gs) []).2 d.ids (((l.take i).map List.length).sum + k) s m y := by
  have h0 : (checkD ⟨[], [], [], []⟩ l).1 = 0 := by rw [hd]
  have hL := LnI.check l LnI.nil h0
  have ht := checkD_types l ⟨[], [], [], []⟩ h0
  rw [hd] at hL ht
  dsimp only at hL ht
  have hty : d.types[((l.take i).map List.length).sum + k]? = some s := by rw [ht, List.nil_append]; exact flat_at2 hg hs
  obtain ⟨m, y, j1, j2, j3, j4, j5⟩ := holds_type hL hty
  have hlt := (List.getElem?_eq_some_iff.1 hty).1
  rw [hL.len] at hlt
  refine ⟨m, y, ⟨?_, j2, j3, fun h => ?_, j5⟩⟩
  · rw [List.getD_eq_getElem?_getD, List.getElem?_eq_getElem hlt] at j1
    rw [List.getElem?_eq_getElem hlt]
    simpa using j1
  · obtain ⟨q, up, k1⟩ := j4 h
    exact ⟨q, up, k1.sups, k1.at_, k1.comp, k1.heap, k1.below, k1.fs⟩
theorem holds_grow {l : List (List Sb)} {d : DcS} (hd : checkD ⟨[], [], [], []⟩ l = (0, 0, d)) : (growAll (tabL d.gs) []).1 = 0 ∧ d.ids.length = sumL l := by
  have h0 : (checkD ⟨[], [], [], []⟩ l).1 = 0 := by rw [hd]
  have hL := LnI.check l LnI.nil h0
  rw [hd] at hL
  refine ⟨hL.grow.1, ?_⟩
  obtain ⟨r, e, hr⟩ := checkD_pre h0
  rw [hd] at e
  dsimp only at e
  rw [e, List.nil_append, hr]; rfl
end Go.Proofs.YtkgmfbfpmlnfcaaGreatDoor
