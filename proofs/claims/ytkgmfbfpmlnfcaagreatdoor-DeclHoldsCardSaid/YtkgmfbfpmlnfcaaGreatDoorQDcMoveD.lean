/- package decl: what is declared over another table is refused, or numbered, alike (no program in sight). -/
import Derived.Test.YtkgmfbfpmlnfcaaGreatDoorQDcMove
import Derived.Test.YtkgmfbfpmlnfcaaGreatDoorQRoNoneP
import Derived.Test.YtkgmfbfpmlnfcaaGreatDoorQDcAid
namespace Go.Proofs.YtkgmfbfpmlnfcaaGreatDoor
open Go.RowKit

variable {φ ψ : Nat → Nat} {gs G : List (List Sb)} {d e : DcS}
theorem standsD_sup {types : List Sb} {s : Sb} {n : Nat} (h : standsD types s n = 0) : ∀ a, superD s = some a → 0 ≤ a ∧ a < n := fun a ha => by
  unfold standsD at h
  split at h
  · cases h
  · rw [ha] at h
    dsimp only at h
    split at h
    · cases h
    · omega
theorem standAll_zero {types : List Sb} : ∀ (l : List Sb) (n : Nat), (standAll types l n).1 = 0 → ∀ (k : Nat) s, l[k]? = some s → standsD types s (n + k) = 0
  | [], _, _ => fun k s h => by simp at h
  | x :: l, n, h => fun k s hk => by
    rw [standAll] at h
    by_cases h1 : standsD types x n ≠ 0
    · rw [if_pos h1] at h; exact absurd h h1
    · rw [if_neg h1] at h
      cases k with
      | zero => obtain rfl : x = s := by simpa using hk
                simpa using h1
      | succ k =>
        have h2 := standAll_zero l (n + 1) h k s (by simpa using hk)
        rw [show n + 1 + k = n + (k + 1) by omega] at h2
        exact h2
theorem tab_at {ids : List Int} (hin : ∀ i ∈ ids, inTab gs i = true) {n : Nat} (hn : n < ids.length) : ∃ (m : Nat) (y : Sb), ids.getD n 0 = (m : Int) ∧ m < total gs ∧ (tabL gs)[m]? = some y := by
  have h1 := hin (ids[n]) (List.getElem_mem hn)
  simp [inTab] at h1
  refine ⟨(ids[n]).toNat, (tabL gs)[(ids[n]).toNat]'(by rw [tabL_len]; omega), ?_, by omega, by simp⟩
  rw [List.getD_eq_getElem?_getD, List.getElem?_eq_getElem hn]
  simp; omega
theorem getD_map {ids : List Int} {f : Int → Int} {n : Nat} (hn : n < ids.length) : (ids.map f).getD n 0 = f (ids.getD n 0) := by
  rw [List.getD_eq_getElem?_getD, List.getD_eq_getElem?_getD, List.getElem?_map, List.getElem?_eq_getElem hn]; rfl
theorem matchesD_move (E : GE φ gs G) {ids ds : List Int} (hin : ∀ i ∈ ids, inTab gs i = true) {s : Sb} {n : Nat} (hn : n < ids.length) (ha : ∀ a, superD s = some a → 0 ≤ a ∧ a < n) : matchesD (tabL G) (ids.map (fI φ)) ds s n = matchesD (tabL gs) ids ds s n := by
  unfold matchesD
  cases hs : superD s with
  | none => rfl
  | some a =>
    obtain ⟨h0, h1⟩ := ha a hs
    dsimp only
    obtain ⟨m, y, e1, e2, e3⟩ := tab_at hin hn
    obtain ⟨m', y', e1', e2', e3'⟩ := tab_at hin (n := a.toNat) (by omega)
    rw [getD_map hn, getD_map (by omega), e1, e1']
    have k1 := E.emb.at_ m y e3
    have k2 := E.emb.at_ m' y' e3'
    simp only [fI, Int.toNat_natCast]
    rw [k1, k2, e3, e3']
    dsimp only
    have hcl := E.c.clo
    have hc := E.emb.comp (hcl y (List.mem_of_getElem? e3)) (hcl y' (List.mem_of_getElem? e3'))
    by_cases hh : CompP (tabL gs) y y'
    · have hh' := hc.2 hh
      rw [if_neg (show ¬ ¬ CompP (tabL G) (mapP (fh φ) y) (mapP (fh φ) y') from fun q => q hh'), if_neg (show ¬ ¬ CompP (tabL gs) y y' from fun q => q hh)]
    · have hh' : ¬ CompP (tabL G) (mapP (fh φ) y) (mapP (fh φ) y') := fun q => hh (hc.1 q)
      rw [if_pos hh', if_pos hh]
theorem matchAll_move (E : GE φ gs G) {ids : List Int} (hin : ∀ i ∈ ids, inTab gs i = true) : ∀ (l : List Sb) (n : Nat) (ds : List Int), n + l.length ≤ ids.length → (∀ (k : Nat) s, l[k]? = some s → ∀ a, superD s = some a → 0 ≤ a ∧ a < ((n + k : Nat) : Int)) → matchAll (tabL G) (ids.map (fI φ)) l n ds = matchAll (tabL gs) ids l n ds
  | [], _, _, _, _ => rfl
  | s :: l, n, ds, hl, ha => by
    simp only [List.length_cons] at hl
    have h1 := matchesD_move E hin (s := s) (n := n) (ds := ds) (by omega) (by simpa using ha 0 s rfl)
    rw [matchAll, matchAll, h1]
    split
    · rfl
    · exact matchAll_move E hin l (n + 1) _ (by omega) (fun k x hx a hs => by have := ha (k + 1) x (by simpa using hx) a hs; rw [show n + 1 + k = n + (k + 1) by omega]; exact this)
/-- Declared alike, over two tables. -/
structure MvD (φ : Nat → Nat) (d e : DcS) : Prop where
  ge : GE φ d.gs e.gs
  ids : e.ids = d.ids.map (fI φ)
  inn : ∀ i ∈ d.ids, inTab d.gs i = true
  ty : e.types = d.types
  dp : e.depths = d.depths
  ok : TabOk d.gs
  ok' : TabOk e.gs
theorem enterG_tot (gs : List (List Sb)) (r : List Sb) : total (enterG gs r).2.2 ≤ total gs + r.length := by
  unfold enterG
  cases findG gs r with
  | some i => exact Nat.le_add_right _ _
  | none =>
    dsimp only
    split
    · exact Nat.le_add_right _ _
    · split
      · exact Nat.le_add_right _ _
      · dsimp only; rw [total_snoc]; exact Nat.le_refl _
theorem addG_tot (gs : List (List Sb)) (ids : List Int) (g : List Sb) : total (addG gs ids g).2.2 ≤ total gs + g.length := by
  have h := enterG_tot gs (rollG ids g).1
  rw [rollG_len] at h
  unfold addG
  split
  · exact Nat.le_add_right _ _
  split
  · exact Nat.le_add_right _ _
  split
  · exact Nat.le_add_right _ _
  split
  · exact Nat.le_add_right _ _
  exact h
theorem MvD.add (h : MvD φ d e) {g : List Sb} (hr : RawG g) (hl : d.ids.length ≤ 100000) (f1 : total d.gs + g.length ≤ 10000) (f2 : total e.gs + g.length ≤ 10000) :
    (addD e g).1 = (addD d g).1 ∧ (addD e g).2.1 = (addD d g).2.1 ∧ ((addD d g).1 = 0 → ∃ ψ, MvD ψ (addD d g).2.2 (addD e g).2.2) := by
  have hle : e.ids.length = d.ids.length := by rw [h.ids, List.length_map]
  obtain ⟨a1, a2⟩ := h.ge.add h.ok h.ok' (g := g) h.inn f1 f2
  rw [← h.ids] at a1 a2
  have ok1 := addG_ok (ids := d.ids) (g := g) h.ok hl hr
  have ok2 := addG_ok (ids := e.ids) (g := g) h.ok' (by rw [hle]; exact hl) hr
  rcases addG_fact d.gs d.ids g with ⟨n1, _, _⟩ | ⟨n1, n2⟩
  · unfold addD
    dsimp only
    rw [if_pos (by rw [a1]; exact n1), if_pos n1, a1, hle]
    refine ⟨rfl, rfl, fun q => ?_⟩
    split at q <;> cases q
  · obtain ⟨ψ, k1, k2, k3⟩ := a2 n1
    unfold addD
    dsimp only
    have n1' : ¬ (addG d.gs d.ids g).2.1 ≠ 0 := fun q => q n1
    have m1' : ¬ (addG e.gs e.ids g).2.1 ≠ 0 := fun q => q (a1.trans n1)
    rw [if_neg m1', if_neg n1', h.ty, h.dp, hle]
    by_cases hs : (standAll (d.types ++ g) g d.ids.length).1 ≠ 0
    · rw [if_pos hs, if_pos hs]
      exact ⟨rfl, rfl, fun q => absurd q hs⟩
    · rw [if_neg hs, if_neg hs]
      have hsz := standAll_zero g d.ids.length (by simpa using hs)
      have hmv := matchAll_move k1 n2.inn g d.ids.length d.depths (by rw [n2.len]; exact Nat.le_refl _) (fun k s hk a ha => standsD_sup (hsz k s hk) a ha)
      rw [← k3] at hmv
      rw [hmv]
      exact ⟨rfl, rfl, fun _ => ⟨ψ, k1, k3, n2.inn, rfl, rfl, ok1, ok2⟩⟩
def sumL (l : List (List Sb)) : Nat := (l.map List.length).sum
theorem sumL_cons (g : List Sb) (l : List (List Sb)) : sumL (g :: l) = g.length + sumL l := by simp [sumL]
theorem addD_gs (d : DcS) (g : List Sb) : (addD d g).2.2.gs = (addG d.gs d.ids g).2.2 := by
  unfold addD
  dsimp only
  split
  · rfl
  · split <;> rfl
theorem MvD.check : ∀ (l : List (List Sb)) {φ : Nat → Nat} {d e : DcS}, MvD φ d e → (∀ g ∈ l, RawG g) → d.ids.length + sumL l ≤ 100000 → total d.gs + sumL l ≤ 10000 → total e.gs + sumL l ≤ 10000 →
    (checkD e l).1 = (checkD d l).1 ∧ (checkD e l).2.1 = (checkD d l).2.1 ∧ ((checkD d l).1 = 0 → ∃ ψ, MvD ψ (checkD d l).2.2 (checkD e l).2.2)
  | [], φ, d, e, h, _, _, _, _ => ⟨rfl, rfl, fun _ => ⟨φ, h⟩⟩
  | g :: l, φ, d, e, h, hr, h1, h2, h3 => by
    rw [sumL_cons] at h1 h2 h3
    obtain ⟨k1, k2, k3⟩ := h.add (hr g (by simp)) (by omega) (by omega) (by omega)
    rw [checkD, checkD]
    by_cases h4 : (addD d g).1 ≠ 0
    · rw [if_pos (by rw [k1]; exact h4), if_pos h4]
      exact ⟨k1, k2, fun q => absurd q h4⟩
    · rw [if_neg (by rw [k1]; exact h4), if_neg h4]
      obtain ⟨ψ, m⟩ := k3 (by simpa using h4)
      obtain ⟨q1, q2, _, q4⟩ := addD_ok (by simpa using h4 : (addD d g).1 = 0)
      have hlen : (addD d g).2.2.ids.length = d.ids.length + g.length := by
        rw [q2]
        rcases addG_fact d.gs d.ids g with ⟨n, _⟩ | ⟨_, n⟩
        · exact absurd q1 n
        · exact n.len
      have t1 := addG_tot d.gs d.ids g
      have t2 := addG_tot e.gs e.ids g
      rw [← addD_gs] at t1 t2
      exact MvD.check l m (fun x hx => hr x (by simp [hx])) (by omega) (by omega) (by omega)
end Go.Proofs.YtkgmfbfpmlnfcaaGreatDoor
