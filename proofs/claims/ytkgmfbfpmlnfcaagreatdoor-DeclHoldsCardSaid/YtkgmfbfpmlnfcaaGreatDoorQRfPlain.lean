/- geoderef04, geoderef09: what the reference tells, and that it is what package roll tells (no program in sight). -/
import Derived.Test.YtkgmfbfpmlnfcaaGreatDoorQMaTabP
namespace Go.Proofs.YtkgmfbfpmlnfcaaGreatDoor
open Go.RowKit

/-- The heap types of value types, of a type. -/
def refsV (l : List Vl) : List Hp := (l.filter fun v => decide (v.k = 3)).map fun v => ⟨v.h, v.n⟩
def valsR (x : Sb) : List Vl := x.ps ++ x.rs ++ x.fs.map Fl.v
def heapsR (x : Sb) : List Hp := x.sups ++ refsV (valsR x)
theorem refsV_append (l m : List Vl) : refsV (l ++ m) = refsV l ++ refsV m := by simp [refsV]
theorem refsV_snoc (l : List Vl) (v : Vl) : refsV (l ++ [v]) = if v.k = 3 then refsV l ++ [⟨v.h, v.n⟩] else refsV l := by
  rw [refsV_append]
  by_cases h : v.k = 3
  · simp [refsV, h]
  · simp [refsV, h]
theorem refsV_take {l : List Vl} {i : Nat} {v : Vl} (hv : l[i]? = some v) : refsV (l.take (i + 1)) = if v.k = 3 then refsV (l.take i) ++ [⟨v.h, v.n⟩] else refsV (l.take i) := by
  rw [List.take_add_one, hv]
  exact refsV_snoc _ v
theorem refsV_at {l : List Vl} {i : Nat} {v : Vl} (hv : l[i]? = some v) (hk : v.k = 3) : (refsV l)[(refsV (l.take i)).length]? = some ⟨v.h, v.n⟩ := by
  have h1 := refsV_take hv
  rw [if_pos hk] at h1
  have h2 : refsV l = refsV (l.take (i + 1)) ++ refsV (l.drop (i + 1)) := by rw [← refsV_append, List.take_append_drop]
  rw [h2, h1, List.append_assoc, List.getElem?_append_right (Nat.le_refl _), Nat.sub_self]
  rfl
theorem refsV_len (l : List Vl) : (refsV l).length ≤ l.length := by
  unfold refsV; rw [List.length_map]; exact List.length_filter_le _ _
theorem heapsR_len (x : Sb) : (heapsR x).length ≤ cnt x := by
  unfold heapsR valsR cnt
  have h1 := refsV_len (x.ps ++ x.rs ++ x.fs.map Fl.v)
  simp at h1 ⊢; omega
/-- D, of all heap types of a type. -/
theorem ds_heaps {D : Hp → Prop} {x : Sb} : DS D x ↔ ∀ h ∈ heapsR x, D h := by
  have hv : ∀ {l : List Vl}, (∀ v ∈ l, DV D v) ↔ ∀ h ∈ refsV l, D h := fun {l} => by
    constructor
    · intro h y hy
      obtain ⟨v, hv, rfl⟩ := List.mem_map.1 hy
      obtain ⟨h1, h2⟩ := List.mem_filter.1 hv
      exact h v h1 (by simpa using h2)
    · intro h v hv hk
      exact h _ (List.mem_map.2 ⟨v, List.mem_filter.2 ⟨hv, by simpa using hk⟩, rfl⟩)
  unfold heapsR valsR
  constructor
  · rintro ⟨h1, h2, h3, h4⟩ y hy
    rw [refsV_append, refsV_append] at hy
    simp only [List.mem_append] at hy
    rcases hy with hy | (hy | hy) | hy
    · exact h1 y hy
    · exact hv.1 h2 y hy
    · exact hv.1 h3 y hy
    · exact (hv (l := x.fs.map Fl.v)).1 (fun v hv => by obtain ⟨f, hf, rfl⟩ := List.mem_map.1 hv; exact h4 f hf) y hy
  · intro h
    rw [refsV_append, refsV_append] at h
    simp only [List.mem_append] at h
    exact ⟨fun y hy => h y (.inl hy), hv.2 fun y hy => h y (.inr (.inl (.inl hy))), hv.2 fun y hy => h y (.inr (.inl (.inr hy))), fun f hf => (hv (l := x.fs.map Fl.v)).2 (fun y hy => h y (.inr (.inr hy))) f.v (List.mem_map.2 ⟨f, hf, rfl⟩)⟩
def canB (ids : List Int) (gn : Nat) (h : Hp) : Bool := !decide (h.k = 13) || decide (h.n < ids.length) || decide (h.n - ids.length < gn)
theorem canB_iff {ids : List Int} {gn : Nat} {h : Hp} : canB ids gn h = true ↔ CanH ids gn h := by
  unfold canB CanH
  by_cases h1 : h.k = 13 <;> by_cases h2 : h.n < ids.length <;> simp [h1, h2]
/-- May a type be rolled up? -/
def rollB (ids : List Int) (gn : Nat) (x : Sb) : Bool := plainS x && (heapsR x).all (canB ids gn)
def rollR (ids : List Int) (g : List Sb) : Option (List Sb) := if g.all (rollB ids g.length) = true then some (g.map (mapP (shutP ids))) else none
theorem rollR_eq (ids : List Int) (g : List Sb) : rollR ids g = if g.all plainS = true ∧ (rollG ids g).2 = true then some (rollG ids g).1 else none := by
  unfold rollR
  rw [rollG_map]
  have : g.all (rollB ids g.length) = true ↔ (g.all plainS = true ∧ (rollG ids g).2 = true) := by
    simp only [List.all_eq_true, rollB, Bool.and_eq_true]
    constructor
    · intro h
      exact ⟨fun x hx => (h x hx).1, rollG_can2 fun x hx => ds_heaps.2 fun y hy => canB_iff.1 ((h x hx).2 y hy)⟩
    · rintro ⟨h1, h2⟩ x hx
      exact ⟨h1 x hx, fun y hy => canB_iff.2 (ds_heaps.1 (rollG_can h2 x hx) y hy)⟩
  by_cases hc : g.all (rollB ids g.length) = true
  · rw [if_pos hc, if_pos (this.1 hc)]
  · rw [if_neg hc, if_neg (fun h => hc (this.2 h))]
/-- What the reference's Add answers. -/
def addR (rs : List (List Sb)) (ids : List Int) (g : List Sb) : List Int × Int × List (List Sb) :=
  if ¬ ids.all (inTab rs) = true then ([], 2, rs)
  else match rollR ids g with
    | none => ([], 2, rs)
    | some r => match findG rs r with
      | some i => (ids ++ (List.range r.length).map (fun k : Nat => (firstOf rs i : Int) + (k : Int)), 0, rs)
      | none => if 10000 < total rs + r.length then ([], 5, rs) else (ids ++ (List.range r.length).map (fun k : Nat => (total rs : Int) + (k : Int)), 0, rs ++ [r])
/-- The reference's groups: the table's, and empty ones besides. -/
def RefOk (gs rs : List (List Sb)) : Prop := rs.filter (fun g => decide (g ≠ [])) = gs
theorem refOk_nil : RefOk [] [] := rfl
theorem total_filter (rs : List (List Sb)) : total (rs.filter fun g => decide (g ≠ [])) = total rs := by
  induction rs with
  | nil => rfl
  | cons g rs ih =>
    by_cases hg : g = []
    · subst hg
      rw [List.filter_cons_of_neg (by simp), ih]; simp [total]
    · rw [List.filter_cons_of_pos (by simpa using hg)]
      simp only [total, List.map_cons, List.sum_cons] at ih ⊢
      omega
theorem RefOk.total {gs rs : List (List Sb)} (h : RefOk gs rs) : total rs = total gs := by rw [← h, total_filter]
theorem RefOk.inTab {gs rs : List (List Sb)} (h : RefOk gs rs) : inTab rs = inTab gs := by
  funext i; unfold Proofs.YtkgmfbfpmlnfcaaGreatDoor.inTab; rw [h.total]
theorem find_filter (rs : List (List Sb)) {r : List Sb} (hr : r ≠ []) : (findG rs r).map (firstOf rs) = (findG (rs.filter fun g => decide (g ≠ [])) r).map (firstOf (rs.filter fun g => decide (g ≠ []))) := by
  have h0 : ∀ (a : List Sb) (l : List (List Sb)) (i : Nat), firstOf (a :: l) (i + 1) = a.length + firstOf l i := fun a l i => by simp [firstOf, Proofs.YtkgmfbfpmlnfcaaGreatDoor.total]
  have hc : ∀ (a : List Sb) (l : List (List Sb)), (findG (a :: l) r).map (firstOf (a :: l)) = if a = r then some 0 else ((findG l r).map (firstOf l)).map (a.length + ·) := fun a l => by
    unfold findG
    rw [List.findIdx?_cons]
    by_cases ha : a = r
    · rw [if_pos ha]; simp [ha, firstOf, Proofs.YtkgmfbfpmlnfcaaGreatDoor.total]
    · rw [if_neg ha, if_neg (by simpa using ha), Option.map_map, Option.map_map]
      congr 1
  induction rs with
  | nil => rfl
  | cons a rs ih =>
    by_cases ha : a = []
    · subst ha
      rw [List.filter_cons_of_neg (by simp), hc, if_neg (Ne.symm hr), ih, Option.map_map]
      congr 1
      funext i; simp
    · rw [List.filter_cons_of_pos (by simpa using ha), hc, hc, ih]
theorem addR_eq {gs rs : List (List Sb)} (h : RefOk gs rs) (hok : TabOk gs) (ids : List Int) (g : List Sb) :
    (addR rs ids g).1 = (addG gs ids g).1 ∧ (addR rs ids g).2.1 = (addG gs ids g).2.1 ∧ RefOk (addG gs ids g).2.2 (addR rs ids g).2.2 := by
  unfold addR addG
  rw [h.inTab, rollR_eq]
  by_cases h1 : g.all plainS = true
  · by_cases h2 : ids.all (inTab gs) = true
    · by_cases h3 : (rollG ids g).2 = true
      · rw [if_neg (by simpa using h2), if_pos ⟨h1, h3⟩, if_neg (by simpa using h1), if_neg (by simpa using h2), if_neg (by simpa using h3)]
        dsimp only
        obtain ⟨r, hr⟩ : ∃ r, (rollG ids g).1 = r := ⟨_, rfl⟩
        have hl : r.length = g.length := by rw [← hr, rollG_len]
        rw [hr]
        unfold enterG
        by_cases hn : r = []
        · subst hn
          have hnone : findG gs [] = none := by
            unfold findG
            rw [List.findIdx?_eq_none_iff]
            intro x hx
            have := hok.ne x hx
            simpa using this
          have ht := hok.total
          have hg : g = [] := List.length_eq_zero_iff.1 hl.symm
          subst hg
          rw [hnone]
          dsimp only
          rw [if_neg (show ¬ 10000 < total gs + ([] : List Sb).length by simp; omega), if_pos rfl]
          cases hf : findG rs [] with
          | some i => exact ⟨by simp, rfl, h⟩
          | none =>
            dsimp only
            rw [if_neg (by rw [h.total]; simp; omega)]
            refine ⟨by simp, rfl, ?_⟩
            unfold RefOk at h ⊢
            rw [List.filter_append]
            simpa using h
        · have hf := find_filter rs hn
          rw [h] at hf
          cases hg1 : findG gs r with
          | some j =>
            rw [hg1] at hf
            cases hr1 : findG rs r with
            | none => rw [hr1] at hf; simp at hf
            | some i =>
              rw [hr1] at hf
              simp at hf
              dsimp only
              simp only [ne_eq, not_true, if_false]
              rw [hl, hf]
              exact ⟨by first | rfl | trivial, by first | rfl | trivial, h⟩
          | none =>
            rw [hg1] at hf
            cases hr1 : findG rs r with
            | some i => rw [hr1] at hf; simp at hf
            | none =>
              dsimp only
              rw [h.total]
              by_cases hfull : 10000 < total gs + r.length
              · rw [if_pos hfull, if_pos hfull]
                simp only [ne_eq]
                exact ⟨rfl, rfl, h⟩
              · rw [if_neg hfull, if_neg hfull, if_neg hn]
                simp only [ne_eq, not_true, if_false]
                rw [hl]
                refine ⟨by first | rfl | trivial, by first | rfl | trivial, ?_⟩
                unfold RefOk at h ⊢
                rw [List.filter_append, h]
                simp [hn]
      · rw [if_neg (by simpa using h2), if_neg (fun q => h3 q.2), if_neg (by simpa using h1), if_neg (by simpa using h2), if_pos (by simpa using h3)]
        exact ⟨rfl, rfl, h⟩
    · rw [if_pos (by simpa using h2), if_neg (by simpa using h1), if_pos (by simpa using h2)]
      exact ⟨rfl, rfl, h⟩
  · have hn : ¬ (g.all plainS = true ∧ (rollG ids g).2 = true) := fun q => h1 q.1
    rw [if_neg hn]
    have e : (if ¬ g.all plainS = true then (([], 2, gs) : List Int × Int × List (List Sb)) else if ¬ ids.all (inTab gs) = true then ([], 2, gs) else if ¬ (rollG ids g).2 = true then ([], 2, gs) else if (enterG gs (rollG ids g).1).2.1 ≠ 0 then ([], (enterG gs (rollG ids g).1).2.1, gs) else (ids ++ (List.range g.length).map (fun k : Nat => (enterG gs (rollG ids g).1).1 + (k : Int)), 0, (enterG gs (rollG ids g).1).2.2)) = ([], 2, gs) := if_pos h1
    rw [e]
    dsimp only
    split
    · exact ⟨rfl, rfl, h⟩
    · exact ⟨rfl, rfl, h⟩
theorem tabL_filter (rs : List (List Sb)) : tabL (rs.filter fun g => decide (g ≠ [])) = tabL rs := by
  refine snocRec (P := fun rs => tabL (rs.filter fun g => decide (g ≠ [])) = tabL rs) rfl (fun rs g ih => ?_) rs
  rw [List.filter_append, tabL_snoc]
  by_cases hg : g = []
  · subst hg
    rw [List.filter_cons_of_neg (by simp), List.filter_nil, List.append_nil, ih]; simp
  · rw [List.filter_cons_of_pos (by simpa using hg), List.filter_nil, tabL_snoc, ih, total_filter]
theorem RefOk.tabL {gs rs : List (List Sb)} (h : RefOk gs rs) : tabL rs = tabL gs := by rw [← h, tabL_filter]
theorem RefOk.mem {gs rs : List (List Sb)} (h : RefOk gs rs) {g : List Sb} (hg : g ∈ rs) : g = [] ∨ g ∈ gs := by
  by_cases hn : g = []
  · exact .inl hn
  · exact .inr (by rw [← h, List.mem_filter]; exact ⟨hg, by simpa using hn⟩)
end Go.Proofs.YtkgmfbfpmlnfcaaGreatDoor
