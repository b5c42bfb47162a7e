/- packages match, chain: the types of a table, one behind the other, closed; what is known of them (no program in sight). -/
import Derived.Test.YtoamhiaagaaaaaaGreatDoorQRoOncePP
namespace Go.Proofs.YtoamhiaagaaaaaaGreatDoor
open Go.RowKit

/-- The types of a table, as Get tells them. -/
def tabL (gs : List (List Sb)) : List Sb := (gs.zipIdx).flatMap fun p => p.1.map (mapP (unroll (firstOf gs p.2)))
theorem tabL_snoc (gs : List (List Sb)) (g : List Sb) : tabL (gs ++ [g]) = tabL gs ++ g.map (mapP (unroll (total gs))) := by
  unfold tabL
  rw [List.zipIdx_append, List.flatMap_append]
  congr 1
  · refine flatMap_congr' fun p hp => ?_
    have := List.snd_lt_of_mem_zipIdx hp
    rw [firstOf_snoc (by omega)]
  · simp [firstOf_snoc (Nat.le_refl _), firstOf_len]
theorem snocRec {P : List (List Sb) → Prop} (h0 : P []) (h1 : ∀ gs g, P gs → P (gs ++ [g])) (gs : List (List Sb)) : P gs := by
  have h : ∀ r : List (List Sb), P r.reverse := by
    intro r
    induction r with
    | nil => exact h0
    | cons g r ih => rw [List.reverse_cons]; exact h1 _ _ ih
  have := h gs.reverse
  rwa [List.reverse_reverse] at this
theorem tabL_len (gs : List (List Sb)) : (tabL gs).length = total gs := by
  refine snocRec (P := fun gs => (tabL gs).length = total gs) rfl (fun gs g h => ?_) gs
  rw [tabL_snoc, List.length_append, List.length_map, h, total_snoc]
theorem tabL_at {gs : List (List Sb)} : ∀ {j k : Nat} {g : List Sb} {x : Sb}, gs[j]? = some g → g[k]? = some x → (tabL gs)[firstOf gs j + k]? = some (mapP (unroll (firstOf gs j)) x) := by
  refine snocRec (P := fun gs => ∀ {j k : Nat} {g : List Sb} {x : Sb}, gs[j]? = some g → g[k]? = some x → (tabL gs)[firstOf gs j + k]? = some (mapP (unroll (firstOf gs j)) x)) (fun h => by simp at h) (fun gs g0 ih {j k g x} hj hk => ?_) gs
  by_cases hlt : j < gs.length
  · rw [List.getElem?_append_left hlt] at hj
    have h1 := firstOf_add hj
    have h2 := (List.getElem?_eq_some_iff.1 hk).1
    rw [tabL_snoc, firstOf_snoc (by omega), List.getElem?_append_left (by rw [tabL_len]; omega)]
    exact ih hj hk
  · have h1 := (List.getElem?_eq_some_iff.1 hj).1
    simp at h1
    obtain rfl : j = gs.length := by omega
    simp at hj
    subst hj
    rw [tabL_snoc, firstOf_snoc (Nat.le_refl _), firstOf_len, List.getElem?_append_right (by rw [tabL_len]; omega), tabL_len, show total gs + k - total gs = k by omega, List.getElem?_map, hk]
    rfl
/-- A number of the table: its group, its place there. -/
theorem tabL_loc {gs : List (List Sb)} {id : Nat} {y : Sb} (hy : (tabL gs)[id]? = some y) : ∃ (j k : Nat) (g : List Sb) (x : Sb), gs[j]? = some g ∧ (ofL gs)[id]? = some (j : Int) ∧ id < total gs ∧ id = firstOf gs j + k ∧ g[k]? = some x ∧ y = mapP (unroll (firstOf gs j)) x := by
  have hid : id < total gs := by have := (List.getElem?_eq_some_iff.1 hy).1; rw [tabL_len] at this; exact this
  obtain ⟨j, g, h1, h2, h3, h4⟩ := ofL_at gs id hid
  obtain ⟨x, hx⟩ : ∃ x, g[id - firstOf gs j]? = some x := ⟨g[id - firstOf gs j]'(by omega), by simp⟩
  have h5 := tabL_at h1 hx
  rw [show firstOf gs j + (id - firstOf gs j) = id by omega, hy] at h5
  exact ⟨j, id - firstOf gs j, g, x, h1, h2, hid, by omega, hx, Option.some.inj h5⟩
theorem getG_mapP (gs : List (List Sb)) (j : Nat) (x : Sb) : getG gs j x = mapP (unroll (firstOf gs j)) x := mapSub_mapP (φ := fun (s : Unit) h => (unroll (firstOf gs j) h, s)) (f := unroll (firstOf gs j)) (fun _ _ => rfl) () x

/-- Types whose heap types are as D says, whose Supers are as U says. -/
def WfV (D : Hp → Prop) (v : Vl) : Prop := ((v.k = 1 ∨ v.k = 2) ∧ v = ⟨v.k, false, 0, 0⟩) ∨ (v.k = 3 ∧ D ⟨v.h, v.n⟩)
def WfF (D : Hp → Prop) (f : Fl) : Prop := (f.p = 0 ∧ WfV D f.v) ∨ ((f.p = 8 ∨ f.p = 16) ∧ f.v = ⟨1, false, 0, 0⟩)
structure WfS (U D : Hp → Prop) (x : Sb) : Prop where
  sups : ∀ h ∈ x.sups, U h
  ps : ∀ v ∈ x.ps, WfV D v
  rs : ∀ v ∈ x.rs, WfV D v
  fs : ∀ f ∈ x.fs, WfF D f
  kind : (x.k = 1 ∧ x.fs = []) ∨ (x.k = 2 ∧ x.ps = [] ∧ x.rs = []) ∨ (x.k = 3 ∧ x.ps = [] ∧ x.rs = [] ∧ x.fs.length = 1)
theorem WfV.map {D E : Hp → Prop} {f : Hp → Hp} (h : ∀ y, D y → E (f y)) {v : Vl} (hv : WfV D v) : WfV E (vf f v) := by
  rcases hv with ⟨hk, e⟩ | ⟨hk, hd⟩
  · have : vf f v = v := by unfold vf; rw [if_neg (by omega)]
    rw [this]; exact .inl ⟨hk, e⟩
  · have : vf f v = ⟨v.k, v.nl, (f ⟨v.h, v.n⟩).k, (f ⟨v.h, v.n⟩).n⟩ := by unfold vf; rw [if_pos hk]
    rw [this]; exact .inr ⟨hk, h _ hd⟩
theorem WfF.map {D E : Hp → Prop} {f : Hp → Hp} (h : ∀ y, D y → E (f y)) {x : Fl} (hv : WfF D x) : WfF E (ff f x) := by
  rcases hv with ⟨hp, hv⟩ | ⟨hp, e⟩
  · exact .inl ⟨hp, hv.map h⟩
  · refine .inr ⟨hp, ?_⟩
    show vf f x.v = _
    rw [e]; rfl
theorem WfS.map {U V D E : Hp → Prop} {f : Hp → Hp} (hu : ∀ y, U y → V (f y)) (h : ∀ y, D y → E (f y)) {x : Sb} (hx : WfS U D x) : WfS V E (mapP f x) := by
  refine ⟨fun y hy => ?_, fun v hv => ?_, fun v hv => ?_, fun y hy => ?_, ?_⟩
  · obtain ⟨z, hz, rfl⟩ := List.mem_map.1 hy; exact hu z (hx.sups z hz)
  · obtain ⟨z, hz, rfl⟩ := List.mem_map.1 hv; exact (hx.ps z hz).map h
  · obtain ⟨z, hz, rfl⟩ := List.mem_map.1 hv; exact (hx.rs z hz).map h
  · obtain ⟨z, hz, rfl⟩ := List.mem_map.1 hy; exact (hx.fs z hz).map h
  · simpa [mapP] using hx.kind
theorem WfS.mono {U V D E : Hp → Prop} (hu : ∀ y, U y → V y) (h : ∀ y, D y → E y) {x : Sb} (hx : WfS U D x) : WfS V E x :=
  ⟨fun y hy => hu y (hx.sups y hy), fun v hv => (hx.ps v hv).imp id (fun q => ⟨q.1, h _ q.2⟩), fun v hv => (hx.rs v hv).imp id (fun q => ⟨q.1, h _ q.2⟩),
   fun y hy => (hx.fs y hy).imp (fun q => ⟨q.1, q.2.imp id (fun r => ⟨r.1, h _ r.2⟩)⟩) id, hx.kind⟩
theorem WfS.ds {U D E : Hp → Prop} (hu : ∀ y, U y → E y) (h : ∀ y, D y → E y) {x : Sb} (hx : WfS U D x) : DS E x := by
  have hv : ∀ {v}, WfV D v → DV E v := fun {v} q hk => by
    rcases q with ⟨q, _⟩ | ⟨_, q⟩
    · omega
    · exact h _ q
  refine ⟨fun y hy => hu y (hx.sups y hy), fun v q => hv (hx.ps v q), fun v q => hv (hx.rs v q), fun y q => ?_⟩
  rcases hx.fs y q with ⟨_, q⟩ | ⟨_, q⟩
  · exact hv q
  · intro hk; rw [q] at hk; simp at hk
def GivenP (h : Hp) : Prop := 1 ≤ h.k ∧ h.k ≤ 12 ∧ h.n = 0
def IdxP (h : Hp) : Prop := h.k = 13 ∧ 0 ≤ h.n ∧ h.n ≤ 4294967295
theorem given_iff {h : Hp} : givenB h = true ↔ GivenP h := by
  simp [givenB, GivenP, and_assoc]
theorem indexed_iff {h : Hp} : indexedB h = true ↔ IdxP h := by
  simp [indexedB, IdxP, and_assoc]
theorem plainV_wf {v : Vl} (h : plainV v = true) : WfV (fun h => GivenP h ∨ IdxP h) v := by
  unfold plainV at h
  split at h
  · rename_i hk; exact .inl ⟨hk, by simpa using h⟩
  · split at h
    · rename_i hk
      simp only [Bool.or_eq_true, given_iff, indexed_iff] at h
      exact .inr ⟨hk, h⟩
    · cases h
theorem plainF_wf {f : Fl} (h : plainF f = true) : WfF (fun h => GivenP h ∨ IdxP h) f := by
  unfold plainF at h
  split at h
  · rename_i hp; exact .inl ⟨hp, plainV_wf h⟩
  · split at h
    · rename_i hp; exact .inr ⟨hp, by simpa using h⟩
    · cases h
theorem plainS_wf {x : Sb} (h : plainS x = true) : WfS IdxP (fun h => GivenP h ∨ IdxP h) x := by
  unfold plainS at h
  simp only [Bool.and_eq_true, List.all_eq_true] at h
  obtain ⟨⟨⟨⟨q1, q2⟩, q3⟩, q4⟩, q5⟩ := h
  refine ⟨fun y hy => indexed_iff.1 (q1 y hy), fun v hv => plainV_wf (q2 v hv), fun v hv => plainV_wf (q3 v hv), fun y hy => plainF_wf (q4 y hy), ?_⟩
  split at q5
  · rename_i hk; exact .inl ⟨hk, List.length_eq_zero_iff.1 (by simpa using q5)⟩
  · split at q5
    · rename_i hk
      have : x.ps.length + x.rs.length = 0 := by simpa using q5
      exact .inr (.inl ⟨hk, List.length_eq_zero_iff.1 (by omega), List.length_eq_zero_iff.1 (by omega)⟩)
    · split at q5
      · rename_i hk
        have : x.ps.length + x.rs.length = 0 ∧ x.fs.length = 1 := by simpa using q5
        exact .inr (.inr ⟨hk, List.length_eq_zero_iff.1 (by omega), List.length_eq_zero_iff.1 (by omega), this.2⟩)
      · cases q5
/-- A rolled heap type with a number: of a group of gl types, that begins at first. -/
def NumR (first gl : Nat) (h : Hp) : Prop := (h.k = 14 ∧ 0 ≤ h.n ∧ h.n < gl) ∨ (h.k = 15 ∧ 0 ≤ h.n ∧ h.n < first)
/-- A closed heap type with a number of a table of n types. -/
def NumC (n : Nat) (h : Hp) : Prop := h.k = 15 ∧ 0 ≤ h.n ∧ h.n < n
structure TabC (gs : List (List Sb)) : Prop where
  ex : ∀ (j : Nat) g, gs[j]? = some g → ∀ x ∈ g, WfS (NumR (firstOf gs j) g.length) (fun h => GivenP h ∨ NumR (firstOf gs j) g.length h) x
theorem tabC_nil : TabC [] := ⟨fun j g h => by simp at h⟩
/-- The closed types. -/
def TypC (n : Nat) (y : Sb) : Prop := WfS (NumC n) (fun h => GivenP h ∨ NumC n h) y
theorem unroll_num {first gl n : Nat} (h : first + gl ≤ n) {y : Hp} (hy : NumR first gl y) : NumC n (unroll first y) := by
  unfold unroll
  rcases hy with ⟨hk, h0, h1⟩ | ⟨hk, h0, h1⟩
  · rw [if_pos hk]; exact ⟨rfl, by dsimp only; omega, by dsimp only; omega⟩
  · rw [if_neg (by omega)]; exact ⟨hk, h0, by omega⟩
theorem unroll_given {first : Int} {y : Hp} (hy : GivenP y) : unroll first y = y := by
  unfold unroll; rw [if_neg (by have := hy.2.1; omega)]
theorem TabC.typ {gs : List (List Sb)} (h : TabC gs) {y : Sb} (hy : y ∈ tabL gs) : TypC (total gs) y := by
  obtain ⟨id, hid⟩ := List.getElem?_of_mem hy
  obtain ⟨j, k, g, x, h1, _, _, _, h2, rfl⟩ := tabL_loc hid
  have hf := firstOf_add h1
  refine (h.ex j g h1 x (List.mem_of_getElem? h2)).map (fun z hz => unroll_num hf hz) (fun z hz => ?_)
  rcases hz with hz | hz
  · rw [unroll_given hz]; exact .inl hz
  · exact .inr (unroll_num hf hz)
theorem TabC.drec {gs : List (List Sb)} (h : TabC gs) (ht : total gs ≤ 10000) {j : Nat} {g : List Sb} (hj : gs[j]? = some g) {x : Sb} (hx : x ∈ g) : DS DRec x := by
  have hf := firstOf_add hj
  have hn : ∀ y, NumR (firstOf gs j) g.length y → DRec y := fun y hy hk => by
    rcases hy with ⟨_, h0, h1⟩ | ⟨h15, _⟩ <;> omega
  exact (h.ex j g hj x hx).ds hn (fun y hy => hy.elim (fun q hk => by have := q.2.1; omega) (hn y))
theorem shut_num {gs : List (List Sb)} {ids : List Int} {gn : Nat} (hids : ∀ i ∈ ids, inTab gs i = true) {h : Hp} (hi : IdxP h) (hc : CanH ids gn h) : NumR (total gs) gn (shutP ids h) := by
  obtain ⟨hk, h0, _⟩ := hi
  unfold shutP
  rw [if_neg (by simp [hk])]
  split
  · rename_i hlt
    have hm : ids.getD h.n.toNat 0 ∈ ids := by
      rw [List.getD_eq_getElem?_getD, List.getElem?_eq_getElem (by omega)]; exact List.getElem_mem _
    have := hids _ hm
    simp [inTab] at this
    exact .inr ⟨rfl, this.1, this.2⟩
  · rename_i hlt
    exact .inl ⟨rfl, by dsimp only; omega, hc hk hlt⟩
theorem wf_and {U D E : Hp → Prop} {x : Sb} (h : WfS U D x) (d : DS E x) : WfS (fun y => U y ∧ E y) (fun y => D y ∧ E y) x := by
  refine ⟨fun y hy => ⟨h.sups y hy, d.sups y hy⟩, fun v hv => (h.ps v hv).imp id (fun q => ⟨q.1, q.2, d.ps v hv q.1⟩), fun v hv => (h.rs v hv).imp id (fun q => ⟨q.1, q.2, d.rs v hv q.1⟩),
   fun y hy => (h.fs y hy).imp (fun q => ⟨q.1, q.2.imp id (fun r => ⟨r.1, r.2, d.fs y hy r.1⟩)⟩) id, h.kind⟩
theorem tabC_add {gs : List (List Sb)} {ids : List Int} {g : List Sb} (h : TabC gs) : TabC (addG gs ids g).2.2 := by
  unfold addG
  split
  · exact h
  rename_i p1
  split
  · exact h
  rename_i p2
  split
  · exact h
  rename_i p3
  split
  · exact h
  have p3 : (rollG ids g).2 = true := by simpa using p3
  simp only [Decidable.not_not, List.all_eq_true] at p1 p2
  dsimp only
  unfold enterG
  cases hf : findG gs (rollG ids g).1 with
  | some i => exact h
  | none =>
    dsimp only
    split
    · exact h
    · split
      · exact h
      · refine ⟨fun j g' hj x hx => ?_⟩
        by_cases hlt : j < gs.length
        · rw [List.getElem?_append_left hlt] at hj
          rw [firstOf_snoc (by omega)]
          exact h.ex j g' hj x hx
        · have h1 := (List.getElem?_eq_some_iff.1 hj).1
          simp at h1
          obtain rfl : j = gs.length := by omega
          simp at hj
          subst hj
          rw [firstOf_snoc (Nat.le_refl _), firstOf_len, rollG_len]
          rw [rollG_map] at hx
          obtain ⟨z, hz, rfl⟩ := List.mem_map.1 hx
          have hw := wf_and (plainS_wf (p1 z hz)) (rollG_can p3 z hz)
          refine hw.map (fun y hy => shut_num p2 hy.1 hy.2) (fun y hy => ?_)
          rcases hy with ⟨hy | hy, hc⟩
          · have : shutP ids y = y := by unfold shutP; rw [if_pos (by have := hy.2.1; omega)]
            rw [this]; exact .inl hy
          · exact .inr (shut_num p2 hy hc)
end Go.Proofs.YtoamhiaagaaaaaaGreatDoor
