import Derived.Test.YtpddbaijnjbfdaaGreatDoorQRoGetBd
import Derived.Deep.WholeRow
namespace Go.Proofs.YtpddbaijnjbfdaaGreatDoor
open Lib (hid)
section
open Go.RowKit Go.Maps Go.WideMaps
def vf (f : Hp → Hp) (v : Vl) : Vl := if v.k = 3 then ⟨v.k, v.nl, (f ⟨v.h, v.n⟩).k, (f ⟨v.h, v.n⟩).n⟩ else v
def ff (f : Hp → Hp) (x : Fl) : Fl := ⟨x.p, vf f x.v, x.m⟩
def mapP (f : Hp → Hp) (x : Sb) : Sb := ⟨x.fin, x.sups.map f, x.k, x.ps.map (vf f), x.rs.map (vf f), x.fs.map (ff f)⟩
theorem mapS_map {σ α : Type} {φ : σ → α → α × σ} {f : α → α} (h : ∀ s x, (φ s x).1 = f x) : ∀ (l : List α) (s : σ), (mapS φ s l).1 = l.map f
  | [], _ => rfl
  | x :: l, s => by simp only [mapS, List.map_cons, h, mapS_map h l]
theorem mapSub_mapP {σ : Type} {φ : σ → Hp → Hp × σ} {f : Hp → Hp} (h : ∀ s x, (φ s x).1 = f x) (s : σ) (x : Sb) : (mapSub φ s x).1 = mapP f x := by
  have hv : ∀ s v, (phiV φ s v).1 = vf f v := fun s v => by
    unfold phiV vf
    split
    · rw [h]
    · rfl
  have hf : ∀ s y, (phiF φ s y).1 = ff f y := fun s y => by unfold phiF ff; rw [hv]
  simp only [mapSub, mapS_map h, mapS_map hv, mapS_map hf, mapP]
theorem mapP_comp (u f : Hp → Hp) (x : Sb) : mapP u (mapP f x) = mapP (fun h => u (f h)) x := by
  have hv : ∀ v, vf u (vf f v) = vf (fun h => u (f h)) v := fun v => by
    by_cases h : v.k = 3
    · simp [vf, h]
    · simp [vf, h]
  have hf : ∀ y, ff u (ff f y) = ff (fun h => u (f h)) y := fun y => by simp [ff, hv]
  simp only [mapP, List.map_map]
  congr 1
  · exact List.map_congr_left fun v _ => hv v
  · exact List.map_congr_left fun v _ => hv v
  · exact List.map_congr_left fun y _ => hf y
theorem mapP_congr {f u : Hp → Hp} {D : Hp → Prop} (h : ∀ y, D y → f y = u y) {x : Sb} (hd : DS D x) : mapP f x = mapP u x := by
  have hv : ∀ v, DV D v → vf f v = vf u v := fun v hv => by
    unfold vf
    split
    · rename_i hk; rw [h _ (hv hk)]
    · rfl
  simp only [mapP]
  congr 1
  · exact List.map_congr_left fun y hy => h y (hd.sups y hy)
  · exact List.map_congr_left fun v hv' => hv v (hd.ps v hv')
  · exact List.map_congr_left fun v hv' => hv v (hd.rs v hv')
  · exact List.map_congr_left fun y hy => by unfold ff; rw [hv _ (hd.fs y hy)]
def shutP (ids : List Int) (h : Hp) : Hp := if h.k ≠ 13 then h else if h.n < ids.length then ⟨15, ids.getD h.n.toNat 0⟩ else ⟨14, h.n - ids.length⟩
theorem shut_fst (ids : List Int) (gn : Nat) (ok : Bool) (h : Hp) : (shut ids gn ok h).1 = shutP ids h := by
  unfold shut shutP; split
  · rfl
  · split <;> rfl
def CanH (ids : List Int) (gn : Nat) (h : Hp) : Prop := h.k = 13 → ¬ h.n < ids.length → h.n - ids.length < gn
theorem shut_can {ids : List Int} {gn : Nat} (ok : Bool) (h : Hp) (he : (shut ids gn ok h).2 = true) : ok = true ∧ CanH ids gn h := by
  unfold shut at he
  split at he
  · rename_i hk; exact ⟨he, fun h13 => absurd h13 hk⟩
  · split at he
    · rename_i hlt; exact ⟨he, fun _ hn => absurd hlt hn⟩
    · simp at he; exact ⟨he.1, fun _ _ => he.2⟩
theorem mapS_can {α : Type} {φ : Bool → α → α × Bool} {C : α → Prop} (h : ∀ s x, (φ s x).2 = true → s = true ∧ C x) : ∀ (l : List α) (s : Bool), (mapS φ s l).2 = true → s = true ∧ ∀ x ∈ l, C x
  | [], s, he => ⟨he, by simp⟩
  | x :: l, s, he => by
    obtain ⟨h1, h2⟩ := mapS_can h l _ he
    obtain ⟨h3, h4⟩ := h s x h1
    exact ⟨h3, fun y hy => (List.mem_cons.1 hy).elim (fun e => e ▸ h4) (h2 y)⟩
theorem mapSub_can {ids : List Int} {gn : Nat} (s : Bool) (x : Sb) (he : (mapSub (shut ids gn) s x).2 = true) : s = true ∧ DS (CanH ids gn) x := by
  have hv : ∀ s v, (phiV (shut ids gn) s v).2 = true → s = true ∧ DV (CanH ids gn) v := fun s v he => by
    unfold phiV at he
    split at he
    · have := shut_can s _ he
      exact ⟨this.1, fun _ => this.2⟩
    · rename_i hk; exact ⟨he, fun h => absurd h hk⟩
  have hf : ∀ s (y : Fl), (phiF (shut ids gn) s y).2 = true → s = true ∧ DV (CanH ids gn) y.v := fun s y he => hv s y.v he
  simp only [mapSub] at he
  obtain ⟨h1, k4⟩ := mapS_can hf _ _ he
  obtain ⟨h2, k3⟩ := mapS_can hv _ _ h1
  obtain ⟨h3, k2⟩ := mapS_can hv _ _ h2
  obtain ⟨h4, k1⟩ := mapS_can shut_can _ _ h3
  exact ⟨h4, ⟨k1, k2, k3, k4⟩⟩
theorem rollG_can {ids : List Int} {g : List Sb} (he : (rollG ids g).2 = true) : ∀ x ∈ g, DS (CanH ids g.length) x := (mapS_can mapSub_can g true he).2
end
section
open Go.RowKit
theorem mapP_id {D : Hp → Prop} {f : Hp → Hp} (h : ∀ y, D y → f y = y) {x : Sb} (hd : DS D x) : mapP f x = x := by
  rw [mapP_congr (u := id) (fun y hy => h y hy) hd]
  have hv : ∀ v, vf id v = v := fun v => by unfold vf; split <;> rfl
  have hf : ∀ y, ff id y = y := fun y => by unfold ff; rw [hv]
  obtain ⟨fin, su, k, lp, lr, lf⟩ := x
  simp only [mapP]
  rw [List.map_id, show vf id = id from funext hv, show ff id = id from funext hf, List.map_id, List.map_id, List.map_id]
theorem rollG_map (ids : List Int) (g : List Sb) : (rollG ids g).1 = g.map (mapP (shutP ids)) := mapS_map (fun s y => mapSub_mapP (shut_fst ids g.length) s y) g true
theorem mapS_can2 {α : Type} {φ : Bool → α → α × Bool} {C : α → Prop} (h : ∀ x, C x → (φ true x).2 = true) : ∀ (l : List α), (∀ x ∈ l, C x) → (mapS φ true l).2 = true
  | [], _ => rfl
  | x :: l, hl => by
    have h1 := h x (hl x (by simp))
    simp only [mapS, h1]
    exact mapS_can2 h l (fun y hy => hl y (by simp [hy]))
theorem shut_can2 {ids : List Int} {gn : Nat} {h : Hp} (hc : CanH ids gn h) : (shut ids gn true h).2 = true := by
  unfold shut
  split
  · rfl
  · rename_i hk
    split
    · rfl
    · rename_i hlt
      have := hc (by omega) hlt
      simpa using this
theorem mapSub_can2 {ids : List Int} {gn : Nat} {x : Sb} (hd : DS (CanH ids gn) x) : (mapSub (shut ids gn) true x).2 = true := by
  have hv : ∀ v, DV (CanH ids gn) v → (phiV (shut ids gn) true v).2 = true := fun v hv => by
    unfold phiV
    split
    · rename_i hk; exact shut_can2 (hv hk)
    · rfl
  have hf : ∀ y : Fl, DV (CanH ids gn) y.v → (phiF (shut ids gn) true y).2 = true := fun y hy => hv y.v hy
  have k1 := mapS_can2 (φ := shut ids gn) (fun h hc => shut_can2 hc) x.sups hd.sups
  have k2 := mapS_can2 hv x.ps hd.ps
  have k3 := mapS_can2 hv x.rs hd.rs
  have k4 := mapS_can2 hf x.fs hd.fs
  simp only [mapSub, k1, k2, k3, k4]
theorem rollG_can2 {ids : List Int} {g : List Sb} (h : ∀ x ∈ g, DS (CanH ids g.length) x) : (rollG ids g).2 = true := mapS_can2 (fun _ hx => mapSub_can2 hx) g h
end
section
open Go.RowKit
def tabL (gs : List (List Sb)) : List Sb := (gs.zipIdx).flatMap fun p => p.1.map (mapP (unroll (firstOf gs p.2)))
theorem tabL_snoc (gs : List (List Sb)) (g : List Sb) : tabL (gs ++ [g]) = tabL gs ++ g.map (mapP (unroll (total gs))) := by
  unfold tabL
  rw [List.zipIdx_append, List.flatMap_append]
  congr 1
  · refine flatMap_congr' fun p hp => ?_
    have := List.snd_lt_of_mem_zipIdx hp
    rw [firstOf_snoc (by omega)]
  · simp [firstOf_snoc (Nat.le_refl _), firstOf_len]
theorem snocRec {P : List (List Sb) → Prop} (h0 : P []) (h1 : ∀ gs g, P gs → P (gs ++ [g])) (gs : List (List Sb)) : P gs := by
  have h : ∀ r : List (List Sb), P r.reverse := by
    intro r
    induction r with
    | nil => exact h0
    | cons g r ih => rw [List.reverse_cons]; exact h1 _ _ ih
  have := h gs.reverse
  rwa [List.reverse_reverse] at this
theorem tabL_len (gs : List (List Sb)) : (tabL gs).length = total gs := by
  refine snocRec (P := fun gs => (tabL gs).length = total gs) rfl (fun gs g h => ?_) gs
  rw [tabL_snoc, List.length_append, List.length_map, h, total_snoc]
theorem tabL_at {gs : List (List Sb)} : ∀ {j k : Nat} {g : List Sb} {x : Sb}, gs[j]? = some g → g[k]? = some x → (tabL gs)[firstOf gs j + k]? = some (mapP (unroll (firstOf gs j)) x) := by
  refine snocRec (P := fun gs => ∀ {j k : Nat} {g : List Sb} {x : Sb}, gs[j]? = some g → g[k]? = some x → (tabL gs)[firstOf gs j + k]? = some (mapP (unroll (firstOf gs j)) x)) (fun h => by simp at h) (fun gs g0 ih {j k g x} hj hk => ?_) gs
  by_cases hlt : j < gs.length
  · rw [List.getElem?_append_left hlt] at hj
    have h1 := firstOf_add hj
    have h2 := (List.getElem?_eq_some_iff.1 hk).1
    rw [tabL_snoc, firstOf_snoc (by omega), List.getElem?_append_left (by rw [tabL_len]; omega)]
    exact ih hj hk
  · have h1 := (List.getElem?_eq_some_iff.1 hj).1
    simp at h1
    obtain rfl : j = gs.length := by omega
    simp at hj
    subst hj
    rw [tabL_snoc, firstOf_snoc (Nat.le_refl _), firstOf_len, List.getElem?_append_right (by rw [tabL_len]; omega), tabL_len, show total gs + k - total gs = k by omega, List.getElem?_map, hk]
    rfl
theorem tabL_loc {gs : List (List Sb)} {id : Nat} {y : Sb} (hy : (tabL gs)[id]? = some y) : ∃ (j k : Nat) (g : List Sb) (x : Sb), gs[j]? = some g ∧ (ofL gs)[id]? = some (j : Int) ∧ id < total gs ∧ id = firstOf gs j + k ∧ g[k]? = some x ∧ y = mapP (unroll (firstOf gs j)) x := by
  have hid : id < total gs := by have := (List.getElem?_eq_some_iff.1 hy).1; rw [tabL_len] at this; exact this
  obtain ⟨j, g, h1, h2, h3, h4⟩ := ofL_at gs id hid
  obtain ⟨x, hx⟩ : ∃ x, g[id - firstOf gs j]? = some x := ⟨g[id - firstOf gs j]'(by omega), by simp⟩
  have h5 := tabL_at h1 hx
  rw [show firstOf gs j + (id - firstOf gs j) = id by omega, hy] at h5
  exact ⟨j, id - firstOf gs j, g, x, h1, h2, hid, by omega, hx, Option.some.inj h5⟩
theorem getG_mapP (gs : List (List Sb)) (j : Nat) (x : Sb) : getG gs j x = mapP (unroll (firstOf gs j)) x := mapSub_mapP (φ := fun (s : Unit) h => (unroll (firstOf gs j) h, s)) (f := unroll (firstOf gs j)) (fun _ _ => rfl) () x
def WfV (D : Hp → Prop) (v : Vl) : Prop := ((v.k = 1 ∨ v.k = 2) ∧ v = ⟨v.k, false, 0, 0⟩) ∨ (v.k = 3 ∧ D ⟨v.h, v.n⟩)
def WfF (D : Hp → Prop) (f : Fl) : Prop := (f.p = 0 ∧ WfV D f.v) ∨ ((f.p = 8 ∨ f.p = 16) ∧ f.v = ⟨1, false, 0, 0⟩)
structure WfS (U D : Hp → Prop) (x : Sb) : Prop where
  sups : ∀ h ∈ x.sups, U h
  ps : ∀ v ∈ x.ps, WfV D v
  rs : ∀ v ∈ x.rs, WfV D v
  fs : ∀ f ∈ x.fs, WfF D f
  kind : (x.k = 1 ∧ x.fs = []) ∨ (x.k = 2 ∧ x.ps = [] ∧ x.rs = []) ∨ (x.k = 3 ∧ x.ps = [] ∧ x.rs = [] ∧ x.fs.length = 1)
theorem WfV.map {D E : Hp → Prop} {f : Hp → Hp} (h : ∀ y, D y → E (f y)) {v : Vl} (hv : WfV D v) : WfV E (vf f v) := by
  rcases hv with ⟨hk, e⟩ | ⟨hk, hd⟩
  · have : vf f v = v := by unfold vf; rw [if_neg (by omega)]
    rw [this]; exact .inl ⟨hk, e⟩
  · have : vf f v = ⟨v.k, v.nl, (f ⟨v.h, v.n⟩).k, (f ⟨v.h, v.n⟩).n⟩ := by unfold vf; rw [if_pos hk]
    rw [this]; exact .inr ⟨hk, h _ hd⟩
theorem WfF.map {D E : Hp → Prop} {f : Hp → Hp} (h : ∀ y, D y → E (f y)) {x : Fl} (hv : WfF D x) : WfF E (ff f x) := by
  rcases hv with ⟨hp, hv⟩ | ⟨hp, e⟩
  · exact .inl ⟨hp, hv.map h⟩
  · refine .inr ⟨hp, ?_⟩
    show vf f x.v = _
    rw [e]; rfl
theorem WfS.map {U V D E : Hp → Prop} {f : Hp → Hp} (hu : ∀ y, U y → V (f y)) (h : ∀ y, D y → E (f y)) {x : Sb} (hx : WfS U D x) : WfS V E (mapP f x) := by
  refine ⟨fun y hy => ?_, fun v hv => ?_, fun v hv => ?_, fun y hy => ?_, ?_⟩
  · obtain ⟨z, hz, rfl⟩ := List.mem_map.1 hy; exact hu z (hx.sups z hz)
  · obtain ⟨z, hz, rfl⟩ := List.mem_map.1 hv; exact (hx.ps z hz).map h
  · obtain ⟨z, hz, rfl⟩ := List.mem_map.1 hv; exact (hx.rs z hz).map h
  · obtain ⟨z, hz, rfl⟩ := List.mem_map.1 hy; exact (hx.fs z hz).map h
  · simpa [mapP] using hx.kind
theorem WfS.ds {U D E : Hp → Prop} (hu : ∀ y, U y → E y) (h : ∀ y, D y → E y) {x : Sb} (hx : WfS U D x) : DS E x := by
  have hv : ∀ {v}, WfV D v → DV E v := fun {v} q hk => by
    rcases q with ⟨q, _⟩ | ⟨_, q⟩
    · omega
    · exact h _ q
  refine ⟨fun y hy => hu y (hx.sups y hy), fun v q => hv (hx.ps v q), fun v q => hv (hx.rs v q), fun y q => ?_⟩
  rcases hx.fs y q with ⟨_, q⟩ | ⟨_, q⟩
  · exact hv q
  · intro hk; rw [q] at hk; simp at hk
def GivenP (h : Hp) : Prop := 1 ≤ h.k ∧ h.k ≤ 12 ∧ h.n = 0
def IdxP (h : Hp) : Prop := h.k = 13 ∧ 0 ≤ h.n ∧ h.n ≤ 4294967295
theorem given_iff {h : Hp} : givenB h = true ↔ GivenP h := by
  simp [givenB, GivenP, and_assoc]
theorem indexed_iff {h : Hp} : indexedB h = true ↔ IdxP h := by
  simp [indexedB, IdxP, and_assoc]
theorem plainV_wf {v : Vl} (h : plainV v = true) : WfV (fun h => GivenP h ∨ IdxP h) v := by
  unfold plainV at h
  split at h
  · rename_i hk; exact .inl ⟨hk, by simpa using h⟩
  · split at h
    · rename_i hk
      simp only [Bool.or_eq_true, given_iff, indexed_iff] at h
      exact .inr ⟨hk, h⟩
    · cases h
theorem plainF_wf {f : Fl} (h : plainF f = true) : WfF (fun h => GivenP h ∨ IdxP h) f := by
  unfold plainF at h
  split at h
  · rename_i hp; exact .inl ⟨hp, plainV_wf h⟩
  · split at h
    · rename_i hp; exact .inr ⟨hp, by simpa using h⟩
    · cases h
theorem plainS_wf {x : Sb} (h : plainS x = true) : WfS IdxP (fun h => GivenP h ∨ IdxP h) x := by
  unfold plainS at h
  simp only [Bool.and_eq_true, List.all_eq_true] at h
  obtain ⟨⟨⟨⟨q1, q2⟩, q3⟩, q4⟩, q5⟩ := h
  refine ⟨fun y hy => indexed_iff.1 (q1 y hy), fun v hv => plainV_wf (q2 v hv), fun v hv => plainV_wf (q3 v hv), fun y hy => plainF_wf (q4 y hy), ?_⟩
  split at q5
  · rename_i hk; exact .inl ⟨hk, List.length_eq_zero_iff.1 (by simpa using q5)⟩
  · split at q5
    · rename_i hk
      have : x.ps.length + x.rs.length = 0 := by simpa using q5
      exact .inr (.inl ⟨hk, List.length_eq_zero_iff.1 (by omega), List.length_eq_zero_iff.1 (by omega)⟩)
    · split at q5
      · rename_i hk
        have : x.ps.length + x.rs.length = 0 ∧ x.fs.length = 1 := by simpa using q5
        exact .inr (.inr ⟨hk, List.length_eq_zero_iff.1 (by omega), List.length_eq_zero_iff.1 (by omega), this.2⟩)
      · cases q5
def NumR (first gl : Nat) (h : Hp) : Prop := (h.k = 14 ∧ 0 ≤ h.n ∧ h.n < gl) ∨ (h.k = 15 ∧ 0 ≤ h.n ∧ h.n < first)
def NumC (n : Nat) (h : Hp) : Prop := h.k = 15 ∧ 0 ≤ h.n ∧ h.n < n
structure TabC (gs : List (List Sb)) : Prop where
  ex : ∀ (j : Nat) g, gs[j]? = some g → ∀ x ∈ g, WfS (NumR (firstOf gs j) g.length) (fun h => GivenP h ∨ NumR (firstOf gs j) g.length h) x
theorem tabC_nil : TabC [] := ⟨fun j g h => by simp at h⟩
def TypC (n : Nat) (y : Sb) : Prop := WfS (NumC n) (fun h => GivenP h ∨ NumC n h) y
theorem unroll_num {first gl n : Nat} (h : first + gl ≤ n) {y : Hp} (hy : NumR first gl y) : NumC n (unroll first y) := by
  unfold unroll
  rcases hy with ⟨hk, h0, h1⟩ | ⟨hk, h0, h1⟩
  · rw [if_pos hk]; exact ⟨rfl, by dsimp only; omega, by dsimp only; omega⟩
  · rw [if_neg (by omega)]; exact ⟨hk, h0, by omega⟩
theorem unroll_given {first : Int} {y : Hp} (hy : GivenP y) : unroll first y = y := by
  unfold unroll; rw [if_neg (by have := hy.2.1; omega)]
theorem TabC.typ {gs : List (List Sb)} (h : TabC gs) {y : Sb} (hy : y ∈ tabL gs) : TypC (total gs) y := by
  obtain ⟨id, hid⟩ := List.getElem?_of_mem hy
  obtain ⟨j, k, g, x, h1, _, _, _, h2, rfl⟩ := tabL_loc hid
  have hf := firstOf_add h1
  refine (h.ex j g h1 x (List.mem_of_getElem? h2)).map (fun z hz => unroll_num hf hz) (fun z hz => ?_)
  rcases hz with hz | hz
  · rw [unroll_given hz]; exact .inl hz
  · exact .inr (unroll_num hf hz)
theorem TabC.drec {gs : List (List Sb)} (h : TabC gs) (ht : total gs ≤ 10000) {j : Nat} {g : List Sb} (hj : gs[j]? = some g) {x : Sb} (hx : x ∈ g) : DS DRec x := by
  have hf := firstOf_add hj
  have hn : ∀ y, NumR (firstOf gs j) g.length y → DRec y := fun y hy hk => by
    rcases hy with ⟨_, h0, h1⟩ | ⟨h15, _⟩ <;> omega
  exact (h.ex j g hj x hx).ds hn (fun y hy => hy.elim (fun q hk => by have := q.2.1; omega) (hn y))
theorem shut_num {gs : List (List Sb)} {ids : List Int} {gn : Nat} (hids : ∀ i ∈ ids, inTab gs i = true) {h : Hp} (hi : IdxP h) (hc : CanH ids gn h) : NumR (total gs) gn (shutP ids h) := by
  obtain ⟨hk, h0, _⟩ := hi
  unfold shutP
  rw [if_neg (by simp [hk])]
  split
  · rename_i hlt
    have hm : ids.getD h.n.toNat 0 ∈ ids := by
      rw [List.getD_eq_getElem?_getD, List.getElem?_eq_getElem (by omega)]; exact List.getElem_mem _
    have := hids _ hm
    simp [inTab] at this
    exact .inr ⟨rfl, this.1, this.2⟩
  · rename_i hlt
    exact .inl ⟨rfl, by dsimp only; omega, hc hk hlt⟩
theorem wf_and {U D E : Hp → Prop} {x : Sb} (h : WfS U D x) (d : DS E x) : WfS (fun y => U y ∧ E y) (fun y => D y ∧ E y) x := by
  refine ⟨fun y hy => ⟨h.sups y hy, d.sups y hy⟩, fun v hv => (h.ps v hv).imp id (fun q => ⟨q.1, q.2, d.ps v hv q.1⟩), fun v hv => (h.rs v hv).imp id (fun q => ⟨q.1, q.2, d.rs v hv q.1⟩),
   fun y hy => (h.fs y hy).imp (fun q => ⟨q.1, q.2.imp id (fun r => ⟨r.1, r.2, d.fs y hy r.1⟩)⟩) id, h.kind⟩
theorem tabC_add {gs : List (List Sb)} {ids : List Int} {g : List Sb} (h : TabC gs) : TabC (addG gs ids g).2.2 := by
  unfold addG
  split
  · exact h
  rename_i p1
  split
  · exact h
  rename_i p2
  split
  · exact h
  rename_i p3
  split
  · exact h
  have p3 : (rollG ids g).2 = true := by simpa using p3
  simp only [Decidable.not_not, List.all_eq_true] at p1 p2
  dsimp only
  unfold enterG
  cases hf : findG gs (rollG ids g).1 with
  | some i => exact h
  | none =>
    dsimp only
    split
    · exact h
    · split
      · exact h
      · refine ⟨fun j g' hj x hx => ?_⟩
        by_cases hlt : j < gs.length
        · rw [List.getElem?_append_left hlt] at hj
          rw [firstOf_snoc (by omega)]
          exact h.ex j g' hj x hx
        · have h1 := (List.getElem?_eq_some_iff.1 hj).1
          simp at h1
          obtain rfl : j = gs.length := by omega
          simp at hj
          subst hj
          rw [firstOf_snoc (Nat.le_refl _), firstOf_len, rollG_len]
          rw [rollG_map] at hx
          obtain ⟨z, hz, rfl⟩ := List.mem_map.1 hx
          have hw := wf_and (plainS_wf (p1 z hz)) (rollG_can p3 z hz)
          refine hw.map (fun y hy => shut_num p2 hy.1 hy.2) (fun y hy => ?_)
          rcases hy with ⟨hy | hy, hc⟩
          · have : shutP ids y = y := by unfold shutP; rw [if_pos (by have := hy.2.1; omega)]
            rw [this]; exact .inl hy
          · exact .inr (shut_num p2 hy hc)
end
section
open Go.RowKit
def fam (k : Int) : Int × Int :=
  if k = 1 ∨ k = 2 ∨ k = 3 ∨ k = 4 ∨ k = 5 ∨ k = 6 then (1, 6) else if k = 7 ∨ k = 8 then (7, 8) else if k = 9 ∨ k = 10 then (9, 10) else if k = 11 ∨ k = 12 then (11, 12) else (0, 0)
def belowG (a b t1 b1 t2 : Int) : Bool := if t1 ≠ t2 then false else if a = b ∨ a = b1 ∨ b = t1 then true else if b = 2 then decide (a = 3 ∨ a = 4 ∨ a = 5) else false
def belowB (a b : Int) : Bool := belowG a b (fam a).1 (fam a).2 (fam b).1
def kindK (k : Int) : Int := if k = 1 then 7 else if k = 2 then 4 else if k = 3 then 5 else 0
def ClosedP (n : Nat) (h : Hp) : Prop := GivenP h ∨ NumC n h
inductive UpTo (ts : List Sb) (i : Nat) : Nat → Prop
  | refl : UpTo ts i i
  | step {j k : Nat} {s : Sb} {h : Hp} : UpTo ts i j → ts[j]? = some s → h ∈ s.sups → h.n = (k : Int) → UpTo ts i k
def Hits (ts : List Sb) (b : Hp) (j : Nat) : Prop := (b.k = 15 ∧ b.n = (j : Int)) ∨ (b.k ≠ 15 ∧ ∃ s, ts[j]? = some s ∧ belowB (kindK s.k) b.k = true)
def ClimbP (ts : List Sb) (i : Nat) (b : Hp) : Prop := ∃ j, UpTo ts i j ∧ Hits ts b j
def HeapP (ts : List Sb) (a b : Hp) : Prop :=
  ClosedP ts.length a ∧ ClosedP ts.length b ∧ (a = b ∨ (a.k = 15 ∧ ClimbP ts a.n.toNat b) ∨ (a.k ≠ 15 ∧ b.k = 15 ∧ ∃ s, ts[b.n.toNat]? = some s ∧ a.k = (fam (kindK s.k)).2) ∨ (a.k ≠ 15 ∧ b.k ≠ 15 ∧ belowB a.k b.k = true))
def NeverP (v : Vl) : Prop := v = ⟨3, false, 0, 0⟩
def ProperP (n : Nat) (v : Vl) : Prop := (v.k = 3 ∧ (NeverP v ∨ ClosedP n ⟨v.h, v.n⟩)) ∨ (v.k ≠ 3 ∧ 1 ≤ v.k ∧ v.k ≤ 4 ∧ v = ⟨v.k, false, 0, 0⟩)
def ValP (ts : List Sb) (a b : Vl) : Prop :=
  ProperP ts.length a ∧ ProperP ts.length b ∧ (a.k = 4 ∨ (a.k = b.k ∧ (a.k ≠ 3 ∨ NeverP a ∨ ((a.nl = true → b.nl = true) ∧ HeapP ts ⟨a.h, a.n⟩ ⟨b.h, b.n⟩))))
def ListP {α : Type} (R : α → α → Prop) (l m : List α) : Prop := l.length = m.length ∧ ∀ (i : Nat) x y, l[i]? = some x → m[i]? = some y → R x y
def StoreP (ts : List Sb) (p q : Int) (a b : Vl) : Prop := (p = 0 ∨ p = 8 ∨ p = 16) ∧ p = q ∧ ValP ts a b
def FieldP (ts : List Sb) (a b : Fl) : Prop := a.m = b.m ∧ StoreP ts a.p b.p a.v b.v ∧ (a.m = true → StoreP ts b.p a.p b.v a.v)
def FieldsP (ts : List Sb) (l m : List Fl) : Prop := m.length ≤ l.length ∧ ∀ (i : Nat) x y, l[i]? = some x → m[i]? = some y → FieldP ts x y
def CompP (ts : List Sb) (a b : Sb) : Prop :=
  a.k = b.k ∧ ((a.k = 1 ∧ ListP (ValP ts) b.ps a.ps ∧ ListP (ValP ts) a.rs b.rs) ∨ (a.k = 2 ∧ FieldsP ts a.fs b.fs) ∨ (a.k = 3 ∧ a.fs.length = 1 ∧ b.fs.length = 1 ∧ FieldsP ts a.fs b.fs))
variable {ts : List Sb}
def Clo (ts : List Sb) : Prop := ∀ y ∈ ts, TypC ts.length y
theorem TabC.clo {gs : List (List Sb)} (h : TabC gs) : Clo (tabL gs) := fun y hy => by rw [tabL_len]; exact h.typ hy
theorem UpTo.lt {i j : Nat} (hc : Clo ts) (hi : i < ts.length) (h : UpTo ts i j) : j < ts.length := by
  induction h with
  | refl => exact hi
  | step _ h3 h4 h5 _ =>
    have := ((hc _ (List.mem_of_getElem? h3)).sups _ h4).2
    omega
theorem up_in {i : Nat} {Z : Nat → Prop} (h0 : Z i) (h1 : ∀ (j k : Nat) s h, Z j → ts[j]? = some s → h ∈ s.sups → h.n = (k : Int) → Z k) {j : Nat} (hj : UpTo ts i j) : Z j := by
  induction hj with
  | refl => exact h0
  | step _ h3 h4 h5 ih => exact h1 _ _ _ _ ih h3 h4 h5
end
section
open Go.RowKit Go.Maps Go.WideMaps
inductive NoTab (w : World) : Value → Prop where
  | absent : NoTab w (.pointer none)
  | bare (q : Nat) (h : w.heap[q]? = some (.cells #[.slice none 0 0, .slice none 0 0, .map none, .pointer none] 101 (0, 0))) : NoTab w (.pointer (some ⟨q, 0, none⟩))
theorem NoTab.below {w w' : World} {p : Value} (h : NoTab w p) (hb : Below w.heap.size w w') : NoTab w' p := by
  cases h with
  | absent => exact .absent
  | bare q h => exact .bare q (by rw [hb.block q (heap_lt h)]; exact h)
set_option maxRecDepth 100000 in
theorem made_none (p : Value) (w : World) (h : NoTab w p) : Calls Tryz.prog 47 #[p] w fun e w' => e = .returned (.bool false) ∧ w' = w := by
  cases h with
  | absent =>
    go_enter Tryz.func47, Tryz.ntmps47
    go_wp2
    go_ret
    exact ⟨rfl, rfl⟩
  | bare q h =>
    have c3 := heap_cell h 3
    simp at c3
    have hq : ∀ w, (binOp .eql 27 (.pointer none) (.pointer (some ⟨q, 0, none⟩))).run Tryz.prog w = .ok (.bool false) w := fun _ => by rfl
    clear h
    go_enter Tryz.func47, Tryz.ntmps47
    go_wp2
    go_ret
    exact ⟨rfl, rfl⟩
variable {p : Value} {w : World}
def emptyS : Value := .agg #[.bool false, .slice none 0 0, .int .i64 0, .slice none 0 0, .slice none 0 0, .slice none 0 0]
set_option maxRecDepth 100000 in
theorem get_none (h : NoTab w p) (id : Int) : Calls Tryz.prog 22 #[p, .int .i64 id] w fun e w' => e = .returned (.tuple #[emptyS, .int .i64 1]) ∧ Below w.heap.size w w' := by
  have C := hid (made_none p (w.alloc (.cells #[.bool false, .slice none 0 0, .int .i64 0, .slice none 0 0, .slice none 0 0, .slice none 0 0] 46)) (h.below ((Below.refl _ _).alloc (Nat.le_refl _) _)))
  clear h
  go_enter Tryz.func22, Tryz.ntmps22
  go_wp2_with fail
  refine C.out.mono ?_
  rintro e w1 ⟨rfl, rfl⟩
  go_wp2
  refine bodyPost_ret (v := .tuple #[emptyS, .int .i64 1]) (by simp [results, Tryz.results22, go_sem, emptyS]) rfl ⟨rfl, ?_⟩
  exact (Below.refl _ _).alloc (Nat.le_refl _) _
end
section
open Go.RowKit
structure TabK (S R : Nat → Prop) (w : World) (t : Nat) (gs : List (List Sb)) : Prop where
  tab : TabAt S R w t gs
  ok : TabOk gs
  c : TabC gs
section
variable {S R : Nat → Prop} {w : World} {t : Nat} {gs : List (List Sb)}
theorem TabK.below {w' : World} (h : TabK S R w t gs) (hb : Below w.heap.size w w') : TabK S R w' t gs := ⟨h.tab.below hb, h.ok, h.c⟩
theorem TabK.ext (h : TabK S R w t gs) (x : Ext w) : TabK S R x.val t gs := h.below x.2
set_option maxRecDepth 100000 in
theorem get_out (ht : TabAt S R w t gs) (hok : total gs ≤ 10000) (id : Int) (hid : ¬ (0 ≤ id ∧ id < total gs)) : Calls Tryz.prog 22 #[.pointer (some ⟨t, 0, none⟩), .int .i64 id] w fun e w' => e = .returned (.tuple #[.agg #[.bool false, .slice none 0 0, .int .i64 0, .slice none 0 0, .slice none 0 0, .slice none 0 0], .int .i64 4]) ∧ Below w.heap.size w w' := by
  have hb : Below w.heap.size w (w.alloc (.cells #[.bool false, .slice none 0 0, .int .i64 0, .slice none 0 0, .slice none 0 0, .slice none 0 0] 46)) := (Below.refl _ _).alloc (Nat.le_refl _) _
  have C := Lib.hid (made_any (ht.below hb))
  have C2 := has_any (ht.below hb) id hok
  rw [show (decide (0 ≤ id) && decide (id < total gs)) = false by rw [Bool.eq_false_iff]; simpa using hid] at C2
  have HC2 := Lib.hid C2
  clear ht hok hid C2
  go_enter Tryz.func22, Tryz.ntmps22
  go_wp2_with fail
  refine C.out.mono ?_
  rintro e w1 ⟨rfl, rfl⟩
  go_wp2_with fail
  refine HC2.out.mono ?_
  rintro e w1 ⟨rfl, rfl⟩
  go_wp2
  refine bodyPost_ret (v := .tuple #[.agg #[.bool false, .slice none 0 0, .int .i64 0, .slice none 0 0, .slice none 0 0, .slice none 0 0], .int .i64 4]) (by simp [results, Tryz.results22, go_sem]) rfl ⟨rfl, ?_⟩
  exact (Below.refl _ _).alloc (Nat.le_refl _) _
theorem get_k (h : TabK S R w t gs) {id : Nat} {y : Sb} (hy : (tabL gs)[id]? = some y) : Calls Tryz.prog 22 #[.pointer (some ⟨t, 0, none⟩), .int .i64 id] w fun e w' => ∃ ds : List Value, e = .returned (.tuple #[.agg ds.toArray, .int .i64 0]) ∧ (∀ w'', Upd (fun b => b < w.heap.size) w' w'' → SubAt w'' ds y) ∧ Below w.heap.size w w' := by
  obtain ⟨j, k, g, x, h1, h2, h3, h4, h5, rfl⟩ := tabL_loc hy
  have := get_own h.tab h.ok h1 h2 h3 h4 h5 (h.c.drec h.ok.total h1 (List.mem_of_getElem? h5))
  rw [getG_mapP] at this
  exact this
end
def neverB (v : Vl) : Bool := decide (v = ⟨3, false, 0, 0⟩)
theorem never_any (v : Vl) (w : World) : Calls Tryz.prog 130 #[.agg (cellsV v).toArray] w fun e w' => e = .returned (.bool (neverB v)) ∧ Below w.heap.size w w' := by
  obtain ⟨k, nl, h, n⟩ := v
  simp only [cellsV, neverB]
  go_enter Tryz.func130, Tryz.ntmps130
  go_wp2
  all_goals
    go_ret
    exact ⟨retb (by simp_all), (Below.refl _ _).alloc (Nat.le_refl _) _⟩
theorem mgiven_any (h n : Int) (w : World) : Calls Tryz.prog 147 #[.agg #[.int .i64 h, .int .i64 n]] w fun e w' => e = .returned (.bool (givenB ⟨h, n⟩)) ∧ Below w.heap.size w w' := by
  unfold givenB
  go_enter Tryz.func147, Tryz.ntmps147
  go_wp2
  all_goals
    go_ret
    exact ⟨retb (by first | (simp_all; done) | (simp_all; omega) | (rw [Bool.eq_iff_iff]; simp_all; done) | (rw [Bool.eq_iff_iff]; simp_all; omega)), (Below.refl _ _).alloc (Nat.le_refl _) _⟩
theorem absent_tab {S R : Nat → Prop} {t : Nat} {gs : List (List Sb)} (w : World) (h : TabK S R w t gs) : Calls Tryz.prog 102 #[.pointer (some ⟨t, 0, none⟩)] w fun e w' => e = .returned (.bool false) ∧ Below w.heap.size w w' := by
  have C := Lib.hid (get_out h.tab h.ok.total (-1) (by omega))
  clear h
  go_enter Tryz.func102, Tryz.ntmps102
  go_wp2_with fail
  refine C.out.mono ?_
  rintro e w1 ⟨rfl, hb⟩
  go_wp2
  go_ret
  exact ⟨rfl, hb.alloc hb.size _⟩
def closedB (n : Nat) (h : Hp) : Bool := givenB h || (decide (h.k = 15) && decide (0 ≤ h.n) && decide (h.n < n))
theorem closed_iff {n : Nat} {h : Hp} : closedB n h = true ↔ ClosedP n h := by
  simp [closedB, ClosedP, given_iff, NumC, and_assoc]
theorem closed_f {n : Nat} {h : Hp} (hg : givenB h = false) (hn : h.k ≠ 15 ∨ h.n < 0 ∨ (n : Int) ≤ h.n) : false = closedB n h := by
  unfold closedB
  rw [hg]
  symm
  rcases hn with hn | hn | hn
  · simp [hn]
  · have : ¬ 0 ≤ h.n := by omega
    simp [this]
  · have : ¬ h.n < n := by omega
    simp [this]
theorem closed_t {n : Nat} {h : Hp} (hg : givenB h = true) : true = closedB n h := by unfold closedB; rw [hg]; rfl
theorem closed_t2 {n : Nat} {h : Hp} (hg : givenB h = false) (h1 : h.k = 15) (h2 : 0 ≤ h.n) (h3 : h.n < n) : true = closedB n h := by
  unfold closedB; rw [hg]; simp [h1, h2, h3]
theorem lenK {S R : Nat → Prop} {t : Nat} {gs : List (List Sb)} {w : World} (h : TabK S R w t gs) : Calls Tryz.prog 148 #[.pointer (some ⟨t, 0, none⟩)] w fun e w' => e = .returned (.int .i64 (total gs)) ∧ Below w.heap.size w w' :=
  (len_any h.tab).mono fun _ _ ⟨h1, h2⟩ => ⟨h1, by subst h2; exact Below.refl _ _⟩
set_option maxHeartbeats 1000000 in
theorem closed_tab {S R : Nat → Prop} {t : Nat} {gs : List (List Sb)} (h n : Int) (w : World) (ht : TabK S R w t gs) : Calls Tryz.prog 139 #[.pointer (some ⟨t, 0, none⟩), .agg #[.int .i64 h, .int .i64 n]] w fun e w' => e = .returned (.bool (closedB (total gs) ⟨h, n⟩)) ∧ Below w.heap.size w w' := by
  have H := Lib.hid (ht.below ((Below.refl _ _).alloc (Nat.le_refl _) (.cells #[.int .i64 h, .int .i64 n] 75)))
  have htl := ht.ok.total
  clear ht
  obtain ⟨b, hbb⟩ : ∃ b, givenB ⟨h, n⟩ = b := ⟨_, rfl⟩
  have HB := Lib.hid hbb
  clear hbb
  have c0 : ∀ x : Ext (w.alloc (.cells #[.int .i64 h, .int .i64 n] 75)), x.val.cell? ⟨w.heap.size, 0, none⟩ = some (.int .i64 h) := fun x => x.cell (heap_cell (World.alloc_heap_new _ _) 0)
  have c1 : ∀ x : Ext (w.alloc (.cells #[.int .i64 h, .int .i64 n] 75)), x.val.cell? ⟨w.heap.size, 1, none⟩ = some (.int .i64 n) := fun x => x.cell (heap_cell (World.alloc_heap_new _ _) 1)
  have fin : ∀ (r : Bool) (x : Ext (w.alloc (.cells #[.int .i64 h, .int .i64 n] 75))), r = closedB (total gs) ⟨h, n⟩ → (Ending.returned (.bool r) = .returned (.bool (closedB (total gs) ⟨h, n⟩)) ∧ Below w.heap.size w x.val) := fun r x e => ⟨retb e, ((Below.refl _ _).alloc (Nat.le_refl _) _).trans (x.2.mono (by simp))⟩
  have FIN := Lib.hid fin
  clear fin
  cases b
  · rcases hk : (h == 15) with _ | _
    · have hk' : h ≠ 15 := by simpa using hk
      have HK := Lib.hid hk'
      clear hk'
      go_enter Tryz.func139, Tryz.ntmps139
      go_wp2
      refine wp_region_calm (by kernel_rfl) (by kernel_rfl) ?_
      repeat (go_big_quiet_step (first | (go_at_call 147; exact Ext.call _ ((mgiven_any h n _).mono (by rintro e w' ⟨rfl, hb⟩; exact ⟨by rw [HB.out], hb⟩)))))
      refine wpQuiet_nil ?_
      rintro _ ⟨x, rfl⟩
      go_wp2
      go_ret
      exact FIN.out _ x (closed_f HB.out (.inl HK.out))
    · have hk' : h = 15 := by simpa using hk
      have HK := Lib.hid hk'
      clear hk'
      rcases hn : decide (0 ≤ n) with _ | _
      · have hn' : ¬ 0 ≤ n := by simpa using hn
        have HN := Lib.hid hn'
        clear hn'
        go_enter Tryz.func139, Tryz.ntmps139
        go_wp2
        refine wp_region_calm (by kernel_rfl) (by kernel_rfl) ?_
        repeat (go_big_quiet_step (first | (go_at_call 147; exact Ext.call _ ((mgiven_any h n _).mono (by rintro e w' ⟨rfl, hb⟩; exact ⟨by rw [HB.out], hb⟩)))))
        refine wpQuiet_nil ?_
        rintro _ ⟨x, rfl⟩
        go_wp2
        go_ret
        exact FIN.out _ x (closed_f HB.out (.inr (.inl (by have := HN.out; dsimp only; omega))))
      · have hn' : 0 ≤ n := by simpa using hn
        have HN := Lib.hid hn'
        clear hn'
        have hn2 : decide (n < 0) = false := by simpa using hn
        rcases hl : decide (n < (total gs : Nat)) with _ | _
        · have hl' : ¬ n < (total gs : Nat) := by simpa using hl
          have HL := Lib.hid hl'
          clear hl'
          go_enter Tryz.func139, Tryz.ntmps139
          go_wp2
          refine wp_region_calm (by kernel_rfl) (by kernel_rfl) ?_
          repeat (go_big_quiet_step (first | (go_at_call 147; exact Ext.call _ ((mgiven_any h n _).mono (by rintro e w' ⟨rfl, hb⟩; exact ⟨by rw [HB.out], hb⟩))) | (go_at_call 148; exact Ext.call _ (lenK (H.out.ext _)))))
          refine wpQuiet_nil ?_
          rintro _ ⟨x, rfl⟩
          go_wp2
          go_ret
          exact FIN.out _ x (closed_f HB.out (.inr (.inr (by have := HL.out; dsimp only; omega))))
        · have hl' : n < (total gs : Nat) := by simpa using hl
          have HL := Lib.hid hl'
          clear hl'
          go_enter Tryz.func139, Tryz.ntmps139
          go_wp2
          refine wp_region_calm (by kernel_rfl) (by kernel_rfl) ?_
          repeat (go_big_quiet_step (first | (go_at_call 147; exact Ext.call _ ((mgiven_any h n _).mono (by rintro e w' ⟨rfl, hb⟩; exact ⟨by rw [HB.out], hb⟩))) | (go_at_call 148; exact Ext.call _ (lenK (H.out.ext _)))))
          refine wpQuiet_nil ?_
          rintro _ ⟨x, rfl⟩
          go_wp2
          go_ret
          exact FIN.out _ x (closed_t2 HB.out HK.out HN.out HL.out)
  · go_enter Tryz.func139, Tryz.ntmps139
    go_wp2
    refine wp_region_calm (by kernel_rfl) (by kernel_rfl) ?_
    repeat (go_big_quiet_step (first | (go_at_call 147; exact Ext.call _ ((mgiven_any h n _).mono (by rintro e w' ⟨rfl, hb⟩; exact ⟨by rw [HB.out], hb⟩)))))
    refine wpQuiet_nil ?_
    rintro _ ⟨x, rfl⟩
    go_wp2
    go_ret
    exact FIN.out _ x (closed_t HB.out)
theorem ret2 {k q : IntKind} {a b c d : Int} (h : a = b) (h' : c = d) : Ending.returned (.tuple #[.int k a, .int q c]) = .returned (.tuple #[.int k b, .int q d]) := by rw [h, h']
set_option maxHeartbeats 1000000 in
theorem family_any (k : Int) (w : World) : Calls Tryz.prog 141 #[.int .i64 k] w fun e w' => e = .returned (.tuple #[.int .i64 (fam k).1, .int .i64 (fam k).2]) ∧ w = w' := by
  go_enter Tryz.func141, Tryz.ntmps141
  go_wp2
  all_goals
    go_ret2
    refine ⟨ret2 ?_ ?_, rfl⟩ <;> (unfold fam; simp_all)
set_option maxHeartbeats 1000000 in
theorem below_any (a b : Int) (w : World) : Calls Tryz.prog 143 #[.int .i64 a, .int .i64 b] w fun e w' => e = .returned (.bool (belowB a b)) ∧ w = w' := by
  unfold belowB
  obtain ⟨t1, h1⟩ : ∃ t, (fam a).1 = t := ⟨_, rfl⟩
  obtain ⟨b1, h2⟩ : ∃ t, (fam a).2 = t := ⟨_, rfl⟩
  obtain ⟨t2, h3⟩ : ∃ t, (fam b).1 = t := ⟨_, rfl⟩
  obtain ⟨b2, h4⟩ : ∃ t, (fam b).2 = t := ⟨_, rfl⟩
  rw [h1, h2, h3]
  have H1 := Lib.hid h1; have H2 := Lib.hid h2; have H3 := Lib.hid h3; have H4 := Lib.hid h4
  clear h1 h2 h3 h4
  go_enter Tryz.func143, Tryz.ntmps143
  go_wp2_with fail
  refine (family_any a _).mono ?_
  rintro e w' ⟨rfl, rfl⟩
  rw [H1.out, H2.out]
  go_wp2_with fail
  refine (family_any b _).mono ?_
  rintro e w' ⟨rfl, rfl⟩
  rw [H3.out, H4.out]
  clear H1 H2 H3 H4
  go_wp2
  all_goals
    go_ret
    refine ⟨retb ?_, rfl⟩
    unfold belowG
    first | (simp_all; done) | (rw [Bool.eq_iff_iff]; simp_all; done)
theorem reti {a b : Int} (h : a = b) : Ending.returned (.int .i64 a) = .returned (.int .i64 b) := by rw [h]
set_option maxRecDepth 100000 in
theorem kindOf_any (f : Bool) (v1 v2 v3 v4 : Value) (k : Int) (w : World) : Calls Tryz.prog 142 #[.agg #[.bool f, v1, .int .i64 k, v2, v3, v4]] w fun e w' => e = .returned (.int .i64 (kindK k)) ∧ Below w.heap.size w w' := by
  go_enter Tryz.func142, Tryz.ntmps142
  go_wp2
  all_goals
    go_ret
    refine ⟨reti ?_, (Below.refl _ _).alloc (Nat.le_refl _) _⟩
    unfold kindK; simp_all
end
section
open Go.RowKit
def rowL (k : Int) : List Int := if k = 2 then [2, 1, 0, 0, 0, 0] else if k = 3 ∨ k = 4 ∨ k = 5 then [k, 2, 1, 0, 0, 0] else if k = 6 then [6, 3, 4, 5, 2, 1] else if k = 8 then [8, 7, 0, 0, 0, 0] else if k = 10 then [10, 9, 0, 0, 0, 0] else if k = 12 then [12, 11, 0, 0, 0, 0] else [k, 0, 0, 0, 0, 0]
theorem rowL_len (k : Int) : (rowL k).length = 6 := by
  unfold rowL
  split; · rfl
  split; · rfl
  split; · rfl
  split; · rfl
  split; · rfl
  split <;> rfl
def rowC (k : Int) : Array Value := ((rowL k).map (Value.int .i64)).toArray
def givenR (a b : Int) : Bool := (rowL a).contains b && decide (b ≠ 0)
theorem givenR_below {a b : Int} (h1 : 1 ≤ a) (h2 : a ≤ 12) (h3 : 1 ≤ b) (h4 : b ≤ 12) : givenR a b = belowB a b := by
  obtain ⟨x, rfl⟩ : ∃ x : Nat, a = x := ⟨a.toNat, by omega⟩
  obtain ⟨y, rfl⟩ : ∃ y : Nat, b = y := ⟨b.toNat, by omega⟩
  have h : ∀ x : Nat, x < 13 → ∀ y : Nat, y < 13 → 1 ≤ x → 1 ≤ y → givenR (x : Int) (y : Int) = belowB (x : Int) (y : Int) := by decide +kernel
  exact h x (by omega) y (by omega) (by omega) (by omega)
set_option maxRecDepth 100000 in
set_option maxHeartbeats 4000000 in
theorem row_any (k : Int) (w : World) : Calls Tryz.prog 133 #[.int .i64 k] w fun e w' => e = .returned (.agg (rowC k)) ∧ Below w.heap.size w w' := by
  have fin : ∀ (a b c d e f : Int) (w' : World), rowL k = [a, b, c, d, e, f] → Below w.heap.size w w' → (Ending.returned (.agg #[.int .i64 a, .int .i64 b, .int .i64 c, .int .i64 d, .int .i64 e, .int .i64 f]) = .returned (.agg (rowC k)) ∧ Below w.heap.size w w') := fun a b c d e f w' h hb => ⟨by unfold rowC; rw [h]; rfl, hb⟩
  have FIN := hid fin
  clear fin
  by_cases k2 : k = 2
  · subst k2
    go_enter Tryz.func133, Tryz.ntmps133
    go_wp2
    exact bodyPost_ret (results_cell_row rfl _ _ w.heap.size 243 _ (0, 0) _ rfl (World.alloc_heap_new _ _) Tryz.underlying243 rfl (by kernel_rfl)) rfl (FIN.out _ _ _ _ _ _ _ rfl ((Below.refl _ _).alloc (Nat.le_refl _) _))
  by_cases k3 : k = 3
  · subst k3
    go_enter Tryz.func133, Tryz.ntmps133
    go_wp2
    exact bodyPost_ret (results_cell_row rfl _ _ w.heap.size 243 _ (0, 0) _ rfl (World.alloc_heap_new _ _) Tryz.underlying243 rfl (by kernel_rfl)) rfl (FIN.out _ _ _ _ _ _ _ rfl ((Below.refl _ _).alloc (Nat.le_refl _) _))
  by_cases k4 : k = 4
  · subst k4
    go_enter Tryz.func133, Tryz.ntmps133
    go_wp2
    exact bodyPost_ret (results_cell_row rfl _ _ w.heap.size 243 _ (0, 0) _ rfl (World.alloc_heap_new _ _) Tryz.underlying243 rfl (by kernel_rfl)) rfl (FIN.out _ _ _ _ _ _ _ rfl ((Below.refl _ _).alloc (Nat.le_refl _) _))
  by_cases k5 : k = 5
  · subst k5
    go_enter Tryz.func133, Tryz.ntmps133
    go_wp2
    exact bodyPost_ret (results_cell_row rfl _ _ w.heap.size 243 _ (0, 0) _ rfl (World.alloc_heap_new _ _) Tryz.underlying243 rfl (by kernel_rfl)) rfl (FIN.out _ _ _ _ _ _ _ rfl ((Below.refl _ _).alloc (Nat.le_refl _) _))
  by_cases k6 : k = 6
  · subst k6
    go_enter Tryz.func133, Tryz.ntmps133
    go_wp2
    exact bodyPost_ret (results_cell_row rfl _ _ w.heap.size 243 _ (0, 0) _ rfl (World.alloc_heap_new _ _) Tryz.underlying243 rfl (by kernel_rfl)) rfl (FIN.out _ _ _ _ _ _ _ rfl ((Below.refl _ _).alloc (Nat.le_refl _) _))
  by_cases k8 : k = 8
  · subst k8
    go_enter Tryz.func133, Tryz.ntmps133
    go_wp2
    exact bodyPost_ret (results_cell_row rfl _ _ w.heap.size 243 _ (0, 0) _ rfl (World.alloc_heap_new _ _) Tryz.underlying243 rfl (by kernel_rfl)) rfl (FIN.out _ _ _ _ _ _ _ rfl ((Below.refl _ _).alloc (Nat.le_refl _) _))
  by_cases k10 : k = 10
  · subst k10
    go_enter Tryz.func133, Tryz.ntmps133
    go_wp2
    exact bodyPost_ret (results_cell_row rfl _ _ w.heap.size 243 _ (0, 0) _ rfl (World.alloc_heap_new _ _) Tryz.underlying243 rfl (by kernel_rfl)) rfl (FIN.out _ _ _ _ _ _ _ rfl ((Below.refl _ _).alloc (Nat.le_refl _) _))
  by_cases k12 : k = 12
  · subst k12
    go_enter Tryz.func133, Tryz.ntmps133
    go_wp2
    exact bodyPost_ret (results_cell_row rfl _ _ w.heap.size 243 _ (0, 0) _ rfl (World.alloc_heap_new _ _) Tryz.underlying243 rfl (by kernel_rfl)) rfl (FIN.out _ _ _ _ _ _ _ rfl ((Below.refl _ _).alloc (Nat.le_refl _) _))
  have e2 : (k == 2) = false := by simpa using k2
  have e3 : (k == 3) = false := by simpa using k3
  have e4 : (k == 4) = false := by simpa using k4
  have e5 : (k == 5) = false := by simpa using k5
  have e6 : (k == 6) = false := by simpa using k6
  have e8 : (k == 8) = false := by simpa using k8
  have e10 : (k == 10) = false := by simpa using k10
  have e12 : (k == 12) = false := by simpa using k12
  have HR := hid (show rowL k = [k, 0, 0, 0, 0, 0] by unfold rowL; rw [if_neg k2, if_neg (by omega), if_neg k6, if_neg k8, if_neg k10, if_neg k12])
  clear k2 k3 k4 k5 k6 k8 k10 k12
  go_enter Tryz.func133, Tryz.ntmps133
  go_wp2
  exact bodyPost_ret (results_cell_row rfl _ _ w.heap.size 243 _ (0, 0) _ rfl (World.alloc_heap_new _ _) Tryz.underlying243 rfl (by kernel_rfl)) rfl (FIN.out _ _ _ _ _ _ _ HR.out ((Below.refl _ _).alloc (Nat.le_refl _) _))
set_option maxRecDepth 100000 in
set_option maxHeartbeats 4000000 in
theorem given_ref (a b : Int) (w : World) : Calls Tryz.prog 120 #[.int .i64 a, .int .i64 b] w fun e w' => e = .returned (.bool (givenR a b)) ∧ Below w.heap.size w w' := by
  obtain ⟨x0, x1, x2, x3, x4, x5, hx⟩ : ∃ x0 x1 x2 x3 x4 x5, rowL a = [x0, x1, x2, x3, x4, x5] := by
    have := rowL_len a
    match h : rowL a, this with
    | [x0, x1, x2, x3, x4, x5], _ => exact ⟨x0, x1, x2, x3, x4, x5, rfl⟩
  have C := fun w => row_any a w
  unfold rowC at C
  unfold givenR
  rw [hx] at C ⊢
  simp only [List.map_cons, List.map_nil] at C
  have HC := hid C
  clear C hx
  go_enter Tryz.func120, Tryz.ntmps120
  go_wp2_with fail
  refine (HC.out _).mono ?_
  rintro e w1 ⟨rfl, hb1⟩
  have HB1 := hid hb1
  clear hb1
  go_wp2
  obtain ⟨W, hW⟩ : ∃ W : World, W = w1.alloc (.cells #[.int .i64 x0, .int .i64 x1, .int .i64 x2, .int .i64 x3, .int .i64 x4, .int .i64 x5] 243) := ⟨_, rfl⟩
  obtain ⟨q, hq⟩ : ∃ q, w1.heap.size = q := ⟨_, rfl⟩
  have hz : W.heap[q]? = some (.cells #[.int .i64 x0, .int .i64 x1, .int .i64 x2, .int .i64 x3, .int .i64 x4, .int .i64 x5] 243 (0, 0)) := by rw [hW]; exact heap_alloc_at _ _ hq.symm
  have hb : Below w.heap.size w W := by rw [hW]; exact HB1.out.alloc HB1.out.size _
  have HZ := hid (show ∀ (i : Nat) x, [x0, x1, x2, x3, x4, x5][i]? = some x → W.cell? ⟨q, i, none⟩ = some (.int .i64 x) from fun i x h => by
    rw [heap_cell hz i]
    match i, h with
    | 0, h => simp at h; subst h; rfl
    | 1, h => simp at h; subst h; rfl
    | 2, h => simp at h; subst h; rfl
    | 3, h => simp at h; subst h; rfl
    | 4, h => simp at h; subst h; rfl
    | 5, h => simp at h; subst h; rfl
    | i + 6, h => simp at h)
  have HB := hid hb
  rw [← hW, hq]
  obtain ⟨xs, hxs⟩ : ∃ xs, [x0, x1, x2, x3, x4, x5] = xs := ⟨_, rfl⟩
  have HL := hid (show xs.length = 6 by rw [← hxs]; rfl)
  have HXS := hid hxs
  rw [hxs] at HZ
  clear hz hb hW hq hxs
  go_loopw [6] (fun vi wr => ∃ i : Nat, vi = .int .i64 i ∧ i ≤ 6 ∧ (∀ (j : Nat) x, j < i → xs[j]? = some x → x ≠ b) ∧ wr = W) (fun vi _ => 6 - (intOf vi).toNat)
  case atStart => exact ⟨0, rfl, by omega, fun j x h => absurd h (Nat.not_lt_zero _), rfl⟩
  case round =>
    obtain ⟨i, rfl, hi, hno, rfl⟩ := hrel
    have HNO := hid hno
    clear hno
    by_cases hlt : i < 6
    · obtain ⟨x, hx⟩ : ∃ x, xs[i]? = some x := ⟨xs[i]'(by rw [HL.out]; exact hlt), by simp⟩
      have hc := HZ.out i x hx
      have hlt' : (i : Int) < 6 := by omega
      have HX := hid hx; have HLT := hid hlt
      clear hx hlt hi
      by_cases hxb : x = b
      · subst hxb
        have hmem : xs.contains x = true := by simpa using List.mem_of_getElem? HX.out
        by_cases h0 : x = 0
        · subst h0
          have HM := hid hmem
          clear hmem
          go_wp2
          go_ret
          exact ⟨retb (by rw [HXS.out]; simp), HB.out⟩
        · have e0 : (x != 0) = true := by simpa using h0
          have e1 : (x == 0) = false := by simpa using h0
          have H0 := hid h0; have HM := hid hmem
          clear h0 hmem
          go_wp2
          go_ret
          exact ⟨retb (by rw [HXS.out, HM.out, decide_eq_true H0.out]; rfl), HB.out⟩
      · have e1 : (x == b) = false := by simpa using hxb
        have HXB := hid hxb
        clear hxb
        go_wp2
        go_roundw
        case rel => exact ⟨i + 1, by go_num, HLT.out, fun j y hj hy => by
          by_cases e : j = i
          · subst e; obtain rfl := Option.some.inj (HX.out.symm.trans hy); exact HXB.out
          · exact HNO.out j y (by omega) hy, by trivial⟩
        case measure => have := HLT.out; simp [intOf]; omega
    · obtain rfl : i = 6 := by omega
      clear hlt hi
      go_wp2
      go_ret
      refine ⟨retb ?_, HB.out⟩
      symm
      rw [HXS.out, Bool.and_eq_false_iff]
      left
      rw [Bool.eq_false_iff]
      intro h
      obtain ⟨j, hj⟩ := List.getElem?_of_mem (show b ∈ xs by simpa using h)
      exact HNO.out j b (by have := (List.getElem?_eq_some_iff.1 hj).1; rw [HL.out] at this; exact this) hj rfl
end
end Go.Proofs.YtpddbaijnjbfdaaGreatDoor
