/- Groups that are added to two tables: the numbers of the one, told by those of the other (no program in sight). -/
import Derived.Test.YtkgmfbfpmlnfcaaGreatDoorQDcEmb
import Derived.Test.YtkgmfbfpmlnfcaaGreatDoorQRfPlain
import Derived.Test.YtkgmfbfpmlnfcaaGreatDoorQDcAid
namespace Go.Proofs.YtkgmfbfpmlnfcaaGreatDoor
open Go.RowKit

def fI (φ : Nat → Nat) (i : Int) : Int := (φ i.toNat : Int)
/-- Each group of gs stands in G, under other numbers. -/
structure GE (φ : Nat → Nat) (gs G : List (List Sb)) : Prop where
  c : TabC gs
  grp : ∀ (j : Nat) g, gs[j]? = some g → ∃ j' : Nat, G[j']? = some (g.map (mapP (fh φ))) ∧ ∀ k, k < g.length → φ (firstOf gs j + k) = firstOf G j' + k
  inj : ∀ i j, i < total gs → j < total gs → φ i = φ j → i = j
variable {φ ψ : Nat → Nat} {gs G : List (List Sb)}
/-- Heap types of rolled groups whose numbers are below n. -/
def DN (n : Nat) (h : Hp) : Prop := GivenP h ∨ h.k = 14 ∨ (h.k = 15 ∧ 0 ≤ h.n ∧ h.n < n)
theorem numR_dn {first gl n : Nat} (h : first ≤ n) {y : Hp} (hy : NumR first gl y) : DN n y := by
  rcases hy with ⟨a, _⟩ | ⟨a, b, c⟩
  · exact .inr (.inl a)
  · exact .inr (.inr ⟨a, b, by omega⟩)
theorem TabC.dn (hc : TabC gs) {j : Nat} {g : List Sb} (hj : gs[j]? = some g) {x : Sb} (hx : x ∈ g) {n : Nat} (hn : firstOf gs j ≤ n) : DS (DN n) x :=
  (hc.ex j g hj x hx).ds (fun _ hy => numR_dn hn hy) (fun _ hy => hy.elim .inl (numR_dn hn))
theorem fh_same {n : Nat} (h : ∀ i, i < n → φ i = ψ i) {y : Hp} (hy : DN n y) : fh φ y = fh ψ y := by
  unfold fh
  split
  · rename_i hk
    rcases hy with ⟨_, h1, _⟩ | h1 | ⟨_, h1, h2⟩
    · omega
    · omega
    · rw [h y.n.toNat (by omega)]
  · rfl
theorem GE.emb (E : GE φ gs G) : Emb φ (tabL gs) (tabL G) := by
  refine ⟨fun i y hy => ?_, fun i j hi hj h => E.inj i j (by rw [tabL_len] at hi; exact hi) (by rw [tabL_len] at hj; exact hj) h, E.c.clo⟩
  obtain ⟨j, k, g, x, h1, _, _, h4, h5, rfl⟩ := tabL_loc hy
  obtain ⟨j', k1, k2⟩ := E.grp j g h1
  have hk := (List.getElem?_eq_some_iff.1 h5).1
  have h6 := tabL_at k1 (k := k) (x := mapP (fh φ) x) (by rw [List.getElem?_map, h5]; rfl)
  rw [h4, k2 k hk, h6, mapP_comp, mapP_comp]
  congr 1
  refine mapP_congr (D := fun h => GivenP h ∨ NumR (firstOf gs j) g.length h) (fun y hy => ?_) ((E.c.ex j g h1 x (List.mem_of_getElem? h5)).ds (fun _ q => .inr q) (fun _ q => q))
  rcases hy with ⟨a, b, c⟩ | ⟨a, b, c⟩ | ⟨a, b, c⟩
  · have e1 : y.k ≠ 15 := by omega
    have e2 : unroll (firstOf gs j) y = y := unroll_given ⟨a, b, c⟩
    rw [fh_giv e1, e2, fh_giv e1]
    exact unroll_given ⟨a, b, c⟩
  · obtain ⟨yk, yn⟩ := y
    dsimp only at a b c
    subst a
    obtain ⟨m, rfl⟩ : ∃ m : Nat, yn = m := ⟨yn.toNat, by omega⟩
    rw [fh_giv (by simp)]
    have e1 : unroll (firstOf gs j : Int) ⟨14, (m : Int)⟩ = ⟨15, ((firstOf gs j + m : Nat) : Int)⟩ := by simp [unroll]
    have e2 : unroll (firstOf G j' : Int) ⟨14, (m : Int)⟩ = ⟨15, ((firstOf G j' + m : Nat) : Int)⟩ := by simp [unroll]
    rw [e1, e2, fh_def, k2 m (by omega)]
  · obtain ⟨yk, yn⟩ := y
    dsimp only at a b c
    subst a
    have e1 : unroll (firstOf gs j : Int) ⟨15, yn⟩ = ⟨15, yn⟩ := by simp [unroll]
    rw [e1]
    have e2 : fh φ ⟨15, yn⟩ = ⟨15, (φ yn.toNat : Int)⟩ := by simp [fh]
    rw [e2]; simp [unroll]
theorem GE.lt (E : GE φ gs G) {i : Nat} (h : i < total gs) : φ i < total G := by
  have := E.emb.lt (i := i) (by rw [tabL_len]; exact h)
  rw [tabL_len] at this; exact this
/-- What is alike under the other numbers is alike. -/
theorem mapFh_inj {n : Nat} (hi : ∀ i j, i < n → j < n → φ i = φ j → i = j) {g h : List Sb} (hg : ∀ x ∈ g, DS (DN n) x) (hh : ∀ x ∈ h, DS (DN n) x) (e : g.map (mapP (fh φ)) = h.map (mapP (fh φ))) : g = h := by
  classical
  have inv : ∃ ι : Nat → Nat, ∀ i, i < n → ι (φ i) = i := by
    refine ⟨fun q => if hq : ∃ i, i < n ∧ φ i = q then hq.choose else 0, fun i hin => ?_⟩
    have hq : ∃ k, k < n ∧ φ k = φ i := ⟨i, hin, rfl⟩
    show (if hq : ∃ k, k < n ∧ φ k = φ i then hq.choose else 0) = i
    rw [dif_pos hq]
    exact hi _ _ hq.choose_spec.1 hin hq.choose_spec.2
  obtain ⟨ι, hι⟩ := inv
  have back : ∀ l : List Sb, (∀ x ∈ l, DS (DN n) x) → (l.map (mapP (fh φ))).map (mapP (fh ι)) = l := fun l hl => by
    rw [List.map_map]
    refine (List.map_congr_left fun x hx => ?_).trans (List.map_id l)
    simp only [Function.comp, id]
    rw [mapP_comp]
    refine mapP_id (D := DN n) (fun y hy => ?_) (hl x hx)
    obtain ⟨yk, yn⟩ := y
    rcases hy with ⟨a, b, c⟩ | a | ⟨a, b, c⟩
    · have e15 : (⟨yk, yn⟩ : Hp).k ≠ 15 := by omega
      rw [fh_giv e15, fh_giv e15]
    · have e15 : (⟨yk, yn⟩ : Hp).k ≠ 15 := by omega
      rw [fh_giv e15, fh_giv e15]
    · dsimp only at a b c
      subst a
      obtain ⟨m, rfl⟩ : ∃ m : Nat, yn = m := ⟨yn.toNat, by omega⟩
      rw [fh_def, fh_def, hι m (by omega)]
  rw [← back g hg, ← back h hh, e]
theorem findG_at {G : List (List Sb)} {r : List Sb} {i : Nat} (h : findG G r = some i) : G[i]? = some r := by
  obtain ⟨hlt, hx, _⟩ := List.findIdx?_eq_some_iff_getElem.1 h
  rw [List.getElem?_eq_getElem hlt]; simpa using hx
theorem findG_not {G : List (List Sb)} {r : List Sb} (h : findG G r = none) : r ∉ G := fun hm => by
  have := List.findIdx?_eq_none_iff.1 h r hm
  simp at this
theorem nodup_at {G : List (List Sb)} (hn : G.Nodup) {i j : Nat} {r : List Sb} (hi : G[i]? = some r) (hj : G[j]? = some r) : i = j := by
  exact (List.getElem?_inj (List.getElem?_eq_some_iff.1 hi).1 hn).1 (hi.trans hj.symm)
theorem enterG_some {G : List (List Sb)} {r : List Sb} {i : Nat} (h : findG G r = some i) : enterG G r = ((firstOf G i : Int), 0, G) := by unfold enterG; rw [h]
theorem enterG_nil {G : List (List Sb)} (h : findG G [] = none) (ht : total G ≤ 10000) : enterG G [] = ((total G : Int), 0, G) := by
  unfold enterG; rw [h]; dsimp only; rw [if_neg (by simp; omega), if_pos rfl]
theorem enterG_new {G : List (List Sb)} {r : List Sb} (h : findG G r = none) (hr : r ≠ []) (ht : total G + r.length ≤ 10000) : enterG G r = ((total G : Int), 0, G ++ [r]) := by
  unfold enterG; rw [h]; dsimp only; rw [if_neg (by omega), if_neg hr]
/-- Where a group stands behind it was entered. -/
theorem enterG_place {G : List (List Sb)} {r : List Sb} (hr : r ≠ []) (ht : total G + r.length ≤ 10000) : ∃ (G' : List (List Sb)) (j b : Nat), enterG G r = ((b : Int), 0, G') ∧ G'[j]? = some r ∧ firstOf G' j = b ∧ ∀ (i : Nat) g, G[i]? = some g → G'[i]? = some g ∧ firstOf G' i = firstOf G i := by
  cases hf2 : findG G r with
  | some j2 => exact ⟨G, j2, _, enterG_some hf2, findG_at hf2, rfl, fun i g h => ⟨h, rfl⟩⟩
  | none =>
    refine ⟨_, G.length, _, enterG_new hf2 hr ht, by simp, by rw [firstOf_snoc (Nat.le_refl _), firstOf_len], fun i g h => ?_⟩
    have hi := (List.getElem?_eq_some_iff.1 h).1
    exact ⟨by rw [List.getElem?_append_left hi]; exact h, firstOf_snoc (by omega)⟩
/-- A rolled group is entered into both. -/
theorem GE.enter (E : GE φ gs G) (hok : TabOk gs) (hG : TabOk G) {r : List Sb} (hr : ∀ x ∈ r, WfS (NumR (total gs) r.length) (fun h => GivenP h ∨ NumR (total gs) r.length h) x) (f1 : total gs + r.length ≤ 10000) (f2 : total G + r.length ≤ 10000) (hc : TabC (enterG gs r).2.2) :
    (enterG gs r).2.1 = 0 ∧ (enterG G (r.map (mapP (fh φ)))).2.1 = 0 ∧ ∃ ψ, GE ψ (enterG gs r).2.2 (enterG G (r.map (mapP (fh φ)))).2.2 ∧ (∀ i, i < total gs → ψ i = φ i) ∧ ∃ a b : Nat, (enterG gs r).1 = a ∧ (enterG G (r.map (mapP (fh φ)))).1 = b ∧ ∀ k, k < r.length → ψ (a + k) = b + k := by
  have hdr : ∀ x ∈ r, DS (DN (total gs)) x := fun x hx => (hr x hx).ds (fun _ q => numR_dn (Nat.le_refl _) q) (fun _ q => q.elim .inl (numR_dn (Nat.le_refl _)))
  cases hf : findG gs r with
  | some i =>
    have h1 := findG_at hf
    obtain ⟨j', k1, k2⟩ := E.grp i r h1
    cases hf2 : findG G (r.map (mapP (fh φ))) with
    | none => exact absurd (List.mem_of_getElem? k1) (findG_not hf2)
    | some j2 =>
      obtain rfl := nodup_at hG.nodup (findG_at hf2) k1
      rw [enterG_some hf, enterG_some hf2]
      exact ⟨rfl, rfl, φ, E, fun _ _ => rfl, _, _, rfl, rfl, k2⟩
  | none =>
    by_cases hnil : r = []
    · subst hnil
      have hf2 : findG G [] = none := by
        cases h : findG G [] with
        | none => rfl
        | some j => exact absurd rfl (hG.ne _ (List.mem_of_getElem? (findG_at h)))
      rw [List.map_nil, enterG_nil hf hok.total, enterG_nil hf2 hG.total]
      exact ⟨rfl, rfl, φ, E, fun _ _ => rfl, _, _, rfl, rfl, fun k hk => absurd hk (by simp)⟩
    · have hn := findG_not hf
      have hrn : r.map (mapP (fh φ)) ≠ [] := by simpa using hnil
      obtain ⟨G', j', b, e1, e2, e3, e4⟩ := enterG_place (G := G) hrn (by simpa using f2)
      rw [enterG_new hf hnil f1] at hc ⊢
      rw [e1]
      dsimp only at hc ⊢
      refine ⟨rfl, rfl, fun i => if i < total gs then φ i else b + (i - total gs), ⟨hc, fun j g hj => ?_, fun i j hi hj h => ?_⟩, fun i hi => if_pos hi, total gs, b, rfl, rfl, fun k hk => by
        show (if total gs + k < total gs then φ (total gs + k) else b + (total gs + k - total gs)) = b + k
        rw [if_neg (by omega)]; omega⟩
      · by_cases hlt : j < gs.length
        · rw [List.getElem?_append_left hlt] at hj
          have hfa := firstOf_add hj
          obtain ⟨i', k1, k2⟩ := E.grp j g hj
          have hm : g.map (mapP (fh fun i => if i < total gs then φ i else b + (i - total gs))) = g.map (mapP (fh φ)) := List.map_congr_left fun x hx => mapP_congr (D := DN (total gs)) (fun y hy => fh_same (fun i hi => if_pos hi) hy) (E.c.dn hj hx (by omega))
          refine ⟨i', by rw [hm]; exact (e4 i' _ k1).1, fun k hk => ?_⟩
          rw [firstOf_snoc (by omega), if_pos (by omega), k2 k hk, (e4 i' _ k1).2]
        · have h1 := (List.getElem?_eq_some_iff.1 hj).1
          simp at h1
          obtain rfl : j = gs.length := by omega
          simp at hj
          subst hj
          have hm : r.map (mapP (fh fun i => if i < total gs then φ i else b + (i - total gs))) = r.map (mapP (fh φ)) := List.map_congr_left fun x hx => mapP_congr (D := DN (total gs)) (fun y hy => fh_same (fun i hi => if_pos hi) hy) (hdr x hx)
          refine ⟨j', by rw [hm]; exact e2, fun k hk => ?_⟩
          rw [firstOf_snoc (Nat.le_refl _), firstOf_len, if_neg (by omega), e3]; omega
      · -- no two numbers become one
        have cross : ∀ i k, i < total gs → k < r.length → φ i ≠ b + k := fun i k hi hk e => by
          obtain ⟨j0, g0, q1, _, q3, q4⟩ := ofL_at gs i hi
          obtain ⟨j1, k1, k2⟩ := E.grp j0 g0 q1
          have h5 := k2 (i - firstOf gs j0) (by omega)
          rw [show firstOf gs j0 + (i - firstOf gs j0) = i by omega] at h5
          have h6 := e4 j1 _ k1
          obtain rfl : j1 = j' := entry_oneD h6.1 e2 (id := φ i) (by rw [h6.2]; simp; omega) (by rw [e3]; simp; omega)
          rw [e2] at h6
          have h7 := mapFh_inj E.inj hdr (fun x hx => E.c.dn q1 hx (by have := firstOf_add q1; omega)) (Option.some.inj h6.1)
          exact hn (by rw [h7]; exact List.mem_of_getElem? q1)
        rw [total_snoc] at hi hj
        by_cases hi1 : i < total gs <;> by_cases hj1 : j < total gs
        · rw [if_pos hi1, if_pos hj1] at h; exact E.inj i j hi1 hj1 h
        · rw [if_pos hi1, if_neg hj1] at h; exact absurd h (cross i (j - total gs) hi1 (by omega))
        · rw [if_neg hi1, if_pos hj1] at h; exact absurd h.symm (cross j (i - total gs) hj1 (by omega))
        · rw [if_neg hi1, if_neg hj1] at h; omega
theorem canH_len {ids ids' : List Int} (h : ids.length = ids'.length) (gn : Nat) : CanH ids gn = CanH ids' gn := by
  funext x; unfold CanH; rw [h]
theorem rollG_ok_len {ids ids' : List Int} (h : ids.length = ids'.length) (g : List Sb) : (rollG ids' g).2 = (rollG ids g).2 := by
  rw [Bool.eq_iff_iff]
  constructor
  · intro he
    have h1 := rollG_can he
    rw [← canH_len h] at h1
    exact rollG_can2 h1
  · intro he
    have h1 := rollG_can he
    rw [canH_len h] at h1
    exact rollG_can2 h1
theorem shut_move {ids : List Int} {y : Hp} (hy : GivenP y ∨ IdxP y) : shutP (ids.map (fI φ)) y = fh φ (shutP ids y) := by
  rcases hy with hy | ⟨hk, h0, _⟩
  · have h13 : y.k ≠ 13 := by have := hy.2.1; omega
    have e1 : ∀ l : List Int, shutP l y = y := fun l => by unfold shutP; rw [if_pos h13]
    rw [e1, e1, fh_giv (by have := hy.2.1; omega)]
  · have hn13 : ¬ (y.k ≠ 13) := by simp [hk]
    by_cases hlt : y.n < ids.length
    · have e1 : (ids.map (fI φ)).getD y.n.toNat 0 = fI φ (ids.getD y.n.toNat 0) := by
        rw [List.getD_eq_getElem?_getD, List.getD_eq_getElem?_getD, List.getElem?_map, List.getElem?_eq_getElem (by omega)]; rfl
      have a : shutP ids y = ⟨15, ids.getD y.n.toNat 0⟩ := by unfold shutP; rw [if_neg hn13, if_pos hlt]
      have b : shutP (ids.map (fI φ)) y = ⟨15, (ids.map (fI φ)).getD y.n.toNat 0⟩ := by unfold shutP; rw [if_neg hn13, if_pos (by simpa using hlt)]
      rw [a, b, e1]
      simp [fh, fI]
    · have a : shutP ids y = ⟨14, y.n - ids.length⟩ := by unfold shutP; rw [if_neg hn13, if_neg hlt]
      have b : shutP (ids.map (fI φ)) y = ⟨14, y.n - ids.length⟩ := by unfold shutP; rw [if_neg hn13, if_neg (by simpa using hlt), List.length_map]
      rw [a, b, fh_giv (by simp)]
theorem roll_move {ids : List Int} {g : List Sb} (hp : ∀ x ∈ g, plainS x = true) : (rollG (ids.map (fI φ)) g).1 = (rollG ids g).1.map (mapP (fh φ)) := by
  rw [rollG_map, rollG_map, List.map_map]
  refine List.map_congr_left fun x hx => ?_
  simp only [Function.comp]
  rw [mapP_comp]
  exact mapP_congr (D := fun h => GivenP h ∨ IdxP h) (fun y hy => shut_move hy) ((plainS_wf (hp x hx)).ds (fun _ q => .inr q) (fun _ q => q))
theorem roll_wf {ids : List Int} {g : List Sb} (p1 : ∀ x ∈ g, plainS x = true) (p2 : ∀ i ∈ ids, inTab gs i = true) (p3 : (rollG ids g).2 = true) : ∀ x ∈ (rollG ids g).1, WfS (NumR (total gs) (rollG ids g).1.length) (fun h => GivenP h ∨ NumR (total gs) (rollG ids g).1.length h) x := fun x hx => by
  rw [rollG_len]
  rw [rollG_map] at hx
  obtain ⟨z, hz, rfl⟩ := List.mem_map.1 hx
  have hw := wf_and (plainS_wf (p1 z hz)) (rollG_can p3 z hz)
  refine hw.map (fun y hy => shut_num p2 hy.1 hy.2) (fun y hy => ?_)
  rcases hy with ⟨hy | hy, hc⟩
  · have : shutP ids y = y := by unfold shutP; rw [if_pos (by have := hy.2.1; omega)]
    rw [this]; exact .inl hy
  · exact .inr (shut_num p2 hy hc)
/-- A group is added to both. -/
theorem GE.add (E : GE φ gs G) (hok : TabOk gs) (hG : TabOk G) {ids : List Int} {g : List Sb} (hid : ∀ i ∈ ids, inTab gs i = true) (f1 : total gs + g.length ≤ 10000) (f2 : total G + g.length ≤ 10000) :
    (addG G (ids.map (fI φ)) g).2.1 = (addG gs ids g).2.1 ∧ ((addG gs ids g).2.1 = 0 → ∃ ψ, GE ψ (addG gs ids g).2.2 (addG G (ids.map (fI φ)) g).2.2 ∧ (∀ i, i < total gs → ψ i = φ i) ∧ (addG G (ids.map (fI φ)) g).1 = (addG gs ids g).1.map (fI ψ)) := by
  have hc := tabC_add (ids := ids) (g := g) E.c
  unfold addG at hc ⊢
  by_cases p1 : ¬ g.all plainS = true
  · rw [if_pos p1, if_pos p1]; exact ⟨rfl, fun h => by simp at h⟩
  rw [if_neg p1] at hc
  rw [if_neg p1, if_neg p1]
  have p1 : ∀ x ∈ g, plainS x = true := by simpa using p1
  have q1 : ids.all (inTab gs) = true := List.all_eq_true.2 hid
  have q2 : (ids.map (fI φ)).all (inTab G) = true := List.all_eq_true.2 fun i hi => by
    obtain ⟨k, hk, rfl⟩ := List.mem_map.1 hi
    have h1 := hid k hk
    simp [inTab] at h1
    have h2 := E.lt (i := k.toNat) (by omega)
    simp [inTab, fI]; omega
  have q1' : ¬ ¬ ids.all (inTab gs) = true := fun h => h q1
  have q2' : ¬ ¬ (ids.map (fI φ)).all (inTab G) = true := fun h => h q2
  rw [if_neg q1'] at hc
  rw [if_neg q1', if_neg q2', rollG_ok_len (ids := ids) (ids' := ids.map (fI φ)) (by simp)]
  by_cases p3 : ¬ (rollG ids g).2 = true
  · rw [if_pos p3, if_pos p3]; exact ⟨rfl, fun h => by simp at h⟩
  rw [if_neg p3] at hc
  rw [if_neg p3, if_neg p3, roll_move p1]
  have p3 : (rollG ids g).2 = true := by simpa using p3
  have hrl := rollG_len ids g
  have hce : TabC (enterG gs (rollG ids g).1).2.2 := by
    by_cases h4 : (enterG gs (rollG ids g).1).2.1 ≠ 0
    · rw [enterG_err h4]; exact E.c
    · rw [if_neg h4] at hc; exact hc
  obtain ⟨k1, k2, ψ, k3, k4, a, b, k5, k6, k7⟩ := E.enter hok hG (roll_wf p1 hid p3) (by rw [hrl]; exact f1) (by rw [hrl]; exact f2) hce
  rw [if_neg (show ¬ (enterG G ((rollG ids g).1.map (mapP (fh φ)))).2.1 ≠ 0 by simpa using k2), if_neg (show ¬ (enterG gs (rollG ids g).1).2.1 ≠ 0 by simpa using k1)]
  refine ⟨rfl, fun _ => ⟨ψ, k3, k4, ?_⟩⟩
  dsimp only
  rw [k5, k6, List.map_append, List.map_map]
  congr 1
  · refine List.map_congr_left fun i hi => ?_
    have h1 := hid i hi
    simp [inTab] at h1
    unfold fI
    rw [k4 i.toNat (by omega)]
  · refine List.map_congr_left fun k hk => ?_
    have h1 := k7 k (by rw [hrl]; exact List.mem_range.1 hk)
    simp only [Function.comp, fI]
    rw [show ((a : Int) + (k : Int)).toNat = a + k by omega, h1]
    push_cast; rfl
end Go.Proofs.YtkgmfbfpmlnfcaaGreatDoor
