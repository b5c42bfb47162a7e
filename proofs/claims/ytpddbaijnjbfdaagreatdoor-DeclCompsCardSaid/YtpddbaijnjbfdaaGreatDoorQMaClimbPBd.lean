import Derived.Test.YtpddbaijnjbfdaaGreatDoorQChLawBd
namespace Go.Proofs.YtpddbaijnjbfdaaGreatDoor
section
open Go.RowKit
theorem addG_place {gs : List (List Sb)} {ids : List Int} {g : List Sb} (h : (addG gs ids g).2.1 = 0) (hg : g ≠ []) :
    ∃ j b : Nat, (addG gs ids g).1 = ids ++ (List.range g.length).map (fun k : Nat => (b : Int) + (k : Int)) ∧ (addG gs ids g).2.2[j]? = some (g.map (mapP (shutP ids))) ∧ firstOf (addG gs ids g).2.2 j = b ∧ (∀ x ∈ g, plainS x = true) := by
  have p1 : g.all plainS = true := by
    by_cases p : g.all plainS = true
    · exact p
    · unfold addG at h; rw [if_pos p] at h; cases h
  have p2 : ids.all (inTab gs) = true := by
    by_cases p : ids.all (inTab gs) = true
    · exact p
    · unfold addG at h; rw [if_neg (fun q => q p1), if_pos p] at h; cases h
  have p3 : (rollG ids g).2 = true := by
    by_cases p : (rollG ids g).2 = true
    · exact p
    · unfold addG at h; rw [if_neg (fun q => q p1), if_neg (fun q => q p2), if_pos p] at h; cases h
  have p4 : (enterG gs (rollG ids g).1).2.1 = 0 := by
    by_cases p : (enterG gs (rollG ids g).1).2.1 = 0
    · exact p
    · unfold addG at h; rw [if_neg (fun q => q p1), if_neg (fun q => q p2), if_neg (fun q => q p3), if_pos p] at h; exact absurd h p
  have e : addG gs ids g = (ids ++ (List.range g.length).map (fun k : Nat => (enterG gs (rollG ids g).1).1 + (k : Int)), 0, (enterG gs (rollG ids g).1).2.2) := by
    unfold addG
    rw [if_neg (fun q => q p1), if_neg (fun q => q p2), if_neg (fun q => q p3), if_neg (fun q => q p4)]
  have hr : (rollG ids g).1 ≠ [] := fun e0 => hg (List.length_eq_zero_iff.1 (by rw [← rollG_len ids g, e0]; rfl))
  have htot : total gs + (rollG ids g).1.length ≤ 10000 ∨ ∃ i, findG gs (rollG ids g).1 = some i := by
    cases hf : findG gs (rollG ids g).1 with
    | some i => exact .inr ⟨i, rfl⟩
    | none =>
      left
      unfold enterG at p4
      rw [hf] at p4
      dsimp only at p4
      by_cases q : 10000 < total gs + (rollG ids g).1.length
      · rw [if_pos q] at p4; cases p4
      · omega
  obtain ⟨j, b, k1, k2, k3⟩ : ∃ j b : Nat, (enterG gs (rollG ids g).1).1 = b ∧ (enterG gs (rollG ids g).1).2.2[j]? = some (rollG ids g).1 ∧ firstOf (enterG gs (rollG ids g).1).2.2 j = b := by
    rcases htot with ht | ⟨i, hi⟩
    · obtain ⟨G', j, b, e1, e2, e3, _⟩ := enterG_place (G := gs) hr ht
      rw [e1]; exact ⟨j, b, rfl, e2, e3⟩
    · rw [enterG_some hi]; exact ⟨i, _, rfl, findG_at hi, rfl⟩
  rw [e]
  refine ⟨j, b, by rw [k1], ?_, k3, List.all_eq_true.1 p1⟩
  rw [← rollG_map]; exact k2
theorem added_type {gs : List (List Sb)} {ids : List Int} {g : List Sb} (h : (addG gs ids g).2.1 = 0) (hc : TabC (addG gs ids g).2.2) {k : Nat} {s : Sb} (hs : g[k]? = some s) (hst : 1 < s.sups.length → False) (hsup : ∀ a, superD s = some a → 0 ≤ a ∧ a < ((ids.length + k : Nat) : Int)) :
    ∃ (m : Nat) (y : Sb), (addG gs ids g).1.getD (ids.length + k) 0 = m ∧ (tabL (addG gs ids g).2.2)[m]? = some y ∧ y.sups.length = s.sups.length ∧ y.fs.length = s.fs.length ∧ y.k = s.k ∧
      ((superD s = none ∧ y.sups = []) ∨ ∃ a q : Nat, superD s = some (a : Int) ∧ a < ids.length + k ∧ (addG gs ids g).1.getD a 0 = q ∧ y.sups = [⟨15, (q : Int)⟩] ∧ q < m) := by
  have hg : g ≠ [] := fun e => by subst e; simp at hs
  have hk := (List.getElem?_eq_some_iff.1 hs).1
  obtain ⟨j, b, e1, e2, e3, e4⟩ := addG_place h hg
  have hid : ∀ q, q < g.length → (addG gs ids g).1.getD (ids.length + q) 0 = ((b + q : Nat) : Int) := fun q hq => by
    rw [e1, List.getD_eq_getElem?_getD, List.getElem?_append_right (by omega), show ids.length + q - ids.length = q by omega, List.getElem?_map, List.getElem?_range hq]
    simp
  have hy := tabL_at e2 (k := k) (x := mapP (shutP ids) s) (by rw [List.getElem?_map, hs]; rfl)
  rw [e3] at hy
  refine ⟨b + k, _, hid k hk, hy, by simp [mapP], by simp [mapP], by simp [mapP], ?_⟩
  match hsp : s.sups with
  | [] => exact .inl ⟨by unfold superD; rw [hsp], by simp [mapP, hsp]⟩
  | x :: y :: r => exact absurd (hst (by rw [hsp]; simp)) (by simp)
  | [x] =>
    right
    have hx := (plainS_wf (e4 s (List.mem_of_getElem? hs))).sups x (by rw [hsp]; simp)
    obtain ⟨hx13, hx0, _⟩ := hx
    have hsd : superD s = some x.n := by unfold superD; rw [hsp]; simp [hx13]
    obtain ⟨a, ha⟩ : ∃ a : Nat, x.n = a := ⟨x.n.toNat, by omega⟩
    rw [ha] at hsd
    have hlt := (hsup a hsd).2
    have hn13 : ¬ (x.k ≠ 13) := by simp [hx13]
    by_cases hin : a < ids.length
    · have sh : shutP ids x = ⟨15, ids.getD a 0⟩ := by unfold shutP; rw [if_neg hn13, if_pos (by omega), ha]; rfl
      have hnum := (hc.ex j _ e2 (mapP (shutP ids) s) (List.mem_map.2 ⟨s, List.mem_of_getElem? hs, rfl⟩)).sups (shutP ids x) (by simp [mapP, hsp])
      rw [sh] at hnum
      rcases hnum with ⟨q, _⟩ | ⟨_, q0, q1⟩
      · simp at q
      dsimp only at q0 q1
      obtain ⟨q, hq⟩ : ∃ q : Nat, ids.getD a 0 = q := ⟨(ids.getD a 0).toNat, by omega⟩
      refine ⟨a, q, hsd, by omega, ?_, ?_, by omega⟩
      · rw [e1, List.getD_eq_getElem?_getD, List.getElem?_append_left hin, ← List.getD_eq_getElem?_getD, hq]
      · simp only [mapP, hsp, List.map_cons, List.map_nil, sh, hq]
        simp [unroll]
    · have sh : shutP ids x = ⟨14, (a : Int) - ids.length⟩ := by unfold shutP; rw [if_neg hn13, if_neg (by omega), ha]
      refine ⟨a, b + (a - ids.length), hsd, by omega, ?_, ?_, by omega⟩
      · have := hid (a - ids.length) (by omega)
        rw [show ids.length + (a - ids.length) = a by omega] at this
        exact this
      · simp only [mapP, hsp, List.map_cons, List.map_nil, sh]
        simp [unroll]; omega
theorem matchesD_none' {ts : List Sb} {ids ds : List Int} {s : Sb} {n : Nat} (h : superD s = none) : (matchesD ts ids ds s n).2 = ds ++ [0] := by
  unfold matchesD; rw [h]
def SupT (ts : List Sb) : Prop := ∀ (id : Nat) y, ts[id]? = some y → y.sups = [] ∨ ∃ k : Nat, y.sups = [⟨15, (k : Int)⟩] ∧ k < id
def depF (ts : List Sb) : Nat → Nat → Nat
  | 0, _ => 0
  | f + 1, id => match ts[id]? with
    | some y => match y.sups with
      | [h] => depF ts f h.n.toNat + 1
      | _ => 0
    | none => 0
def dep (ts : List Sb) (id : Nat) : Nat := depF ts (id + 1) id
theorem depF_more {ts : List Sb} (hS : SupT ts) : ∀ (f id : Nat), id < f → depF ts f id = dep ts id := by
  have key : ∀ (n : Nat), ∀ id f f', id ≤ n → id < f → id < f' → depF ts f id = depF ts f' id := by
    intro n
    induction n with
    | zero =>
      intro id f f' h0 h1 h2
      obtain ⟨f, rfl⟩ : ∃ q, f = q + 1 := ⟨f - 1, by omega⟩
      obtain ⟨f', rfl⟩ : ∃ q, f' = q + 1 := ⟨f' - 1, by omega⟩
      rw [depF, depF]
      cases hy : ts[id]? with
      | none => rfl
      | some y =>
        rcases hS id y hy with h | ⟨k, h, hk⟩
        · simp only [h]
        · omega
    | succ n ih =>
      intro id f f' h0 h1 h2
      obtain ⟨f, rfl⟩ : ∃ q, f = q + 1 := ⟨f - 1, by omega⟩
      obtain ⟨f', rfl⟩ : ∃ q, f' = q + 1 := ⟨f' - 1, by omega⟩
      rw [depF, depF]
      cases hy : ts[id]? with
      | none => rfl
      | some y =>
        rcases hS id y hy with h | ⟨k, h, hk⟩
        · simp only [h]
        · simp only [h, Int.toNat_natCast]
          rw [ih k f f' (by omega) (by omega) (by omega)]
  intro f id h
  exact key id id f (id + 1) (Nat.le_refl _) h (Nat.lt_succ_self _)
theorem dep_nil {ts : List Sb} {id : Nat} {y : Sb} (hy : ts[id]? = some y) (h : y.sups = []) : dep ts id = 0 := by
  unfold dep; rw [depF, hy]; simp only [h]
theorem dep_sup {ts : List Sb} (hS : SupT ts) {id k : Nat} {y : Sb} (hy : ts[id]? = some y) (h : y.sups = [⟨15, (k : Int)⟩]) (hk : k < id) : dep ts id = dep ts k + 1 := by
  unfold dep; rw [depF, hy]; simp only [h, Int.toNat_natCast]
  rw [depF_more hS id k hk]; rfl
theorem dep_app {ts r : List Sb} (hS : SupT ts) (hS' : SupT (ts ++ r)) : ∀ (n id : Nat), id ≤ n → id < ts.length → dep (ts ++ r) id = dep ts id := by
  intro n
  induction n with
  | zero =>
    intro id h0 h1
    obtain ⟨y, hy⟩ : ∃ y, ts[id]? = some y := ⟨ts[id], by simp [h1]⟩
    have hy' : (ts ++ r)[id]? = some y := by rw [List.getElem?_append_left h1]; exact hy
    rcases hS id y hy with h | ⟨k, h, hk⟩
    · rw [dep_nil hy h, dep_nil hy' h]
    · omega
  | succ n ih =>
    intro id h0 h1
    obtain ⟨y, hy⟩ : ∃ y, ts[id]? = some y := ⟨ts[id], by simp [h1]⟩
    have hy' : (ts ++ r)[id]? = some y := by rw [List.getElem?_append_left h1]; exact hy
    rcases hS id y hy with h | ⟨k, h, hk⟩
    · rw [dep_nil hy h, dep_nil hy' h]
    · rw [dep_sup hS hy h hk, dep_sup hS' hy' h hk, ih k (by omega) (by omega)]
theorem matchAll_ok {ts : List Sb} {ids : List Int} : ∀ (l : List Sb) (n : Nat) (ds : List Int), (matchAll ts ids l n ds).1 = 0 → ∃ r : List Int, (matchAll ts ids l n ds).2.2 = ds ++ r ∧ r.length = l.length ∧ ∀ (k : Nat) s, l[k]? = some s →
    (superD s = none → (ds ++ r).getD (ds.length + k) 0 = 0) ∧ (∀ a, superD s = some a → ∃ lo up, ts[(ids.getD (n + k) 0).toNat]? = some lo ∧ ts[(ids.getD a.toNat 0).toNat]? = some up ∧ CompP ts lo up ∧ (a.toNat < ds.length + k → (ds ++ r).getD (ds.length + k) 0 = (ds ++ r).getD a.toNat 0 + 1) ∧ (ds ++ r).getD (ds.length + k) 0 ≤ 63)
  | [], n, ds, _ => ⟨[], by simp [matchAll], rfl, fun k s h => by simp at h⟩
  | s :: l, n, ds, h => by
    have h1 : (matchesD ts ids ds s n).1 = 0 := by
      by_cases p : (matchesD ts ids ds s n).1 = 0
      · exact p
      · rw [matchAll, if_pos p] at h; exact absurd h p
    have e : matchAll ts ids (s :: l) n ds = matchAll ts ids l (n + 1) (matchesD ts ids ds s n).2 := by rw [matchAll, if_neg (fun q => q h1)]
    rw [e] at h ⊢
    -- the step
    obtain ⟨x, hx, hx0, hxs⟩ : ∃ x : Int, (matchesD ts ids ds s n).2 = ds ++ [x] ∧ (superD s = none → x = 0) ∧ (∀ a, superD s = some a → ∃ lo up, ts[(ids.getD n 0).toNat]? = some lo ∧ ts[(ids.getD a.toNat 0).toNat]? = some up ∧ CompP ts lo up ∧ x = ds.getD a.toNat 0 + 1 ∧ x ≤ 63) := by
      cases hs : superD s with
      | none => exact ⟨0, by rw [matchesD_none' hs], fun _ => rfl, fun a ha => by cases ha⟩
      | some a =>
        unfold matchesD at h1 ⊢
        rw [hs] at h1 ⊢
        dsimp only at h1 ⊢
        cases hlo : ts[(ids.getD n 0).toNat]? with
        | none => rw [hlo] at h1; simp at h1
        | some lo =>
          cases hup : ts[(ids.getD a.toNat 0).toNat]? with
          | none => rw [hlo, hup] at h1; simp at h1
          | some up =>
            rw [hlo, hup] at h1
            dsimp only at h1 ⊢
            by_cases hc : CompP ts lo up
            · rw [if_neg (show ¬ ¬ CompP ts lo up from fun q => q hc)] at h1 ⊢
              by_cases h63 : 63 < ds.getD a.toNat 0 + 1
              · rw [if_pos h63] at h1; cases h1
              · rw [if_neg h63]
                refine ⟨_, rfl, ⟨fun q => ?_, fun a' ha' => ?_⟩⟩
                · cases q
                · cases ha'
                  exact ⟨lo, up, rfl, hup, hc, rfl, by omega⟩
            · rw [if_pos hc] at h1; cases h1
    rw [hx] at h ⊢
    obtain ⟨r, k1, k2, k3⟩ := matchAll_ok l (n + 1) (ds ++ [x]) h
    have ea : ds ++ [x] ++ r = ds ++ (x :: r) := by simp
    refine ⟨x :: r, by rw [k1, ea], by simp [k2], fun k t ht => ?_⟩
    have at0 : (ds ++ x :: r).getD ds.length 0 = x := by rw [List.getD_eq_getElem?_getD, List.getElem?_append_right (Nat.le_refl _)]; simp
    cases k with
    | zero =>
      obtain rfl : s = t := by simpa using ht
      rw [Nat.add_zero, Nat.add_zero, at0]
      refine ⟨hx0, fun a ha => ?_⟩
      obtain ⟨lo, up, q1, q2, q3, q4, q5⟩ := hxs a ha
      refine ⟨lo, up, q1, q2, q3, fun hlt => ?_, q5⟩
      rw [q4, List.getD_eq_getElem?_getD, List.getD_eq_getElem?_getD, List.getElem?_append_left hlt]
    | succ k =>
      have h3 := k3 k t (by simpa using ht)
      rw [ea, List.length_append, List.length_singleton, show ds.length + 1 + k = ds.length + (k + 1) by omega, show n + 1 + k = n + (k + 1) by omega] at h3
      exact h3
theorem addG_tab {gs : List (List Sb)} {ids : List Int} {g : List Sb} (h : (addG gs ids g).2.1 = 0) : (addG gs ids g).2.2 = gs ∨ ((addG gs ids g).2.2 = gs ++ [g.map (mapP (shutP ids))] ∧ (addG gs ids g).1 = ids ++ (List.range g.length).map (fun k : Nat => (total gs : Int) + (k : Int))) := by
  unfold addG at h ⊢
  split at h
  · cases h
  rename_i p1
  split at h
  · cases h
  rename_i p2
  split at h
  · cases h
  rename_i p3
  split at h
  · rename_i p4; exact absurd h p4
  rename_i p4
  rw [if_neg p1, if_neg p2, if_neg p3, if_neg p4]
  dsimp only
  rw [← rollG_map]
  cases hf : findG gs (rollG ids g).1 with
  | some i => left; rw [enterG_some hf]
  | none =>
    unfold enterG at p4 ⊢
    rw [hf] at p4 ⊢
    dsimp only at p4 ⊢
    by_cases h1 : 10000 < total gs + (rollG ids g).1.length
    · rw [if_pos h1] at p4; exact absurd (show (5 : Int) ≠ 0 by decide) p4
    · rw [if_neg h1]
      by_cases h2 : (rollG ids g).1 = []
      · rw [if_pos h2]; exact .inl rfl
      · rw [if_neg h2]; exact .inr ⟨rfl, rfl⟩
def TyOk (d : DcS) (n : Nat) (s : Sb) : Prop := ∃ (m : Nat) (y : Sb), d.ids.getD n 0 = m ∧ (tabL d.gs)[m]? = some y ∧ y.sups.length = s.sups.length ∧ y.fs.length = s.fs.length ∧
  ((superD s = none ∧ y.sups = []) ∨ ∃ (a q : Nat) (up : Sb), superD s = some (a : Int) ∧ a < n ∧ d.ids.getD a 0 = q ∧ y.sups = [⟨15, (q : Int)⟩] ∧ q < m ∧ (tabL d.gs)[q]? = some up ∧ CompP (tabL d.gs) y up)
structure LnI (d : DcS) : Prop where
  c : TabC d.gs
  inn : ∀ i ∈ d.ids, inTab d.gs i = true
  sup : SupT (tabL d.gs)
  bd : ∀ id, id < total d.gs → dep (tabL d.gs) id ≤ 63
  len : d.types.length = d.ids.length
  dl : d.depths.length = d.ids.length
  dp : ∀ n, n < d.ids.length → d.depths.getD n 0 = dep (tabL d.gs) (d.ids.getD n 0).toNat
  ty : ∀ (n : Nat) s, d.types[n]? = some s → TyOk d n s
theorem LnI.nil : LnI ⟨[], [], [], []⟩ := ⟨tabC_nil, by simp, fun id y h => by simp [tabL] at h, fun id h => by simp [total] at h, rfl, rfl, fun n h => by simp at h, fun n s h => by simp at h⟩
theorem tabL_pre {gs t : List (List Sb)} {id : Nat} {y : Sb} (h : (tabL gs)[id]? = some y) : (tabL (gs ++ t))[id]? = some y := by
  obtain ⟨r, hr⟩ := tabL_extD gs t
  rw [hr, List.getElem?_append_left (List.getElem?_eq_some_iff.1 h).1]; exact h
theorem compP_pre {gs t : List (List Sb)} (hc : TabC gs) {a b : Sb} (ha : a ∈ tabL gs) (hb : b ∈ tabL gs) (h : CompP (tabL gs) a b) : CompP (tabL (gs ++ t)) a b := by
  have E := (ge_id t hc).emb
  have e : ∀ x ∈ tabL gs, mapP (fh fun i => i) x = x := fun x hx => mapP_id (D := DN (total gs)) (fun y hy => fh_id hy) ((hc.typ hx).ds (fun _ q => .inr (.inr q)) (fun _ q => q.elim .inl (fun q => .inr (.inr q))))
  have h1 := (E.comp (hc.clo a ha) (hc.clo b hb)).2 h
  rw [e a ha, e b hb] at h1
  exact h1
theorem LnI.add {d : DcS} {g : List Sb} (h : LnI d) (he : (addD d g).1 = 0) : LnI (addD d g).2.2 := by
  obtain ⟨q1, -, -, -⟩ := addD_ok he
  have n2 : AddOk d.gs d.ids g (addG d.gs d.ids g) := by
    rcases addG_fact d.gs d.ids g with ⟨n, _⟩ | ⟨_, n⟩
    · exact absurd q1 n
    · exact n
  have hst : (standAll (d.types ++ g) g d.ids.length).1 = 0 := by
    by_cases p : (standAll (d.types ++ g) g d.ids.length).1 = 0
    · exact p
    · unfold addD at he
      dsimp only at he
      rw [if_neg (fun q => q q1), if_pos p] at he
      exact absurd he p
  obtain ⟨M, hM⟩ : ∃ M, matchAll (tabL (addG d.gs d.ids g).2.2) (addG d.gs d.ids g).1 g d.ids.length d.depths = M := ⟨_, rfl⟩
  have e1 := addD_eq (d := d) (g := g) (is := (addG d.gs d.ids g).1) (gs' := (addG d.gs d.ids g).2.2) (by rw [← q1]) hst hM
  rw [e1] at he ⊢
  dsimp only at he ⊢
  obtain ⟨r, k1, k2, k3⟩ := matchAll_ok g d.ids.length d.depths (by rw [hM]; exact he)
  rw [hM] at k1
  have hz := standAll_zero g d.ids.length hst
  have hc := tabC_add (ids := d.ids) (g := g) h.c
  obtain ⟨t, ht⟩ := addG_extD d.gs d.ids g
  obtain ⟨p, hp, hpl⟩ := addG_pre q1
  have one : ∀ (k : Nat) s, g[k]? = some s → (1 < s.sups.length → False) := fun k s hk hlt => by
    have := hz k s hk
    unfold standsD at this
    rw [if_pos hlt] at this; cases this
  have ty := fun (k : Nat) s (hk : g[k]? = some s) => added_type q1 hc hk (one k s hk) (standsD_sup (hz k s hk))
  have hsup : SupT (tabL (addG d.gs d.ids g).2.2) := by
    rcases addG_tab q1 with e | ⟨e, ei⟩
    · rw [e]; exact h.sup
    · intro id y hy
      by_cases hlt : id < total d.gs
      · obtain ⟨y', hy'⟩ : ∃ y', (tabL d.gs)[id]? = some y' := ⟨(tabL d.gs)[id]'(by rw [tabL_len]; exact hlt), by simp⟩
        have := tabL_pre (t := [g.map (mapP (shutP d.ids))]) hy'
        rw [← e, hy] at this
        obtain rfl := Option.some.inj this
        exact h.sup id y hy'
      · have hid := (List.getElem?_eq_some_iff.1 hy).1
        rw [tabL_len, e, total_snoc, List.length_map] at hid
        obtain ⟨k, hk⟩ : ∃ k, id = total d.gs + k := ⟨id - total d.gs, by omega⟩
        obtain ⟨s, hs⟩ : ∃ s, g[k]? = some s := ⟨g[k]'(by omega), by simp⟩
        obtain ⟨m, y', j1, j2, _, _, _, j6⟩ := ty k s hs
        rw [ei, List.getD_eq_getElem?_getD, List.getElem?_append_right (by omega), show d.ids.length + k - d.ids.length = k by omega, List.getElem?_map, List.getElem?_range (by omega)] at j1
        simp at j1
        obtain rfl : m = id := by omega
        rw [hy] at j2
        obtain rfl := Option.some.inj j2
        rcases j6 with ⟨_, j6⟩ | ⟨a, q, _, _, _, j7, j8⟩
        · exact .inl j6
        · exact .inr ⟨q, j7, j8⟩
  have dold : ∀ id, id < total d.gs → dep (tabL (addG d.gs d.ids g).2.2) id = dep (tabL d.gs) id := fun id hid => by
    obtain ⟨rr, hr⟩ := tabL_extD d.gs t
    rw [ht, hr]
    rw [ht, hr] at hsup
    exact dep_app h.sup hsup id id (Nat.le_refl _) (by rw [tabL_len]; exact hid)
  have idold : ∀ n, n < d.ids.length → (addG d.gs d.ids g).1.getD n 0 = d.ids.getD n 0 := fun n hn => by
    rw [hp, List.getD_eq_getElem?_getD, List.getElem?_append_left hn, List.getD_eq_getElem?_getD]
  have dpold : ∀ n, n < d.ids.length → M.2.2.getD n 0 = d.depths.getD n 0 := fun n hn => by
    rw [k1, List.getD_eq_getElem?_getD, List.getElem?_append_left (by rw [h.dl]; exact hn), List.getD_eq_getElem?_getD]
  have hnew : ∀ (k n : Nat), n ≤ k → n < (addG d.gs d.ids g).1.length → M.2.2.getD n 0 = dep (tabL (addG d.gs d.ids g).2.2) ((addG d.gs d.ids g).1.getD n 0).toNat := by
    have step : ∀ n, (∀ n', n' < n → n' < (addG d.gs d.ids g).1.length → M.2.2.getD n' 0 = dep (tabL (addG d.gs d.ids g).2.2) ((addG d.gs d.ids g).1.getD n' 0).toNat) → n < (addG d.gs d.ids g).1.length → M.2.2.getD n 0 = dep (tabL (addG d.gs d.ids g).2.2) ((addG d.gs d.ids g).1.getD n 0).toNat := by
      intro n ih hn
      rw [n2.len] at hn
      by_cases hlt : n < d.ids.length
      · rw [idold n hlt, dpold n hlt, h.dp n hlt]
        obtain ⟨m, y, f1, f2, f3⟩ := tab_at h.inn hlt
        rw [f1, Int.toNat_natCast, dold m f2]
      · obtain ⟨k, rfl⟩ : ∃ k, n = d.ids.length + k := ⟨n - d.ids.length, by omega⟩
        obtain ⟨s, hs⟩ : ∃ s, g[k]? = some s := ⟨g[k]'(by omega), by simp⟩
        obtain ⟨m, y, j1, j2, _, _, _, j6⟩ := ty k s hs
        have h3 := k3 k s hs
        rw [← k1, h.dl] at h3
        rw [j1, Int.toNat_natCast]
        rcases j6 with ⟨j6, j7⟩ | ⟨a, q, j6, j7, j8, j9, j10⟩
        · rw [h3.1 j6, dep_nil j2 j7]; rfl
        · obtain ⟨lo, up, f1, f2, f3, f4, f5⟩ := h3.2 a j6
          have h5 := ih a (by omega) (by rw [n2.len]; omega)
          rw [Int.toNat_natCast] at f4
          rw [f4 j7, h5, j8, Int.toNat_natCast, dep_sup hsup j2 j9 j10]; push_cast; rfl
    intro k
    induction k with
    | zero => exact fun n h0 hn => step n (fun n' hn' _ => by omega) hn
    | succ k ih => exact fun n h0 hn => step n (fun n' hn' hl => ih n' (by omega) hl) hn
  refine ⟨hc, n2.inn, hsup, fun id hid => ?_, by simp [h.len, n2.len], by rw [k1, List.length_append, h.dl, k2, n2.len], fun n hn => hnew n n (Nat.le_refl _) hn, fun n s hs => ?_⟩
  · show dep (tabL (addG d.gs d.ids g).2.2) id ≤ 63
    by_cases hlt : id < total d.gs
    · rw [dold id hlt]; exact h.bd id hlt
    · rcases addG_tab q1 with e | ⟨e, ei⟩
      · dsimp only at hid; rw [e] at hid; omega
      · dsimp only at hid
        rw [e, total_snoc, List.length_map] at hid
        obtain ⟨k, hk⟩ : ∃ k, id = total d.gs + k := ⟨id - total d.gs, by omega⟩
        have h6 := hnew (d.ids.length + k) (d.ids.length + k) (Nat.le_refl _) (by rw [n2.len]; omega)
        have h7 : (addG d.gs d.ids g).1.getD (d.ids.length + k) 0 = (id : Int) := by
          rw [ei, List.getD_eq_getElem?_getD, List.getElem?_append_right (by omega), show d.ids.length + k - d.ids.length = k by omega, List.getElem?_map, List.getElem?_range (by omega)]
          simp; omega
        rw [h7, Int.toNat_natCast] at h6
        obtain ⟨s, hs⟩ : ∃ s, g[k]? = some s := ⟨g[k]'(by omega), by simp⟩
        have h3 := k3 k s hs
        rw [← k1, h.dl] at h3
        cases hsd : superD s with
        | none => have := h3.1 hsd; omega
        | some a => obtain ⟨lo, up, _, _, _, _, f5⟩ := h3.2 a hsd; omega
  · dsimp only at hs
    by_cases hlt : n < d.types.length
    · rw [List.getElem?_append_left hlt] at hs
      obtain ⟨m, y, j1, j2, j3, j3', j4⟩ := h.ty n s hs
      have hn : n < d.ids.length := by rw [← h.len]; exact hlt
      refine ⟨m, y, by dsimp only; rw [idold n hn]; exact j1, by dsimp only; rw [ht]; exact tabL_pre j2, j3, j3', ?_⟩
      rcases j4 with j4 | ⟨a, q, up, f1, f2, f3, f4, f5, f6, f7⟩
      · exact .inl j4
      · exact .inr ⟨a, q, up, f1, f2, by dsimp only; rw [idold a (by omega)]; exact f3, f4, f5, by dsimp only; rw [ht]; exact tabL_pre f6, by dsimp only; rw [ht]; exact compP_pre h.c (List.mem_of_getElem? j2) (List.mem_of_getElem? f6) f7⟩
    · obtain ⟨k, rfl⟩ : ∃ k, n = d.types.length + k := ⟨n - d.types.length, by omega⟩
      rw [List.getElem?_append_right (by omega), show d.types.length + k - d.types.length = k by omega] at hs
      obtain ⟨m, y, j1, j2, j3, j3', _, j6⟩ := ty k s hs
      rw [h.len]
      refine ⟨m, y, j1, j2, j3, j3', ?_⟩
      rcases j6 with j6 | ⟨a, q, f1, f2, f3, f4, f5⟩
      · exact .inl j6
      · obtain ⟨lo, up, g1, g2, g3, _, _⟩ := (k3 k s hs).2 a f1
        rw [j1, Int.toNat_natCast, j2] at g1
        obtain rfl := Option.some.inj g1
        rw [Int.toNat_natCast, f3, Int.toNat_natCast] at g2
        exact .inr ⟨a, q, up, f1, f2, f3, f4, f5, g2, g3⟩
end
section
open Go.RowKit
structure ChainR (ts : List Sb) (a : Nat) (b : Hp) (il : List Nat) (i : Nat) : Prop where
  hd : il[0]? = some a
  up : ∀ (j x : Nat), il[j]? = some x → UpTo ts a x ∧ x + j ≤ a
  no : ∀ (j x : Nat), j < i → il[j]? = some x → ¬ Hits ts b x
  cl : ∀ (j x k : Nat) s h, j < i → il[j]? = some x → ts[x]? = some s → h ∈ s.sups → h.n = (k : Int) → k ∈ il
  ln : i ≤ il.length ∧ il.length ≤ i + 1
variable {ts : List Sb} {a : Nat} {b : Hp} {il : List Nat} {i : Nat}
theorem ChainR.start (a : Nat) (b : Hp) : ChainR ts a b [a] 0 := by
  refine ⟨rfl, fun j x h => ?_, fun j x h => absurd h (Nat.not_lt_zero _), fun j x k s h q => absurd q (Nat.not_lt_zero _), by simp⟩
  cases j with
  | zero => simp at h; subst h; exact ⟨.refl, by omega⟩
  | succ j => simp at h
theorem ChainR.end (h : ChainR ts a b il i) (hi : il.length = i) : ¬ ClimbP ts a b := by
  rintro ⟨j, hj, hh⟩
  have hz : j ∈ il := up_in (Z := fun x => x ∈ il) (List.mem_of_getElem? h.hd) (fun x k s q hx hs hq hk => by
    obtain ⟨m, hm⟩ := List.getElem?_of_mem hx
    have := (List.getElem?_eq_some_iff.1 hm).1
    exact h.cl m x k s q (by omega) hm hs hq hk) hj
  obtain ⟨m, hm⟩ := List.getElem?_of_mem hz
  have := (List.getElem?_eq_some_iff.1 hm).1
  exact h.no m j (by omega) hm hh
theorem ChainR.hit (h : ChainR ts a b il i) {x : Nat} (hx : il[i]? = some x) (hh : Hits ts b x) : ClimbP ts a b := ⟨x, (h.up i x hx).1, hh⟩
theorem ChainR.skip (h : ChainR ts a b il i) {x : Nat} {s : Sb} (hx : il[i]? = some x) (hs : ts[x]? = some s) (hn : ¬ Hits ts b x) (hsup : ∀ q ∈ s.sups, ∀ k : Nat, q.n = (k : Int) → k ∈ il) : ChainR ts a b il (i + 1) := by
  have hlt := (List.getElem?_eq_some_iff.1 hx).1
  refine ⟨h.hd, h.up, fun j y hj hy => ?_, fun j y k s' q hj hy hs' hq hk => ?_, by have := h.ln; omega⟩
  · by_cases e : j = i
    · subst e; obtain rfl := Option.some.inj (hx.symm.trans hy); exact hn
    · exact h.no j y (by omega) hy
  · by_cases e : j = i
    · subst e
      obtain rfl := Option.some.inj (hx.symm.trans hy)
      obtain rfl := Option.some.inj (hs.symm.trans hs')
      exact hsup q hq k hk
    · exact h.cl j y k s' q (by omega) hy hs' hq hk
theorem ChainR.more (h : ChainR ts a b il i) {x k : Nat} {s : Sb} {q : Hp} (hx : il[i]? = some x) (hs : ts[x]? = some s) (hn : ¬ Hits ts b x) (hsup : s.sups = [q]) (hq : q.n = (k : Int)) (hk : k < x) : ChainR ts a b (il ++ [k]) (i + 1) := by
  have hlt := (List.getElem?_eq_some_iff.1 hx).1
  have hle := h.ln
  have hxa := h.up i x hx
  have get : ∀ (j y : Nat), (il ++ [k])[j]? = some y → il[j]? = some y ∨ (j = i + 1 ∧ y = k) := fun j y hy => by
    by_cases e : j < il.length
    · rw [List.getElem?_append_left e] at hy; exact .inl hy
    · rw [List.getElem?_append_right (by omega)] at hy
      obtain ⟨j', hj'⟩ : ∃ j', j = il.length + j' := ⟨j - il.length, by omega⟩
      subst hj'
      rw [Nat.add_sub_cancel_left] at hy
      cases j' with
      | zero => simp at hy; exact .inr ⟨by omega, hy.symm⟩
      | succ j' => simp at hy
  refine ⟨by rw [List.getElem?_append_left (by omega)]; exact h.hd, fun j y hy => ?_, fun j y hj hy => ?_, fun j y k' s' q' hj hy hs' hq' hk' => ?_, by simp; omega⟩
  · rcases get j y hy with hy | ⟨rfl, rfl⟩
    · exact h.up j y hy
    · exact ⟨hxa.1.step hs (by rw [hsup]; simp) hq, by omega⟩
  · rcases get j y hy with hy | ⟨rfl, rfl⟩
    · by_cases e : j = i
      · subst e; obtain rfl := Option.some.inj (hx.symm.trans hy); exact hn
      · exact h.no j y (by omega) hy
    · omega
  · rcases get j y hy with hy | ⟨rfl, rfl⟩
    · by_cases e : j = i
      · subst e
        obtain rfl := Option.some.inj (hx.symm.trans hy)
        obtain rfl := Option.some.inj (hs.symm.trans hs')
        rw [hsup] at hq'
        simp at hq'
        subst hq'
        have : k' = k := by omega
        subst this
        simp
      · exact List.mem_append_left _ (h.cl j y k' s' q' (by omega) hy hs' hq' hk')
    · omega
theorem ChainR.lt (h : ChainR ts a b il i) {x : Nat} (hx : il[i]? = some x) : i ≤ a := by have := (h.up i x hx).2; omega
end
section
open Go.RowKit
variable {ts : List Sb} {a b : Hp}
theorem closed_given {n : Nat} (h : ClosedP n a) (hk : a.k ≠ 15) : 1 ≤ a.k ∧ a.k ≤ 12 ∧ a.n = 0 := by
  rcases h with h | h
  · exact h
  · exact absurd h.1 hk
theorem heapP_given (ca : ClosedP ts.length a) (cb : ClosedP ts.length b) (h1 : a.k ≠ 15) (h2 : b.k ≠ 15) : HeapP ts a b ↔ givenR a.k b.k = true := by
  obtain ⟨p1, p2, p3⟩ := closed_given ca h1
  obtain ⟨q1, q2, q3⟩ := closed_given cb h2
  rw [givenR_below p1 p2 q1 q2]
  constructor
  · rintro ⟨_, _, h | ⟨h, _⟩ | ⟨_, h, _⟩ | ⟨_, _, h⟩⟩
    · subst h
      rw [← givenR_below p1 p2 p1 p2]
      have key : ∀ x : Nat, x < 13 → 1 ≤ x → givenR (x : Int) (x : Int) = true := by decide +kernel
      obtain ⟨x, hx⟩ : ∃ x : Nat, a.k = x := ⟨a.k.toNat, by omega⟩
      rw [hx]
      exact key x (by omega) (by omega)
    · exact absurd h h1
    · exact absurd h h2
    · exact h
  · intro h
    exact ⟨ca, cb, .inr (.inr (.inr ⟨h1, h2, h⟩))⟩
theorem heapP_up (ca : ClosedP ts.length a) (cb : ClosedP ts.length b) (h1 : a.k = 15) : HeapP ts a b ↔ ClimbP ts a.n.toNat b := by
  constructor
  · rintro ⟨_, _, h | ⟨_, h⟩ | ⟨h, _⟩ | ⟨h, _⟩⟩
    · subst h
      rcases ca with h | h
      · exact absurd h1 (by have := h.2.1; omega)
      · exact ⟨a.n.toNat, .refl, .inl ⟨h1, by have := h.2.1; omega⟩⟩
    · exact h
    · exact absurd h1 h
    · exact absurd h1 h
  · intro h
    exact ⟨ca, cb, .inr (.inl ⟨h1, h⟩)⟩
theorem heapP_low {s : Sb} (ca : ClosedP ts.length a) (cb : ClosedP ts.length b) (h1 : a.k ≠ 15) (h2 : b.k = 15) (hs : ts[b.n.toNat]? = some s) (hk : s.k = 1 ∨ s.k = 2 ∨ s.k = 3) : HeapP ts a b ↔ (a.k = 6 ∧ s.k ≠ 1) ∨ (a.k = 8 ∧ s.k = 1) := by
  have e : a.k = (fam (kindK s.k)).2 ↔ (a.k = 6 ∧ s.k ≠ 1) ∨ (a.k = 8 ∧ s.k = 1) := by
    rcases hk with h | h | h <;> rw [h] <;> simp [kindK, fam]
  rw [← e]
  constructor
  · rintro ⟨_, _, h | ⟨h, _⟩ | ⟨_, _, s', q1, q2⟩ | ⟨_, h, _⟩⟩
    · subst h; exact absurd h2 h1
    · exact absurd h h1
    · obtain rfl := Option.some.inj (hs.symm.trans q1); exact q2
    · exact absurd h2 h
  · intro h
    exact ⟨ca, cb, .inr (.inr (.inl ⟨h1, h2, s, hs, h⟩))⟩
theorem hits_iff {s : Sb} {x : Nat} (cb : ClosedP ts.length b) (hs : ts[x]? = some s) (hk : s.k = 1 ∨ s.k = 2 ∨ s.k = 3) : Hits ts b x ↔ (b.k = 15 ∧ b.n = (x : Int)) ∨ (b.k ≠ 15 ∧ givenR (kindK s.k) b.k = true) := by
  have e : b.k ≠ 15 → givenR (kindK s.k) b.k = belowB (kindK s.k) b.k := fun h => by
    obtain ⟨q1, q2, q3⟩ := closed_given cb h
    exact givenR_below (by rcases hk with h | h | h <;> rw [h] <;> decide) (by rcases hk with h | h | h <;> rw [h] <;> decide) q1 q2
  unfold Hits
  constructor
  · rintro (h | ⟨h, s', q, h2⟩)
    · exact .inl h
    · obtain rfl := Option.some.inj (hs.symm.trans q); exact .inr ⟨h, by rw [e h]; exact h2⟩
  · rintro (h | ⟨h, h2⟩)
    · exact .inl h
    · exact .inr ⟨h, s, hs, by rw [← e h]; exact h2⟩
theorem typ_kind {gs : List (List Sb)} (hc : TabC gs) {id : Nat} {y : Sb} (hy : (tabL gs)[id]? = some y) : y.k = 1 ∨ y.k = 2 ∨ y.k = 3 := by
  rcases (hc.typ (List.mem_of_getElem? hy)).kind with h | h | h
  · exact .inl h.1
  · exact .inr (.inl h.1)
  · exact .inr (.inr h.1)
end
section
open Go.RowKit
theorem nodup_le {Z : List Nat} (h : Z.Nodup) {n : Nat} (hl : ∀ z ∈ Z, z < n) : Z.length ≤ n := by
  induction n generalizing Z with
  | zero =>
    cases Z with
    | nil => exact Nat.le_refl _
    | cons z Z => have := hl z (by simp); omega
  | succ n ih =>
    have h1 := ih (Z := Z.erase n) (h.erase n) (fun z hz => by
      have h2 := (h.mem_erase_iff).1 hz
      have := hl z h2.2
      have := h2.1
      omega)
    have h2 := List.length_erase (a := n) (l := Z)
    split at h2 <;> omega
structure ClP (ts : List Sb) (b : Hp) (id : Nat) (T Z : List Nat) (at? : Option Nat) : Prop where
  has : id ∈ Z
  sub : ∀ x ∈ T, x ∈ Z
  up : ∀ z ∈ Z, UpTo ts id z
  nodup : Z.Nodup
  lt : ∀ z ∈ Z, z < ts.length
  tl : T.length ≤ Z.length
  done : ∀ z ∈ Z, z ∉ T → some z ≠ at? → ¬ Hits ts b z ∧ ∀ s, ts[z]? = some s → ∀ h ∈ s.sups, ∀ k : Nat, h.n = (k : Int) → k ∈ Z
variable {ts : List Sb} {b : Hp} {id : Nat} {T Z : List Nat}
theorem ClP.start (h : id < ts.length) : ClP ts b id [id] [id] none :=
  ⟨by simp, by simp, fun z hz => by simp at hz; subst hz; exact .refl, by simp, fun z hz => by simp at hz; omega, by simp, fun z hz hn => absurd hz hn⟩
theorem ClP.len' {a : Option Nat} (h : ClP ts b id T Z a) : Z.length ≤ ts.length := nodup_le h.nodup h.lt
theorem ClP.pop {z : Nat} (h : ClP ts b id (T ++ [z]) Z none) : ClP ts b id T Z (some z) :=
  ⟨h.has, fun x hx => h.sub x (by simp [hx]), h.up, h.nodup, h.lt, by have := h.tl; simp at this; omega, fun y hy hn hne => h.done y hy (fun hm => by
    simp at hm
    rcases hm with hm | hm
    · exact hn hm
    · exact hne (by rw [hm])) (by simp)⟩
theorem ClP.push {z k : Nat} {s : Sb} {h' : Hp} (h : ClP ts b id T Z (some z)) (hz : z ∈ Z) (hs : ts[z]? = some s) (hh : h' ∈ s.sups) (hk : h'.n = (k : Int)) (hc : Clo ts) (hn : k ∉ Z) : ClP ts b id (T ++ [k]) (Z ++ [k]) (some z) := by
  have hu : UpTo ts id k := (h.up z hz).step hs hh hk
  have hl : k < ts.length := UpTo.lt hc (h.lt id h.has) hu
  refine ⟨by simp [h.has], fun x hx => ?_, fun x hx => ?_, ?_, fun x hx => ?_, by have := h.tl; simp; omega, fun x hx hm hne => ?_⟩
  · simp at hx ⊢
    exact hx.imp (h.sub x) (fun e => e)
  · simp at hx
    rcases hx with hx | rfl
    · exact h.up x hx
    · exact hu
  · rw [List.nodup_append]
    exact ⟨h.nodup, by simp, fun a ha c hc e => by simp at hc; subst hc; subst e; exact hn ha⟩
  · simp at hx
    rcases hx with hx | rfl
    · exact h.lt x hx
    · exact hl
  · simp at hx hm
    rcases hx with hx | rfl
    · obtain ⟨h1, h2⟩ := h.done x hx hm.1 hne
      exact ⟨h1, fun s' hs' y hy k' hk' => by simp; exact .inl (h2 s' hs' y hy k' hk')⟩
    · exact absurd rfl hm.2
theorem ClP.close {z : Nat} {s : Sb} (h : ClP ts b id T Z (some z)) (hs : ts[z]? = some s) (hno : ¬ Hits ts b z) (hall : ∀ y ∈ s.sups, ∀ k : Nat, y.n = (k : Int) → k ∈ Z) : ClP ts b id T Z none :=
  ⟨h.has, h.sub, h.up, h.nodup, h.lt, h.tl, fun y hy hn _ => by
    by_cases e : y = z
    · subst e
      exact ⟨hno, fun s' hs' => by rw [hs] at hs'; obtain rfl := Option.some.inj hs'; exact hall⟩
    · exact h.done y hy hn (fun e' => e (Option.some.inj e'))⟩
theorem ClP.none (h : ClP ts b id [] Z none) : ¬ ClimbP ts id b := by
  rintro ⟨j, hj, hh⟩
  have hz : j ∈ Z := up_in (Z := fun z => z ∈ Z) h.has (fun j k s y hj hs hy hk => (h.done j hj (by simp) (by simp)).2 s hs y hy k hk) hj
  exact (h.done j hz (by simp) (by simp)).1 hh
end
end Go.Proofs.YtpddbaijnjbfdaaGreatDoor
