import Derived.Test.YtpddbaijnjbfdaaGreatDoorQMaFactsBd
namespace Go.Proofs.YtpddbaijnjbfdaaGreatDoor
open Lib (hid)
section
open Go.RowKit
structure DcOk (d : DcS) : Prop where
  tl : d.types.length = d.ids.length
  dl : d.depths.length = d.ids.length
  inn : ∀ i ∈ d.ids, inTab d.gs i = true
  dep : ∀ x ∈ d.depths, 0 ≤ x ∧ x ≤ 63
theorem dcOk_new (gs : List (List Sb)) : DcOk ⟨[], [], [], gs⟩ := ⟨rfl, rfl, by simp, by simp⟩
theorem standAll_eachD {ty : List Sb} : ∀ {g : List Sb} {n : Nat}, (standAll ty g n).1 = 0 → ∀ (j : Nat) x, g[j]? = some x → standsD ty x (n + j) = 0
  | [], _, _, j, x, hx => by simp at hx
  | s :: g, n, h, j, x, hx => by
    rw [standAll] at h
    by_cases h1 : standsD ty s n ≠ 0
    · rw [if_pos h1] at h; exact absurd h h1
    · rw [if_neg h1] at h
      cases j with
      | zero => simp at hx; subst hx; simpa using h1
      | succ j =>
        have := standAll_eachD h j x (by simpa using hx)
        rw [show n + (j + 1) = n + 1 + j by omega]; exact this
theorem stands_super {ty : List Sb} {s : Sb} {n : Nat} (h : standsD ty s n = 0) : ∀ a, superD s = some a → 0 ≤ a ∧ a < n := fun a ha => by
  unfold standsD at h
  split at h
  · cases h
  · rw [ha] at h
    dsimp only at h
    split at h
    · cases h
    · omega
theorem standAll_step {ty : List Sb} {g : List Sb} {n j : Nat} {x : Sb} (hx : g[j]? = some x) (h : standsD ty x (n + j) = 0) : standAll ty (g.drop j) (n + j) = standAll ty (g.drop (j + 1)) (n + (j + 1)) := by
  have hlt := (List.getElem?_eq_some_iff.1 hx).1
  rw [List.drop_eq_getElem_cons hlt, (List.getElem?_eq_some_iff.1 hx).2, standAll, if_neg (by simpa using h), Nat.add_assoc]
theorem standAll_bad {ty : List Sb} {g : List Sb} {n j : Nat} {x : Sb} (hx : g[j]? = some x) (h : standsD ty x (n + j) ≠ 0) : standAll ty (g.drop j) (n + j) = (standsD ty x (n + j), n + j) := by
  have hlt := (List.getElem?_eq_some_iff.1 hx).1
  rw [List.drop_eq_getElem_cons hlt, (List.getElem?_eq_some_iff.1 hx).2, standAll, if_pos h]
theorem matchAll_step {ts : List Sb} {ids ds : List Int} {g : List Sb} {n j : Nat} {x : Sb} (hx : g[j]? = some x) (h : (matchesD ts ids ds x (n + j)).1 = 0) : matchAll ts ids (g.drop j) (n + j) ds = matchAll ts ids (g.drop (j + 1)) (n + (j + 1)) (matchesD ts ids ds x (n + j)).2 := by
  have hlt := (List.getElem?_eq_some_iff.1 hx).1
  rw [List.drop_eq_getElem_cons hlt, (List.getElem?_eq_some_iff.1 hx).2, matchAll, if_neg (by simpa using h), Nat.add_assoc]
theorem matchAll_bad {ts : List Sb} {ids ds : List Int} {g : List Sb} {n j : Nat} {x : Sb} (hx : g[j]? = some x) (h : (matchesD ts ids ds x (n + j)).1 ≠ 0) : matchAll ts ids (g.drop j) (n + j) ds = ((matchesD ts ids ds x (n + j)).1, n + j, (matchesD ts ids ds x (n + j)).2) := by
  have hlt := (List.getElem?_eq_some_iff.1 hx).1
  rw [List.drop_eq_getElem_cons hlt, (List.getElem?_eq_some_iff.1 hx).2, matchAll, if_pos h]
theorem matchesD_keeps {ts : List Sb} {ids ds : List Int} {s : Sb} {n : Nat} (h : (matchesD ts ids ds s n).1 = 0) (hd : ∀ x ∈ ds, 0 ≤ x ∧ x ≤ 63) : (matchesD ts ids ds s n).2.length = ds.length + 1 ∧ ∀ x ∈ (matchesD ts ids ds s n).2, 0 ≤ x ∧ x ≤ 63 := by
  unfold matchesD at h ⊢
  have h0 : ∀ k, 0 ≤ ds.getD k 0 := fun k => by
    rw [List.getD_eq_getElem?_getD]
    cases hk : ds[k]? with
    | none => simp
    | some x => exact (hd x (List.mem_of_getElem? hk)).1
  cases hs : superD s with
  | none =>
    refine ⟨by simp, fun x hx => ?_⟩
    simp at hx
    rcases hx with hx | rfl
    · exact hd x hx
    · omega
  | some a =>
    rw [hs] at h
    dsimp only at h ⊢
    split at h
    · rename_i lo up e1 e2
      split at h
      · cases h
      · rename_i hc
        rw [if_neg hc]
        split at h
        · cases h
        · rename_i h6
          rw [if_neg h6]
          refine ⟨by simp, fun x hx => ?_⟩
          simp at hx
          have := h0 a.toNat
          rcases hx with hx | rfl
          · exact hd x hx
          · rw [← List.getD_eq_getElem?_getD]; omega
    · cases h
theorem dcOk_add {d : DcS} {g : List Sb} (ok : DcOk d) (h : (addD d g).1 = 0) : DcOk (addD d g).2.2 := by
  obtain ⟨k1, k2, k3, k4⟩ := addD_ok h
  rcases addG_fact d.gs d.ids g with ⟨q, _⟩ | ⟨_, hA⟩
  · exact absurd k1 q
  have hm : ∀ (l : List Sb) (n : Nat) (ds : List Int), (∀ x ∈ ds, 0 ≤ x ∧ x ≤ 63) → (matchAll (tabL (addG d.gs d.ids g).2.2) (addG d.gs d.ids g).1 l n ds).1 = 0 → (matchAll (tabL (addG d.gs d.ids g).2.2) (addG d.gs d.ids g).1 l n ds).2.2.length = ds.length + l.length ∧ ∀ x ∈ (matchAll (tabL (addG d.gs d.ids g).2.2) (addG d.gs d.ids g).1 l n ds).2.2, 0 ≤ x ∧ x ≤ 63 := by
    intro l
    induction l with
    | nil => intro n ds hd _; exact ⟨rfl, hd⟩
    | cons s l ih =>
      intro n ds hd h
      rw [matchAll] at h ⊢
      by_cases h1 : (matchesD (tabL (addG d.gs d.ids g).2.2) (addG d.gs d.ids g).1 ds s n).1 ≠ 0
      · rw [if_pos h1] at h; exact absurd h h1
      · rw [if_neg h1] at h ⊢
        obtain ⟨e1, e2⟩ := matchesD_keeps (by simpa using h1) hd
        obtain ⟨f1, f2⟩ := ih _ _ e2 h
        exact ⟨by rw [f1, e1, List.length_cons]; omega, f2⟩
  have hdep : (addD d g).2.2.depths.length = d.depths.length + g.length ∧ ∀ x ∈ (addD d g).2.2.depths, 0 ≤ x ∧ x ≤ 63 := by
    unfold addD at h ⊢
    dsimp only at h ⊢
    rw [if_neg (by simpa using k1)] at h ⊢
    split
    · rename_i h2; rw [if_pos h2] at h; exact absurd h h2
    · rename_i h2
      rw [if_neg h2] at h
      exact hm g _ _ ok.dep h
  have hi : (addD d g).2.2.ids.length = d.ids.length + g.length := by rw [k2]; exact hA.len
  exact ⟨by rw [k3, List.length_append, hi, ok.tl], by rw [hdep.1, hi, ok.dl], fun i hi => by rw [k4]; rw [k2] at hi; exact hA.inn i hi, hdep.2⟩
end
section
open Go.RowKit
def stS (fin : Bool) (sups bits : List Int) : Sb := ⟨fin, sups.map (fun k => ⟨13, k⟩), 2, [], [], bits.map (fun b => ⟨0, ⟨if b = 64 then 2 else 1, false, 0, 0⟩, false⟩)⟩
def dc0 (gs : List (List Sb)) : DcS := ⟨[], [], [], gs⟩
theorem matchesD_none {ts : List Sb} {ids ds : List Int} {s : Sb} {n : Nat} (h : superD s = none) : matchesD ts ids ds s n = (0, ds ++ [0]) := by
  unfold matchesD; rw [h]
theorem matchesD_sub {ts : List Sb} {ids ds : List Int} {s lo up : Sb} {n : Nat} {a : Int} (h : superD s = some a) (h1 : ts[(ids.getD n 0).toNat]? = some lo) (h2 : ts[(ids.getD a.toNat 0).toNat]? = some up) (h3 : ¬ CompP ts lo up) : matchesD ts ids ds s n = (123, ds) := by
  unfold matchesD; rw [h]; dsimp only; rw [h1, h2]; dsimp only; rw [if_pos h3]
theorem matchesD_ok {ts : List Sb} {ids ds : List Int} {s lo up : Sb} {n : Nat} {a : Int} (h : superD s = some a) (h1 : ts[(ids.getD n 0).toNat]? = some lo) (h2 : ts[(ids.getD a.toNat 0).toNat]? = some up) (h3 : CompP ts lo up) : matchesD ts ids ds s n = if 63 < ds.getD a.toNat 0 + 1 then (111, ds) else (0, ds ++ [ds.getD a.toNat 0 + 1]) := by
  unfold matchesD; rw [h]; dsimp only; rw [h1, h2]; dsimp only; rw [if_neg (by simpa using h3)]
theorem heapT_ex (gs : List (List Sb)) : ∃ qB : Hp → Hp → Bool, HeapT gs qB := by
  classical exact ⟨fun a b => decide (HeapP (tabL gs) a b), fun a b => by simp⟩
theorem addD_one {d : DcS} {s : Sb} {is : List Int} {gs : List (List Sb)} (h : addG d.gs d.ids [s] = (is, 0, gs)) :
    addD d [s] = if standsD (d.types ++ [s]) s d.ids.length ≠ 0 then (standsD (d.types ++ [s]) s d.ids.length, d.ids.length, ⟨is, d.types ++ [s], d.depths, gs⟩) else ((matchesD (tabL gs) is d.depths s d.ids.length).1, (if (matchesD (tabL gs) is d.depths s d.ids.length).1 ≠ 0 then d.ids.length else 0), ⟨is, d.types ++ [s], (matchesD (tabL gs) is d.depths s d.ids.length).2, gs⟩) := by
  unfold addD
  rw [h]
  dsimp only
  rw [if_neg (by simp)]
  by_cases h1 : standsD (d.types ++ [s]) s d.ids.length ≠ 0
  · rw [if_pos h1, standAll, if_pos h1, if_pos h1]
  · rw [if_neg h1, standAll, if_neg h1, standAll, if_neg (by simp), matchAll]
    by_cases h2 : (matchesD (tabL gs) is d.depths s d.ids.length).1 ≠ 0
    · rw [if_pos h2]
    · rw [if_neg h2, matchAll]
      have h3 : (matchesD (tabL gs) is d.depths s d.ids.length).1 = 0 := by simpa using h2
      simp [h3]
def gsA : List (List Sb) := (addG [] [] [stS false [] [32]]).2.2
def gsB : List (List Sb) := (addG gsA [0] [stS false [0] [32, 64]]).2.2
def gsC : List (List Sb) := (addG [] [] [stS true [] []]).2.2
def gsD : List (List Sb) := (addG gsC [0] [stS false [0] []]).2.2
def gsE : List (List Sb) := (addG gsA [0] [stS false [0] [64]]).2.2
theorem adA : addG [] [] [stS false [] [32]] = ([0], 0, gsA) := by decide +kernel
theorem adB : addG gsA [0] [stS false [0] [32, 64]] = ([0, 1], 0, gsB) := by decide +kernel
theorem adC : addG [] [] [stS true [] []] = ([0], 0, gsC) := by decide +kernel
theorem adD : addG gsC [0] [stS false [0] []] = ([0, 1], 0, gsD) := by decide +kernel
theorem adE : addG gsA [0] [stS false [0] [64]] = ([0, 1], 0, gsE) := by decide +kernel
theorem adF : addG [] [] [stS false [0] []] = ([0], 0, (addG [] [] [stS false [0] []]).2.2) := by decide +kernel
theorem tbB : (tabL gsB)[0]? = some (stS false [] [32]) ∧ (tabL gsB)[1]? = some ⟨false, [⟨15, 0⟩], 2, [], [], (stS false [0] [32, 64]).fs⟩ := by decide +kernel
theorem tbE : (tabL gsE)[0]? = some (stS false [] [32]) ∧ (tabL gsE)[1]? = some ⟨false, [⟨15, 0⟩], 2, [], [], (stS false [0] [64]).fs⟩ := by decide +kernel
theorem cmpB : CompP (tabL gsB) ⟨false, [⟨15, 0⟩], 2, [], [], (stS false [0] [32, 64]).fs⟩ (stS false [] [32]) := by
  obtain ⟨qB, hq⟩ := heapT_ex gsB
  exact (compB_iff hq).1 rfl
theorem cmpE : ¬ CompP (tabL gsE) ⟨false, [⟨15, 0⟩], 2, [], [], (stS false [0] [64]).fs⟩ (stS false [] [32]) := fun h => by
  obtain ⟨qB, hq⟩ := heapT_ex gsE
  have h1 := (compB_iff hq).2 h
  have h2 : compB (closedB (total gsE)) qB ⟨false, [⟨15, 0⟩], 2, [], [], (stS false [0] [64]).fs⟩ (stS false [] [32]) = false := rfl
  rw [h2] at h1; cases h1
theorem ckA : addD (dc0 []) [stS false [] [32]] = (0, 0, ⟨[0], [stS false [] [32]], [0], gsA⟩) := by
  rw [addD_one (show addG (dc0 []).gs (dc0 []).ids [stS false [] [32]] = ([0], 0, gsA) from adA), if_neg (by decide), matchesD_none rfl]
  rfl
def dcA : DcS := ⟨[0], [stS false [] [32]], [0], gsA⟩
theorem ckB : addD dcA [stS false [0] [32, 64]] = (0, 0, ⟨[0, 1], [stS false [] [32], stS false [0] [32, 64]], [0, 1], gsB⟩) := by
  rw [addD_one (d := dcA) adB, if_neg (by decide), matchesD_ok (a := 0) rfl tbB.2 tbB.1 cmpB, if_neg (by decide)]
  rfl
theorem ck1 : checkD (dc0 []) [[stS false [] [32]], [stS false [0] [32, 64]]] = (0, 0, ⟨[0, 1], [stS false [] [32], stS false [0] [32, 64]], [0, 1], gsB⟩) := by
  rw [checkD, ckA, if_neg (by simp), checkD, show addD (0, 0, (⟨[0], [stS false [] [32]], [0], gsA⟩ : DcS)).2.2 [stS false [0] [32, 64]] = _ from ckB, if_neg (by simp)]
  rfl
theorem ck2 : (checkD (dc0 []) [[stS false [0] []]]).1 = 121 ∧ (checkD (dc0 []) [[stS false [0] []]]).2.1 = 0 := by
  rw [checkD, addD_one (d := dc0 []) adF, if_pos (by decide), if_pos (by decide)]
  exact ⟨rfl, rfl⟩
theorem ckC : addD (dc0 []) [stS true [] []] = (0, 0, ⟨[0], [stS true [] []], [0], gsC⟩) := by
  rw [addD_one (show addG (dc0 []).gs (dc0 []).ids [stS true [] []] = ([0], 0, gsC) from adC), if_neg (by decide), matchesD_none rfl]
  rfl
def dcC : DcS := ⟨[0], [stS true [] []], [0], gsC⟩
theorem ckD : addD dcC [stS false [0] []] = (122, 1, ⟨[0, 1], [stS true [] [], stS false [0] []], [0], gsD⟩) := by
  rw [addD_one (d := dcC) adD, if_pos (by decide)]
  rfl
theorem ck3 : (checkD (dc0 []) [[stS true [] []], [stS false [0] []]]).1 = 122 ∧ (checkD (dc0 []) [[stS true [] []], [stS false [0] []]]).2.1 = 1 := by
  rw [checkD, ckC, if_neg (by simp), checkD, show addD (0, 0, (⟨[0], [stS true [] []], [0], gsC⟩ : DcS)).2.2 [stS false [0] []] = _ from ckD, if_pos (by simp)]
  exact ⟨rfl, rfl⟩
theorem ckE : addD dcA [stS false [0] [64]] = (123, 1, ⟨[0, 1], [stS false [] [32], stS false [0] [64]], [0], gsE⟩) := by
  rw [addD_one (d := dcA) adE, if_neg (by decide), matchesD_sub (a := 0) rfl tbE.2 tbE.1 cmpE]
  rfl
theorem ck4 : (checkD (dc0 []) [[stS false [] [32]], [stS false [0] [64]]]).1 = 123 ∧ (checkD (dc0 []) [[stS false [] [32]], [stS false [0] [64]]]).2.1 = 1 := by
  rw [checkD, ckA, if_neg (by simp), checkD, show addD (0, 0, (⟨[0], [stS false [] [32]], [0], gsA⟩ : DcS)).2.2 [stS false [0] [64]] = _ from ckE, if_pos (by simp)]
  exact ⟨rfl, rfl⟩
end
section
open Go.RowKit
theorem LnI.stood {d : DcS} {g : List Sb} (h : LnI d) (q1 : (addG d.gs d.ids g).2.1 = 0) (hst : (standAll (d.types ++ g) g d.ids.length).1 = 0) : SupT (tabL (addG d.gs d.ids g).2.2) := by
  have hz := standAll_zero g d.ids.length hst
  have hc := tabC_add (ids := d.ids) (g := g) h.c
  have one : ∀ (k : Nat) s, g[k]? = some s → (1 < s.sups.length → False) := fun k s hk hlt => by
    have := hz k s hk
    unfold standsD at this
    rw [if_pos hlt] at this; cases this
  have ty := fun (k : Nat) s (hk : g[k]? = some s) => added_type q1 hc hk (one k s hk) (standsD_sup (hz k s hk))
  rcases addG_tab q1 with e | ⟨e, ei⟩
  · rw [e]; exact h.sup
  · intro id y hy
    by_cases hlt : id < total d.gs
    · obtain ⟨y', hy'⟩ : ∃ y', (tabL d.gs)[id]? = some y' := ⟨(tabL d.gs)[id]'(by rw [tabL_len]; exact hlt), by simp⟩
      have := tabL_pre (t := [g.map (mapP (shutP d.ids))]) hy'
      rw [← e, hy] at this
      obtain rfl := Option.some.inj this
      exact h.sup id y hy'
    · have hid := (List.getElem?_eq_some_iff.1 hy).1
      rw [tabL_len, e, total_snoc, List.length_map] at hid
      obtain ⟨k, hk⟩ : ∃ k, id = total d.gs + k := ⟨id - total d.gs, by omega⟩
      obtain ⟨s, hs⟩ : ∃ s, g[k]? = some s := ⟨g[k]'(by omega), by simp⟩
      obtain ⟨m, y', j1, j2, _, _, _, j6⟩ := ty k s hs
      rw [ei, List.getD_eq_getElem?_getD, List.getElem?_append_right (by omega), show d.ids.length + k - d.ids.length = k by omega, List.getElem?_map, List.getElem?_range (by omega)] at j1
      simp at j1
      obtain rfl : m = id := by omega
      rw [hy] at j2
      obtain rfl := Option.some.inj j2
      rcases j6 with ⟨_, j6⟩ | ⟨a, q, _, _, _, j7, j8⟩
      · exact .inl j6
      · exact .inr ⟨q, j7, j8⟩
def StoodA (all : List Sb) (n : Nat) : Prop := ∀ (i : Nat) s, i < n → all[i]? = some s → s.sups = [] ∨ ∃ a : Nat, s.sups = [⟨13, (a : Int)⟩] ∧ a < i
def depA (all : List Sb) : Nat → Nat → Nat
  | 0, _ => 0
  | f + 1, n => match all[n]? with
    | some s => match s.sups with
      | h :: _ => depA all f h.n.toNat + 1
      | [] => 0
    | none => 0
def deepA (all : List Sb) (n : Nat) : Nat := depA all (n + 1) n
theorem depA_more {all : List Sb} {n : Nat} (hS : StoodA all n) : ∀ (f i : Nat), i < f → i < n → depA all f i = deepA all i := by
  have key : ∀ (k : Nat), ∀ i f f', i ≤ k → i < f → i < f' → i < n → depA all f i = depA all f' i := by
    intro k
    induction k with
    | zero =>
      intro i f f' h0 h1 h2 hn
      obtain ⟨f, rfl⟩ : ∃ q, f = q + 1 := ⟨f - 1, by omega⟩
      obtain ⟨f', rfl⟩ : ∃ q, f' = q + 1 := ⟨f' - 1, by omega⟩
      rw [depA, depA]
      cases hy : all[i]? with
      | none => rfl
      | some y =>
        rcases hS i y hn hy with h | ⟨a, h, ha⟩
        · simp only [h]
        · omega
    | succ k ih =>
      intro i f f' h0 h1 h2 hn
      obtain ⟨f, rfl⟩ : ∃ q, f = q + 1 := ⟨f - 1, by omega⟩
      obtain ⟨f', rfl⟩ : ∃ q, f' = q + 1 := ⟨f' - 1, by omega⟩
      rw [depA, depA]
      cases hy : all[i]? with
      | none => rfl
      | some y =>
        rcases hS i y hn hy with h | ⟨a, h, ha⟩
        · simp only [h]
        · simp only [h, Int.toNat_natCast]
          rw [ih a f f' (by omega) (by omega) (by omega) (by omega)]
  intro f i h hn
  exact key i i f (i + 1) (Nat.le_refl _) h (Nat.lt_succ_self _) hn
theorem deepA_nil {all : List Sb} {i : Nat} {s : Sb} (hy : all[i]? = some s) (h : s.sups = []) : deepA all i = 0 := by
  unfold deepA; rw [depA, hy]; simp only [h]
theorem deepA_sup {all : List Sb} {n i a : Nat} {s : Sb} (hS : StoodA all n) (hn : i < n) (hy : all[i]? = some s) (h : s.sups = [⟨13, (a : Int)⟩]) (ha : a < i) : deepA all i = deepA all a + 1 := by
  unfold deepA; rw [depA, hy]; simp only [h, Int.toNat_natCast]
  rw [depA_more hS i a ha (by omega)]; rfl
theorem superD_sup {s : Sb} {a : Nat} (h : s.sups = [⟨13, (a : Int)⟩]) : superD s = some (a : Int) := by unfold superD; rw [h]; rfl
theorem superD_nil {s : Sb} (h : s.sups = []) : superD s = none := by unfold superD; rw [h]
def DepI (all : List Sb) (ds : List Int) : Prop := ∀ j, j < ds.length → ds.getD j 0 = deepA all j
theorem DepI.snoc {all : List Sb} {ds : List Int} {x : Int} (h : DepI all ds) (hx : x = deepA all ds.length) : DepI all (ds ++ [x]) := by
  intro j hj
  by_cases e : j < ds.length
  · rw [List.getD_eq_getElem?_getD, List.getElem?_append_left e, ← List.getD_eq_getElem?_getD]; exact h j e
  · simp at hj
    obtain rfl : j = ds.length := by omega
    rw [List.getD_eq_getElem?_getD, List.getElem?_append_right (Nat.le_refl _)]
    simp [hx]
theorem depA_app {all r : List Sb} {n : Nat} (hS : StoodA all n) (hn : n ≤ all.length) : ∀ (f i : Nat), i < n → depA (all ++ r) f i = depA all f i
  | 0, _, _ => rfl
  | f + 1, i, hi => by
    rw [depA, depA, List.getElem?_append_left (by omega)]
    cases hy : all[i]? with
    | none => rfl
    | some y =>
      rcases hS i y hi hy with h | ⟨a, h, ha⟩
      · simp only [h]
      · simp only [h, Int.toNat_natCast]
        rw [depA_app hS hn f a (by omega)]
theorem DepI.app {all r : List Sb} {ds : List Int} (h : DepI all ds) (hS : StoodA all all.length) (hl : ds.length = all.length) : DepI (all ++ r) ds := by
  intro j hj
  rw [h j hj]
  unfold deepA
  rw [depA_app hS (Nat.le_refl _) _ _ (by omega)]
theorem stood_all {all g : List Sb} {n : Nat} (hS : StoodA all n) (hn : all.length = n) (hp : ∀ x ∈ g, plainS x = true) (hz : (standAll (all ++ g) g n).1 = 0) : StoodA (all ++ g) (n + g.length) := by
  intro i s hi hs
  by_cases e : i < n
  · exact hS i s e (by rwa [List.getElem?_append_left (by omega)] at hs)
  · obtain ⟨k, rfl⟩ : ∃ k, i = n + k := ⟨i - n, by omega⟩
    rw [List.getElem?_append_right (by omega), show n + k - all.length = k by omega] at hs
    have h0 := standAll_eachD hz k s hs
    have hsup := stands_super h0
    have hpl := hp s (List.mem_of_getElem? hs)
    match hsp : s.sups with
    | [] => exact .inl rfl
    | x :: y :: r => exfalso; unfold standsD at h0; rw [if_pos (by rw [hsp]; simp)] at h0; cases h0
    | [x] =>
      right
      obtain ⟨hx13, hx0, _⟩ := (plainS_wf hpl).sups x (by rw [hsp]; simp)
      have hsd : superD s = some x.n := by unfold superD; rw [hsp]; simp [hx13]
      obtain ⟨q0, q1⟩ := hsup x.n hsd
      refine ⟨x.n.toNat, ?_, by omega⟩
      obtain ⟨xk, xn⟩ := x
      dsimp only at hx13 hx0 q0 q1 ⊢
      subst hx13
      rw [Int.toNat_of_nonneg q0]
theorem match_sup {ts all : List Sb} {ids ds : List Int} {s lo up : Sb} {m n a : Nat} (hS : StoodA all m) (hn : n < m) (hs : all[n]? = some s) (h : s.sups = [⟨13, (a : Int)⟩]) (ha : a < n) (hd : DepI all ds) (hl : ds.length = n) (h1 : ts[(ids.getD n 0).toNat]? = some lo) (h2 : ts[(ids.getD a 0).toNat]? = some up) :
    (¬ CompP ts lo up → matchesD ts ids ds s n = (123, ds)) ∧ (CompP ts lo up → 63 < deepA all n → matchesD ts ids ds s n = (111, ds)) ∧ (CompP ts lo up → ¬ 63 < deepA all n → matchesD ts ids ds s n = (0, ds ++ [(deepA all n : Int)]) ∧ DepI all (ds ++ [(deepA all n : Int)])) := by
  have hsd := superD_sup h
  have hdn := deepA_sup hS hn hs h ha
  have hda := hd a (by omega)
  refine ⟨fun hc => matchesD_sub hsd h1 (by rw [Int.toNat_natCast]; exact h2) hc, fun hc h6 => ?_, fun hc h6 => ⟨?_, hd.snoc (by rw [hl])⟩⟩
  · rw [matchesD_ok hsd h1 (by rw [Int.toNat_natCast]; exact h2) hc, Int.toNat_natCast, hda, if_pos (by omega)]
  · rw [matchesD_ok hsd h1 (by rw [Int.toNat_natCast]; exact h2) hc, Int.toNat_natCast, hda, if_neg (by omega), hdn]
    push_cast; rfl
theorem match_nil {ts all : List Sb} {ids ds : List Int} {s : Sb} {n : Nat} (hs : all[n]? = some s) (h : s.sups = []) (hd : DepI all ds) (hl : ds.length = n) : matchesD ts ids ds s n = (0, ds ++ [0]) ∧ DepI all (ds ++ [0]) :=
  ⟨matchesD_none (superD_nil h), hd.snoc (by rw [hl, deepA_nil hs h]; rfl)⟩
end
section
open Go.RowKit Go.Maps Go.WideMaps
structure TysAt (S0 : Nat → Prop) (wE w : World) (vt : Value) (ts : List Sb) : Prop where
  ex : ∃ cs : List (List Value), cs.length = ts.length ∧ (∀ c ∈ cs, c.length = 6) ∧ (∀ c ∈ cs, ∀ u ∈ c, u.oneCell' = true) ∧ w.ownsRow wE.heap.size 46 6 vt ts.length cs.flatten ∧ ∀ (i : Nat) c x, cs[i]? = some c → ts[i]? = some x → ∀ w'', Upd S0 wE w'' → SubAt w'' c x
structure DcAt (w0 : World) (S0 : Nat → Prop) (wE : World) (S R T : Nat → Prop) (w : World) (t d : Nat) (dc : DcS) (vi vt vd : Value) : Prop where
  tab : TabN w0 S R w t dc.gs
  c : TabC dc.gs
  box : w.heap[d]? = some (.cells #[.pointer (some ⟨t, 0, none⟩), vi, vt, vd] 104 (0, 0))
  ids : ∀ w'', Upd (fun b => S b ∨ T b ∨ b = d ∨ b < wE.heap.size) w w'' → IntsAt w'' vi dc.ids
  tys : TysAt S0 wE w vt dc.types
  dep : w.ownsRow wE.heap.size 3 1 vd dc.depths.length (dc.depths.map (Value.int .i64))
  tt : ∀ b, vt.ownBlock = some b → T b
  tv : ∀ b, vd.ownBlock = some b → T b
  td : ∀ b, T b → b < w.heap.size ∧ wE.heap.size ≤ b ∧ ¬ S b ∧ ¬ R b ∧ b ≠ d
  dd : ¬ S d ∧ ¬ R d ∧ wE.heap.size ≤ d
  up : Upd S0 wE w
  fr : Fresh S0 wE S
  e0 : w0.heap.size ≤ wE.heap.size
variable {w0 wE w w' : World} {S0 S R T : Nat → Prop} {t d : Nat} {dc : DcS} {vi vt vd : Value} {ts : List Sb}
theorem TabN.upd {gs : List (List Sb)} {W : Nat → Prop} (h : TabN w0 S R w t gs) (u : Upd W w w') (hW : ∀ b, W b → ¬ S b ∧ ¬ R b ∧ w0.heap.size ≤ b) : TabN w0 S R w' t gs :=
  ⟨h.tab.keep (u.mono fun b _ hb => ⟨(hW b hb).1, (hW b hb).2.1⟩), h.ok, h.base, h.be.trans (u.below (fun b hb => (hW b hb).2.2) h.be.size)⟩
theorem TysAt.below (h : TysAt S0 wE w vt ts) (hb : Below w.heap.size w w') : TysAt S0 wE w' vt ts := by
  obtain ⟨cs, h1, h2, h3, h4, h5⟩ := h.ex
  exact ⟨cs, h1, h2, h3, ownsRow_upd (S := fun _ => False) h4 (Upd.of_below hb) (fun _ _ q => q), h5⟩
theorem TysAt.keep (h : TysAt S0 wE w vt ts) {W : Nat → Prop} (hu : Upd W w w') (hb : ∀ b, vt.ownBlock = some b → ¬ W b) : TysAt S0 wE w' vt ts := by
  obtain ⟨cs, h1, h2, h3, h4, h5⟩ := h.ex
  exact ⟨cs, h1, h2, h3, ownsRow_upd h4 hu hb, h5⟩
theorem DcAt.below (h : DcAt w0 S0 wE S R T w t d dc vi vt vd) (hb : Below w.heap.size w w') : DcAt w0 S0 wE S R T w' t d dc vi vt vd :=
  ⟨h.tab.below hb, h.c, (hb.block _ (heap_lt h.box)).trans h.box, fun w'' hu => h.ids w'' ((Upd.of_below hb).trans' hu), h.tys.below hb, ownsRow_upd (S := fun _ => False) h.dep (Upd.of_below hb) (fun _ _ q => q), h.tt, h.tv, fun b hb' => by have h1 := h.td b hb'; have := hb.size; exact ⟨by omega, h1.2⟩, h.dd, h.up.trans' (Upd.of_below hb), h.fr, h.e0⟩
theorem DcAt.apart (h : DcAt w0 S0 wE S R T w t d dc vi vt vd) : ∀ b, vt.ownBlock = some b → ¬ vd.ownBlock = some b := fun b hb hv => by
  obtain ⟨cs, _, _, _, h4, _⟩ := h.tys.ex
  rcases own_ne h4 h.dep (by decide) with h | h
  · rw [h] at hb; cases hb
  · exact h (hb.trans hv.symm)
theorem DcAt.k (h : DcAt w0 S0 wE S R T w t d dc vi vt vd) : TabK S R w t dc.gs := ⟨h.tab.tab, h.tab.ok, h.c⟩
theorem TysAt.at (h : TysAt S0 wE w vt ts) (hu : Upd S0 wE w) {i : Nat} {x : Sb} (hx : ts[i]? = some x) : ∃ b cap a1 c1 a2 c2 a3 c3 a4 c4, vt = .slice (some ⟨b, 0, none⟩) ts.length cap ∧ SubAt w [.bool x.fin, .slice a1 x.sups.length c1, .int .i64 x.k, .slice a2 x.ps.length c2, .slice a3 x.rs.length c3, .slice a4 x.fs.length c4] x ∧
    w.cell? ⟨b, i * 6, none⟩ = some (.bool x.fin) ∧ w.cell? ⟨b, i * 6 + 1, none⟩ = some (.slice a1 x.sups.length c1) ∧ w.cell? ⟨b, i * 6 + 2, none⟩ = some (.int .i64 x.k) ∧ w.cell? ⟨b, i * 6 + 3, none⟩ = some (.slice a2 x.ps.length c2) ∧ w.cell? ⟨b, i * 6 + 4, none⟩ = some (.slice a3 x.rs.length c3) ∧ w.cell? ⟨b, i * 6 + 5, none⟩ = some (.slice a4 x.fs.length c4) := by
  obtain ⟨cs, h1, h2, _, h4, h5⟩ := h.ex
  have hi := (List.getElem?_eq_some_iff.1 hx).1
  obtain ⟨c, hc⟩ : ∃ c, cs[i]? = some c := ⟨cs[i]'(by omega), by simp⟩
  obtain ⟨vs, vp, vr, vf, rfl, k1, k2, k3, k4⟩ := (h5 i c x hc hx w hu).ex
  obtain ⟨a1, c1, rfl⟩ := RowAt.form k1
  obtain ⟨a2, c2, rfl⟩ := RowAt.form k2
  obtain ⟨a3, c3, rfl⟩ := RowAt.form k3
  obtain ⟨a4, c4, rfl⟩ := RowAt.form k4
  obtain ⟨b, cap, cur, e, _, _, _, hcell⟩ := ownsRow_some h4 (by omega)
  have at' : ∀ j, j < 6 → w.cell? ⟨b, i * 6 + j, none⟩ = ([.bool x.fin, .slice a1 x.sups.length c1, .int .i64 x.k, .slice a2 x.ps.length c2, .slice a3 x.rs.length c3, .slice a4 x.fs.length c4] : List Value)[j]? := fun j hj => by
    rw [hcell (i * 6 + j) (by omega)]; exact flatten_at h2 i _ hc j hj
  exact ⟨b, cap, a1, c1, a2, c2, a3, c3, a4, c4, e, ⟨⟨_, _, _, _, rfl, k1, k2, k3, k4⟩⟩, at' 0 (by omega), at' 1 (by omega), at' 2 (by omega), at' 3 (by omega), at' 4 (by omega), at' 5 (by omega)⟩
theorem DcAt.push (h : DcAt w0 S0 wE S R T w t d dc vi vt vd) {w1 w' : World} {v' : Value} {x : Int} (hb : Below w.heap.size w w1)
    (ho : w'.ownsRow wE.heap.size 3 1 v' (dc.depths ++ [x]).length ((dc.depths ++ [x]).map (Value.int .i64))) (hg : w1.grownBy w' vd.ownBlock) (hm : v'.ownBlock = vd.ownBlock ∨ v'.ownBlock = some w1.heap.size) :
    ∃ T' vd', DcAt w0 S0 wE S R T' (w'.setCell ⟨d, 3, none⟩ v') t d { dc with depths := dc.depths ++ [x] } vi vt vd' ∧ Upd (fun b => T b ∨ b = d) w (w'.setCell ⟨d, 3, none⟩ v') ∧ Fresh T w T' := by
  have hdl := heap_lt h.box
  have hnd : ∀ b, vd.ownBlock = some b → b ≠ d := fun b hb' => (h.td b (h.tv b hb')).2.2.2.2
  have hu1 : Upd (fun b => vd.ownBlock = some b) w w' := ((Upd.of_below hb : Upd (fun b => vd.ownBlock = some b) w w1)).trans' ((Upd.refl _ _).grown hg (fun k hk => .inl hk))
  have hbox' : w'.heap[d]? = some (.cells #[.pointer (some ⟨t, 0, none⟩), vi, vt, vd] 104 (0, 0)) := hu1.heap_some h.box (fun e => hnd d e rfl)
  have hu2 : Upd (fun b => T b ∨ b = d) w (w'.setCell ⟨d, 3, none⟩ v') := (hu1.mono fun b _ hb' => .inl (h.tv b hb')).setCell (.inl (.inr rfl)) _
  have hu3 : Upd (fun b => b = d) w' (w'.setCell ⟨d, 3, none⟩ v') := Upd.setCell (S := fun b => b = d) (Upd.refl _ _) (.inl rfl) _
  have hS : ∀ b, (T b ∨ b = d) → ¬ S b ∧ ¬ R b ∧ wE.heap.size ≤ b := fun b hb' => hb'.elim (fun q => have := h.td b q; ⟨this.2.2.1, this.2.2.2.1, this.2.1⟩) (fun q => by subst q; exact h.dd)
  have hvn : ∀ b, v'.ownBlock = some b → (T b ∨ w.heap.size ≤ b) ∧ b < w'.heap.size ∧ wE.heap.size ≤ b := fun b hb' => by
    have h2 := ho.lt b hb'
    refine ⟨?_, h2.2, h2.1⟩
    rcases hm with e | e
    · exact .inl (h.tv b (e.symm.trans hb'))
    · have := hb.size
      rw [e] at hb'
      cases hb'
      exact .inr (by omega)
  have hsz : (w'.setCell ⟨d, 3, none⟩ v').heap.size = w'.heap.size := by simp [World.setCell]
  have hT : ∀ b, (T b ∨ v'.ownBlock = some b) → b < (w'.setCell ⟨d, 3, none⟩ v').heap.size ∧ wE.heap.size ≤ b ∧ ¬ S b ∧ ¬ R b ∧ b ≠ d := fun b hb' => by
    have key : T b ∨ w.heap.size ≤ b := hb'.elim .inl (fun q => (hvn b q).1)
    have hlt : b < w'.heap.size := hb'.elim (fun q => Nat.lt_of_lt_of_le (h.td b q).1 hu1.size) (fun q => (hvn b q).2.1)
    rw [hsz]
    rcases key with q | q
    · exact ⟨hlt, (h.td b q).2⟩
    · exact ⟨hlt, Nat.le_trans h.up.size q, fun hs => by have := (h.tab.tab.lt b hs).1; omega, fun hs => by have := h.tab.tab.rlt b hs; omega, by omega⟩
  have hfT : Fresh T w (fun b => T b ∨ v'.ownBlock = some b) := fun b hb' => hb'.elim .inl (fun q => (hvn b q).1)
  refine ⟨fun b => T b ∨ v'.ownBlock = some b, v', ⟨h.tab.upd hu2 (fun b hb' => ⟨(hS b hb').1, (hS b hb').2.1, Nat.le_trans h.e0 (hS b hb').2.2⟩), h.c, ?_, fun w'' hu => ?_, ?_, ?_, fun b hb' => .inl (h.tt b hb'), fun b hb' => .inr hb', hT, h.dd, h.up.trans (fun b hb' => .inr (hS b hb').2.2) hu2, h.fr, h.e0⟩, hu2, hfT⟩
  · have := heap_set_at hbox' 3 v'
    simpa using this
  · refine h.ids w'' ((hu2.mono fun b _ hb' => .inr (hb'.imp id .inl)).trans (fun b hb' => ?_) hu)
    rcases hb' with q | q | q | q
    · exact .inl (.inl q)
    · exact (hfT b q).imp (fun q => .inr (.inl q)) id
    · exact .inl (.inr (.inr (.inl q)))
    · exact .inl (.inr (.inr (.inr q)))
  · refine h.tys.keep (W := fun b => vd.ownBlock = some b ∨ b = d) ((hu1.mono fun b _ q => .inl q).setCell (.inl (.inr rfl)) _) (fun b hb' q => ?_)
    exact q.elim (h.apart b hb') (h.td b (h.tt b hb')).2.2.2.2
  · exact ownsRow_upd ho hu3 (fun b hb' e => (hT b (.inr hb')).2.2.2.2 e)
end
section
open Go.RowKit Go.Maps Go.WideMaps
def superI (s : Sb) : Int := match superD s with
  | none => 0
  | some a => a
def superB (s : Sb) : Bool := (superD s).isSome
set_option maxRecDepth 100000 in
set_option maxHeartbeats 4000000 in
theorem super_any (cs : List Value) (s : Sb) (w : World) (hs : SubAt w cs s) (hl : s.sups.length ≤ 1000000) : Calls Tryz.prog 83 #[.agg cs.toArray] w fun e w' => e = .returned (.tuple #[.int .i64 (superI s), .bool (superB s)]) ∧ Below w.heap.size w w' := by
  obtain ⟨vs, vp, vr, vf, rfl, k1, k2, k3, k4⟩ := hs.ex
  obtain ⟨a1, c1, rfl⟩ := RowAt.form k1
  obtain ⟨a2, c2, rfl⟩ := RowAt.form k2
  obtain ⟨a3, c3, rfl⟩ := RowAt.form k3
  obtain ⟨a4, c4, rfl⟩ := RowAt.form k4
  rcases hsp : s.sups with _ | ⟨h, r⟩
  · have e0 : superI s = 0 ∧ superB s = false := by simp [superI, superB, superD, hsp]
    rw [e0.1, e0.2]
    simp only [List.length_nil]
    clear k1 k2 k3 k4 hs e0 hsp hl
    go_enter Tryz.func83, Tryz.ntmps83
    go_wp2
    go_ret2
    exact ⟨rfl, (Below.refl _ _).alloc (Nat.le_refl _) _⟩
  · rw [← hsp]
    obtain ⟨n, hn⟩ : ∃ n, s.sups.length = n := ⟨_, rfl⟩
    have hn0 : 0 < n := by rw [← hn, hsp]; simp
    unfold HpsAt at k1
    rw [hn] at k1 hl ⊢
    obtain ⟨b, off, rfl, hb, _, hc⟩ := RowAt.at k1 (by decide) hn0
    have p0 : w.cell? ⟨b, off, none⟩ = some (.int .i64 h.k) := by have := hc 0 (by omega); rw [hsp] at this; simpa [flatH, cellsH] using this
    have p1 : w.cell? ⟨b, off + 1, none⟩ = some (.int .i64 h.n) := by have := hc 1 (by omega); rw [hsp] at this; simpa [flatH, cellsH] using this
    have hn' : (0 : Int) < n := by omega
    have hnz : ¬ (n : Int) = 0 := by omega
    have hnz' : ((n : Int) == 0) = false := by simpa using hnz
    by_cases hk : h.k = 13
    · have e0 : superI s = h.n ∧ superB s = true := by simp [superI, superB, superD, hsp, hk]
      rw [e0.1, e0.2]
      rw [hk] at p0
      clear k1 k2 k3 k4 hs e0 hsp hn hc hk
      go_enter Tryz.func83, Tryz.ntmps83
      go_wp2
      go_ret2
      exact ⟨rfl, (Below.refl _ _).alloc (Nat.le_refl _) _⟩
    · have e0 : superI s = -1 ∧ superB s = true := by simp [superI, superB, superD, hsp, hk]
      rw [e0.1, e0.2]
      have hk1 : (h.k == 13) = false := by simpa using hk
      have hk2 : (h.k != 13) = true := by simpa using hk
      clear k1 k2 k3 k4 hs e0 hsp hn hc
      go_enter Tryz.func83, Tryz.ntmps83
      go_wp2
      go_ret2
      exact ⟨rfl, (Below.refl _ _).alloc (Nat.le_refl _) _⟩
variable {w0 wE w : World} {S0 S R T : Nat → Prop} {t d : Nat} {dc : DcS} {vi vt vd : Value}
set_option maxRecDepth 100000 in
set_option maxHeartbeats 8000000 in
theorem dcStands_any (h : DcAt w0 S0 wE S R T w t d dc vi vt vd) (cs : List Value) (s : Sb) (hs : SubAt w cs s) (n : Nat) (hn : n ≤ dc.types.length) (hl : s.sups.length ≤ 1000000) (hn6 : n ≤ 100000) : Calls Tryz.prog 55 #[.pointer (some ⟨d, 0, none⟩), .agg cs.toArray, .int .i64 n] w fun e w' => e = .returned (.int .i64 (standsD dc.types s n)) ∧ Below w.heap.size w w' := by
  obtain ⟨vs, vp, vr, vf, rfl, k1, k2, k3, k4⟩ := hs.ex
  obtain ⟨a1, c1, rfl⟩ := RowAt.form k1
  obtain ⟨a2, c2, rfl⟩ := RowAt.form k2
  obtain ⟨a3, c3, rfl⟩ := RowAt.form k3
  obtain ⟨a4, c4, rfl⟩ := RowAt.form k4
  clear k1 k2 k3 k4
  obtain ⟨sl, hsl⟩ : ∃ sl, s.sups.length = sl := ⟨_, rfl⟩
  obtain ⟨W1, hW1⟩ : ∃ W1 : World, W1 = w.alloc (.cells #[.bool s.fin, .slice a1 s.sups.length c1, .int .i64 s.k, .slice a2 s.ps.length c2, .slice a3 s.rs.length c3, .slice a4 s.fs.length c4] 46) := ⟨_, rfl⟩
  have hb1 : Below w.heap.size w W1 := by rw [hW1]; exact (Below.refl _ _).alloc (Nat.le_refl _) _
  have z1 : W1.heap[w.heap.size]? = some (.cells #[.bool s.fin, .slice a1 s.sups.length c1, .int .i64 s.k, .slice a2 s.ps.length c2, .slice a3 s.rs.length c3, .slice a4 s.fs.length c4] 46 (0, 0)) := by rw [hW1]; exact heap_alloc_at _ _ rfl
  have C1 := super_any _ s W1 (hs.below hb1 (Nat.le_refl _)) hl
  rw [hsl] at C1 z1
  have C1 := hid C1
  have HB1 := hid hb1; have HSL := hid hsl; have HL := hid hl; have Z1 := hid z1; have H := hid h; have HN := hid hn
  rw [hsl] at hW1
  have HW1 := hid hW1
  rw [hsl]
  have hsl6 : (sl : Int) ≤ 1000000 := by omega
  clear hb1 hsl hl z1 h hs hW1 hn
  obtain ⟨r, hr⟩ : ∃ r, standsD dc.types s n = r := ⟨_, rfl⟩
  rw [hr]
  unfold standsD at hr
  by_cases hgt : 1 < s.sups.length
  · rw [if_pos hgt] at hr
    subst hr
    have hg1 : (1 : Int) < sl := by have := HSL.out; omega
    clear hgt
    go_enter Tryz.func55, Tryz.ntmps55
    go_wp2
    go_ret
    exact ⟨rfl, (Below.refl _ _).alloc (Nat.le_refl _) _⟩
  rw [if_neg hgt] at hr
  have hg1 : ¬ (1 : Int) < sl := by have := HSL.out; omega
  clear hgt
  cases hsd : superD s with
  | none =>
    rw [hsd] at hr
    have e1 : superI s = 0 := by unfold superI; rw [hsd]
    have e2 : superB s = false := by unfold superB; rw [hsd]; rfl
    rw [e1, e2] at C1
    dsimp only at hr
    subst hr
    clear hsd e1 e2
    go_enter Tryz.func55, Tryz.ntmps55
    go_wp2_with fail
    rw [← HW1.out]
    refine C1.out.mono ?_
    rintro e w2 ⟨rfl, hb2⟩
    have HB2 := hid hb2
    clear hb2
    go_wp2
    go_ret
    exact ⟨rfl, HB1.out.trans (HB2.out.mono HB1.out.size)⟩
  | some a =>
    rw [hsd] at hr
    have e1 : superI s = a := by unfold superI; rw [hsd]
    have e2 : superB s = true := by unfold superB; rw [hsd]; rfl
    rw [e1, e2] at C1
    dsimp only at hr
    clear hsd e1 e2
    go_enter Tryz.func55, Tryz.ntmps55
    go_wp2_with fail
    rw [← HW1.out]
    refine C1.out.mono ?_
    rintro e w2 ⟨rfl, hb2⟩
    have hbe : Below w.heap.size w w2 := HB1.out.trans (hb2.mono HB1.out.size)
    have q1 := (hb2.block _ (heap_lt Z1.out)).trans Z1.out
    have HBE := hid hbe; have HB2 := hid hb2; have Q1 := hid q1
    clear hb2 hbe q1
    by_cases ha : a < 0
    · rw [if_pos (.inl ha)] at hr
      subst hr
      have ha1 : decide (a < 0) = true := by simpa using ha
      go_wp2
      go_ret
      exact ⟨rfl, HBE.out⟩
    have ha1 : decide (a < 0) = false := by simpa using ha
    by_cases hna : (n : Int) ≤ a
    · rw [if_pos (.inr hna)] at hr
      subst hr
      have hna1 : decide (a ≥ (n : Int)) = true := by simpa using hna
      go_wp2
      go_ret
      exact ⟨rfl, HBE.out⟩
    rw [if_neg (by omega)] at hr
    obtain ⟨k, rfl⟩ : ∃ k : Nat, a = k := ⟨a.toNat, by omega⟩
    have hkn : k < n := by omega
    simp only [Int.toNat_natCast] at hr
    obtain ⟨u, hu⟩ : ∃ u, dc.types[k]? = some u := ⟨dc.types[k]'(by have := HN.out; omega), by simp⟩
    rw [hu] at hr
    dsimp only at hr
    have hdc := H.out.below HBE.out
    obtain ⟨tb, tc, d1, f1, d2, f2, d3, f3, d4, f4, rfl, gs, p0, p1, p2, p3, p4, p5⟩ := hdc.tys.at hdc.up hu
    have y2 := heap_cell hdc.box 2
    simp only [List.getElem?_toArray, List.getElem?_cons_succ, List.getElem?_cons_zero] at y2
    have x2 := heap_cell Q1.out 2
    simp only [List.getElem?_toArray, List.getElem?_cons_succ, List.getElem?_cons_zero] at x2
    have hkl : (k : Int) < dc.types.length := by have := HN.out; omega
    have hk6 : (k : Int) < 1000000 := by omega
    have hna1 : decide (n ≤ k) = false := by simpa using hkn
    have hna2 : ¬ (n : Int) ≤ k := hna
    have hna3 : decide ((n : Int) ≤ k) = false := by simpa using hna
    clear gs hdc p1 p3 p4 p5 hu hkn
    cases hfin : u.fin with
    | true =>
      rw [hfin] at hr p0
      rw [if_pos rfl] at hr
      subst hr
      clear hfin
      go_wp2
      go_ret
      exact ⟨rfl, HBE.out⟩
    | false =>
      rw [hfin] at hr p0
      rw [if_neg (by simp)] at hr
      clear hfin
      by_cases hk : u.k = s.k
      · rw [if_neg (by simpa using hk)] at hr
        subst hr
        rw [hk] at p2
        clear hk
        go_wp2
        go_quiet (fail)
        go_wp2
        go_ret
        exact ⟨rfl, ⟨HBE.out.os, HBE.out.tape, HBE.out.output, HBE.out.size, HBE.out.block⟩⟩
      · rw [if_pos hk] at hr
        subst hr
        have hk1 : (u.k != s.k) = true := by simpa using hk
        go_wp2
        go_quiet (fail)
        go_wp2
        go_ret
        exact ⟨rfl, ⟨HBE.out.os, HBE.out.tape, HBE.out.output, HBE.out.size, HBE.out.block⟩⟩
set_option maxRecDepth 100000 in
theorem dcNone_any {gs : List (List Sb)} (ht : TabAt S R w t gs) (hok : total gs ≤ 10000) : Calls Tryz.prog 25 #[.pointer (some ⟨t, 0, none⟩)] w fun e w' => e = .returned (.bool false) ∧ Below w.heap.size w w' := by
  have C0 := hid (get_out ht hok (-1) (by omega))
  clear ht hok
  go_enter Tryz.func25, Tryz.ntmps25
  go_wp2_with fail
  refine C0.out.mono ?_
  rintro e w1 ⟨rfl, hb1⟩
  have HB1 := hid hb1
  clear hb1
  go_wp2
  go_ret
  exact ⟨rfl, HB1.out.alloc HB1.out.size _⟩
end
end Go.Proofs.YtpddbaijnjbfdaaGreatDoor
