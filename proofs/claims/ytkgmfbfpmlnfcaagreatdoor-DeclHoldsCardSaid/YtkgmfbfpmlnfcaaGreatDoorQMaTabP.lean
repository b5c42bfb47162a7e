/- package roll: a type that was added is told, unrolled, as it was (the plain law); the closure of RollGets. -/
import Derived.Test.YtkgmfbfpmlnfcaaGreatDoorQRoGetP
namespace Go.Proofs.YtkgmfbfpmlnfcaaGreatDoor
open Go.RowKit Go.Maps Go.WideMaps

def vf (f : Hp → Hp) (v : Vl) : Vl := if v.k = 3 then ⟨v.k, v.nl, (f ⟨v.h, v.n⟩).k, (f ⟨v.h, v.n⟩).n⟩ else v
def ff (f : Hp → Hp) (x : Fl) : Fl := ⟨x.p, vf f x.v, x.m⟩
def mapP (f : Hp → Hp) (x : Sb) : Sb := ⟨x.fin, x.sups.map f, x.k, x.ps.map (vf f), x.rs.map (vf f), x.fs.map (ff f)⟩
theorem mapS_map {σ α : Type} {φ : σ → α → α × σ} {f : α → α} (h : ∀ s x, (φ s x).1 = f x) : ∀ (l : List α) (s : σ), (mapS φ s l).1 = l.map f
  | [], _ => rfl
  | x :: l, s => by simp only [mapS, List.map_cons, h, mapS_map h l]
theorem mapSub_mapP {σ : Type} {φ : σ → Hp → Hp × σ} {f : Hp → Hp} (h : ∀ s x, (φ s x).1 = f x) (s : σ) (x : Sb) : (mapSub φ s x).1 = mapP f x := by
  have hv : ∀ s v, (phiV φ s v).1 = vf f v := fun s v => by
    unfold phiV vf
    split
    · rw [h]
    · rfl
  have hf : ∀ s y, (phiF φ s y).1 = ff f y := fun s y => by unfold phiF ff; rw [hv]
  simp only [mapSub, mapS_map h, mapS_map hv, mapS_map hf, mapP]
theorem mapP_comp (u f : Hp → Hp) (x : Sb) : mapP u (mapP f x) = mapP (fun h => u (f h)) x := by
  have hv : ∀ v, vf u (vf f v) = vf (fun h => u (f h)) v := fun v => by
    by_cases h : v.k = 3
    · simp [vf, h]
    · simp [vf, h]
  have hf : ∀ y, ff u (ff f y) = ff (fun h => u (f h)) y := fun y => by simp [ff, hv]
  simp only [mapP, List.map_map]
  congr 1
  · exact List.map_congr_left fun v _ => hv v
  · exact List.map_congr_left fun v _ => hv v
  · exact List.map_congr_left fun y _ => hf y
theorem mapP_congr {f u : Hp → Hp} {D : Hp → Prop} (h : ∀ y, D y → f y = u y) {x : Sb} (hd : DS D x) : mapP f x = mapP u x := by
  have hv : ∀ v, DV D v → vf f v = vf u v := fun v hv => by
    unfold vf
    split
    · rename_i hk; rw [h _ (hv hk)]
    · rfl
  simp only [mapP]
  congr 1
  · exact List.map_congr_left fun y hy => h y (hd.sups y hy)
  · exact List.map_congr_left fun v hv' => hv v (hd.ps v hv')
  · exact List.map_congr_left fun v hv' => hv v (hd.rs v hv')
  · exact List.map_congr_left fun y hy => by unfold ff; rw [hv _ (hd.fs y hy)]
theorem mapP_DS {f : Hp → Hp} {D E : Hp → Prop} (h : ∀ y, D y → E (f y)) {x : Sb} (hd : DS D x) : DS E (mapP f x) := by
  have hv : ∀ v, DV D v → DV E (vf f v) := fun v hv => by
    intro hk
    by_cases h3 : v.k = 3
    · have := h _ (hv h3)
      simpa [vf, h3] using this
    · simp [vf, h3] at hk
  refine ⟨fun y hy => ?_, fun v hv' => ?_, fun v hv' => ?_, fun y hy => ?_⟩
  · obtain ⟨z, hz, rfl⟩ := List.mem_map.1 hy; exact h z (hd.sups z hz)
  · obtain ⟨z, hz, rfl⟩ := List.mem_map.1 hv'; exact hv z (hd.ps z hz)
  · obtain ⟨z, hz, rfl⟩ := List.mem_map.1 hv'; exact hv z (hd.rs z hz)
  · obtain ⟨z, hz, rfl⟩ := List.mem_map.1 hy; exact hv z.v (hd.fs z hz)
def shutP (ids : List Int) (h : Hp) : Hp := if h.k ≠ 13 then h else if h.n < ids.length then ⟨15, ids.getD h.n.toNat 0⟩ else ⟨14, h.n - ids.length⟩
theorem shut_fst (ids : List Int) (gn : Nat) (ok : Bool) (h : Hp) : (shut ids gn ok h).1 = shutP ids h := by
  unfold shut shutP; split
  · rfl
  · split <;> rfl
/-- Where all heap types can be closed. -/
def CanH (ids : List Int) (gn : Nat) (h : Hp) : Prop := h.k = 13 → ¬ h.n < ids.length → h.n - ids.length < gn
theorem shut_can {ids : List Int} {gn : Nat} (ok : Bool) (h : Hp) (he : (shut ids gn ok h).2 = true) : ok = true ∧ CanH ids gn h := by
  unfold shut at he
  split at he
  · rename_i hk; exact ⟨he, fun h13 => absurd h13 hk⟩
  · split at he
    · rename_i hlt; exact ⟨he, fun _ hn => absurd hlt hn⟩
    · simp at he; exact ⟨he.1, fun _ _ => he.2⟩
theorem mapS_can {α : Type} {φ : Bool → α → α × Bool} {C : α → Prop} (h : ∀ s x, (φ s x).2 = true → s = true ∧ C x) : ∀ (l : List α) (s : Bool), (mapS φ s l).2 = true → s = true ∧ ∀ x ∈ l, C x
  | [], s, he => ⟨he, by simp⟩
  | x :: l, s, he => by
    obtain ⟨h1, h2⟩ := mapS_can h l _ he
    obtain ⟨h3, h4⟩ := h s x h1
    exact ⟨h3, fun y hy => (List.mem_cons.1 hy).elim (fun e => e ▸ h4) (h2 y)⟩
theorem mapSub_can {ids : List Int} {gn : Nat} (s : Bool) (x : Sb) (he : (mapSub (shut ids gn) s x).2 = true) : s = true ∧ DS (CanH ids gn) x := by
  have hv : ∀ s v, (phiV (shut ids gn) s v).2 = true → s = true ∧ DV (CanH ids gn) v := fun s v he => by
    unfold phiV at he
    split at he
    · have := shut_can s _ he
      exact ⟨this.1, fun _ => this.2⟩
    · rename_i hk; exact ⟨he, fun h => absurd h hk⟩
  have hf : ∀ s (y : Fl), (phiF (shut ids gn) s y).2 = true → s = true ∧ DV (CanH ids gn) y.v := fun s y he => hv s y.v he
  simp only [mapSub] at he
  obtain ⟨h1, k4⟩ := mapS_can hf _ _ he
  obtain ⟨h2, k3⟩ := mapS_can hv _ _ h1
  obtain ⟨h3, k2⟩ := mapS_can hv _ _ h2
  obtain ⟨h4, k1⟩ := mapS_can shut_can _ _ h3
  exact ⟨h4, ⟨k1, k2, k3, k4⟩⟩
theorem rollG_can {ids : List Int} {g : List Sb} (he : (rollG ids g).2 = true) : ∀ x ∈ g, DS (CanH ids g.length) x := (mapS_can mapSub_can g true he).2
theorem rollG_at {ids : List Int} {g : List Sb} {k : Nat} {x : Sb} (hx : g[k]? = some x) : (rollG ids g).1[k]? = some (mapP (shutP ids) x) := by
  have h : (rollG ids g).1 = g.map (mapP (shutP ids)) := mapS_map (fun s y => mapSub_mapP (shut_fst ids g.length) s y) g true
  rw [h, List.getElem?_map, hx]; rfl
/-- What the law's closure gives of a heap type. -/
def closeHp (next : List Int) (h : Hp) : Hp := if h.k = 13 ∧ 0 ≤ h.n ∧ h.n < next.length then ⟨15, next.getD h.n.toNat 0⟩ else h
theorem getD_app {a b : List Int} {n : Nat} : (a ++ b).getD n 0 = if n < a.length then a.getD n 0 else b.getD (n - a.length) 0 := by
  simp only [List.getD_eq_getElem?_getD]
  split
  · rw [List.getElem?_append_left (by assumption)]
  · rw [List.getElem?_append_right (by omega)]
theorem unroll_shut {ids : List Int} {gn : Nat} {first : Int} {h : Hp} (hd : DIdx h) (hc : CanH ids gn h) (h14 : h.k ≠ 14) : unroll first (shutP ids h) = closeHp (ids ++ (List.range gn).map (fun k : Nat => first + (k : Int))) h := by
  unfold shutP closeHp
  by_cases hk : h.k = 13
  · obtain ⟨hn0, _⟩ := hd hk
    have hcc := hc hk
    rw [if_neg (by simp [hk])]
    by_cases hlt : h.n < ids.length
    · rw [if_pos hlt, if_pos ⟨hk, hn0, by simp; omega⟩, getD_app, if_pos (by omega)]
      simp [unroll]
    · have hc2 := hcc hlt
      rw [if_neg hlt, if_pos ⟨hk, hn0, by simp; omega⟩, getD_app, if_neg (by omega)]
      unfold unroll
      rw [if_pos rfl, List.getD_eq_getElem?_getD, List.getElem?_map, List.getElem?_range (by omega)]
      simp only [Option.map_some, Option.getD_some]
      congr 1; omega
  · rw [if_pos hk, if_neg (fun e => hk e.1)]
    unfold unroll; rw [if_neg h14]

theorem firstOf_mono (gs : List (List Sb)) {i j : Nat} (h : i ≤ j) : firstOf gs i ≤ firstOf gs j := by
  have := firstOf_le (gs.take j) i
  have e : firstOf (gs.take j) i = firstOf gs i := by unfold firstOf; rw [List.take_take, Nat.min_eq_left h]
  rw [e] at this; exact this
theorem ofL_uniq {gs : List (List Sb)} {j id : Nat} {g : List Sb} (hj : gs[j]? = some g) (h1 : firstOf gs j ≤ id) (h2 : id < firstOf gs j + g.length) : (ofL gs)[id]? = some (j : Int) ∧ id < total gs := by
  have hid : id < total gs := Nat.lt_of_lt_of_le h2 (firstOf_add hj)
  obtain ⟨j', g', k1, k2, k3, k4⟩ := ofL_at gs id hid
  have step : ∀ {i : Nat} {x : List Sb}, gs[i]? = some x → firstOf gs (i + 1) = firstOf gs i + x.length := fun {i x} h => by
    unfold firstOf; rw [List.take_add_one, h]; exact total_snoc _ _
  have e : j' = j := by
    rcases Nat.lt_trichotomy j' j with h | h | h
    · have h3 := firstOf_mono gs (show j' + 1 ≤ j by omega)
      rw [step k1] at h3; omega
    · exact h
    · have h3 := firstOf_mono gs (show j + 1 ≤ j' by omega)
      rw [step hj] at h3; omega
  rw [e] at k2
  exact ⟨k2, hid⟩
theorem enterG_loc {gs : List (List Sb)} {r : List Sb} (he : (enterG gs r).2.1 = 0) (hr : r ≠ []) : ∃ j : Nat, (enterG gs r).2.2[j]? = some r ∧ (enterG gs r).1 = (firstOf (enterG gs r).2.2 j : Nat) := by
  revert he
  unfold enterG
  cases hf : findG gs r with
  | some i =>
    intro _
    obtain ⟨hlt, hx, _⟩ := List.findIdx?_eq_some_iff_getElem.1 hf
    exact ⟨i, by dsimp only; rw [List.getElem?_eq_getElem hlt]; simpa using hx, rfl⟩
  | none =>
    dsimp only
    split
    · intro h; cases h
    · intro _
      exact ⟨gs.length, by simp, by dsimp only; rw [firstOf_snoc (Nat.le_refl _), firstOf_len]⟩
theorem gets_fact {gs : List (List Sb)} {ids : List Int} {g : List Sb} {A : List Int × Int × List (List Sb)} (hA : addG gs ids g = A) (he : A.2.1 = 0) {k : Nat} {x : Sb} (hx : g[k]? = some x) :
    ∃ (j id : Nat) (g' : List Sb) (x' : Sb), A.1[ids.length + k]? = some (id : Int) ∧ A.2.2[j]? = some g' ∧ (ofL A.2.2)[id]? = some (j : Int) ∧ id < total A.2.2 ∧ id = firstOf A.2.2 j + k ∧ g'[k]? = some x' ∧ g'.length = g.length ∧ DS DRec x' ∧ getG A.2.2 j x' = mapP (closeHp A.1) x := by
  subst hA
  revert he
  unfold addG
  split
  · intro h; cases h
  rename_i p1
  split
  · intro h; cases h
  split
  · intro h; cases h
  rename_i p3
  split
  · rename_i h4; intro h; exact absurd h h4
  rename_i h4
  intro _
  have h4 : (enterG gs (rollG ids g).1).2.1 = 0 := by simpa using h4
  have p3 : (rollG ids g).2 = true := by simpa using p3
  have hkl := (List.getElem?_eq_some_iff.1 hx).1
  have hmem := List.mem_of_getElem? hx
  have hrn : (rollG ids g).1 ≠ [] := fun e => by
    have := rollG_len ids g
    rw [e] at this; simp at this; omega
  obtain ⟨j, e1, e2⟩ := enterG_loc h4 hrn
  have hx' := rollG_at (ids := ids) hx
  have hpl : plainS x = true := by
    simp only [Decidable.not_not, List.all_eq_true] at p1
    exact p1 x hmem
  have hid := plain_DS hpl
  have hcan := rollG_can p3 x hmem
  have hgood := plainS_good hpl
  have h14 : DS (fun h : Hp => h.k ≠ 14) x := by
    unfold plainS at hpl
    simp only [Bool.and_eq_true, List.all_eq_true] at hpl
    obtain ⟨⟨⟨⟨q1, q2⟩, q3⟩, q4⟩, _⟩ := hpl
    have gi : ∀ {h : Hp}, indexedB h = true → h.k ≠ 14 := fun {h} e => by simp [indexedB] at e; omega
    have gg : ∀ {h : Hp}, givenB h = true → h.k ≠ 14 := fun {h} e => by simp [givenB] at e; omega
    have gv : ∀ {v : Vl}, plainV v = true → DV (fun h : Hp => h.k ≠ 14) v := fun {v} hv hk => by
      unfold plainV at hv
      rw [if_neg (by omega), if_pos hk] at hv
      simp only [Bool.or_eq_true] at hv
      exact hv.elim gg gi
    refine ⟨fun y hy => gi (q1 y hy), fun y hy => gv (q2 y hy), fun y hy => gv (q3 y hy), fun y hy => ?_⟩
    have hf := q4 y hy
    unfold plainF at hf
    split at hf
    · exact gv hf
    · split at hf
      · have e : y.v = ⟨1, false, 0, 0⟩ := by simpa using hf
        intro hk; rw [e] at hk; simp at hk
      · cases hf
  have hall : DS (fun h => DIdx h ∧ CanH ids g.length h ∧ h.k ≠ 14) x :=
    ⟨fun y hy => ⟨hid.sups y hy, hcan.sups y hy, h14.sups y hy⟩, fun y hy hk => ⟨hid.ps y hy hk, hcan.ps y hy hk, h14.ps y hy hk⟩, fun y hy hk => ⟨hid.rs y hy hk, hcan.rs y hy hk, h14.rs y hy hk⟩, fun y hy hk => ⟨hid.fs y hy hk, hcan.fs y hy hk, h14.fs y hy hk⟩⟩
  have hrl := rollG_len ids g
  obtain ⟨u1, u2⟩ := ofL_uniq (id := firstOf (enterG gs (rollG ids g).1).2.2 j + k) e1 (by omega) (by omega)
  refine ⟨j, firstOf (enterG gs (rollG ids g).1).2.2 j + k, (rollG ids g).1, mapP (shutP ids) x, ?_, e1, u1, u2, rfl, hx', hrl, ?_, ?_⟩
  · rw [List.getElem?_append_right (by omega), show ids.length + k - ids.length = k by omega, List.getElem?_map, List.getElem?_range hkl, e2]
    simp
  · refine mapP_DS (D := fun h => DIdx h ∧ CanH ids g.length h ∧ h.k ≠ 14) (fun y hy => ?_) hall
    obtain ⟨y1, y2, y3⟩ := hy
    intro hk
    unfold shutP at hk ⊢
    split at hk
    · exact absurd hk y3
    · rename_i h13
      have h13 : y.k = 13 := by omega
      obtain ⟨m0, m1⟩ := y1 h13
      rw [if_neg (by omega)]
      split at hk
      · simp at hk
      · rename_i hlt
        rw [if_neg hlt]
        dsimp only; omega
  · unfold getG
    rw [mapSub_mapP (f := unroll (firstOf (enterG gs (rollG ids g).1).2.2 j)) (fun _ _ => rfl), mapP_comp]
    refine mapP_congr (D := fun h => DIdx h ∧ CanH ids g.length h ∧ h.k ≠ 14) (fun y hy => ?_) hall
    rw [← e2]
    exact unroll_shut hy.1 hy.2.1 hy.2.2
end Go.Proofs.YtkgmfbfpmlnfcaaGreatDoor

/- RollOnce's plain law: a group that is moved behind other types is the same, rolled up; groups that are the same rolled up are the same (no program in sight). -/
namespace Go.Proofs.YtkgmfbfpmlnfcaaGreatDoor
open Go.RowKit

def shiftH (a : Nat) (h : Hp) : Hp := if h.k = 13 then ⟨13, h.n + a⟩ else h
/-- What is known of the heap types of a plain group that stands alone. -/
def Alone (gn : Nat) (h : Hp) : Prop := DIdx h ∧ CanH [] gn h ∧ h.k ≠ 14
theorem plain_14 {x : Sb} (hpl : plainS x = true) : DS (fun h : Hp => h.k ≠ 14) x := by
  unfold plainS at hpl
  simp only [Bool.and_eq_true, List.all_eq_true] at hpl
  obtain ⟨⟨⟨⟨q1, q2⟩, q3⟩, q4⟩, _⟩ := hpl
  have gi : ∀ {h : Hp}, indexedB h = true → h.k ≠ 14 := fun {h} e => by simp [indexedB] at e; omega
  have gg : ∀ {h : Hp}, givenB h = true → h.k ≠ 14 := fun {h} e => by simp [givenB] at e; omega
  have gv : ∀ {v : Vl}, plainV v = true → DV (fun h : Hp => h.k ≠ 14) v := fun {v} hv hk => by
    unfold plainV at hv
    rw [if_neg (by omega), if_pos hk] at hv
    simp only [Bool.or_eq_true] at hv
    exact hv.elim gg gi
  refine ⟨fun y hy => gi (q1 y hy), fun y hy => gv (q2 y hy), fun y hy => gv (q3 y hy), fun y hy => ?_⟩
  have hf := q4 y hy
  unfold plainF at hf
  split at hf
  · exact gv hf
  · split at hf
    · have e : y.v = ⟨1, false, 0, 0⟩ := by simpa using hf
      intro hk; rw [e] at hk; simp at hk
    · cases hf
theorem alone_of {g : List Sb} {x : Sb} (hx : x ∈ g) (hp : plainS x = true) (ho : (rollG [] g).2 = true) : DS (Alone g.length) x := by
  have hid := plain_DS hp
  have hcan := rollG_can ho x hx
  have h14 := plain_14 hp
  exact ⟨fun y hy => ⟨hid.sups y hy, hcan.sups y hy, h14.sups y hy⟩, fun y hy hk => ⟨hid.ps y hy hk, hcan.ps y hy hk, h14.ps y hy hk⟩, fun y hy hk => ⟨hid.rs y hy hk, hcan.rs y hy hk, h14.rs y hy hk⟩, fun y hy hk => ⟨hid.fs y hy hk, hcan.fs y hy hk, h14.fs y hy hk⟩⟩
theorem shut_shift {beh : List Int} {gn : Nat} {h : Hp} (ha : Alone gn h) : shutP beh (shiftH beh.length h) = shutP [] h := by
  obtain ⟨h1, h2, h3⟩ := ha
  unfold shiftH
  split
  · rename_i hk
    obtain ⟨n0, n1⟩ := h1 hk
    unfold shutP
    rw [if_neg (by simp), if_neg (by dsimp only; omega), if_neg (by simp [hk]), if_neg (by simp; omega)]
    dsimp only [List.length_nil]
    congr 1; omega
  · rename_i hk
    unfold shutP; rw [if_pos hk, if_pos hk]
def unshut (h : Hp) : Hp := if h.k = 14 then ⟨13, h.n⟩ else h
theorem unshut_shut {gn : Nat} {h : Hp} (ha : Alone gn h) : unshut (shutP [] h) = h := by
  obtain ⟨h1, h2, h3⟩ := ha
  unfold shutP
  split
  · unfold unshut; rw [if_neg h3]
  · rename_i hk
    have hk : h.k = 13 := by omega
    obtain ⟨n0, n1⟩ := h1 hk
    rw [if_neg (by simp; omega)]
    unfold unshut
    rw [if_pos rfl]
    obtain ⟨k, n⟩ := h
    dsimp only at hk
    subst hk
    simp
theorem mapP_id {D : Hp → Prop} {f : Hp → Hp} (h : ∀ y, D y → f y = y) {x : Sb} (hd : DS D x) : mapP f x = x := by
  rw [mapP_congr (u := id) (fun y hy => h y hy) hd]
  have hv : ∀ v, vf id v = v := fun v => by unfold vf; split <;> rfl
  have hf : ∀ y, ff id y = y := fun y => by unfold ff; rw [hv]
  obtain ⟨fin, su, k, lp, lr, lf⟩ := x
  simp only [mapP]
  rw [List.map_id, show vf id = id from funext hv, show ff id = id from funext hf, List.map_id, List.map_id, List.map_id]
theorem rollG_map (ids : List Int) (g : List Sb) : (rollG ids g).1 = g.map (mapP (shutP ids)) := mapS_map (fun s y => mapSub_mapP (shut_fst ids g.length) s y) g true
theorem rollG_inj {g h : List Sb} (hg : ∀ x ∈ g, plainS x = true) (hh : ∀ x ∈ h, plainS x = true) (og : (rollG [] g).2 = true) (oh : (rollG [] h).2 = true) (e : (rollG [] g).1 = (rollG [] h).1) : g = h := by
  rw [rollG_map, rollG_map] at e
  have back : ∀ l : List Sb, (∀ x ∈ l, plainS x = true) → (rollG [] l).2 = true → (l.map (mapP (shutP []))).map (mapP unshut) = l := fun l hp ho => by
    rw [List.map_map]
    conv => rhs; rw [← List.map_id l]
    refine List.map_congr_left fun x hx => ?_
    show mapP unshut (mapP (shutP []) x) = x
    rw [mapP_comp]
    exact mapP_id (D := Alone l.length) (fun y hy => unshut_shut hy) (alone_of hx (hp x hx) ho)
  rw [← back g hg og, e, back h hh oh]
theorem rollG_moved {beh : List Int} {g : List Sb} (hg : ∀ x ∈ g, plainS x = true) (og : (rollG [] g).2 = true) : (rollG beh (g.map (mapP (shiftH beh.length)))).1 = (rollG [] g).1 := by
  rw [rollG_map, rollG_map, List.map_map]
  refine List.map_congr_left fun x hx => ?_
  show mapP (shutP beh) (mapP (shiftH beh.length) x) = _
  rw [mapP_comp]
  exact mapP_congr (D := Alone g.length) (fun y hy => shut_shift hy) (alone_of hx (hg x hx) og)
theorem mapS_can2 {α : Type} {φ : Bool → α → α × Bool} {C : α → Prop} (h : ∀ x, C x → (φ true x).2 = true) : ∀ (l : List α), (∀ x ∈ l, C x) → (mapS φ true l).2 = true
  | [], _ => rfl
  | x :: l, hl => by
    have h1 := h x (hl x (by simp))
    simp only [mapS, h1]
    exact mapS_can2 h l (fun y hy => hl y (by simp [hy]))
theorem shut_can2 {ids : List Int} {gn : Nat} {h : Hp} (hc : CanH ids gn h) : (shut ids gn true h).2 = true := by
  unfold shut
  split
  · rfl
  · rename_i hk
    split
    · rfl
    · rename_i hlt
      have := hc (by omega) hlt
      simpa using this
theorem mapSub_can2 {ids : List Int} {gn : Nat} {x : Sb} (hd : DS (CanH ids gn) x) : (mapSub (shut ids gn) true x).2 = true := by
  have hv : ∀ v, DV (CanH ids gn) v → (phiV (shut ids gn) true v).2 = true := fun v hv => by
    unfold phiV
    split
    · rename_i hk; exact shut_can2 (hv hk)
    · rfl
  have hf : ∀ y : Fl, DV (CanH ids gn) y.v → (phiF (shut ids gn) true y).2 = true := fun y hy => hv y.v hy
  have k1 := mapS_can2 (φ := shut ids gn) (fun h hc => shut_can2 hc) x.sups hd.sups
  have k2 := mapS_can2 hv x.ps hd.ps
  have k3 := mapS_can2 hv x.rs hd.rs
  have k4 := mapS_can2 hf x.fs hd.fs
  simp only [mapSub, k1, k2, k3, k4]
theorem rollG_can2 {ids : List Int} {g : List Sb} (h : ∀ x ∈ g, DS (CanH ids g.length) x) : (rollG ids g).2 = true := mapS_can2 (fun _ hx => mapSub_can2 hx) g h
theorem moved_can {beh : List Int} {g : List Sb} (hg : ∀ x ∈ g, plainS x = true) (og : (rollG [] g).2 = true) : (rollG beh (g.map (mapP (shiftH beh.length)))).2 = true := by
  refine rollG_can2 fun y hy => ?_
  obtain ⟨x, hx, rfl⟩ := List.mem_map.1 hy
  rw [List.length_map]
  refine mapP_DS (D := Alone g.length) (fun h ha => ?_) (alone_of hx (hg x hx) og)
  obtain ⟨h1, h2, h3⟩ := ha
  unfold shiftH
  split
  · rename_i hk
    obtain ⟨n0, n1⟩ := h1 hk
    have h4 := h2 hk (by simp; omega)
    intro _ _
    simp at h4 ⊢; omega
  · rename_i hk; intro hk2; exact absurd hk2 hk
theorem plain_shift {a gn : Nat} (hb : gn + a ≤ 1000) {x : Sb} (hp : plainS x = true) (ha : DS (Alone gn) x) : plainS (mapP (shiftH a) x) = true := by
  have hi : ∀ h, indexedB h = true → Alone gn h → indexedB (shiftH a h) = true := fun h hi ha => by
    obtain ⟨h1, h2, h3⟩ := ha
    have hk : h.k = 13 := by simp [indexedB] at hi; exact hi.1.1
    obtain ⟨n0, n1⟩ := h1 hk
    have h4 := h2 hk (by simp; omega)
    simp at h4
    unfold shiftH
    rw [if_pos hk]
    simp [indexedB]; omega
  have hg : ∀ h, givenB h = true → shiftH a h = h := fun h hi => by
    unfold shiftH; rw [if_neg (by simp [givenB] at hi; omega)]
  have hv : ∀ v, plainV v = true → DV (Alone gn) v → plainV (vf (shiftH a) v) = true := fun v hv hd => by
    by_cases hk : v.k = 3
    · have h1 := hv
      unfold plainV at h1
      rw [if_neg (by omega), if_pos hk] at h1
      simp only [Bool.or_eq_true] at h1
      have e : vf (shiftH a) v = ⟨v.k, v.nl, (shiftH a ⟨v.h, v.n⟩).k, (shiftH a ⟨v.h, v.n⟩).n⟩ := by unfold vf; rw [if_pos hk]
      rw [e]
      unfold plainV
      rw [if_neg (by dsimp only; omega), if_pos hk]
      simp only [Bool.or_eq_true]
      rcases h1 with h1 | h1
      · left; rw [hg _ h1]; exact h1
      · right; exact hi _ h1 (hd hk)
    · have e : vf (shiftH a) v = v := by unfold vf; rw [if_neg hk]
      rw [e]; exact hv
  have hf : ∀ y, plainF y = true → DV (Alone gn) y.v → plainF (ff (shiftH a) y) = true := fun y hy hd => by
    unfold plainF at hy ⊢
    have e : (ff (shiftH a) y).p = y.p := rfl
    rw [e]
    split at hy
    · rename_i hp0; rw [if_pos hp0]; exact hv y.v hy hd
    · rename_i hp0
      rw [if_neg hp0]
      split at hy
      · rename_i hp8
        rw [if_pos hp8]
        have e2 : y.v = ⟨1, false, 0, 0⟩ := by simpa using hy
        have e3 : (ff (shiftH a) y).v = y.v := by show vf (shiftH a) y.v = y.v; rw [e2]; rfl
        rw [e3]; exact hy
      · cases hy
  unfold plainS at hp ⊢
  simp only [Bool.and_eq_true, List.all_eq_true] at hp ⊢
  obtain ⟨⟨⟨⟨q1, q2⟩, q3⟩, q4⟩, q5⟩ := hp
  refine ⟨⟨⟨⟨fun y hy => ?_, fun y hy => ?_⟩, fun y hy => ?_⟩, fun y hy => ?_⟩, ?_⟩
  · obtain ⟨z, hz, rfl⟩ := List.mem_map.1 hy; exact hi z (q1 z hz) (ha.sups z hz)
  · obtain ⟨z, hz, rfl⟩ := List.mem_map.1 hy; exact hv z (q2 z hz) (ha.ps z hz)
  · obtain ⟨z, hz, rfl⟩ := List.mem_map.1 hy; exact hv z (q3 z hz) (ha.rs z hz)
  · obtain ⟨z, hz, rfl⟩ := List.mem_map.1 hy; exact hf z (q4 z hz) (ha.fs z hz)
  · simpa [mapP] using q5
end Go.Proofs.YtkgmfbfpmlnfcaaGreatDoor

/- packages match, chain: the types of a table, one behind the other, closed; what is known of them (no program in sight). -/
namespace Go.Proofs.YtkgmfbfpmlnfcaaGreatDoor
open Go.RowKit

/-- The types of a table, as Get tells them. -/
def tabL (gs : List (List Sb)) : List Sb := (gs.zipIdx).flatMap fun p => p.1.map (mapP (unroll (firstOf gs p.2)))
theorem tabL_snoc (gs : List (List Sb)) (g : List Sb) : tabL (gs ++ [g]) = tabL gs ++ g.map (mapP (unroll (total gs))) := by
  unfold tabL
  rw [List.zipIdx_append, List.flatMap_append]
  congr 1
  · refine flatMap_congr' fun p hp => ?_
    have := List.snd_lt_of_mem_zipIdx hp
    rw [firstOf_snoc (by omega)]
  · simp [firstOf_snoc (Nat.le_refl _), firstOf_len]
theorem snocRec {P : List (List Sb) → Prop} (h0 : P []) (h1 : ∀ gs g, P gs → P (gs ++ [g])) (gs : List (List Sb)) : P gs := by
  have h : ∀ r : List (List Sb), P r.reverse := by
    intro r
    induction r with
    | nil => exact h0
    | cons g r ih => rw [List.reverse_cons]; exact h1 _ _ ih
  have := h gs.reverse
  rwa [List.reverse_reverse] at this
theorem tabL_len (gs : List (List Sb)) : (tabL gs).length = total gs := by
  refine snocRec (P := fun gs => (tabL gs).length = total gs) rfl (fun gs g h => ?_) gs
  rw [tabL_snoc, List.length_append, List.length_map, h, total_snoc]
theorem tabL_at {gs : List (List Sb)} : ∀ {j k : Nat} {g : List Sb} {x : Sb}, gs[j]? = some g → g[k]? = some x → (tabL gs)[firstOf gs j + k]? = some (mapP (unroll (firstOf gs j)) x) := by
  refine snocRec (P := fun gs => ∀ {j k : Nat} {g : List Sb} {x : Sb}, gs[j]? = some g → g[k]? = some x → (tabL gs)[firstOf gs j + k]? = some (mapP (unroll (firstOf gs j)) x)) (fun h => by simp at h) (fun gs g0 ih {j k g x} hj hk => ?_) gs
  by_cases hlt : j < gs.length
  · rw [List.getElem?_append_left hlt] at hj
    have h1 := firstOf_add hj
    have h2 := (List.getElem?_eq_some_iff.1 hk).1
    rw [tabL_snoc, firstOf_snoc (by omega), List.getElem?_append_left (by rw [tabL_len]; omega)]
    exact ih hj hk
  · have h1 := (List.getElem?_eq_some_iff.1 hj).1
    simp at h1
    obtain rfl : j = gs.length := by omega
    simp at hj
    subst hj
    rw [tabL_snoc, firstOf_snoc (Nat.le_refl _), firstOf_len, List.getElem?_append_right (by rw [tabL_len]; omega), tabL_len, show total gs + k - total gs = k by omega, List.getElem?_map, hk]
    rfl
/-- A number of the table: its group, its place there. -/
theorem tabL_loc {gs : List (List Sb)} {id : Nat} {y : Sb} (hy : (tabL gs)[id]? = some y) : ∃ (j k : Nat) (g : List Sb) (x : Sb), gs[j]? = some g ∧ (ofL gs)[id]? = some (j : Int) ∧ id < total gs ∧ id = firstOf gs j + k ∧ g[k]? = some x ∧ y = mapP (unroll (firstOf gs j)) x := by
  have hid : id < total gs := by have := (List.getElem?_eq_some_iff.1 hy).1; rw [tabL_len] at this; exact this
  obtain ⟨j, g, h1, h2, h3, h4⟩ := ofL_at gs id hid
  obtain ⟨x, hx⟩ : ∃ x, g[id - firstOf gs j]? = some x := ⟨g[id - firstOf gs j]'(by omega), by simp⟩
  have h5 := tabL_at h1 hx
  rw [show firstOf gs j + (id - firstOf gs j) = id by omega, hy] at h5
  exact ⟨j, id - firstOf gs j, g, x, h1, h2, hid, by omega, hx, Option.some.inj h5⟩
theorem getG_mapP (gs : List (List Sb)) (j : Nat) (x : Sb) : getG gs j x = mapP (unroll (firstOf gs j)) x := mapSub_mapP (φ := fun (s : Unit) h => (unroll (firstOf gs j) h, s)) (f := unroll (firstOf gs j)) (fun _ _ => rfl) () x

/-- Types whose heap types are as D says, whose Supers are as U says. -/
def WfV (D : Hp → Prop) (v : Vl) : Prop := ((v.k = 1 ∨ v.k = 2) ∧ v = ⟨v.k, false, 0, 0⟩) ∨ (v.k = 3 ∧ D ⟨v.h, v.n⟩)
def WfF (D : Hp → Prop) (f : Fl) : Prop := (f.p = 0 ∧ WfV D f.v) ∨ ((f.p = 8 ∨ f.p = 16) ∧ f.v = ⟨1, false, 0, 0⟩)
structure WfS (U D : Hp → Prop) (x : Sb) : Prop where
  sups : ∀ h ∈ x.sups, U h
  ps : ∀ v ∈ x.ps, WfV D v
  rs : ∀ v ∈ x.rs, WfV D v
  fs : ∀ f ∈ x.fs, WfF D f
  kind : (x.k = 1 ∧ x.fs = []) ∨ (x.k = 2 ∧ x.ps = [] ∧ x.rs = []) ∨ (x.k = 3 ∧ x.ps = [] ∧ x.rs = [] ∧ x.fs.length = 1)
theorem WfV.map {D E : Hp → Prop} {f : Hp → Hp} (h : ∀ y, D y → E (f y)) {v : Vl} (hv : WfV D v) : WfV E (vf f v) := by
  rcases hv with ⟨hk, e⟩ | ⟨hk, hd⟩
  · have : vf f v = v := by unfold vf; rw [if_neg (by omega)]
    rw [this]; exact .inl ⟨hk, e⟩
  · have : vf f v = ⟨v.k, v.nl, (f ⟨v.h, v.n⟩).k, (f ⟨v.h, v.n⟩).n⟩ := by unfold vf; rw [if_pos hk]
    rw [this]; exact .inr ⟨hk, h _ hd⟩
theorem WfF.map {D E : Hp → Prop} {f : Hp → Hp} (h : ∀ y, D y → E (f y)) {x : Fl} (hv : WfF D x) : WfF E (ff f x) := by
  rcases hv with ⟨hp, hv⟩ | ⟨hp, e⟩
  · exact .inl ⟨hp, hv.map h⟩
  · refine .inr ⟨hp, ?_⟩
    show vf f x.v = _
    rw [e]; rfl
theorem WfS.map {U V D E : Hp → Prop} {f : Hp → Hp} (hu : ∀ y, U y → V (f y)) (h : ∀ y, D y → E (f y)) {x : Sb} (hx : WfS U D x) : WfS V E (mapP f x) := by
  refine ⟨fun y hy => ?_, fun v hv => ?_, fun v hv => ?_, fun y hy => ?_, ?_⟩
  · obtain ⟨z, hz, rfl⟩ := List.mem_map.1 hy; exact hu z (hx.sups z hz)
  · obtain ⟨z, hz, rfl⟩ := List.mem_map.1 hv; exact (hx.ps z hz).map h
  · obtain ⟨z, hz, rfl⟩ := List.mem_map.1 hv; exact (hx.rs z hz).map h
  · obtain ⟨z, hz, rfl⟩ := List.mem_map.1 hy; exact (hx.fs z hz).map h
  · simpa [mapP] using hx.kind
theorem WfS.mono {U V D E : Hp → Prop} (hu : ∀ y, U y → V y) (h : ∀ y, D y → E y) {x : Sb} (hx : WfS U D x) : WfS V E x :=
  ⟨fun y hy => hu y (hx.sups y hy), fun v hv => (hx.ps v hv).imp id (fun q => ⟨q.1, h _ q.2⟩), fun v hv => (hx.rs v hv).imp id (fun q => ⟨q.1, h _ q.2⟩),
   fun y hy => (hx.fs y hy).imp (fun q => ⟨q.1, q.2.imp id (fun r => ⟨r.1, h _ r.2⟩)⟩) id, hx.kind⟩
theorem WfS.ds {U D E : Hp → Prop} (hu : ∀ y, U y → E y) (h : ∀ y, D y → E y) {x : Sb} (hx : WfS U D x) : DS E x := by
  have hv : ∀ {v}, WfV D v → DV E v := fun {v} q hk => by
    rcases q with ⟨q, _⟩ | ⟨_, q⟩
    · omega
    · exact h _ q
  refine ⟨fun y hy => hu y (hx.sups y hy), fun v q => hv (hx.ps v q), fun v q => hv (hx.rs v q), fun y q => ?_⟩
  rcases hx.fs y q with ⟨_, q⟩ | ⟨_, q⟩
  · exact hv q
  · intro hk; rw [q] at hk; simp at hk
def GivenP (h : Hp) : Prop := 1 ≤ h.k ∧ h.k ≤ 12 ∧ h.n = 0
def IdxP (h : Hp) : Prop := h.k = 13 ∧ 0 ≤ h.n ∧ h.n ≤ 4294967295
theorem given_iff {h : Hp} : givenB h = true ↔ GivenP h := by
  simp [givenB, GivenP, and_assoc]
theorem indexed_iff {h : Hp} : indexedB h = true ↔ IdxP h := by
  simp [indexedB, IdxP, and_assoc]
theorem plainV_wf {v : Vl} (h : plainV v = true) : WfV (fun h => GivenP h ∨ IdxP h) v := by
  unfold plainV at h
  split at h
  · rename_i hk; exact .inl ⟨hk, by simpa using h⟩
  · split at h
    · rename_i hk
      simp only [Bool.or_eq_true, given_iff, indexed_iff] at h
      exact .inr ⟨hk, h⟩
    · cases h
theorem plainF_wf {f : Fl} (h : plainF f = true) : WfF (fun h => GivenP h ∨ IdxP h) f := by
  unfold plainF at h
  split at h
  · rename_i hp; exact .inl ⟨hp, plainV_wf h⟩
  · split at h
    · rename_i hp; exact .inr ⟨hp, by simpa using h⟩
    · cases h
theorem plainS_wf {x : Sb} (h : plainS x = true) : WfS IdxP (fun h => GivenP h ∨ IdxP h) x := by
  unfold plainS at h
  simp only [Bool.and_eq_true, List.all_eq_true] at h
  obtain ⟨⟨⟨⟨q1, q2⟩, q3⟩, q4⟩, q5⟩ := h
  refine ⟨fun y hy => indexed_iff.1 (q1 y hy), fun v hv => plainV_wf (q2 v hv), fun v hv => plainV_wf (q3 v hv), fun y hy => plainF_wf (q4 y hy), ?_⟩
  split at q5
  · rename_i hk; exact .inl ⟨hk, List.length_eq_zero_iff.1 (by simpa using q5)⟩
  · split at q5
    · rename_i hk
      have : x.ps.length + x.rs.length = 0 := by simpa using q5
      exact .inr (.inl ⟨hk, List.length_eq_zero_iff.1 (by omega), List.length_eq_zero_iff.1 (by omega)⟩)
    · split at q5
      · rename_i hk
        have : x.ps.length + x.rs.length = 0 ∧ x.fs.length = 1 := by simpa using q5
        exact .inr (.inr ⟨hk, List.length_eq_zero_iff.1 (by omega), List.length_eq_zero_iff.1 (by omega), this.2⟩)
      · cases q5
/-- A rolled heap type with a number: of a group of gl types, that begins at first. -/
def NumR (first gl : Nat) (h : Hp) : Prop := (h.k = 14 ∧ 0 ≤ h.n ∧ h.n < gl) ∨ (h.k = 15 ∧ 0 ≤ h.n ∧ h.n < first)
/-- A closed heap type with a number of a table of n types. -/
def NumC (n : Nat) (h : Hp) : Prop := h.k = 15 ∧ 0 ≤ h.n ∧ h.n < n
structure TabC (gs : List (List Sb)) : Prop where
  ex : ∀ (j : Nat) g, gs[j]? = some g → ∀ x ∈ g, WfS (NumR (firstOf gs j) g.length) (fun h => GivenP h ∨ NumR (firstOf gs j) g.length h) x
theorem tabC_nil : TabC [] := ⟨fun j g h => by simp at h⟩
/-- The closed types. -/
def TypC (n : Nat) (y : Sb) : Prop := WfS (NumC n) (fun h => GivenP h ∨ NumC n h) y
theorem unroll_num {first gl n : Nat} (h : first + gl ≤ n) {y : Hp} (hy : NumR first gl y) : NumC n (unroll first y) := by
  unfold unroll
  rcases hy with ⟨hk, h0, h1⟩ | ⟨hk, h0, h1⟩
  · rw [if_pos hk]; exact ⟨rfl, by dsimp only; omega, by dsimp only; omega⟩
  · rw [if_neg (by omega)]; exact ⟨hk, h0, by omega⟩
theorem unroll_given {first : Int} {y : Hp} (hy : GivenP y) : unroll first y = y := by
  unfold unroll; rw [if_neg (by have := hy.2.1; omega)]
theorem TabC.typ {gs : List (List Sb)} (h : TabC gs) {y : Sb} (hy : y ∈ tabL gs) : TypC (total gs) y := by
  obtain ⟨id, hid⟩ := List.getElem?_of_mem hy
  obtain ⟨j, k, g, x, h1, _, _, _, h2, rfl⟩ := tabL_loc hid
  have hf := firstOf_add h1
  refine (h.ex j g h1 x (List.mem_of_getElem? h2)).map (fun z hz => unroll_num hf hz) (fun z hz => ?_)
  rcases hz with hz | hz
  · rw [unroll_given hz]; exact .inl hz
  · exact .inr (unroll_num hf hz)
theorem TabC.drec {gs : List (List Sb)} (h : TabC gs) (ht : total gs ≤ 10000) {j : Nat} {g : List Sb} (hj : gs[j]? = some g) {x : Sb} (hx : x ∈ g) : DS DRec x := by
  have hf := firstOf_add hj
  have hn : ∀ y, NumR (firstOf gs j) g.length y → DRec y := fun y hy hk => by
    rcases hy with ⟨_, h0, h1⟩ | ⟨h15, _⟩ <;> omega
  exact (h.ex j g hj x hx).ds hn (fun y hy => hy.elim (fun q hk => by have := q.2.1; omega) (hn y))
theorem shut_num {gs : List (List Sb)} {ids : List Int} {gn : Nat} (hids : ∀ i ∈ ids, inTab gs i = true) {h : Hp} (hi : IdxP h) (hc : CanH ids gn h) : NumR (total gs) gn (shutP ids h) := by
  obtain ⟨hk, h0, _⟩ := hi
  unfold shutP
  rw [if_neg (by simp [hk])]
  split
  · rename_i hlt
    have hm : ids.getD h.n.toNat 0 ∈ ids := by
      rw [List.getD_eq_getElem?_getD, List.getElem?_eq_getElem (by omega)]; exact List.getElem_mem _
    have := hids _ hm
    simp [inTab] at this
    exact .inr ⟨rfl, this.1, this.2⟩
  · rename_i hlt
    exact .inl ⟨rfl, by dsimp only; omega, hc hk hlt⟩
theorem wf_and {U D E : Hp → Prop} {x : Sb} (h : WfS U D x) (d : DS E x) : WfS (fun y => U y ∧ E y) (fun y => D y ∧ E y) x := by
  refine ⟨fun y hy => ⟨h.sups y hy, d.sups y hy⟩, fun v hv => (h.ps v hv).imp id (fun q => ⟨q.1, q.2, d.ps v hv q.1⟩), fun v hv => (h.rs v hv).imp id (fun q => ⟨q.1, q.2, d.rs v hv q.1⟩),
   fun y hy => (h.fs y hy).imp (fun q => ⟨q.1, q.2.imp id (fun r => ⟨r.1, r.2, d.fs y hy r.1⟩)⟩) id, h.kind⟩
theorem tabC_add {gs : List (List Sb)} {ids : List Int} {g : List Sb} (h : TabC gs) : TabC (addG gs ids g).2.2 := by
  unfold addG
  split
  · exact h
  rename_i p1
  split
  · exact h
  rename_i p2
  split
  · exact h
  rename_i p3
  split
  · exact h
  have p3 : (rollG ids g).2 = true := by simpa using p3
  simp only [Decidable.not_not, List.all_eq_true] at p1 p2
  dsimp only
  unfold enterG
  cases hf : findG gs (rollG ids g).1 with
  | some i => exact h
  | none =>
    dsimp only
    split
    · exact h
    · split
      · exact h
      · refine ⟨fun j g' hj x hx => ?_⟩
        by_cases hlt : j < gs.length
        · rw [List.getElem?_append_left hlt] at hj
          rw [firstOf_snoc (by omega)]
          exact h.ex j g' hj x hx
        · have h1 := (List.getElem?_eq_some_iff.1 hj).1
          simp at h1
          obtain rfl : j = gs.length := by omega
          simp at hj
          subst hj
          rw [firstOf_snoc (Nat.le_refl _), firstOf_len, rollG_len]
          rw [rollG_map] at hx
          obtain ⟨z, hz, rfl⟩ := List.mem_map.1 hx
          have hw := wf_and (plainS_wf (p1 z hz)) (rollG_can p3 z hz)
          refine hw.map (fun y hy => shut_num p2 hy.1 hy.2) (fun y hy => ?_)
          rcases hy with ⟨hy | hy, hc⟩
          · have : shutP ids y = y := by unfold shutP; rw [if_pos (by have := hy.2.1; omega)]
            rw [this]; exact .inl hy
          · exact .inr (shut_num p2 hy hc)
end Go.Proofs.YtkgmfbfpmlnfcaaGreatDoor
