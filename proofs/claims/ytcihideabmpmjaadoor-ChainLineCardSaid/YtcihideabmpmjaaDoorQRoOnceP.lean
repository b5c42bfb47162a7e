/- RollOnce's plain law: a group that is moved behind other types is the same, rolled up; groups that are the same rolled up are the same (no program in sight). -/
import Derived.Test.YtcihideabmpmjaaDoorQRoGetR
namespace Go.Proofs.YtcihideabmpmjaaDoor
open Go.RowKit

def shiftH (a : Nat) (h : Hp) : Hp := if h.k = 13 then ⟨13, h.n + a⟩ else h
/-- What is known of the heap types of a plain group that stands alone. -/
def Alone (gn : Nat) (h : Hp) : Prop := DIdx h ∧ CanH [] gn h ∧ h.k ≠ 14
theorem plain_14 {x : Sb} (hpl : plainS x = true) : DS (fun h : Hp => h.k ≠ 14) x := by
  unfold plainS at hpl
  simp only [Bool.and_eq_true, List.all_eq_true] at hpl
  obtain ⟨⟨⟨⟨q1, q2⟩, q3⟩, q4⟩, _⟩ := hpl
  have gi : ∀ {h : Hp}, indexedB h = true → h.k ≠ 14 := fun {h} e => by simp [indexedB] at e; omega
  have gg : ∀ {h : Hp}, givenB h = true → h.k ≠ 14 := fun {h} e => by simp [givenB] at e; omega
  have gv : ∀ {v : Vl}, plainV v = true → DV (fun h : Hp => h.k ≠ 14) v := fun {v} hv hk => by
    unfold plainV at hv
    rw [if_neg (by omega), if_pos hk] at hv
    simp only [Bool.or_eq_true] at hv
    exact hv.elim gg gi
  refine ⟨fun y hy => gi (q1 y hy), fun y hy => gv (q2 y hy), fun y hy => gv (q3 y hy), fun y hy => ?_⟩
  have hf := q4 y hy
  unfold plainF at hf
  split at hf
  · exact gv hf
  · split at hf
    · have e : y.v = ⟨1, false, 0, 0⟩ := by simpa using hf
      intro hk; rw [e] at hk; simp at hk
    · cases hf
theorem alone_of {g : List Sb} {x : Sb} (hx : x ∈ g) (hp : plainS x = true) (ho : (rollG [] g).2 = true) : DS (Alone g.length) x := by
  have hid := plain_DS hp
  have hcan := rollG_can ho x hx
  have h14 := plain_14 hp
  exact ⟨fun y hy => ⟨hid.sups y hy, hcan.sups y hy, h14.sups y hy⟩, fun y hy hk => ⟨hid.ps y hy hk, hcan.ps y hy hk, h14.ps y hy hk⟩, fun y hy hk => ⟨hid.rs y hy hk, hcan.rs y hy hk, h14.rs y hy hk⟩, fun y hy hk => ⟨hid.fs y hy hk, hcan.fs y hy hk, h14.fs y hy hk⟩⟩
theorem shut_shift {beh : List Int} {gn : Nat} {h : Hp} (ha : Alone gn h) : shutP beh (shiftH beh.length h) = shutP [] h := by
  obtain ⟨h1, h2, h3⟩ := ha
  unfold shiftH
  split
  · rename_i hk
    obtain ⟨n0, n1⟩ := h1 hk
    unfold shutP
    rw [if_neg (by simp), if_neg (by dsimp only; omega), if_neg (by simp [hk]), if_neg (by simp; omega)]
    dsimp only [List.length_nil]
    congr 1; omega
  · rename_i hk
    unfold shutP; rw [if_pos hk, if_pos hk]
def unshut (h : Hp) : Hp := if h.k = 14 then ⟨13, h.n⟩ else h
theorem unshut_shut {gn : Nat} {h : Hp} (ha : Alone gn h) : unshut (shutP [] h) = h := by
  obtain ⟨h1, h2, h3⟩ := ha
  unfold shutP
  split
  · unfold unshut; rw [if_neg h3]
  · rename_i hk
    have hk : h.k = 13 := by omega
    obtain ⟨n0, n1⟩ := h1 hk
    rw [if_neg (by simp; omega)]
    unfold unshut
    rw [if_pos rfl]
    obtain ⟨k, n⟩ := h
    dsimp only at hk
    subst hk
    simp
theorem mapP_id {D : Hp → Prop} {f : Hp → Hp} (h : ∀ y, D y → f y = y) {x : Sb} (hd : DS D x) : mapP f x = x := by
  rw [mapP_congr (u := id) (fun y hy => h y hy) hd]
  have hv : ∀ v, vf id v = v := fun v => by unfold vf; split <;> rfl
  have hf : ∀ y, ff id y = y := fun y => by unfold ff; rw [hv]
  obtain ⟨fin, su, k, lp, lr, lf⟩ := x
  simp only [mapP]
  rw [List.map_id, show vf id = id from funext hv, show ff id = id from funext hf, List.map_id, List.map_id, List.map_id]
theorem rollG_map (ids : List Int) (g : List Sb) : (rollG ids g).1 = g.map (mapP (shutP ids)) := mapS_map (fun s y => mapSub_mapP (shut_fst ids g.length) s y) g true
theorem rollG_inj {g h : List Sb} (hg : ∀ x ∈ g, plainS x = true) (hh : ∀ x ∈ h, plainS x = true) (og : (rollG [] g).2 = true) (oh : (rollG [] h).2 = true) (e : (rollG [] g).1 = (rollG [] h).1) : g = h := by
  rw [rollG_map, rollG_map] at e
  have back : ∀ l : List Sb, (∀ x ∈ l, plainS x = true) → (rollG [] l).2 = true → (l.map (mapP (shutP []))).map (mapP unshut) = l := fun l hp ho => by
    rw [List.map_map]
    conv => rhs; rw [← List.map_id l]
    refine List.map_congr_left fun x hx => ?_
    show mapP unshut (mapP (shutP []) x) = x
    rw [mapP_comp]
    exact mapP_id (D := Alone l.length) (fun y hy => unshut_shut hy) (alone_of hx (hp x hx) ho)
  rw [← back g hg og, e, back h hh oh]
theorem rollG_moved {beh : List Int} {g : List Sb} (hg : ∀ x ∈ g, plainS x = true) (og : (rollG [] g).2 = true) : (rollG beh (g.map (mapP (shiftH beh.length)))).1 = (rollG [] g).1 := by
  rw [rollG_map, rollG_map, List.map_map]
  refine List.map_congr_left fun x hx => ?_
  show mapP (shutP beh) (mapP (shiftH beh.length) x) = _
  rw [mapP_comp]
  exact mapP_congr (D := Alone g.length) (fun y hy => shut_shift hy) (alone_of hx (hg x hx) og)
theorem mapS_can2 {α : Type} {φ : Bool → α → α × Bool} {C : α → Prop} (h : ∀ x, C x → (φ true x).2 = true) : ∀ (l : List α), (∀ x ∈ l, C x) → (mapS φ true l).2 = true
  | [], _ => rfl
  | x :: l, hl => by
    have h1 := h x (hl x (by simp))
    simp only [mapS, h1]
    exact mapS_can2 h l (fun y hy => hl y (by simp [hy]))
theorem shut_can2 {ids : List Int} {gn : Nat} {h : Hp} (hc : CanH ids gn h) : (shut ids gn true h).2 = true := by
  unfold shut
  split
  · rfl
  · rename_i hk
    split
    · rfl
    · rename_i hlt
      have := hc (by omega) hlt
      simpa using this
theorem mapSub_can2 {ids : List Int} {gn : Nat} {x : Sb} (hd : DS (CanH ids gn) x) : (mapSub (shut ids gn) true x).2 = true := by
  have hv : ∀ v, DV (CanH ids gn) v → (phiV (shut ids gn) true v).2 = true := fun v hv => by
    unfold phiV
    split
    · rename_i hk; exact shut_can2 (hv hk)
    · rfl
  have hf : ∀ y : Fl, DV (CanH ids gn) y.v → (phiF (shut ids gn) true y).2 = true := fun y hy => hv y.v hy
  have k1 := mapS_can2 (φ := shut ids gn) (fun h hc => shut_can2 hc) x.sups hd.sups
  have k2 := mapS_can2 hv x.ps hd.ps
  have k3 := mapS_can2 hv x.rs hd.rs
  have k4 := mapS_can2 hf x.fs hd.fs
  simp only [mapSub, k1, k2, k3, k4]
theorem rollG_can2 {ids : List Int} {g : List Sb} (h : ∀ x ∈ g, DS (CanH ids g.length) x) : (rollG ids g).2 = true := mapS_can2 (fun _ hx => mapSub_can2 hx) g h
theorem moved_can {beh : List Int} {g : List Sb} (hg : ∀ x ∈ g, plainS x = true) (og : (rollG [] g).2 = true) : (rollG beh (g.map (mapP (shiftH beh.length)))).2 = true := by
  refine rollG_can2 fun y hy => ?_
  obtain ⟨x, hx, rfl⟩ := List.mem_map.1 hy
  rw [List.length_map]
  refine mapP_DS (D := Alone g.length) (fun h ha => ?_) (alone_of hx (hg x hx) og)
  obtain ⟨h1, h2, h3⟩ := ha
  unfold shiftH
  split
  · rename_i hk
    obtain ⟨n0, n1⟩ := h1 hk
    have h4 := h2 hk (by simp; omega)
    intro _ _
    simp at h4 ⊢; omega
  · rename_i hk; intro hk2; exact absurd hk2 hk
theorem plain_shift {a gn : Nat} (hb : gn + a ≤ 1000) {x : Sb} (hp : plainS x = true) (ha : DS (Alone gn) x) : plainS (mapP (shiftH a) x) = true := by
  have hi : ∀ h, indexedB h = true → Alone gn h → indexedB (shiftH a h) = true := fun h hi ha => by
    obtain ⟨h1, h2, h3⟩ := ha
    have hk : h.k = 13 := by simp [indexedB] at hi; exact hi.1.1
    obtain ⟨n0, n1⟩ := h1 hk
    have h4 := h2 hk (by simp; omega)
    simp at h4
    unfold shiftH
    rw [if_pos hk]
    simp [indexedB]; omega
  have hg : ∀ h, givenB h = true → shiftH a h = h := fun h hi => by
    unfold shiftH; rw [if_neg (by simp [givenB] at hi; omega)]
  have hv : ∀ v, plainV v = true → DV (Alone gn) v → plainV (vf (shiftH a) v) = true := fun v hv hd => by
    by_cases hk : v.k = 3
    · have h1 := hv
      unfold plainV at h1
      rw [if_neg (by omega), if_pos hk] at h1
      simp only [Bool.or_eq_true] at h1
      have e : vf (shiftH a) v = ⟨v.k, v.nl, (shiftH a ⟨v.h, v.n⟩).k, (shiftH a ⟨v.h, v.n⟩).n⟩ := by unfold vf; rw [if_pos hk]
      rw [e]
      unfold plainV
      rw [if_neg (by dsimp only; omega), if_pos hk]
      simp only [Bool.or_eq_true]
      rcases h1 with h1 | h1
      · left; rw [hg _ h1]; exact h1
      · right; exact hi _ h1 (hd hk)
    · have e : vf (shiftH a) v = v := by unfold vf; rw [if_neg hk]
      rw [e]; exact hv
  have hf : ∀ y, plainF y = true → DV (Alone gn) y.v → plainF (ff (shiftH a) y) = true := fun y hy hd => by
    unfold plainF at hy ⊢
    have e : (ff (shiftH a) y).p = y.p := rfl
    rw [e]
    split at hy
    · rename_i hp0; rw [if_pos hp0]; exact hv y.v hy hd
    · rename_i hp0
      rw [if_neg hp0]
      split at hy
      · rename_i hp8
        rw [if_pos hp8]
        have e2 : y.v = ⟨1, false, 0, 0⟩ := by simpa using hy
        have e3 : (ff (shiftH a) y).v = y.v := by show vf (shiftH a) y.v = y.v; rw [e2]; rfl
        rw [e3]; exact hy
      · cases hy
  unfold plainS at hp ⊢
  simp only [Bool.and_eq_true, List.all_eq_true] at hp ⊢
  obtain ⟨⟨⟨⟨q1, q2⟩, q3⟩, q4⟩, q5⟩ := hp
  refine ⟨⟨⟨⟨fun y hy => ?_, fun y hy => ?_⟩, fun y hy => ?_⟩, fun y hy => ?_⟩, ?_⟩
  · obtain ⟨z, hz, rfl⟩ := List.mem_map.1 hy; exact hi z (q1 z hz) (ha.sups z hz)
  · obtain ⟨z, hz, rfl⟩ := List.mem_map.1 hy; exact hv z (q2 z hz) (ha.ps z hz)
  · obtain ⟨z, hz, rfl⟩ := List.mem_map.1 hy; exact hv z (q3 z hz) (ha.rs z hz)
  · obtain ⟨z, hz, rfl⟩ := List.mem_map.1 hy; exact hf z (q4 z hz) (ha.fs z hz)
  · simpa [mapP] using q5
end Go.Proofs.YtcihideabmpmjaaDoor
