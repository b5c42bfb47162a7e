/- Tables with other numbers: what matches under one matches under the other (no program in sight). -/
import Derived.Test.YtkgmfbfpmlnfcaaGreatDoorQMaOrderP
namespace Go.Proofs.YtkgmfbfpmlnfcaaGreatDoor
open Go.RowKit

/-- A heap type with another number. -/
def fh (φ : Nat → Nat) (h : Hp) : Hp := if h.k = 15 then ⟨15, φ h.n.toNat⟩ else h
/-- The types of ts stand in us, under other numbers. -/
structure Emb (φ : Nat → Nat) (ts us : List Sb) : Prop where
  at_ : ∀ (i : Nat) y, ts[i]? = some y → us[φ i]? = some (mapP (fh φ) y)
  inj : ∀ i j, i < ts.length → j < ts.length → φ i = φ j → i = j
  cl : Clo ts
variable {φ : Nat → Nat} {ts us : List Sb}
theorem fh_k (h : Hp) : (fh φ h).k = h.k := by unfold fh; split <;> simp_all
theorem fh_def (n : Nat) : fh φ ⟨15, n⟩ = ⟨15, φ n⟩ := by simp [fh]
theorem fh_giv {h : Hp} (hk : h.k ≠ 15) : fh φ h = h := by simp [fh, hk]
theorem Emb.lt (E : Emb φ ts us) {i : Nat} (h : i < ts.length) : φ i < us.length := by
  have h1 := E.at_ i _ (List.getElem?_eq_getElem h)
  exact (List.getElem?_eq_some_iff.1 h1).1
theorem Emb.closed (E : Emb φ ts us) {h : Hp} (hc : ClosedP ts.length h) : ClosedP us.length (fh φ h) := by
  rcases closed_cases hc with ⟨m, rfl, hm⟩ | ⟨k, rfl, hk, h15⟩
  · rw [fh_def]; exact closed_def (E.lt hm)
  · rw [fh_giv h15]; exact closed_giv hk
theorem Emb.fh_inj (E : Emb φ ts us) {a b : Hp} (ha : ClosedP ts.length a) (hb : ClosedP ts.length b) (h : fh φ a = fh φ b) : a = b := by
  rcases closed_cases ha with ⟨m, rfl, hm⟩ | ⟨k, rfl, hk, h15⟩ <;> rcases closed_cases hb with ⟨m', rfl, hm'⟩ | ⟨k', rfl, hk', h15'⟩
  · rw [fh_def, fh_def] at h
    have h1 : φ m = φ m' := by simp at h; omega
    rw [E.inj m m' hm hm' h1]
  · rw [fh_def, fh_giv h15'] at h
    simp at h; omega
  · rw [fh_def, fh_giv h15] at h
    simp at h; omega
  · rw [fh_giv h15, fh_giv h15'] at h; exact h
theorem Emb.up (E : Emb φ ts us) {i j : Nat} (_ : i < ts.length) (h : UpTo ts i j) : UpTo us (φ i) (φ j) := by
  induction h with
  | refl => exact .refl
  | @step j k s hp h1 h2 h3 h4 ih =>
    obtain ⟨hk, h0, hn⟩ := (E.cl _ (List.mem_of_getElem? h2)).sups _ h3
    have e : hp = ⟨15, (k : Int)⟩ := by cases hp; simp_all
    refine ih.step (E.at_ j s h2) (h := fh φ hp) (List.mem_map.2 ⟨hp, h3, rfl⟩) ?_
    rw [e, fh_def]
theorem Emb.back (E : Emb φ ts us) {i q : Nat} (hi : i < ts.length) (h : UpTo us (φ i) q) : ∃ j, j < ts.length ∧ q = φ j ∧ UpTo ts i j := by
  generalize hp : φ i = p at h
  induction h with
  | refl => exact ⟨i, hi, hp.symm, .refl⟩
  | @step q r s h2 k1 k2 k3 k4 ih =>
    obtain ⟨j, hj, rfl, hu⟩ := ih
    have h1 := E.at_ j _ (List.getElem?_eq_getElem hj)
    rw [h1] at k2
    obtain rfl := Option.some.inj k2
    obtain ⟨x, hx, rfl⟩ := List.mem_map.1 k3
    obtain ⟨hk, h0, hn⟩ := (E.cl _ (List.getElem_mem hj)).sups _ hx
    obtain ⟨m, hm⟩ : ∃ m : Nat, x.n = m := ⟨x.n.toNat, by omega⟩
    have e : x = ⟨15, (m : Int)⟩ := by cases x; simp_all
    refine ⟨m, by omega, ?_, hu.step (List.getElem?_eq_getElem hj) hx hm⟩
    rw [e, fh_def] at k4
    simp at k4; omega
theorem Emb.heap (E : Emb φ ts us) {a b : Hp} (ha : ClosedP ts.length a) (hb : ClosedP ts.length b) : HeapP us (fh φ a) (fh φ b) ↔ HeapP ts a b := by
  have h1 := E.closed ha
  have h2 := E.closed hb
  have ku : ∀ {m : Nat} {s : Sb}, m < ts.length → us[φ m]? = some s → ∃ s', ts[m]? = some s' ∧ s'.k = s.k := fun {m s} hm hs => by
    have h := E.at_ m _ (List.getElem?_eq_getElem hm)
    rw [h] at hs
    obtain rfl := Option.some.inj hs
    exact ⟨_, List.getElem?_eq_getElem hm, rfl⟩
  constructor
  · rintro ⟨_, _, h | ⟨h, q, hq, hh⟩ | ⟨h, h', s, hs, hk⟩ | ⟨h, h', hk⟩⟩
    · exact ⟨ha, hb, .inl (E.fh_inj ha hb h)⟩
    · rw [fh_k] at h
      refine ⟨ha, hb, .inr (.inl ⟨h, ?_⟩)⟩
      rcases closed_cases ha with ⟨m, rfl, hm⟩ | ⟨k, rfl, hk, h15⟩
      · rw [fh_def] at hq
        obtain ⟨j, hj, rfl, hu⟩ := E.back hm (by simpa using hq)
        refine ⟨j, by simpa using hu, ?_⟩
        rcases hh with ⟨e1, e2⟩ | ⟨e1, s, hs, hk⟩
        · rcases closed_cases hb with ⟨m', rfl, hm'⟩ | ⟨k', rfl, hk', h15'⟩
          · rw [fh_def] at e2
            exact .inl ⟨rfl, by rw [E.inj m' j hm' hj (by simp at e2; omega)]⟩
          · rw [fh_giv h15'] at e1; exact absurd e1 h15'
        · rw [fh_k] at e1 hk
          obtain ⟨s', hs', e⟩ := ku hj hs
          exact .inr ⟨e1, s', hs', by rw [e]; exact hk⟩
      · exact absurd h h15
    · rw [fh_k] at h h' hk
      refine ⟨ha, hb, .inr (.inr (.inl ⟨h, h', ?_⟩))⟩
      rcases closed_cases hb with ⟨m', rfl, hm'⟩ | ⟨k', rfl, hk', h15'⟩
      · rw [fh_def] at hs
        obtain ⟨s', hs', e⟩ := ku hm' (by simpa using hs)
        exact ⟨s', by simpa using hs', by rw [e]; exact hk⟩
      · exact absurd h' h15'
    · rw [fh_k] at h
      rw [fh_k] at h'
      rw [fh_k, fh_k] at hk
      exact ⟨ha, hb, .inr (.inr (.inr ⟨h, h', hk⟩))⟩
  · rintro ⟨_, _, h | ⟨h, q, hq, hh⟩ | ⟨h, h', s, hs, hk⟩ | ⟨h, h', hk⟩⟩
    · exact ⟨h1, h2, .inl (by rw [h])⟩
    · refine ⟨h1, h2, .inr (.inl ⟨by rw [fh_k]; exact h, ?_⟩)⟩
      rcases closed_cases ha with ⟨m, rfl, hm⟩ | ⟨k, rfl, hk, h15⟩
      · have hq' : UpTo ts m q := by simpa using hq
        have hql := hq'.lt E.cl hm
        refine ⟨φ q, by rw [fh_def]; simpa using E.up hm hq', ?_⟩
        rcases hh with ⟨e1, e2⟩ | ⟨e1, s, hs, hk⟩
        · have e : b = ⟨15, (q : Int)⟩ := by cases b; simp_all
          rw [e, fh_def]; exact .inl ⟨rfl, rfl⟩
        · exact .inr ⟨by rw [fh_k]; exact e1, _, E.at_ q s hs, by rw [fh_k]; exact hk⟩
      · exact absurd h h15
    · refine ⟨h1, h2, .inr (.inr (.inl ⟨by rw [fh_k]; exact h, by rw [fh_k]; exact h', ?_⟩))⟩
      rcases closed_cases hb with ⟨m', rfl, hm'⟩ | ⟨k', rfl, hk', h15'⟩
      · rw [fh_def, fh_k]
        exact ⟨mapP (fh φ) s, by simpa using E.at_ m' s (by simpa using hs), hk⟩
      · exact absurd h' h15'
    · exact ⟨h1, h2, .inr (.inr (.inr ⟨by rw [fh_k]; exact h, by rw [fh_k]; exact h', by rw [fh_k, fh_k]; exact hk⟩))⟩
/-- Closed value types. -/
def CloV (n : Nat) (v : Vl) : Prop := WfV (fun h => GivenP h ∨ NumC n h) v
theorem vf_k (v : Vl) : (vf (fh φ) v).k = v.k := by unfold vf; split <;> rfl
theorem vf_nl (v : Vl) : (vf (fh φ) v).nl = v.nl := by unfold vf; split <;> rfl
theorem vf_hp {v : Vl} (h : v.k = 3) : (⟨(vf (fh φ) v).h, (vf (fh φ) v).n⟩ : Hp) = fh φ ⟨v.h, v.n⟩ := by unfold vf; rw [if_pos h]
theorem CloV.hp {n : Nat} {v : Vl} (h : CloV n v) (hk : v.k = 3) : ClosedP n ⟨v.h, v.n⟩ := by
  rcases h with ⟨h1, _⟩ | ⟨_, h1⟩
  · rcases h1 with h1 | h1 <;> omega
  · exact h1
theorem CloV.emb (E : Emb φ ts us) {v : Vl} (h : CloV ts.length v) : CloV us.length (vf (fh φ) v) := by
  refine WfV.map (fun y hy => ?_) h
  rcases E.closed (show ClosedP ts.length y from hy) with h1 | h1
  · exact .inl h1
  · exact .inr h1
theorem Emb.val (E : Emb φ ts us) {a b : Vl} (ha : CloV ts.length a) (hb : CloV ts.length b) : ValP us (vf (fh φ) a) (vf (fh φ) b) ↔ ValP ts a b := by
  have pa := WfV.proper ha; have pb := WfV.proper hb
  have pa' := WfV.proper (ha.emb E); have pb' := WfV.proper (hb.emb E)
  have hne : ∀ {n : Nat} {v : Vl}, CloV n v → ¬ NeverP v := fun {n v} hv hn => by
    have hk : v.k = 3 := by rw [hn]
    exact never_not hn (hv.hp hk)
  unfold ValP
  rw [vf_k, vf_k, vf_nl, vf_nl]
  constructor
  · rintro ⟨_, _, h | ⟨h, h' | h' | ⟨h', h2⟩⟩⟩
    · exact ⟨pa, pb, .inl h⟩
    · exact ⟨pa, pb, .inr ⟨h, .inl h'⟩⟩
    · exact absurd h' (hne (ha.emb E))
    · by_cases hk : a.k = 3
      · have hk' : b.k = 3 := by omega
        rw [vf_hp hk, vf_hp hk', E.heap (ha.hp hk) (hb.hp hk')] at h2
        exact ⟨pa, pb, .inr ⟨h, .inr (.inr ⟨h', h2⟩)⟩⟩
      · exact ⟨pa, pb, .inr ⟨h, .inl hk⟩⟩
  · rintro ⟨_, _, h | ⟨h, h' | h' | ⟨h', h2⟩⟩⟩
    · exact ⟨pa', pb', .inl h⟩
    · exact ⟨pa', pb', .inr ⟨h, .inl h'⟩⟩
    · exact absurd h' (hne ha)
    · by_cases hk : a.k = 3
      · have hk' : b.k = 3 := by omega
        refine ⟨pa', pb', .inr ⟨h, .inr (.inr ⟨h', ?_⟩)⟩⟩
        rw [vf_hp hk, vf_hp hk', E.heap (ha.hp hk) (hb.hp hk')]; exact h2
      · exact ⟨pa', pb', .inr ⟨h, .inl hk⟩⟩
theorem listP_map {α : Type} {R R' : α → α → Prop} {f : α → α} {l m : List α} (h : ∀ x ∈ l, ∀ y ∈ m, (R' (f x) (f y) ↔ R x y)) : ListP R' (l.map f) (m.map f) ↔ ListP R l m := by
  unfold ListP
  rw [List.length_map, List.length_map]
  refine and_congr_right fun _ => ⟨fun k i x y hx hy => ?_, fun k i x y hx hy => ?_⟩
  · exact (h x (List.mem_of_getElem? hx) y (List.mem_of_getElem? hy)).1 (k i _ _ (by rw [List.getElem?_map, hx]; rfl) (by rw [List.getElem?_map, hy]; rfl))
  · rw [List.getElem?_map] at hx hy
    obtain ⟨x', hx', rfl⟩ := Option.map_eq_some_iff.1 hx
    obtain ⟨y', hy', rfl⟩ := Option.map_eq_some_iff.1 hy
    exact (h x' (List.mem_of_getElem? hx') y' (List.mem_of_getElem? hy')).2 (k i _ _ hx' hy')
def CloF (n : Nat) (f : Fl) : Prop := WfF (fun h => GivenP h ∨ NumC n h) f
theorem CloF.val {n : Nat} {f : Fl} (h : CloF n f) : CloV n f.v := by
  rcases h with ⟨_, h⟩ | ⟨_, h⟩
  · exact h
  · exact .inl ⟨by rw [h]; exact .inl rfl, by rw [h]⟩
theorem Emb.field (E : Emb φ ts us) {a b : Fl} (ha : CloF ts.length a) (hb : CloF ts.length b) : FieldP us (ff (fh φ) a) (ff (fh φ) b) ↔ FieldP ts a b := by
  unfold FieldP StoreP ff
  dsimp only
  rw [E.val ha.val hb.val, E.val hb.val ha.val]
theorem Emb.fields (E : Emb φ ts us) {l m : List Fl} (hl : ∀ f ∈ l, CloF ts.length f) (hm : ∀ f ∈ m, CloF ts.length f) : FieldsP us (l.map (ff (fh φ))) (m.map (ff (fh φ))) ↔ FieldsP ts l m := by
  unfold FieldsP
  rw [List.length_map, List.length_map]
  refine and_congr_right fun _ => ⟨fun k i x y hx hy => ?_, fun k i x y hx hy => ?_⟩
  · exact (E.field (hl x (List.mem_of_getElem? hx)) (hm y (List.mem_of_getElem? hy))).1 (k i _ _ (by rw [List.getElem?_map, hx]; rfl) (by rw [List.getElem?_map, hy]; rfl))
  · rw [List.getElem?_map] at hx hy
    obtain ⟨x', hx', rfl⟩ := Option.map_eq_some_iff.1 hx
    obtain ⟨y', hy', rfl⟩ := Option.map_eq_some_iff.1 hy
    exact (E.field (hl x' (List.mem_of_getElem? hx')) (hm y' (List.mem_of_getElem? hy'))).2 (k i _ _ hx' hy')
theorem Emb.comp (E : Emb φ ts us) {a b : Sb} (ha : TypC ts.length a) (hb : TypC ts.length b) : CompP us (mapP (fh φ) a) (mapP (fh φ) b) ↔ CompP ts a b := by
  unfold CompP mapP
  dsimp only
  rw [listP_map (R := ValP ts) (f := vf (fh φ)) (fun x hx y hy => E.val (hb.ps x hx) (ha.ps y hy)), listP_map (R := ValP ts) (f := vf (fh φ)) (fun x hx y hy => E.val (ha.rs x hx) (hb.rs y hy)), E.fields ha.fs hb.fs, List.length_map, List.length_map]
end Go.Proofs.YtkgmfbfpmlnfcaaGreatDoor
