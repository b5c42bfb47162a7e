/- package roll: what rolling up keeps (no program in sight). -/
import Derived.Test.YtnnbjenibfmcaaaGreatDoorQKdGoodP
namespace Go.Proofs.YtnnbjenibfmcaaaGreatDoor
open Go.RowKit

theorem mapS_all {σ α : Type} {φ : σ → α → α × σ} {P Q : α → Prop} (h : ∀ s x, P x → Q (φ s x).1) : ∀ (l : List α) (s : σ), (∀ x ∈ l, P x) → ∀ y ∈ (mapS φ s l).1, Q y
  | [], s, _, y, hy => by simp [mapS] at hy
  | x :: l, s, hl, y, hy => by
    simp only [mapS, List.mem_cons] at hy
    rcases hy with rfl | hy
    · exact h s x (hl x (by simp))
    · exact mapS_all h l _ (fun z hz => hl z (by simp [hz])) y hy
theorem mapSub_len {σ : Type} (φ : σ → Hp → Hp × σ) (s : σ) (x : Sb) : (mapSub φ s x).1.sups.length = x.sups.length ∧ (mapSub φ s x).1.ps.length = x.ps.length ∧ (mapSub φ s x).1.rs.length = x.rs.length ∧ (mapSub φ s x).1.fs.length = x.fs.length := by
  simp only [mapSub, mapS_len]; exact ⟨trivial, trivial, trivial, trivial⟩
theorem cnt_mapSub {σ : Type} (φ : σ → Hp → Hp × σ) (s : σ) (x : Sb) : cnt (mapSub φ s x).1 = cnt x := by
  obtain ⟨h1, h2, h3, h4⟩ := mapSub_len φ s x
  unfold cnt; rw [h1, h2, h3, h4]
theorem small_of_cnt {x : Sb} (h : cnt x ≤ 1000000) : Small x := by
  unfold cnt at h; exact ⟨by omega, by omega, by omega, by omega⟩
theorem len_grow {α : Type} {φ : List Hp → α → α × List Hp} (h : ∀ s x, (φ s x).2.length ≤ s.length + 1) : ∀ (l : List α) (s : List Hp), (mapS φ s l).2.length ≤ s.length + l.length
  | [], s => by simp [mapS]
  | x :: l, s => by
    have h1 := len_grow h l (φ s x).2
    have h2 := h s x
    simp only [mapS, List.length_cons]; omega
theorem heapsOf_len (x : Sb) : (heapsOf x).length ≤ cnt x := by
  have g1 : ∀ s (h : Hp), (gather s h).2.length ≤ s.length + 1 := fun s h => by simp [gather]
  have g2 : ∀ s (v : Vl), (phiV gather s v).2.length ≤ s.length + 1 := fun s v => by unfold phiV; split <;> simp [gather]
  have g3 : ∀ s (f : Fl), (phiF gather s f).2.length ≤ s.length + 1 := fun s f => g2 s f.v
  unfold heapsOf cnt
  simp only [mapSub]
  have h1 := len_grow g1 x.sups []
  have h2 := len_grow g2 x.ps (mapS gather [] x.sups).2
  have h3 := len_grow g2 x.rs (mapS (phiV gather) (mapS gather [] x.sups).2 x.ps).2
  have h4 := len_grow g3 x.fs (mapS (phiV gather) (mapS (phiV gather) (mapS gather [] x.sups).2 x.ps).2 x.rs).2
  simp only [List.length_nil] at h1
  omega
theorem sm_of_cnt {x : Sb} (h : cnt x ≤ 1000000) : Sm x := ⟨small_of_cnt h, h, Nat.le_trans (heapsOf_len x) h⟩
/-- Raw groups that the walks bear. -/
structure RawG (g : List Sb) : Prop where
  len : g.length ≤ 1000
  fits : ∀ x ∈ g, Fits x
  cnt : ∀ x ∈ g, cnt x ≤ 1000000
theorem RawG.sm {g : List Sb} (h : RawG g) : ∀ x ∈ g, Sm x := fun x hx => sm_of_cnt (h.cnt x hx)
def PH (h : Hp) : Prop := GoodH h ∧ DIdx h ∧ B64 h.n
def PV (v : Vl) : Prop := GoodV v ∧ DV DIdx v ∧ B64 v.n
def QH (h : Hp) : Prop := GoodH h ∧ B64 h.n
def QV (v : Vl) : Prop := GoodV v ∧ B64 v.n
def QF (f : Fl) : Prop := GoodF f ∧ B64 f.v.n ∧ B64 f.p
theorem shut_good {ids : List Int} {gn : Nat} (hids : ∀ i ∈ ids, 0 ≤ i ∧ i ≤ 10000) (hl : ids.length ≤ 1000000) (ok : Bool) (h : Hp) (hp : PH h) : QH (shut ids gn ok h).1 := by
  obtain ⟨h1, h2, h3⟩ := hp
  unfold shut
  split
  · exact ⟨h1, h3⟩
  · rename_i hk
    have hk : h.k = 13 := by omega
    obtain ⟨m0, m1⟩ := h2 hk
    split
    · rename_i hlt
      have hm : ids.getD h.n.toNat 0 ∈ ids := by
        rw [List.getD_eq_getElem?_getD, List.getElem?_eq_getElem (by omega)]; exact List.getElem_mem _
      have := hids _ hm
      exact ⟨.inr (.inr (.inr rfl)), by unfold B64; dsimp only; omega⟩
    · exact ⟨.inr (.inr (.inl rfl)), by unfold B64; dsimp only; omega⟩
theorem phiV_good {ids : List Int} {gn : Nat} (hids : ∀ i ∈ ids, 0 ≤ i ∧ i ≤ 10000) (hl : ids.length ≤ 1000000) (ok : Bool) (v : Vl) (hp : PV v) : QV (phiV (shut ids gn) ok v).1 := by
  obtain ⟨h1, h2, h3⟩ := hp
  unfold phiV
  split
  · rename_i hk
    rcases h1 with ⟨h1 | h1, _⟩ | ⟨_, h1⟩
    · omega
    · omega
    · have q := shut_good (gn := gn) hids hl ok ⟨v.h, v.n⟩ ⟨h1, h2 hk, h3⟩
      exact ⟨.inr ⟨hk, q.1⟩, q.2⟩
  · exact ⟨h1, h3⟩
theorem phiF_good {ids : List Int} {gn : Nat} (hids : ∀ i ∈ ids, 0 ≤ i ∧ i ≤ 10000) (hl : ids.length ≤ 1000000) (ok : Bool) (f : Fl) (hp : GoodF f ∧ DV DIdx f.v ∧ B64 f.v.n ∧ B64 f.p) : QF (phiF (shut ids gn) ok f).1 := by
  obtain ⟨h1, h2, h3, h4⟩ := hp
  rcases h1 with ⟨hp, hv⟩ | ⟨hp, hv⟩
  · have q := phiV_good (gn := gn) hids hl ok f.v ⟨hv, h2, h3⟩
    exact ⟨.inl ⟨hp, q.1⟩, q.2, h4⟩
  · have e : (phiV (shut ids gn) ok f.v).1 = f.v := by rw [hv]; rfl
    refine ⟨.inr ⟨hp, ?_⟩, ?_, h4⟩
    · show (phiV (shut ids gn) ok f.v).1 = _; rw [e]; exact hv
    · show B64 (phiV (shut ids gn) ok f.v).1.n; rw [e]; exact h3
theorem given_idx {h : Hp} (hg : givenB h = true) : DIdx h := by
  intro hk; simp [givenB] at hg; omega
theorem indexed_idx {h : Hp} (hg : indexedB h = true) : DIdx h := by
  intro hk; simp [indexedB] at hg; omega
theorem plainV_idx {v : Vl} (hv : plainV v = true) : DV DIdx v := by
  intro hk
  unfold plainV at hv
  rw [if_neg (by omega), if_pos hk] at hv
  simp only [Bool.or_eq_true] at hv
  exact hv.elim given_idx indexed_idx
theorem plainF_idx {f : Fl} (hv : plainF f = true) : DV DIdx f.v := by
  unfold plainF at hv
  split at hv
  · exact plainV_idx hv
  · split at hv
    · have e : f.v = ⟨1, false, 0, 0⟩ := by simpa using hv
      intro hk; rw [e] at hk; simp at hk
    · cases hv
theorem plain_DS {x : Sb} (h : plainS x = true) : DS DIdx x := by
  unfold plainS at h
  simp only [Bool.and_eq_true, List.all_eq_true] at h
  obtain ⟨⟨⟨⟨h1, h2⟩, h3⟩, h4⟩, _⟩ := h
  exact ⟨fun y hy => indexed_idx (h1 y hy), fun y hy => plainV_idx (h2 y hy), fun y hy => plainV_idx (h3 y hy), fun y hy => plainF_idx (h4 y hy)⟩
theorem mapSub_good {ids : List Int} {gn : Nat} (hids : ∀ i ∈ ids, 0 ≤ i ∧ i ≤ 10000) (hl : ids.length ≤ 1000000) (ok : Bool) (x : Sb) (hp : plainS x = true) (hf : Fits x) (hc : cnt x ≤ 1000000) : GoodS (mapSub (shut ids gn) ok x).1 ∧ Fits (mapSub (shut ids gn) ok x).1 ∧ Sm (mapSub (shut ids gn) ok x).1 := by
  have hg := plainS_good hp
  have hd := plain_DS hp
  have hc2 : cnt (mapSub (shut ids gn) ok x).1 ≤ 1000000 := by rw [cnt_mapSub]; exact hc
  have q1 := mapS_all (φ := shut ids gn) (P := PH) (Q := QH) (shut_good hids hl) x.sups ok (fun y hy => ⟨hg.sups y hy, hd.sups y hy, hf.sups y hy⟩)
  have q2 := mapS_all (φ := phiV (shut ids gn)) (P := PV) (Q := QV) (phiV_good hids hl) x.ps (mapS (shut ids gn) ok x.sups).2 (fun y hy => ⟨hg.ps y hy, hd.ps y hy, hf.ps y hy⟩)
  have q3 := mapS_all (φ := phiV (shut ids gn)) (P := PV) (Q := QV) (phiV_good hids hl) x.rs (mapS (phiV (shut ids gn)) (mapS (shut ids gn) ok x.sups).2 x.ps).2 (fun y hy => ⟨hg.rs y hy, hd.rs y hy, hf.rs y hy⟩)
  have q4 := mapS_all (φ := phiF (shut ids gn)) (P := fun f => GoodF f ∧ DV DIdx f.v ∧ B64 f.v.n ∧ B64 f.p) (Q := QF) (phiF_good hids hl) x.fs (mapS (phiV (shut ids gn)) (mapS (phiV (shut ids gn)) (mapS (shut ids gn) ok x.sups).2 x.ps).2 x.rs).2 (fun y hy => ⟨hg.fs y hy, hd.fs y hy, (hf.fs y hy).1, (hf.fs y hy).2⟩)
  obtain ⟨l1, l2, l3, l4⟩ := mapSub_len (shut ids gn) ok x
  refine ⟨⟨fun y hy => (q1 y hy).1, fun y hy => (q2 y hy).1, fun y hy => (q3 y hy).1, fun y hy => (q4 y hy).1, ?_⟩, ⟨fun y hy => (q1 y hy).2, fun y hy => (q2 y hy).2, fun y hy => (q3 y hy).2, fun y hy => (q4 y hy).2, small_of_cnt hc2⟩, sm_of_cnt hc2⟩
  have nil : ∀ {α : Type} {l m : List α}, l.length = m.length → m = [] → l = [] := fun h e => List.length_eq_zero_iff.1 (by rw [h, e]; rfl)
  exact hg.kind.imp (fun h => ⟨h.1, nil l4 h.2⟩) (fun h => h.imp (fun h => ⟨h.1, nil l2 h.2.1, nil l3 h.2.2⟩) (fun h => ⟨h.1, nil l2 h.2.1, nil l3 h.2.2⟩))
theorem rollG_good {ids : List Int} {g : List Sb} (hids : ∀ i ∈ ids, 0 ≤ i ∧ i ≤ 10000) (hl : ids.length ≤ 1000000) (hr : RawG g) (hp : ∀ x ∈ g, plainS x = true) : GoodG (rollG ids g).1 := by
  have q := mapS_all (φ := mapSub (shut ids g.length)) (P := fun x => plainS x = true ∧ Fits x ∧ cnt x ≤ 1000000) (Q := fun x => GoodS x ∧ Fits x ∧ Sm x) (fun s x h => mapSub_good hids hl s x h.1 h.2.1 h.2.2) g true (fun x hx => ⟨hp x hx, hr.fits x hx, hr.cnt x hx⟩)
  exact ⟨by unfold rollG; rw [mapS_len]; exact hr.len, fun x hx => (q x hx).1, fun x hx => (q x hx).2.1, fun x hx => (q x hx).2.2⟩
theorem rollG_len (ids : List Int) (g : List Sb) : (rollG ids g).1.length = g.length := mapS_len _ _
end Go.Proofs.YtnnbjenibfmcaaaGreatDoor
