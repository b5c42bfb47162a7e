/- package decl: what was declared, declared again over a table that has it (no program in sight). -/
import Derived.Test.YtkgmfbfpmlnfcaaGreatDoorQDcMoveD
namespace Go.Proofs.YtkgmfbfpmlnfcaaGreatDoor
open Go.RowKit

theorem firstOf_app {gs tail : List (List Sb)} {j : Nat} (h : j ≤ gs.length) : firstOf (gs ++ tail) j = firstOf gs j := by
  unfold firstOf; rw [List.take_append_of_le_length h]
theorem total_app (gs tail : List (List Sb)) : total (gs ++ tail) = total gs + total tail := by simp [total]
theorem fh_id {n : Nat} {y : Hp} (h : DN n y) : fh (fun i => i) y = y := by
  obtain ⟨yk, yn⟩ := y
  rcases h with ⟨a, b, c⟩ | a | ⟨a, b, c⟩
  · exact fh_giv (by omega)
  · exact fh_giv (by omega)
  · dsimp only at a b c
    subst a
    simp [fh]; omega
theorem ge_id {gs : List (List Sb)} (tail : List (List Sb)) (hc : TabC gs) : GE (fun i => i) gs (gs ++ tail) := by
  refine ⟨hc, fun j g hj => ⟨j, ?_, fun k _ => ?_⟩, fun i j _ _ h => h⟩
  · have hlt := (List.getElem?_eq_some_iff.1 hj).1
    rw [List.getElem?_append_left hlt, hj]
    congr 1
    refine (List.map_id g).symm.trans (List.map_congr_left fun x hx => ?_)
    exact (mapP_id (D := DN (firstOf gs j)) (fun y hy => fh_id hy) (hc.dn hj hx (Nat.le_refl _))).symm
  · rw [firstOf_app (by have := (List.getElem?_eq_some_iff.1 hj).1; omega)]
theorem map_fI_id {gs : List (List Sb)} {ids : List Int} (h : ∀ i ∈ ids, inTab gs i = true) : ids.map (fI fun i => i) = ids := by
  refine (List.map_congr_left fun i hi => ?_).trans (List.map_id ids)
  have h1 := h i hi
  simp [inTab] at h1
  simp [fI]; omega
theorem enterG_again {gs tail : List (List Sb)} {r : List Sb} (h : (enterG gs r).2.1 = 0) (hG : TabOk ((enterG gs r).2.2 ++ tail)) : (enterG ((enterG gs r).2.2 ++ tail) r).2 = (0, (enterG gs r).2.2 ++ tail) ∧ (r ≠ [] → (enterG ((enterG gs r).2.2 ++ tail) r).1 = (enterG gs r).1) := by
  have found : ∀ {G : List (List Sb)} {i : Nat}, G.Nodup → G[i]? = some r → findG G r = some i := fun {G i} hn hi => by
    cases hf : findG G r with
    | none => exact absurd (List.mem_of_getElem? hi) (findG_not hf)
    | some j => rw [nodup_at hn (findG_at hf) hi]
  cases hf : findG gs r with
  | some i =>
    rw [enterG_some hf] at hG ⊢
    dsimp only at hG ⊢
    have hlt := (List.getElem?_eq_some_iff.1 (findG_at hf)).1
    have h1 : findG (gs ++ tail) r = some i := found hG.nodup (by rw [List.getElem?_append_left hlt]; exact findG_at hf)
    rw [enterG_some h1]
    exact ⟨rfl, fun _ => by rw [firstOf_app (by omega)]⟩
  | none =>
    unfold enterG at h
    rw [hf] at h
    dsimp only at h
    by_cases hfull : 10000 < total gs + r.length
    · rw [if_pos hfull] at h; cases h
    · by_cases hnil : r = []
      · subst hnil
        rw [enterG_nil hf (by simp at hfull; omega)] at hG ⊢
        dsimp only at hG ⊢
        have hn : findG (gs ++ tail) [] = none := by
          cases hf2 : findG (gs ++ tail) [] with
          | none => rfl
          | some j => exact absurd rfl (hG.ne _ (List.mem_of_getElem? (findG_at hf2)))
        rw [enterG_nil hn hG.total]
        exact ⟨rfl, fun q => absurd rfl q⟩
      · rw [enterG_new hf hnil (by omega)] at hG ⊢
        dsimp only at hG ⊢
        have h1 : findG (gs ++ [r] ++ tail) r = some gs.length := found hG.nodup (by rw [List.append_assoc, List.getElem?_append_right (Nat.le_refl _)]; simp)
        rw [enterG_some h1]
        exact ⟨rfl, fun _ => by rw [List.append_assoc, firstOf_app (Nat.le_refl _), firstOf_len]⟩
theorem addG_again {gs tail : List (List Sb)} {ids : List Int} {g : List Sb} (h : (addG gs ids g).2.1 = 0) (hG : TabOk ((addG gs ids g).2.2 ++ tail)) : addG ((addG gs ids g).2.2 ++ tail) ids g = ((addG gs ids g).1, 0, (addG gs ids g).2.2 ++ tail) := by
  have p1 : g.all plainS = true := by
    by_cases p : g.all plainS = true
    · exact p
    · unfold addG at h; rw [if_pos p] at h; cases h
  have p2 : ids.all (inTab gs) = true := by
    by_cases p : ids.all (inTab gs) = true
    · exact p
    · unfold addG at h; rw [if_neg (fun q => q p1), if_pos p] at h; cases h
  have p3 : (rollG ids g).2 = true := by
    by_cases p : (rollG ids g).2 = true
    · exact p
    · unfold addG at h; rw [if_neg (fun q => q p1), if_neg (fun q => q p2), if_pos p] at h; cases h
  have p4 : (enterG gs (rollG ids g).1).2.1 = 0 := by
    by_cases p : (enterG gs (rollG ids g).1).2.1 = 0
    · exact p
    · unfold addG at h; rw [if_neg (fun q => q p1), if_neg (fun q => q p2), if_neg (fun q => q p3), if_pos p] at h; exact absurd h p
  have e : addG gs ids g = (ids ++ (List.range g.length).map (fun k : Nat => (enterG gs (rollG ids g).1).1 + (k : Int)), 0, (enterG gs (rollG ids g).1).2.2) := by
    unfold addG
    rw [if_neg (fun q => q p1), if_neg (fun q => q p2), if_neg (fun q => q p3), if_neg (fun q => q p4)]
  rw [e] at hG ⊢
  dsimp only at hG ⊢
  obtain ⟨k1, k2⟩ := enterG_again p4 hG
  have hfit := (enterG_fit p4).2
  have p2' : ids.all (inTab ((enterG gs (rollG ids g).1).2.2 ++ tail)) = true := List.all_eq_true.2 fun i hi => inTab_mono (by rw [total_app]; omega) (List.all_eq_true.1 p2 i hi)
  unfold addG
  rw [if_neg (fun q => q p1), if_neg (fun q => q p2'), if_neg (fun q => q p3), if_neg (by rw [k1]; simp), k1]
  congr 1
  by_cases hg : g = []
  · subst hg; rfl
  · rw [k2 (fun e0 => hg (List.length_eq_zero_iff.1 (by rw [← rollG_len ids g, e0]; rfl)))]
/-- The declared with another table. -/
def wg (d : DcS) (G : List (List Sb)) : DcS := { d with gs := G }
theorem addD_eq {d : DcS} {g : List Sb} {is : List Int} {gs' : List (List Sb)} {M : Int × Nat × List Int} (h : addG d.gs d.ids g = (is, 0, gs')) (hs : (standAll (d.types ++ g) g d.ids.length).1 = 0) (hm : matchAll (tabL gs') is g d.ids.length d.depths = M) :
    addD d g = (M.1, (if M.1 ≠ 0 then M.2.1 else 0), ⟨is, d.types ++ g, M.2.2, gs'⟩) := by
  unfold addD
  rw [h]
  dsimp only
  rw [if_neg (by simp), if_neg (fun q => q hs), hm]
theorem addD_again {d : DcS} {g : List Sb} {tail : List (List Sb)} (h : (addD d g).1 = 0) (hc : TabC d.gs) (_ : ∀ i ∈ d.ids, inTab d.gs i = true) (hG : TabOk ((addD d g).2.2.gs ++ tail)) : addD (wg d ((addD d g).2.2.gs ++ tail)) g = (0, 0, wg (addD d g).2.2 ((addD d g).2.2.gs ++ tail)) := by
  obtain ⟨q1, q2, q3, q4⟩ := addD_ok h
  have n2 : AddOk d.gs d.ids g (addG d.gs d.ids g) := by
    rcases addG_fact d.gs d.ids g with ⟨n, _⟩ | ⟨_, n⟩
    · exact absurd q1 n
    · exact n
  rw [addD_gs] at hG ⊢
  have ha := addG_again q1 hG
  have hE := ge_id tail (tabC_add (ids := d.ids) (g := g) hc)
  have hst : (standAll (d.types ++ g) g d.ids.length).1 = 0 := by
    by_cases p : (standAll (d.types ++ g) g d.ids.length).1 = 0
    · exact p
    · unfold addD at h
      dsimp only at h
      rw [if_neg (fun q => q q1), if_pos p] at h
      exact absurd h p
  have hmv := matchAll_move hE n2.inn g d.ids.length d.depths (by rw [n2.len]; exact Nat.le_refl _) (fun k s hk a ha => standsD_sup (standAll_zero g d.ids.length hst k s hk) a ha)
  rw [map_fI_id n2.inn] at hmv
  obtain ⟨M, hM⟩ : ∃ M, matchAll (tabL (addG d.gs d.ids g).2.2) (addG d.gs d.ids g).1 g d.ids.length d.depths = M := ⟨_, rfl⟩
  have e1 := addD_eq (d := d) (g := g) (is := (addG d.gs d.ids g).1) (gs' := (addG d.gs d.ids g).2.2) (by rw [← q1]) hst hM
  have e2 := addD_eq (d := wg d ((addG d.gs d.ids g).2.2 ++ tail)) (g := g) ha hst (hmv.trans hM)
  rw [e1] at h
  dsimp only at h
  rw [e2, e1]
  dsimp only [wg]
  rw [h]
  simp
theorem checkD_ext : ∀ (l : List (List Sb)) (d : DcS), ∃ t, (checkD d l).2.2.gs = d.gs ++ t
  | [], d => ⟨[], by simp [checkD]⟩
  | g :: l, d => by
    obtain ⟨t1, h1⟩ := addG_extD d.gs d.ids g
    rw [checkD]
    split
    · exact ⟨t1, by rw [addD_gs, h1]⟩
    · obtain ⟨t2, h2⟩ := checkD_ext l (addD d g).2.2
      exact ⟨t1 ++ t2, by rw [h2, addD_gs, h1, List.append_assoc]⟩
theorem checkD_again : ∀ (l : List (List Sb)) (d : DcS) (tail : List (List Sb)), (checkD d l).1 = 0 → TabC d.gs → (∀ i ∈ d.ids, inTab d.gs i = true) → TabOk ((checkD d l).2.2.gs ++ tail) → checkD (wg d ((checkD d l).2.2.gs ++ tail)) l = (0, 0, wg (checkD d l).2.2 ((checkD d l).2.2.gs ++ tail))
  | [], _, _, _, _, _, _ => rfl
  | g :: l, d, tail, h, hc, hin, hG => by
    have h1 : (addD d g).1 = 0 := by
      by_cases p : (addD d g).1 = 0
      · exact p
      · rw [checkD, if_pos p] at h; exact absurd h p
    have e : checkD d (g :: l) = checkD (addD d g).2.2 l := by rw [checkD, if_neg (fun q => q h1)]
    rw [e] at h hG ⊢
    obtain ⟨t, ht⟩ := checkD_ext l (addD d g).2.2
    have hG' : TabOk ((addD d g).2.2.gs ++ (t ++ tail)) := by rw [← List.append_assoc, ← ht]; exact hG
    have ha := addD_again h1 hc hin hG'
    rw [← List.append_assoc, ← ht] at ha
    obtain ⟨q1, q2, q3, q4⟩ := addD_ok h1
    have n2 : AddOk d.gs d.ids g (addG d.gs d.ids g) := by
      rcases addG_fact d.gs d.ids g with ⟨n, _⟩ | ⟨_, n⟩
      · exact absurd q1 n
      · exact n
    rw [checkD, ha, if_neg (by simp)]
    exact checkD_again l _ tail h (by rw [addD_gs]; exact tabC_add hc) (by rw [q2, addD_gs]; exact n2.inn) hG
/-- Declared again, over a table that has it. -/
theorem again_law {l : List (List Sb)} {gs tail : List (List Sb)} (h : (checkD ⟨[], [], [], gs⟩ l).1 = 0) (hc : TabC gs) (hG : TabOk ((checkD ⟨[], [], [], gs⟩ l).2.2.gs ++ tail)) : (checkD ⟨[], [], [], (checkD ⟨[], [], [], gs⟩ l).2.2.gs ++ tail⟩ l).1 = 0 ∧ (checkD ⟨[], [], [], (checkD ⟨[], [], [], gs⟩ l).2.2.gs ++ tail⟩ l).2.2.ids = (checkD ⟨[], [], [], gs⟩ l).2.2.ids ∧ (checkD ⟨[], [], [], (checkD ⟨[], [], [], gs⟩ l).2.2.gs ++ tail⟩ l).2.2.gs = (checkD ⟨[], [], [], gs⟩ l).2.2.gs ++ tail := by
  have h1 := checkD_again l ⟨[], [], [], gs⟩ tail h hc (by simp) hG
  have e : wg ⟨[], [], [], gs⟩ ((checkD ⟨[], [], [], gs⟩ l).2.2.gs ++ tail) = ⟨[], [], [], (checkD ⟨[], [], [], gs⟩ l).2.2.gs ++ tail⟩ := rfl
  rw [e] at h1
  rw [h1]
  exact ⟨rfl, rfl, rfl⟩
end Go.Proofs.YtkgmfbfpmlnfcaaGreatDoor
