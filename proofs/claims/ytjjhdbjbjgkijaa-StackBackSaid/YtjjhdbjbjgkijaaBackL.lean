/- Layer 14 (stack): plain laws for StackBack. -/
import Derived.Test.YtjjhdbjbjgkijaaWithin
namespace Go.Proofs.Ytjjhdbjbjgkijaa
open Go.RowKit Go.Maps Go.WideMaps

theorem proper_of_valB {v a : Vl} (h : valB v a = true) : properB a = true := by
  simp only [valB, Bool.and_eq_true] at h; exact h.1.2
theorem valB_refl {a : Vl} (h : properB a = true) : valB a a = true := by
  obtain ⟨k, nl, hp, n⟩ := a
  unfold valB
  simp only [h, Bool.true_and]
  by_cases h4 : k = 4
  · simp [h4]
  · by_cases h3 : k = 3
    · subst h3
      by_cases hn : neverB ⟨3, nl, hp, n⟩ = true
      · simp [hn]
      · have hg : givenB hp n = true := by
          simp only [properB, if_true] at h
          rcases Bool.or_eq_true_iff.1 h with h | h
          · exact absurd h hn
          · exact h
        simp [hn, heapB, hg]
    · simp [h4, h3]
theorem valB_not {a : Vl} (h : properB a = false) : valB a a = false := by simp [valB, h]
theorem valB_bot {x : Vl} : valB ⟨4, false, 0, 0⟩ x = properB x := by
  have : properB ⟨4, false, 0, 0⟩ = true := by decide
  simp [valB, this]
theorem valsB_iff (l m : List Vl) : valsB l m = true ↔ l.length = m.length ∧ ∀ i, i < l.length → valB (l.getD i zV) (m.getD i zV) = true := by
  simp [valsB, List.all_eq_true]
theorem popR_top {ht : Nat} {dead : Bool} {base : List Vl} (hb : ht ≤ base.length) (x : Vl) : popR ht dead (base ++ [x]) = (x, 0, base) := by
  unfold popR
  rw [if_neg (by simp; omega)]
  simp
theorem takeR_all (ht : Nat) (dead : Bool) (base : List Vl) (hb : ht ≤ base.length) : ∀ (xs ys : List Vl), xs.length = ys.length → (∀ i, i < xs.length → valB (xs.getD i zV) (ys.getD i zV) = true) → takeR ht dead ys (base ++ xs.reverse) = (0, base)
  | [], [], _, _ => by simp [takeR]
  | [], _ :: _, h, _ => by simp at h
  | _ :: _, [], h, _ => by simp at h
  | x :: xs, y :: ys, h, hv => by
    have h0 : valB x y = true := hv 0 (by simp)
    rw [List.reverse_cons, ← List.append_assoc]
    have hp := popR_top (dead := dead) (show ht ≤ (base ++ xs.reverse).length by simp; omega) x
    simp only [takeR, oneR, hp, h0, if_true]
    exact takeR_all ht dead base hb xs ys (by simpa using h) (fun i hi => hv (i + 1) (by simpa using hi))
theorem takeR_bad (ht : Nat) (dead : Bool) (base : List Vl) (hb : ht ≤ base.length) : ∀ (xs ys : List Vl), xs.length = ys.length → (∃ i, i < xs.length ∧ valB (xs.getD i zV) (ys.getD i zV) = false) → ∃ vs, takeR ht dead ys (base ++ xs.reverse) = (141, vs)
  | [], [], _, h => by obtain ⟨i, hi, _⟩ := h; simp at hi
  | [], _ :: _, h, _ => by simp at h
  | _ :: _, [], h, _ => by simp at h
  | x :: xs, y :: ys, h, hv => by
    rw [List.reverse_cons, ← List.append_assoc]
    have hp := popR_top (dead := dead) (show ht ≤ (base ++ xs.reverse).length by simp; omega) x
    by_cases h0 : valB x y = true
    · simp only [takeR, oneR, hp, h0, if_true]
      refine takeR_bad ht dead base hb xs ys (by simpa using h) ?_
      obtain ⟨i, hi, hf⟩ := hv
      cases i with
      | zero => simp at hf; rw [h0] at hf; cases hf
      | succ i => exact ⟨i, by simpa using hi, by simpa using hf⟩
    · refine ⟨base ++ xs.reverse, ?_⟩
      unfold takeR oneR
      simp only [hp]
      simp [h0]
theorem getD_reverse (l : List Vl) (i : Nat) (hi : i < l.length) : l.reverse.getD i zV = l.getD (l.length - 1 - i) zV := by
  rw [List.getD_eq_getElem?_getD, List.getD_eq_getElem?_getD, List.getElem?_reverse hi]
theorem take_fits (ht : Nat) (dead : Bool) (base l az : List Vl) (hb : ht ≤ base.length) (h : valsB l az = true) : takeR ht dead az.reverse (base ++ l) = (0, base) := by
  obtain ⟨hl, hv⟩ := (valsB_iff l az).1 h
  have := takeR_all ht dead base hb l.reverse az.reverse (by simpa using hl) (fun i hi => by
    have hi' : i < l.length := by simpa using hi
    rw [getD_reverse l i hi', getD_reverse az i (by omega), ← hl]
    exact hv _ (by omega))
  rwa [List.reverse_reverse] at this
theorem take_unfit (ht : Nat) (dead : Bool) (base l az : List Vl) (hb : ht ≤ base.length) (hl : l.length = az.length) (h : valsB l az = false) : ∃ vs, takeR ht dead az.reverse (base ++ l) = (141, vs) := by
  have hne : ¬ ∀ i, i < l.length → valB (l.getD i zV) (az.getD i zV) = true := fun hv => by
    have := (valsB_iff l az).2 ⟨hl, hv⟩
    rw [h] at this; cases this
  have hex : ∃ i, i < l.length ∧ valB (l.getD i zV) (az.getD i zV) = false := by
    apply Classical.byContradiction
    intro hc
    exact hne fun i hi => by
      cases hb : valB (l.getD i zV) (az.getD i zV) with
      | true => rfl
      | false => exact absurd ⟨i, hi, hb⟩ hc
  obtain ⟨i, hi, hf⟩ := hex
  have := takeR_bad ht dead base hb l.reverse az.reverse (by simpa using hl) ⟨l.length - 1 - i, by simp; omega, by
    rw [getD_reverse l _ (by omega), getD_reverse az _ (by omega), ← hl, show l.length - 1 - (l.length - 1 - i) = i by omega]
    exact hf⟩
  rwa [List.reverse_reverse] at this
theorem takeR_proper (ht : Nat) : ∀ (ys vals : List Vl) (vs : List Vl), takeR ht false ys vals = (0, vs) → ∀ y ∈ ys, properB y = true
  | [], _, _, _, y, hy => by simp at hy
  | y :: ys, vals, vs, h, z, hz => by
    unfold takeR at h
    split at h
    · rename_i h0
      rcases List.mem_cons.1 hz with rfl | hz
      · unfold oneR at h0
        split at h0
        · split at h0
          · rename_i hv; exact proper_of_valB hv
          · simp at h0
        · rename_i hne; exact absurd h0 hne
      · exact takeR_proper ht ys _ vs h z hz
    · rename_i h0
      rw [h] at h0
      exact absurd rfl h0
theorem valsB_self {l : List Vl} (h : ∀ y ∈ l, properB y = true) : valsB l l = true := by
  refine (valsB_iff l l).2 ⟨rfl, fun i hi => valB_refl (h _ ?_)⟩
  rw [List.getD_eq_getElem?_getD, List.getElem?_eq_getElem hi]
  exact List.getElem_mem hi
theorem takeR_dead2 {n : Nat} {vals : List Vl} (h : vals.length ≤ n) : ∀ l : List Vl, ∃ er, takeR n true l vals = (er, vals) ∧ (er = 0 ∨ (er = 141 ∧ ∃ x ∈ l, properB x = false))
  | [] => ⟨0, rfl, .inl rfl⟩
  | x :: l => by
    unfold takeR
    simp only [oneR, popR_dead h, valB_bot]
    by_cases hv : properB x = true
    · simp only [hv, if_true]
      obtain ⟨er, h1, h2⟩ := takeR_dead2 h l
      refine ⟨er, h1, h2.imp id fun ⟨a, y, hy, b⟩ => ⟨a, y, by simp [hy], b⟩⟩
    · exact ⟨141, by simp [hv], .inr ⟨rfl, x, by simp, by simpa using hv⟩⟩
theorem valsB_unself {l : List Vl} (h : ∃ x ∈ l, properB x = false) : valsB l l = false := by
  obtain ⟨x, hx, hp⟩ := h
  cases hv : valsB l l with
  | false => rfl
  | true =>
    obtain ⟨i, hi, rfl⟩ := List.getElem_of_mem hx
    have h1 := ((valsB_iff l l).1 hv).2 i hi
    rw [List.getD_eq_getElem?_getD, List.getElem?_eq_getElem hi] at h1
    have h2 := valB_not hp
    simp only [Option.getD_some] at h1
    rw [h2] at h1; cases h1
end Go.Proofs.Ytjjhdbjbjgkijaa
