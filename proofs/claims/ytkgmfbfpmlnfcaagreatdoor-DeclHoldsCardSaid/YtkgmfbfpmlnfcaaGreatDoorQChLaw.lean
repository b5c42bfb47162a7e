/- package chain: what the lines of a table's types are (no program in sight). -/
import Derived.Test.YtkgmfbfpmlnfcaaGreatDoorQChPlain
import Derived.Test.YtkgmfbfpmlnfcaaGreatDoorQRoNoneP
namespace Go.Proofs.YtkgmfbfpmlnfcaaGreatDoor
open Go.RowKit

/-- Each line is its Super's one, and the type itself behind. -/
structure LineOk (ts : List Sb) (L : List (List Nat)) : Prop where
  le : L.length ≤ ts.length
  ex : ∀ (id : Nat) p, L[id]? = some p → ∃ y, ts[id]? = some y ∧ ((y.sups = [] ∧ p = [id]) ∨ ∃ (m : Nat) (q : List Nat), y.sups = [⟨15, m⟩] ∧ m < id ∧ L[m]? = some q ∧ q.length < 64 ∧ p = q ++ [id])
section
variable {ts : List Sb} {L : List (List Nat)}
theorem LineOk.nil : LineOk ts [] := ⟨Nat.zero_le _, fun id p h => by simp at h⟩
theorem getD_some {α : Type} {l : List α} {i : Nat} {x d : α} (h : l[i]? = some x) : l.getD i d = x := by rw [List.getD_eq_getElem?_getD, h]; rfl
theorem LineOk.next (h : LineOk ts L) {y : Sb} (hy : ts[L.length]? = some y) (he : (nextL L L.length y.sups).1 = 0) : LineOk ts (L ++ [(nextL L L.length y.sups).2]) := by
  have hlt := (List.getElem?_eq_some_iff.1 hy).1
  have hold : ∀ {m : Nat} {q : List Nat}, L[m]? = some q → (L ++ [(nextL L L.length y.sups).2])[m]? = some q := fun {m q} hm => by
    rw [List.getElem?_append_left (List.getElem?_eq_some_iff.1 hm).1]; exact hm
  refine ⟨by simp; omega, fun id p hp => ?_⟩
  by_cases hi : id < L.length
  · rw [List.getElem?_append_left hi] at hp
    obtain ⟨z, hz, h1 | ⟨m, q, h1, h2, h3, h4⟩⟩ := h.ex id p hp
    · exact ⟨z, hz, .inl h1⟩
    · exact ⟨z, hz, .inr ⟨m, q, h1, h2, hold h3, h4⟩⟩
  · have h1 := (List.getElem?_eq_some_iff.1 hp).1
    simp at h1
    obtain rfl : id = L.length := by omega
    simp at hp
    subst hp
    refine ⟨y, hy, ?_⟩
    obtain ⟨ss, hss⟩ : ∃ ss, y.sups = ss := ⟨_, rfl⟩
    rw [hss] at he hold ⊢
    rcases ss with _ | ⟨s, _ | ⟨s2, r⟩⟩
    · exact .inl ⟨rfl, rfl⟩
    · unfold nextL at he hold ⊢
      dsimp only at he hold ⊢
      split at he
      · simp at he
      · rename_i h1
        split at he
        · simp at he
        · rename_i h2
          rw [if_neg h1, if_neg h2] at hold
          rw [if_neg h1, if_neg h2]
          obtain ⟨k, n⟩ := s
          dsimp only at h1 h2 hold ⊢
          obtain ⟨q, hq⟩ : ∃ q, L[n.toNat]? = some q := ⟨L[n.toNat]'(by omega), by simp⟩
          rw [getD_some hq] at h2 hold ⊢
          exact .inr ⟨n.toNat, q, by rw [Int.toNat_of_nonneg (by omega), show k = 15 by omega], by omega, hold hq, by omega, rfl⟩
    · unfold nextL at he; simp at he
theorem growL_ok (h : LineOk ts L) (n : Nat) : LineOk ts (growL ts n L).2 := by
  induction n generalizing L with
  | zero => exact h
  | succ n ih =>
    unfold growL
    split
    · exact h
    · rename_i y hy
      split
      · rename_i he; exact ih (h.next hy he)
      · exact h
theorem growL_len (n : Nat) : (growL ts n L).1 = 0 → ts.length - L.length ≤ n → L.length ≤ ts.length → (growL ts n L).2.length = ts.length := by
  induction n generalizing L with
  | zero => intro _ h1 h2; simp [growL]; omega
  | succ n ih =>
    unfold growL
    split
    · rename_i hn
      intro _ _ h2
      have := List.getElem?_eq_none_iff.1 hn
      dsimp only; omega
    · rename_i y hy
      have hlt := (List.getElem?_eq_some_iff.1 hy).1
      split
      · intro h0 h1 h2
        exact ih h0 (by simp; omega) (by simp; omega)
      · intro h0; rename_i hne; exact absurd h0 hne
theorem LineOk.pre (h : LineOk ts L) : ∀ (id : Nat) p, L[id]? = some p → ∀ (j : Nat) k, p[j]? = some k → L[k]? = some (p.take (j + 1)) := by
  intro id
  induction id using Nat.strongRecOn with
  | _ id ih =>
    intro p hp j k hk
    obtain ⟨y, hy, ⟨h1, rfl⟩ | ⟨m, q, h1, h2, h3, h4, rfl⟩⟩ := h.ex id p hp
    · have hj := (List.getElem?_eq_some_iff.1 hk).1
      simp at hj
      subst hj
      simp at hk
      subst hk
      simpa using hp
    · by_cases hj : j < q.length
      · rw [List.getElem?_append_left hj] at hk
        rw [List.take_append_of_le_length (by omega)]
        exact ih m h2 q h3 j k hk
      · have hj2 := (List.getElem?_eq_some_iff.1 hk).1
        simp at hj2
        obtain rfl : j = q.length := by omega
        simp at hk
        subst hk
        rw [List.take_of_length_le (by simp)]
        exact hp
theorem LineOk.mem (h : LineOk ts L) {id : Nat} {p : List Nat} (hp : L[id]? = some p) {k : Nat} (hk : k ∈ p) : ∃ j, p[j]? = some k ∧ L[k]? = some (p.take (j + 1)) := by
  obtain ⟨j, hj⟩ := List.getElem?_of_mem hk
  exact ⟨j, hj, h.pre id p hp j k hj⟩
theorem LineOk.lt (h : LineOk ts L) {id : Nat} {p : List Nat} (hp : L[id]? = some p) {k : Nat} (hk : k ∈ p) : k < L.length := by
  obtain ⟨j, _, h2⟩ := h.mem hp hk
  exact (List.getElem?_eq_some_iff.1 h2).1
theorem LineOk.last (h : LineOk ts L) {id : Nat} {p : List Nat} (hp : L[id]? = some p) : p.getLast? = some id ∧ p ≠ [] ∧ p.length ≤ 64 ∧ p[p.length - 1]? = some id := by
  obtain ⟨y, hy, ⟨h1, rfl⟩ | ⟨m, q, h1, h2, h3, h4, rfl⟩⟩ := h.ex id p hp
  · simp
  · refine ⟨by simp, by simp, by simp; omega, by simp⟩
theorem LineOk.nodup (h : LineOk ts L) {id : Nat} {p : List Nat} (hp : L[id]? = some p) : p.Nodup := by
  refine List.pairwise_iff_getElem.2 fun i j hi hj hij he => ?_
  have h1 := h.pre id p hp i p[i] (by simp)
  have h2 := h.pre id p hp j p[i] (by rw [he]; simp)
  rw [h1] at h2
  have h3 := congrArg List.length (Option.some.inj h2)
  simp at h3
  omega
/-- Who stands in a line is who the type is below. -/
theorem LineOk.below (h : LineOk ts L) {a b : Nat} {p : List Nat} (hp : L[a]? = some p) : belowL L a b = true ↔ b ∈ p := by
  have ha := (List.getElem?_eq_some_iff.1 hp).1
  unfold belowL
  simp only [Bool.and_eq_true, decide_eq_true_eq]
  constructor
  · rintro ⟨⟨⟨⟨_, _⟩, _⟩, hb⟩, h1, h2⟩
    have hb' : b < L.length := by omega
    obtain ⟨q, hq⟩ : ∃ q, L[b]? = some q := ⟨L[b], by simp [hb']⟩
    simp only [Int.toNat_natCast] at h1 h2
    rw [getD_some hp, getD_some hq] at h1 h2
    have hl := h.last hq
    have hq0 : 0 < q.length := List.length_pos_iff.2 hl.2.1
    have h3 : p[q.length - 1]? = some b := by
      rw [List.getD_eq_getElem?_getD] at h1
      obtain ⟨x, hx⟩ : ∃ x, p[q.length - 1]? = some x := ⟨p[q.length - 1]'(by omega), by simp⟩
      rw [hx] at h1 ⊢
      simp at h1; rw [h1]
    exact List.mem_of_getElem? h3
  · intro hb
    obtain ⟨j, hj, hL⟩ := h.mem hp hb
    have hbl := h.lt hp hb
    have hjl := (List.getElem?_eq_some_iff.1 hj).1
    refine ⟨⟨⟨⟨by omega, by omega⟩, by omega⟩, by omega⟩, ?_, ?_⟩
    · simp only [Int.toNat_natCast]
      rw [getD_some hp, getD_some hL, List.length_take, Nat.min_eq_left (by omega), Nat.add_sub_cancel, getD_some hj]
    · simp only [Int.toNat_natCast]
      rw [getD_some hp, getD_some hL, List.length_take]
      omega
theorem belowL_out {a b : Int} (h : ¬ (0 ≤ a ∧ a < L.length) ∨ ¬ (0 ≤ b ∧ b < L.length)) : belowL L a b = false := by
  rw [Bool.eq_false_iff]
  unfold belowL
  intro he
  simp only [Bool.and_eq_true, decide_eq_true_eq] at he
  omega
theorem LineOk.count (h : LineOk ts L) {a : Nat} {p : List Nat} (hp : L[a]? = some p) : ((List.range L.length).filter fun k => belowL L a (k : Nat)).length = p.length := by
  apply List.Perm.length_eq
  rw [List.perm_ext_iff_of_nodup (List.nodup_range.filter _) (h.nodup hp)]
  intro k
  rw [List.mem_filter, List.mem_range]
  constructor
  · rintro ⟨_, hk⟩; exact (h.below hp).1 hk
  · intro hk; exact ⟨h.lt hp hk, (h.below hp).2 hk⟩
/-- What is reached by Supers stands in the line. -/
theorem LineOk.up (h : LineOk ts L) : ∀ (a : Nat) p, L[a]? = some p → ∀ b, UpTo ts a b ↔ b ∈ p := by
  intro a
  induction a using Nat.strongRecOn with
  | _ a ih =>
    intro p hp b
    constructor
    · intro hu
      induction hu with
      | refl => exact List.mem_of_getElem? (h.last hp).2.2.2
      | step _ h3 h4 h5 ih2 =>
        obtain ⟨j, hj, hL⟩ := h.mem hp ih2
        obtain ⟨y, hy, ⟨h1, _⟩ | ⟨m, q, h1, _, h2, _, h6⟩⟩ := h.ex _ _ hL
        · rw [h3] at hy; obtain rfl := Option.some.inj hy
          rw [h1] at h4; simp at h4
        · rw [h3] at hy; obtain rfl := Option.some.inj hy
          rw [h1] at h4
          simp at h4
          subst h4
          have h7 := h.last h2
          have hm : m ∈ p.take (j + 1) := by
            rw [h6, List.mem_append]
            exact .inl (List.mem_of_getElem? h7.2.2.2)
          have h8 := List.mem_of_mem_take hm
          rwa [Int.ofNat_inj.1 h5] at h8
    · intro hb
      obtain ⟨y, hy, ⟨h1, rfl⟩ | ⟨m, q, h1, h2, h3, _, rfl⟩⟩ := h.ex a p hp
      · simp at hb; rw [hb]; exact .refl
      · rw [List.mem_append] at hb
        rcases hb with hb | hb
        · exact (UpTo.step (.refl) hy (by rw [h1]; exact List.mem_singleton.2 rfl) rfl).trans ((ih m h2 q h3 b).2 hb)
        · simp at hb; rw [hb]; exact .refl
theorem LineOk.le_of (h : LineOk ts L) : ∀ (a : Nat) p, L[a]? = some p → ∀ b ∈ p, b ≤ a := by
  intro a
  induction a using Nat.strongRecOn with
  | _ a ih =>
    intro p hp b hb
    obtain ⟨y, hy, ⟨h1, rfl⟩ | ⟨m, q, h1, h2, h3, _, rfl⟩⟩ := h.ex a p hp
    · simp at hb; omega
    · rw [List.mem_append] at hb
      rcases hb with hb | hb
      · have := ih m h2 q h3 b hb; omega
      · simp at hb; omega
end
end Go.Proofs.YtkgmfbfpmlnfcaaGreatDoor
