/- package roll: which numbers Add tells (no program in sight); lists of groups in memory. -/
import Derived.Test.YtmjehnjodaicfaaDoorRoClose
namespace Go.Proofs.YtmjehnjodaicfaaDoor
open Go.RowKit Go.Maps Go.WideMaps

theorem firstOf_add {gs : List (List Sb)} {i : Nat} {g : List Sb} (h : gs[i]? = some g) : firstOf gs i + g.length ≤ total gs := by
  have h1 := firstOf_le gs (i + 1)
  have h2 : firstOf gs (i + 1) = firstOf gs i + g.length := by
    unfold firstOf
    rw [List.take_add_one, h]
    exact total_snoc _ _
  omega
theorem enterG_fit {gs : List (List Sb)} {g : List Sb} (he : (enterG gs g).2.1 = 0) : (enterG gs g).1 + g.length ≤ total (enterG gs g).2.2 ∧ total gs ≤ total (enterG gs g).2.2 := by
  revert he
  unfold enterG
  cases hf : findG gs g with
  | some i =>
    intro _
    obtain ⟨hlt, hx, _⟩ := List.findIdx?_eq_some_iff_getElem.1 hf
    have hgi : gs[i]? = some g := by rw [List.getElem?_eq_getElem hlt]; simpa using hx
    have := firstOf_add hgi
    dsimp only; omega
  | none =>
    dsimp only
    split
    · intro h; cases h
    · split
      · rename_i h; intro _; subst h; simp
      · intro _; dsimp only; rw [total_snoc]; omega
structure AddOk (gs : List (List Sb)) (ids : List Int) (g : List Sb) (A : List Int × Int × List (List Sb)) : Prop where
  inn : ∀ i ∈ A.1, inTab A.2.2 i = true
  len : A.1.length = ids.length + g.length
theorem inTab_mono {gs gs' : List (List Sb)} (h : total gs ≤ total gs') {i : Int} (hi : inTab gs i = true) : inTab gs' i = true := by
  simp [inTab] at hi ⊢; omega
theorem addG_fact (gs : List (List Sb)) (ids : List Int) (g : List Sb) : ((addG gs ids g).2.1 ≠ 0 ∧ (addG gs ids g).1 = [] ∧ (addG gs ids g).2.2 = gs) ∨ ((addG gs ids g).2.1 = 0 ∧ AddOk gs ids g (addG gs ids g)) := by
  unfold addG
  split
  · exact .inl ⟨by simp, rfl, rfl⟩
  · split
    · exact .inl ⟨by simp, rfl, rfl⟩
    · rename_i h2
      split
      · exact .inl ⟨by simp, rfl, rfl⟩
      · split
        · rename_i h4
          exact .inl ⟨h4, rfl, rfl⟩
        · rename_i h4
          have h4 : (enterG gs (rollG ids g).1).2.1 = 0 := by simpa using h4
          obtain ⟨f1, f2⟩ := enterG_fit h4
          rw [rollG_len] at f1
          have f0 := enterG_first (gs := gs) (g := (rollG ids g).1)
          refine .inr ⟨rfl, ⟨fun i hi => ?_, by simp⟩⟩
          simp only [List.mem_append, List.mem_map, List.mem_range] at hi
          rcases hi with hi | ⟨k, hk, rfl⟩
          · have h := h2
            simp only [Decidable.not_not, List.all_eq_true] at h
            exact inTab_mono f2 (h i hi)
          · simp [inTab]; omega
/-- A list of groups in memory. -/
structure GrpsAt (w : World) (v : Value) (l : List (List Sb)) : Prop where
  ex : ∃ vs : List Value, vs.length = l.length ∧ RowAt w 1 v l.length vs ∧ ∀ (i : Nat) x g, vs[i]? = some x → l[i]? = some g → GrpAt w x g
theorem GrpsAt.form {w : World} {v : Value} {l : List (List Sb)} (h : GrpsAt w v l) : ∃ ao cap, v = .slice ao l.length cap := by
  obtain ⟨_, _, h, _⟩ := h.ex; exact RowAt.form h
theorem GrpsAt.keep {w w' : World} {v : Value} {l : List (List Sb)} (h : GrpsAt w v l) (hk : ∀ p u, w.cell? p = some u → w'.cell? p = some u) : GrpsAt w' v l := by
  obtain ⟨vs, h1, h2, h3⟩ := h.ex
  exact ⟨vs, h1, h2.keep hk, fun i x g hx hg => (h3 i x g hx hg).keep hk⟩
theorem GrpsAt.below {w w' : World} {B : Nat} {v : Value} {l : List (List Sb)} (h : GrpsAt w v l) (hb : Below B w w') (hB : w.heap.size ≤ B) : GrpsAt w' v l :=
  h.keep fun p u hp => by rw [hb.cell (Nat.lt_of_lt_of_le (World.block_lt_of_cell? _ _ hp) hB)]; exact hp
theorem GrpsAt.at {w : World} {ao : Option Addr} {cap : Nat} {l : List (List Sb)} (h : GrpsAt w (.slice ao l.length cap) l) {i : Nat} {g : List Sb} (hi : l[i]? = some g) : ∃ b off a c, ao = some ⟨b, off, none⟩ ∧ w.cell? ⟨b, off + i, none⟩ = some (.slice a g.length c) ∧ GrpAt w (.slice a g.length c) g := by
  have hlt := (List.getElem?_eq_some_iff.1 hi).1
  obtain ⟨vs, h1, h2, h3⟩ := h.ex
  obtain ⟨b, off, rfl, _, _, hc⟩ := RowAt.at h2 (by decide) (by omega)
  obtain ⟨x, hx⟩ : ∃ x, vs[i]? = some x := ⟨vs[i]'(by omega), by simp⟩
  have hg := h3 i x g hx hi
  obtain ⟨a, c, rfl⟩ := hg.form
  exact ⟨b, off, a, c, rfl, by rw [hc i (by omega), hx], hg⟩
/-- Groups that came in. -/
def RawL (l : List (List Sb)) : Prop := ∀ g ∈ l, ∀ x ∈ g, Fits x ∧ cnt x ≤ 1000000
end Go.Proofs.YtmjehnjodaicfaaDoor
