/- RollOnce's plain law: the numbers of groups that a table holds (no program in sight). -/
import Derived.Test.YtmjehnjodaicfaaDoorQRoOnceP
namespace Go.Proofs.YtmjehnjodaicfaaDoor
open Go.RowKit

theorem findG_mem {gs : List (List Sb)} {r : List Sb} (h : r ∈ gs) : ∃ i, findG gs r = some i ∧ gs[i]? = some r := by
  cases hf : findG gs r with
  | none =>
    have := List.findIdx?_eq_none_iff.1 hf r h
    simp at this
  | some i =>
    obtain ⟨hlt, hx, _⟩ := List.findIdx?_eq_some_iff_getElem.1 hf
    exact ⟨i, rfl, by rw [List.getElem?_eq_getElem hlt]; simpa using hx⟩
/-- The first number of a group that the table holds. -/
def firstG (gs : List (List Sb)) (r : List Sb) : Int := (enterG gs r).1
theorem enterG_held {gs : List (List Sb)} {r : List Sb} (h : r ∈ gs) : enterG gs r = (firstG gs r, 0, gs) := by
  obtain ⟨i, h1, _⟩ := findG_mem h
  unfold firstG enterG
  rw [h1]
theorem firstOf_lt {gs : List (List Sb)} (hne : ∀ g ∈ gs, g ≠ []) {i j : Nat} (hij : i < j) (hj : j < gs.length) : firstOf gs i < firstOf gs j := by
  obtain ⟨g, hg⟩ : ∃ g, gs[i]? = some g := ⟨gs[i]'(by omega), by simp⟩
  have h1 : firstOf gs (i + 1) = firstOf gs i + g.length := by
    unfold firstOf; rw [List.take_add_one, hg]; exact total_snoc _ _
  have h2 := List.length_pos_iff.2 (hne g (List.mem_of_getElem? hg))
  have h3 := firstOf_mono gs (show i + 1 ≤ j by omega)
  omega
theorem firstG_iff {gs : List (List Sb)} (hne : ∀ g ∈ gs, g ≠ []) {r s : List Sb} (hr : r ∈ gs) (hs : s ∈ gs) : firstG gs r = firstG gs s ↔ r = s := by
  constructor
  · intro e
    obtain ⟨i, h1, h2⟩ := findG_mem hr
    obtain ⟨j, k1, k2⟩ := findG_mem hs
    have e1 : firstG gs r = (firstOf gs i : Nat) := by unfold firstG enterG; rw [h1]
    have e2 : firstG gs s = (firstOf gs j : Nat) := by unfold firstG enterG; rw [k1]
    rw [e1, e2] at e
    have hi := (List.getElem?_eq_some_iff.1 h2).1
    have hj := (List.getElem?_eq_some_iff.1 k2).1
    have : i = j := by
      rcases Nat.lt_trichotomy i j with h | h | h
      · have := firstOf_lt hne h hj; omega
      · exact h
      · have := firstOf_lt hne h hi; omega
    subst this
    rw [h2] at k2
    exact Option.some.inj k2
  · intro e; rw [e]
/-- What a table holds it holds under the same numbers when it has grown. -/
theorem firstG_grow {gs : List (List Sb)} {r g : List Sb} (hr : r ∈ gs) : firstG (gs ++ [g]) r = firstG gs r := by
  obtain ⟨i, h1, h2⟩ := findG_mem hr
  have hi := (List.getElem?_eq_some_iff.1 h2).1
  have h3 : findG (gs ++ [g]) r = some i := by
    unfold findG at h1 ⊢
    rw [List.findIdx?_append, h1]; rfl
  unfold firstG enterG
  rw [h1, h3]
  dsimp only
  rw [firstOf_snoc (by omega)]
/-- Behind an Add that went well the table holds the group, rolled up, under the number that was told; what it held it holds. -/
theorem addG_holds {gs : List (List Sb)} {ids : List Int} {g : List Sb} (he : (addG gs ids g).2.1 = 0) (hne : g ≠ []) :
    (rollG ids g).1 ∈ (addG gs ids g).2.2 ∧ (addG gs ids g).1[ids.length]? = some (firstG (addG gs ids g).2.2 (rollG ids g).1) ∧ (∀ x ∈ g, plainS x = true) ∧ (rollG ids g).2 = true ∧
      ((addG gs ids g).2.2 = gs ∨ (addG gs ids g).2.2 = gs ++ [(rollG ids g).1]) := by
  revert he
  unfold addG
  split
  · intro h; cases h
  rename_i p1
  split
  · intro h; cases h
  split
  · intro h; cases h
  rename_i p3
  split
  · rename_i h4; intro h; exact absurd h h4
  rename_i h4
  intro _
  have h4 : (enterG gs (rollG ids g).1).2.1 = 0 := by simpa using h4
  have p3 : (rollG ids g).2 = true := by simpa using p3
  have p1 : ∀ x ∈ g, plainS x = true := by
    simp only [Decidable.not_not, List.all_eq_true] at p1; exact p1
  have hrn : (rollG ids g).1 ≠ [] := fun e => by
    have := rollG_len ids g
    rw [e] at this
    exact hne (List.length_eq_zero_iff.1 this.symm)
  obtain ⟨j, e1, e2⟩ := enterG_loc h4 hrn
  have hmem := List.mem_of_getElem? e1
  have hgl := List.length_pos_iff.2 hne
  have hshape : (enterG gs (rollG ids g).1).2.2 = gs ∨ (enterG gs (rollG ids g).1).2.2 = gs ++ [(rollG ids g).1] := by
    unfold enterG
    cases findG gs (rollG ids g).1 with
    | some i => exact .inl rfl
    | none =>
      dsimp only
      split
      · exact .inl rfl
      · exact .inr rfl
  have hfirst : (enterG gs (rollG ids g).1).1 = firstG (enterG gs (rollG ids g).1).2.2 (rollG ids g).1 := by
    rcases hshape with h | h
    · rw [h]; rfl
    · by_cases hm : (rollG ids g).1 ∈ gs
      · rw [enterG_held hm]
      · rw [h]
        have hf : findG gs (rollG ids g).1 = none := by
          cases hff : findG gs (rollG ids g).1 with
          | none => rfl
          | some i =>
            obtain ⟨hlt, hx, _⟩ := List.findIdx?_eq_some_iff_getElem.1 hff
            exact absurd (by have hx : gs[i] = (rollG ids g).1 := by simpa using hx
                             rw [← hx]; exact List.getElem_mem _) hm
        have hf2 : findG (gs ++ [(rollG ids g).1]) (rollG ids g).1 = some gs.length := by
          unfold findG at hf ⊢
          rw [List.findIdx?_append, hf]
          simp
        have e3 : firstG (gs ++ [(rollG ids g).1]) (rollG ids g).1 = (firstOf (gs ++ [(rollG ids g).1]) gs.length : Nat) := by
          unfold firstG enterG; rw [hf2]
        rw [e3, firstOf_snoc (Nat.le_refl _), firstOf_len]
        unfold enterG at h ⊢
        rw [hf] at h ⊢
        dsimp only at h ⊢
        split
        · rename_i hfull
          rw [if_pos hfull] at h
          have := congrArg List.length h
          simp at this
        · rfl
  refine ⟨hmem, ?_, p1, p3, hshape⟩
  rw [List.getElem?_append_right (Nat.le_refl _), Nat.sub_self, List.getElem?_map, List.getElem?_range hgl]
  simp [hfirst]
/-- A group that the table holds, moved behind other types of the table: the same numbers, and the table stands. -/
theorem addG_moved {gs : List (List Sb)} {beh : List Int} {g : List Sb} (hbeh : ∀ i ∈ beh, inTab gs i = true) (hg : ∀ x ∈ g, plainS x = true) (og : (rollG [] g).2 = true) (hr : (rollG [] g).1 ∈ gs) (hl : g.length + beh.length ≤ 1000) :
    addG gs beh (g.map (mapP (shiftH beh.length))) = (beh ++ (List.range g.length).map (fun k : Nat => firstG gs (rollG [] g).1 + (k : Int)), 0, gs) := by
  have h1 : (g.map (mapP (shiftH beh.length))).all plainS = true := by
    rw [List.all_eq_true]
    intro y hy
    obtain ⟨x, hx, rfl⟩ := List.mem_map.1 hy
    exact plain_shift hl (hg x hx) (alone_of hx (hg x hx) og)
  have h2 : beh.all (inTab gs) = true := by rw [List.all_eq_true]; exact hbeh
  have h3 := moved_can (beh := beh) hg og
  have h4 := rollG_moved (beh := beh) hg og
  unfold addG
  rw [if_neg (by simpa using h1), if_neg (by simpa using h2), if_neg (by simpa using h3), h4, enterG_held hr, if_neg (by simp)]
  simp
end Go.Proofs.YtmjehnjodaicfaaDoor

/- geodelaw09: the closure of RollOnce. -/
namespace Go.Proofs.YtmjehnjodaicfaaDoor
open Go.RowKit Go.Maps Go.WideMaps

set_option maxRecDepth 100000 in
set_option maxHeartbeats 8000000 in
theorem shift_ok (W0 : World) (B b a : Nat) (hb : W0.heap[b]? = some (.cells #[.int .i64 a] 3 (0, 0))) (hB : b < B) (ha : a ≤ 1000) :
    FnOk Tryd.prog cellsH DIdx 14 #[.pointer (some ⟨b, 0, none⟩)] (fun (s : Unit) h => (shiftH a h, s)) (PureJ W0 B) B where
  enter := fun _ _ => rfl
  lt := fun h => ⟨fun b hb => (h.t b hb).elim, h.le⟩
  keep := fun h u => ⟨h.be.trans (u.below (fun k hk => hk.1) h.le), h.t, Nat.le_trans h.le u.size⟩
  less := fun h _ => ⟨h.be, h.t, h.le⟩
  call := by
    intro s n T w x hd hj
    obtain ⟨k, m⟩ := x
    rw [show cellsH ⟨k, m⟩ = [.int .i64 k, .int .i64 m] from rfl]
    show Calls Tryd.prog 14 #[.agg #[.int .i64 k, .int .i64 m], .pointer (some ⟨b, 0, none⟩)] w _
    have zb : w.heap[b]? = some (.cells #[.int .i64 a] 3 (0, 0)) := by rw [hj.be.block b hB]; exact hb
    have cb0 := heap_cell zb 0
    simp at cb0
    have cb := cell_alloc (cell_alloc cb0 (.cells #[.int .i64 k, .int .i64 m] 26)) (.cells #[.int .i64 0, .int .i64 0] 26)
    have HJ := Lib.hid hj; have HD := Lib.hid hd
    clear zb hb hj hd cb0 hB
    have fin : ∀ W', Below w.heap.size w W' → ∃ T', PureJ W0 B () n T' W' ∧ Upd T w W' ∧ Fresh T w T' := fun W' h =>
      ⟨T, ⟨HJ.out.be.trans (h.mono HJ.out.le), HJ.out.t, Nat.le_trans HJ.out.le h.size⟩, Upd.of_below h, Fresh.refl _ _⟩
    have FIN := Lib.hid fin
    clear fin
    by_cases hk : k = 13
    · subst hk
      obtain ⟨hm0, hm1⟩ := HD.out rfl
      dsimp only at hm0 hm1
      have hu : shiftH a ⟨13, m⟩ = ⟨13, m + a⟩ := rfl
      go_enter Tryd.func14, Tryd.ntmps14
      go_wp2
      refine bodyPost_ret (v := .agg #[.int .i64 13, .int .i64 (m + a)]) (by simp [results, Tryd.results14, go_sem]) rfl ?_
      obtain ⟨T', h1, h2, h3⟩ := FIN.out _ (((Below.refl _ w).alloc (Nat.le_refl _) (.cells #[.int .i64 13, .int .i64 (m + a)] 26)).alloc (by simp) (.cells #[.int .i64 13, .int .i64 (m + a)] 26))
      exact ⟨T', rfl, h1, h2, h3⟩
    · have hk' : (k == 13) = false := by simpa using hk
      have hu : shiftH a ⟨k, m⟩ = ⟨k, m⟩ := by unfold shiftH; rw [if_neg hk]
      dsimp only
      rw [hu]
      clear hk
      go_enter Tryd.func14, Tryd.ntmps14
      go_wp2
      refine bodyPost_ret (v := .agg #[.int .i64 k, .int .i64 m]) (by simp [results, Tryd.results14, go_sem]) rfl ?_
      obtain ⟨T', h1, h2, h3⟩ := FIN.out _ (((Below.refl _ w).alloc (Nat.le_refl _) (.cells #[.int .i64 k, .int .i64 m] 26)).alloc (by simp) (.cells #[.int .i64 k, .int .i64 m] 26))
      exact ⟨T', rfl, h1, h2, h3⟩
end Go.Proofs.YtmjehnjodaicfaaDoor
