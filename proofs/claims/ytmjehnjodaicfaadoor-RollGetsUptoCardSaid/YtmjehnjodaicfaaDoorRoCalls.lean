/- package roll: New, made, has, Len, Close; a copy of numbers. -/
import Derived.Test.YtmjehnjodaicfaaDoorRoEnter
import Derived.Test.YtmjehnjodaicfaaDoorKdPlain
namespace Go.Proofs.YtmjehnjodaicfaaDoor
open Go.RowKit Go.Maps Go.WideMaps

theorem sizeTable : (Tryd.prog.info? 63).map (·.size) = some 4 := by kernel_rfl
variable {S R : Nat → Prop} {w : World} {t : Nat} {gs : List (List Sb)}
theorem eq_same (a : Addr) (w : World) : (binOp .eql 30 (.pointer (some a)) (.pointer (some a))).run Tryd.prog w = .ok (.bool true) w := by
  obtain ⟨j, hj, _⟩ := Option.map_eq_some_iff.1 sizeTable
  have h : ∀ d : Nat, (Op.equalIn (d + 1) 30 (.pointer (some a)) (.pointer (some a))).run Tryd.prog w = .ok true w := fun d => by
    simp [Op.equalIn, run_underlying Tryd.underlying30, sizeOf, typeInfo, hj, run_sameAddr_same]
  simp only [binOp]
  simp [Op.equal, Op.maxDepth, h 9999]
set_option maxRecDepth 100000 in
theorem made_any (ht : TabAt S R w t gs) : Calls Tryd.prog 23 #[.pointer (some ⟨t, 0, none⟩)] w fun e w' => e = .returned (.bool true) ∧ w' = w := by
  obtain ⟨ev, ov, M, h1, _⟩ := ht.ex
  have c3 := heap_cell h1 3
  simp at c3
  have hq := eq_same ⟨t, 0, none⟩
  clear ht h1
  go_enter Tryd.func23, Tryd.ntmps23
  go_wp2
  go_ret
  exact ⟨rfl, rfl⟩
set_option maxRecDepth 100000 in
theorem has_any (ht : TabAt S R w t gs) (id : Int) (hb : total gs ≤ 10000) : Calls Tryd.prog 25 #[.pointer (some ⟨t, 0, none⟩), .int .i64 id] w fun e w' => e = .returned (.bool (decide (0 ≤ id) && decide (id < total gs))) ∧ w' = w := by
  obtain ⟨ev, ov, M, h1, _, h3, _⟩ := ht.ex
  obtain ⟨ao, co, rfl, _⟩ := ownsRow_form h3
  have c1 := heap_cell h1 1
  rw [ofL_len] at c1
  simp at c1
  clear ht h1 h3
  by_cases h0 : 0 ≤ id
  · by_cases hl : id < total gs
    · have hd : (decide (0 ≤ id) && decide (id < total gs)) = true := by simp [h0, hl]
      rw [hd]
      go_enter Tryd.func25, Tryd.ntmps25
      go_wp2
      go_ret
      exact ⟨rfl, rfl⟩
    · have hd : (decide (0 ≤ id) && decide (id < total gs)) = false := by simp [hl]
      rw [hd]
      go_enter Tryd.func25, Tryd.ntmps25
      go_wp2
      go_ret
      exact ⟨rfl, rfl⟩
  · have hd : (decide (0 ≤ id) && decide (id < total gs)) = false := by simp [h0]
    rw [hd]
    have h0' : id < 0 := by omega
    go_enter Tryd.func25, Tryd.ntmps25
    go_wp2
    go_ret
    exact ⟨rfl, rfl⟩
set_option maxRecDepth 100000 in
theorem len_any (ht : TabAt S R w t gs) : Calls Tryd.prog 15 #[.pointer (some ⟨t, 0, none⟩)] w fun e w' => e = .returned (.int .i64 (total gs)) ∧ w' = w := by
  have C := Lib.hid (made_any ht)
  obtain ⟨ev, ov, M, h1, _, h3, _⟩ := ht.ex
  obtain ⟨ao, co, rfl, _⟩ := ownsRow_form h3
  have c1 := heap_cell h1 1
  rw [ofL_len] at c1
  simp at c1
  clear ht h1 h3
  go_enter Tryd.func15, Tryd.ntmps15
  go_wp2_with fail
  refine C.out.mono ?_
  rintro e w1 ⟨rfl, rfl⟩
  go_wp2
  go_ret
  exact ⟨rfl, rfl⟩
set_option maxRecDepth 100000 in
theorem new_any (w : World) : Calls Tryd.prog 8 #[] w fun e w' => ∃ t S, e = .returned (.pointer (some ⟨t, 0, none⟩)) ∧ TabAt S (fun _ => False) w' t [] ∧ (∀ k, S k → w.heap.size ≤ k) ∧ Below w.heap.size w w' := by
  have hmm := @run_makeMap Tryd.prog
  go_enter Tryd.func8, Tryd.ntmps8
  go_wp2
  go_ret
  obtain ⟨W1, hW⟩ : ∃ W1, W1 = ((w.alloc (.map #[] 0)).alloc (.cells #[.slice none 0 0, .slice none 0 0, .map (some w.heap.size), .pointer (some ⟨w.heap.size + 1, 0, none⟩)] 63)) := ⟨_, rfl⟩
  rw [← hW]
  have hsz : W1.heap.size = w.heap.size + 2 := by rw [hW]; simp
  have hm := World.ownsMap_made w Tryd.prog 9 (plainElem (H := Unit) Tryd.prog 3)
  have h0 : W1.heap[w.heap.size]? = (w.alloc (.map #[] 0)).heap[w.heap.size]? := by rw [hW]; exact Below.heap_alloc _ _ _ (by simp)
  refine ⟨w.heap.size + 1, fun b => b = w.heap.size ∨ b = w.heap.size + 1, rfl, ⟨⟨_, _, w.heap.size, by rw [hW]; exact heap_alloc_at _ _ (by simp), ⟨[], rfl, owns_zero _ _ _ _, by simp⟩, owns_zero _ _ _ _, ⟨.map [], ?_, ⟨[], rfl⟩, fun k => rfl, by simp⟩, .inl rfl, fun b h => by simp [Value.ownBlock] at h, fun b h => by simp [Value.ownBlock] at h⟩, .inr rfl, fun k hk => ⟨by rcases hk with hk | hk <;> omega, id⟩, fun k hk => hk.elim⟩, fun k hk => by rcases hk with hk | hk <;> omega, by rw [hW]; exact ((Below.refl _ _).alloc (Nat.le_refl _) _).alloc (by simp) _⟩
  obtain ⟨xs, c, m1, m2⟩ := hm
  exact ⟨xs, c, by rw [h0]; exact m1, m2⟩
theorem cloneInts_any (v : Value) (l : List Int) (w : World) (h : IntsAt w v l) (hl : l.length ≤ 1000000) : Calls Tryd.prog 28 #[v] w fun e w' => ∃ u, e = .returned u ∧ w'.ownsRow w.heap.size 3 1 u l.length (l.map (Value.int .i64)) ∧ Below w.heap.size w w' := by
  obtain ⟨ao, cap, rfl⟩ := RowAt.form h
  cases ao with
  | none =>
    have hl0 : l.length = 0 := by
      obtain ⟨_, h1 | ⟨a, cap', e, _⟩⟩ := h
      · exact h1.2
      · cases e
    rw [hl0]
    refine (Tryd.slices_Clone_int_nil 0 cap w).mono ?_
    rintro e w' ⟨rfl, rfl⟩
    have : l = [] := List.length_eq_zero_iff.1 hl0
    subst this
    exact ⟨_, rfl, owns_zero _ _ _ _, Below.refl _ _⟩
  | some a =>
    by_cases hl0 : l.length = 0
    · have : l = [] := List.length_eq_zero_iff.1 hl0
      subst this
      refine (Tryd.slices_Clone_int_zero a cap w).mono ?_
      rintro e w' ⟨v', rfl, h1, _, h2⟩
      exact ⟨_, rfl, h1, h2⟩
    · obtain ⟨b, off, e, _, _, hc⟩ := RowAt.at h (by decide) (by omega)
      simp only [Option.some.injEq] at e
      subst e
      refine (Tryd.slices_Clone_int b off l.length cap l w (Nat.le_refl _) (by omega) (fun j hj => ?_)).mono ?_
      · rw [hc j (by omega), List.getElem?_map, List.getD_eq_getElem?_getD, List.getElem?_eq_getElem hj]; rfl
      · rintro e w' ⟨v', rfl, h1, _, h2⟩
        rw [List.take_length] at h1
        exact ⟨_, rfl, h1, h2⟩
end Go.Proofs.YtmjehnjodaicfaaDoor
