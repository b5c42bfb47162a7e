/- package roll: New, made, has, Len, Close; a copy of numbers. -/
import Derived.Test.YtnnbjenibfmcaaaGreatDoorQRoEnter
import Derived.Test.YtnnbjenibfmcaaaGreatDoorQKdPlain
import Derived.Test.YtnnbjenibfmcaaaGreatDoorQKdComp
namespace Go.Proofs.YtnnbjenibfmcaaaGreatDoor
open Go.RowKit Go.Maps Go.WideMaps

theorem sizeTable : (Tryz.prog.info? 103).map (·.size) = some 4 := by kernel_rfl
variable {S R : Nat → Prop} {w : World} {t : Nat} {gs : List (List Sb)}
theorem eq_same (a : Addr) (w : World) : (binOp .eql 35 (.pointer (some a)) (.pointer (some a))).run Tryz.prog w = .ok (.bool true) w := by
  obtain ⟨j, hj, _⟩ := Option.map_eq_some_iff.1 sizeTable
  have h : ∀ d : Nat, (Op.equalIn (d + 1) 35 (.pointer (some a)) (.pointer (some a))).run Tryz.prog w = .ok true w := fun d => by
    simp [Op.equalIn, run_underlying Tryz.underlying35, sizeOf, typeInfo, hj, run_sameAddr_same]
  simp only [binOp]
  simp [Op.equal, Op.maxDepth, h 9999]
set_option maxRecDepth 100000 in
theorem made_any (ht : TabAt S R w t gs) : Calls Tryz.prog 44 #[.pointer (some ⟨t, 0, none⟩)] w fun e w' => e = .returned (.bool true) ∧ w' = w := by
  obtain ⟨ev, ov, M, h1, _⟩ := ht.ex
  have c3 := heap_cell h1 3
  simp at c3
  have hq := eq_same ⟨t, 0, none⟩
  clear ht h1
  go_enter Tryz.func44, Tryz.ntmps44
  go_wp2
  go_ret
  exact ⟨rfl, rfl⟩
set_option maxRecDepth 100000 in
theorem has_any (ht : TabAt S R w t gs) (id : Int) (hb : total gs ≤ 10000) : Calls Tryz.prog 45 #[.pointer (some ⟨t, 0, none⟩), .int .i64 id] w fun e w' => e = .returned (.bool (decide (0 ≤ id) && decide (id < total gs))) ∧ w' = w := by
  obtain ⟨ev, ov, M, h1, _, h3, _⟩ := ht.ex
  obtain ⟨ao, co, rfl, _⟩ := ownsRow_form h3
  have c1 := heap_cell h1 1
  rw [ofL_len] at c1
  simp at c1
  clear ht h1 h3
  by_cases h0 : 0 ≤ id
  · by_cases hl : id < total gs
    · have hd : (decide (0 ≤ id) && decide (id < total gs)) = true := by simp [h0, hl]
      rw [hd]
      go_enter Tryz.func45, Tryz.ntmps45
      go_wp2
      go_ret
      exact ⟨rfl, rfl⟩
    · have hd : (decide (0 ≤ id) && decide (id < total gs)) = false := by simp [hl]
      rw [hd]
      go_enter Tryz.func45, Tryz.ntmps45
      go_wp2
      go_ret
      exact ⟨rfl, rfl⟩
  · have hd : (decide (0 ≤ id) && decide (id < total gs)) = false := by simp [h0]
    rw [hd]
    have h0' : id < 0 := by omega
    go_enter Tryz.func45, Tryz.ntmps45
    go_wp2
    go_ret
    exact ⟨rfl, rfl⟩
set_option maxRecDepth 100000 in
theorem len_any (ht : TabAt S R w t gs) : Calls Tryz.prog 19 #[.pointer (some ⟨t, 0, none⟩)] w fun e w' => e = .returned (.int .i64 (total gs)) ∧ w' = w := by
  have C := Lib.hid (made_any ht)
  obtain ⟨ev, ov, M, h1, _, h3, _⟩ := ht.ex
  obtain ⟨ao, co, rfl, _⟩ := ownsRow_form h3
  have c1 := heap_cell h1 1
  rw [ofL_len] at c1
  simp at c1
  clear ht h1 h3
  go_enter Tryz.func19, Tryz.ntmps19
  go_wp2_with fail
  refine C.out.mono ?_
  rintro e w1 ⟨rfl, rfl⟩
  go_wp2
  go_ret
  exact ⟨rfl, rfl⟩
set_option maxRecDepth 100000 in
theorem new_any (w : World) : Calls Tryz.prog 27 #[] w fun e w' => ∃ t S, e = .returned (.pointer (some ⟨t, 0, none⟩)) ∧ TabAt S (fun _ => False) w' t [] ∧ (∀ k, S k → w.heap.size ≤ k) ∧ Below w.heap.size w w' := by
  have hmm := @run_makeMap Tryz.prog
  go_enter Tryz.func27, Tryz.ntmps27
  go_wp2
  go_ret
  obtain ⟨W1, hW⟩ : ∃ W1, W1 = ((w.alloc (.map #[] 0)).alloc (.cells #[.slice none 0 0, .slice none 0 0, .map (some w.heap.size), .pointer (some ⟨w.heap.size + 1, 0, none⟩)] 103)) := ⟨_, rfl⟩
  rw [← hW]
  have hsz : W1.heap.size = w.heap.size + 2 := by rw [hW]; simp
  have hm := World.ownsMap_made w Tryz.prog 9 (plainElem (H := Unit) Tryz.prog 3)
  have h0 : W1.heap[w.heap.size]? = (w.alloc (.map #[] 0)).heap[w.heap.size]? := by rw [hW]; exact Below.heap_alloc _ _ _ (by simp)
  refine ⟨w.heap.size + 1, fun b => b = w.heap.size ∨ b = w.heap.size + 1, rfl, ⟨⟨_, _, w.heap.size, by rw [hW]; exact heap_alloc_at _ _ (by simp), ⟨[], rfl, owns_zero _ _ _ _, by simp⟩, owns_zero _ _ _ _, ⟨.map [], ?_, ⟨[], rfl⟩, fun k => rfl, by simp⟩, .inl rfl, fun b h => by simp [Value.ownBlock] at h, fun b h => by simp [Value.ownBlock] at h⟩, .inr rfl, fun k hk => ⟨by rcases hk with hk | hk <;> omega, id⟩, fun k hk => hk.elim⟩, fun k hk => by rcases hk with hk | hk <;> omega, by rw [hW]; exact ((Below.refl _ _).alloc (Nat.le_refl _) _).alloc (by simp) _⟩
  obtain ⟨xs, c, m1, m2⟩ := hm
  exact ⟨xs, c, by rw [h0]; exact m1, m2⟩
theorem cloneInts_any (v : Value) (l : List Int) (w : World) (h : IntsAt w v l) (hl : l.length ≤ 1000000) : Calls Tryz.prog 54 #[v] w fun e w' => ∃ u, e = .returned u ∧ w'.ownsRow w.heap.size 3 1 u l.length (l.map (Value.int .i64)) ∧ Below w.heap.size w w' := by
  obtain ⟨ao, cap, rfl⟩ := RowAt.form h
  cases ao with
  | none =>
    have hl0 : l.length = 0 := by
      obtain ⟨_, h1 | ⟨a, cap', e, _⟩⟩ := h
      · exact h1.2
      · cases e
    rw [hl0]
    refine (Tryz.slices_Clone_int_nil 0 cap w).mono ?_
    rintro e w' ⟨rfl, rfl⟩
    have : l = [] := List.length_eq_zero_iff.1 hl0
    subst this
    exact ⟨_, rfl, owns_zero _ _ _ _, Below.refl _ _⟩
  | some a =>
    by_cases hl0 : l.length = 0
    · have : l = [] := List.length_eq_zero_iff.1 hl0
      subst this
      refine (Tryz.slices_Clone_int_zero a cap w).mono ?_
      rintro e w' ⟨v', rfl, h1, _, h2⟩
      exact ⟨_, rfl, h1, h2⟩
    · obtain ⟨b, off, e, _, _, hc⟩ := RowAt.at h (by decide) (by omega)
      simp only [Option.some.injEq] at e
      subst e
      refine (Tryz.slices_Clone_int b off l.length cap l w (Nat.le_refl _) (by omega) (fun j hj => ?_)).mono ?_
      · rw [hc j (by omega), List.getElem?_map, List.getD_eq_getElem?_getD, List.getElem?_eq_getElem hj]; rfl
      · rintro e w' ⟨v', rfl, h1, _, h2⟩
        rw [List.take_length] at h1
        exact ⟨_, rfl, h1, h2⟩
end Go.Proofs.YtnnbjenibfmcaaaGreatDoor

/- package kind: plain types are good, and fit; the law of KindWriting, plain. -/
namespace Go.Proofs.YtnnbjenibfmcaaaGreatDoor

theorem indexed_good {h : Hp} (e : indexedB h = true) : GoodH h := by
  simp [indexedB] at e
  exact .inr (.inl e.1.1)
theorem given_good {h : Hp} (e : givenB h = true) : GoodH h := by
  simp [givenB] at e
  exact .inl ⟨e.1.1, e.1.2, e.2⟩
theorem plainV_good {v : Vl} (e : plainV v = true) : GoodV v := by
  unfold plainV at e
  split at e
  · rename_i h
    exact .inl ⟨h, of_decide_eq_true e⟩
  · split at e
    · rename_i h
      refine .inr ⟨h, ?_⟩
      rw [Bool.or_eq_true] at e
      exact e.elim given_good indexed_good
    · cases e
theorem plainF_good {f : Fl} (e : plainF f = true) : GoodF f := by
  unfold plainF at e
  split at e
  · rename_i h
    exact .inl ⟨h, plainV_good e⟩
  · split at e
    · rename_i h
      exact .inr ⟨h, of_decide_eq_true e⟩
    · cases e
theorem plainS_good {s : Sb} (e : plainS s = true) : GoodS s := by
  rw [plainS_eq, Bool.and_eq_true, Bool.and_eq_true] at e
  obtain ⟨⟨e1, e2⟩, e3⟩ := e
  unfold midS at e2
  rw [Bool.and_eq_true, Bool.and_eq_true] at e2
  obtain ⟨⟨e4, e5⟩, e6⟩ := e2
  refine ⟨fun h hh => indexed_good (List.all_eq_true.1 e1 h hh), fun v hv => plainV_good (List.all_eq_true.1 e4 v hv), fun v hv => plainV_good (List.all_eq_true.1 e5 v hv), fun f hf => plainF_good (List.all_eq_true.1 e6 f hf), ?_⟩
  unfold endS at e3
  split at e3
  · rename_i h
    exact .inl ⟨h, List.eq_nil_of_length_eq_zero (of_decide_eq_true e3)⟩
  · split at e3
    · rename_i h
      have := of_decide_eq_true e3
      exact .inr (.inl ⟨h, List.eq_nil_of_length_eq_zero (by omega), List.eq_nil_of_length_eq_zero (by omega)⟩)
    · split at e3
      · rename_i h
        rw [Bool.and_eq_true] at e3
        have := of_decide_eq_true e3.1
        exact .inr (.inr ⟨h, List.eq_nil_of_length_eq_zero (by omega), List.eq_nil_of_length_eq_zero (by omega)⟩)
      · cases e3
theorem sub_writing {s t : Sb} (hs : plainS s = true) (ht : plainS t = true) : ((⟨(subT s).toArray⟩ : ByteArray) = ⟨(subT t).toArray⟩) ↔ s = t :=
  ⟨fun e => subT_inj (plainS_good hs) (plainS_good ht) (by simpa using e), fun e => by rw [e]⟩
theorem val_writing {u v : Vl} (hu : plainV u = true) (hv : plainV v = true) : ((⟨(valT u).toArray⟩ : ByteArray) = ⟨(valT v).toArray⟩) ↔ u = v :=
  ⟨fun e => valT_inj (plainV_good hu) (plainV_good hv) (by simpa using e), fun e => by rw [e]⟩
end Go.Proofs.YtnnbjenibfmcaaaGreatDoor
