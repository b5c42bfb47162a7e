/- package chain: lines in memory; the small calls. -/
import Derived.Test.YtkgmfbfpmlnfcaaGreatDoorQChLaw
import Derived.Test.YtkgmfbfpmlnfcaaGreatDoorQMaClimbPP
namespace Go.Proofs.YtkgmfbfpmlnfcaaGreatDoor
open Go.RowKit

/-- The cells of a line: its depth, its numbers, zeros. -/
def idsC (p : List Nat) : List Value := p.map (fun k : Nat => Value.int .i32 (k : Int)) ++ List.replicate (64 - p.length) (.int .i32 0)
def lineC (p : List Nat) : List Value := .int .i32 ((p.length : Int) - 1) :: idsC p
def linesC (L : List (List Nat)) : List Value := L.flatMap lineC
theorem idsC_len {p : List Nat} (h : p.length ≤ 64) : (idsC p).length = 64 := by simp [idsC]; omega
theorem lineC_len {p : List Nat} (h : p.length ≤ 64) : (lineC p).length = 65 := by simp [lineC, idsC_len h]
theorem linesC_snoc (L : List (List Nat)) (p : List Nat) : linesC (L ++ [p]) = linesC L ++ lineC p := by simp [linesC]
theorem linesC_len {L : List (List Nat)} (h : ∀ p ∈ L, p.length ≤ 64) : (linesC L).length = L.length * 65 := by
  induction L with
  | nil => rfl
  | cons p L ih => rw [linesC, List.flatMap_cons, List.length_append, lineC_len (h p (by simp))]; have := ih fun q hq => h q (by simp [hq]); rw [linesC] at this; rw [this]; simp; omega
theorem linesC_at : ∀ {L : List (List Nat)}, (∀ p ∈ L, p.length ≤ 64) → ∀ {i : Nat} {p : List Nat}, L[i]? = some p → ∀ j, j < 65 → (linesC L)[i * 65 + j]? = (lineC p)[j]?
  | [], _, i, p, hi => by simp at hi
  | q :: L, h, 0, p, hi => fun j hj => by
    simp at hi; subst hi
    rw [linesC, List.flatMap_cons, List.getElem?_append_left (by rw [lineC_len (h _ (by simp))]; omega)]; simp
  | q :: L, h, i + 1, p, hi => fun j hj => by
    rw [List.getElem?_cons_succ] at hi
    have := linesC_at (L := L) (fun p hp => h p (by simp [hp])) hi j hj
    rw [linesC, List.flatMap_cons, List.getElem?_append_right (by rw [lineC_len (h _ (by simp))]; omega), lineC_len (h _ (by simp)), show (i + 1) * 65 + j - 65 = i * 65 + j by omega]
    exact this
theorem lineC_zero (p : List Nat) : (lineC p)[0]? = some (.int .i32 ((p.length : Int) - 1)) := rfl
theorem lineC_at {p : List Nat} (j : Nat) (hj : j < 64) : (lineC p)[1 + j]? = some (.int .i32 ((p.getD j 0 : Nat) : Int)) := by
  rw [Nat.add_comm, lineC, List.getElem?_cons_succ, idsC, List.getD_eq_getElem?_getD]
  by_cases h : j < p.length
  · rw [List.getElem?_append_left (by simpa using h), List.getElem?_map, List.getElem?_eq_getElem h]; rfl
  · rw [List.getElem?_append_right (by simp; omega), List.getElem?_replicate, if_pos (by simp; omega), List.getElem?_eq_none (by omega)]; rfl
theorem lineC_one (p : List Nat) : ∀ v ∈ lineC p, v.oneCell' = true := fun v hv => by
  simp only [lineC, idsC, List.mem_cons, List.mem_append, List.mem_map, List.mem_replicate] at hv
  rcases hv with rfl | ⟨x, _, rfl⟩ | ⟨_, rfl⟩ <;> rfl
/-- Lines at t; S: the blocks that are theirs. -/
structure LinesAt (S : Nat → Prop) (w : World) (t : Nat) (L : List (List Nat)) : Prop where
  ex : ∃ ov, w.heap[t]? = some (.cells #[ov, .pointer (some ⟨t, 0, none⟩)] 66 (0, 0)) ∧ w.ownsRow 0 69 65 ov L.length (linesC L) ∧ ∀ b, ov.ownBlock = some b → S b
  st : S t
  lt : ∀ k, S k → k < w.heap.size
  ok : (∀ p ∈ L, p.length ≤ 64 ∧ p ≠ []) ∧ L.length ≤ 10000 ∧ (∀ p ∈ L, ∀ x ∈ p, x < 10000)
section
variable {S : Nat → Prop} {w w' : World} {t : Nat} {L : List (List Nat)}
theorem LinesAt.keep (h : LinesAt S w t L) (u : Upd (fun b => ¬ S b) w w') : LinesAt S w' t L := by
  obtain ⟨ov, h1, h2, h3⟩ := h.ex
  exact ⟨⟨ov, u.heap_some h1 (fun hk => hk h.st), ownsRow_upd h2 u (fun b hb hk => hk (h3 b hb)), h3⟩, h.st, fun k hk => Nat.lt_of_lt_of_le (h.lt k hk) u.size, h.ok⟩
theorem LinesAt.below (h : LinesAt S w t L) (hb : Below w.heap.size w w') : LinesAt S w' t L := h.keep ((Upd.of_below hb : Upd (fun _ => False) w w').mono fun _ _ h => h.elim)
/-- A line's cells in memory. -/
theorem LinesAt.at (h : LinesAt S w t L) : ∃ ao co, w.heap[t]? = some (.cells #[.slice ao L.length co, .pointer (some ⟨t, 0, none⟩)] 66 (0, 0)) ∧ ∀ (i : Nat) p, L[i]? = some p → ∃ b, ao = some ⟨b, 0, none⟩ ∧ b < w.heap.size ∧ ∀ j u, (lineC p)[j]? = some u → w.cell? ⟨b, i * 65 + j, none⟩ = some u := by
  obtain ⟨ov, h1, h2, h3⟩ := h.ex
  obtain ⟨ao, co, rfl, _⟩ := ownsRow_form h2
  refine ⟨ao, co, h1, fun i p hi => ?_⟩
  have hl := (List.getElem?_eq_some_iff.1 hi).1
  obtain ⟨g, cap, cur, e, hr, _, _, hc⟩ := ownsRow_some h2 (by omega)
  simp only [Value.slice.injEq, true_and] at e
  obtain ⟨rfl, rfl⟩ := e
  refine ⟨g, rfl, heap_lt hr, fun j u hu => ?_⟩
  have hj := (List.getElem?_eq_some_iff.1 hu).1
  rw [lineC_len (h.ok.1 p (List.mem_of_getElem? hi)).1] at hj
  rw [hc (i * 65 + j) (by omega), linesC_at (fun p hp => (h.ok.1 p hp).1) hi j hj, hu]
end
theorem sizeLines : (Tryz.prog.info? 66).map (·.size) = some 2 := by kernel_rfl
theorem eq_sameL (a : Addr) (w : World) : (binOp .eql 34 (.pointer (some a)) (.pointer (some a))).run Tryz.prog w = .ok (.bool true) w := by
  obtain ⟨j, hj, _⟩ := Option.map_eq_some_iff.1 sizeLines
  have h : ∀ d : Nat, (Op.equalIn (d + 1) 34 (.pointer (some a)) (.pointer (some a))).run Tryz.prog w = .ok true w := fun d => by
    simp [Op.equalIn, run_underlying Tryz.underlying34, sizeOf, typeInfo, hj, run_sameAddr_same]
  simp only [binOp]
  simp [Op.equal, Op.maxDepth, h 9999]
theorem chNew_any (w : World) : Calls Tryz.prog 10 #[] w fun e w' => ∃ t S, e = .returned (.pointer (some ⟨t, 0, none⟩)) ∧ LinesAt S w' t [] ∧ (∀ k, S k → w.heap.size ≤ k) ∧ Below w.heap.size w w' := by
  go_enter Tryz.func10, Tryz.ntmps10
  go_wp2
  go_ret
  exact ⟨w.heap.size, fun b => b = w.heap.size, rfl, ⟨⟨_, heap_alloc_at _ _ rfl, owns_zero _ _ _ _, fun b h => by simp [Value.ownBlock] at h⟩, rfl, fun k hk => by subst hk; simp, by simp, by simp, by simp⟩, fun k hk => by omega, (Below.refl _ _).alloc (Nat.le_refl _) _⟩
section
variable {S : Nat → Prop} {w : World} {t : Nat} {L : List (List Nat)}
theorem chMade_any (h : LinesAt S w t L) : Calls Tryz.prog 20 #[.pointer (some ⟨t, 0, none⟩)] w fun e w' => e = .returned (.bool true) ∧ w' = w := by
  obtain ⟨ov, h1, _⟩ := h.ex
  have c1 := heap_cell h1 1
  simp at c1
  have hq := eq_sameL ⟨t, 0, none⟩
  clear h h1
  go_enter Tryz.func20, Tryz.ntmps20
  go_wp2
  go_ret
  exact ⟨rfl, rfl⟩
def hasL (L : List (List Nat)) (id : Int) : Bool := decide (0 ≤ id) && decide (id < L.length)
set_option maxRecDepth 100000 in
theorem chHas_any (h : LinesAt S w t L) (id : Int) : Calls Tryz.prog 34 #[.pointer (some ⟨t, 0, none⟩), .int .i64 id] w fun e w' => e = .returned (.bool (hasL L id)) ∧ w' = w := by
  obtain ⟨ao, co, h1, _⟩ := h.at
  have c0 := heap_cell h1 0
  simp at c0
  have C := Lib.hid (chMade_any h)
  have hl := h.ok.2.1
  clear h h1
  by_cases h0 : 0 ≤ id
  · by_cases hlt : id < L.length
    · have hd : hasL L id = true := by simp [hasL, h0, hlt]
      rw [hd]
      go_enter Tryz.func34, Tryz.ntmps34
      go_wp2_with fail
      refine C.out.mono ?_
      rintro e w1 ⟨rfl, rfl⟩
      go_wp2
      go_ret
      first | exact ⟨rfl, rfl⟩ | exact ⟨by simp [hlt], rfl⟩
    · have hd : hasL L id = false := by simp [hasL, hlt]
      rw [hd]
      go_enter Tryz.func34, Tryz.ntmps34
      go_wp2_with fail
      refine C.out.mono ?_
      rintro e w1 ⟨rfl, rfl⟩
      go_wp2
      go_ret
      first | exact ⟨rfl, rfl⟩ | exact ⟨by simp [hlt], rfl⟩
  · have hd : hasL L id = false := by simp [hasL, h0]
    rw [hd]
    have h0' : id < 0 := by omega
    go_enter Tryz.func34, Tryz.ntmps34
    go_wp2_with fail
    refine C.out.mono ?_
    rintro e w1 ⟨rfl, rfl⟩
    go_wp2
    go_ret
    exact ⟨rfl, rfl⟩
/-- A line in memory: where it lies, how deep it is. -/
theorem LinesAt.get (h : LinesAt S w t L) {i : Nat} {p : List Nat} (hi : L[i]? = some p) : ∃ b co d, w.heap[t]? = some (.cells #[.slice (some ⟨b, 0, none⟩) L.length co, .pointer (some ⟨t, 0, none⟩)] 66 (0, 0)) ∧ b < w.heap.size ∧ p.length = d + 1 ∧ d < 64 ∧ w.cell? ⟨b, i * 65, none⟩ = some (.int .i32 d) ∧ (∀ j, j < 64 → w.cell? ⟨b, i * 65 + 1 + j, none⟩ = some (.int .i32 ((p.getD j 0 : Nat) : Int))) ∧ (∀ j u, (lineC p)[j]? = some u → w.cell? ⟨b, i * 65 + j, none⟩ = some u) := by
  obtain ⟨ao, co, h1, h2⟩ := h.at
  obtain ⟨b, rfl, hb, hc⟩ := h2 i p hi
  obtain ⟨k1, k2⟩ := h.ok.1 p (List.mem_of_getElem? hi)
  have hp : 0 < p.length := List.length_pos_iff.2 k2
  refine ⟨b, co, p.length - 1, h1, hb, by omega, by omega, ?_, fun j hj => ?_, hc⟩
  · have := hc 0 _ (lineC_zero p)
    rw [Nat.add_zero] at this
    rw [this]
    congr 2
    omega
  · have := hc (1 + j) _ (lineC_at j hj)
    rw [← Nat.add_assoc] at this
    exact this
end
end Go.Proofs.YtkgmfbfpmlnfcaaGreatDoor
