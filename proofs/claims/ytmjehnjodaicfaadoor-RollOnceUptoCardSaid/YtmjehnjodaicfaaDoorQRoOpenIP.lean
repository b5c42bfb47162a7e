/- Of no program: a slice of one-cell elements that came in: the cells that it holds; slices of integers. -/
import Derived.Test.YtmjehnjodaicfaaDoorQAppend2P
import Derived.Deep.Slices
import Derived.Test.YtmjehnjodaicfaaDoorQRoOpen
namespace Go.Proofs.YtmjehnjodaicfaaDoor
open Go.Deep Go.ChangeShapes Go.WideShapes Go.ChangeAt Go.RowKit Go.Joins

/-- A slice holds these cells. -/
def CellsAt (w : World) (v : Value) (xs : List Value) : Prop :=
  (v = .slice none 0 0 ∧ xs = []) ∨ ∃ (a : Addr) (cap : Nat), v = .slice (some a) xs.length cap ∧ xs.length ≤ cap ∧ ∀ j u, xs[j]? = some u → w.cell? (a.add j) = some u
theorem CellsAt.form {w : World} {v : Value} {xs : List Value} (h : CellsAt w v xs) : ∃ ao cap, v = .slice ao xs.length cap := by
  rcases h with ⟨rfl, rfl⟩ | ⟨a, cap, rfl, _⟩
  · exact ⟨_, _, rfl⟩
  · exact ⟨_, _, rfl⟩
theorem CellsAt.at {w : World} {ao : Option Addr} {n cap : Nat} {xs : List Value} (h : CellsAt w (.slice ao n cap) xs) (hl : 0 < xs.length) : ∃ b off, ao = some ⟨b, off, none⟩ ∧ b < w.heap.size ∧ ∀ i (hi : i < xs.length), w.cell? ⟨b, off + i, none⟩ = some xs[i] := by
  rcases h with ⟨_, rfl⟩ | ⟨⟨b, off, sp⟩, cap', e, _, hc⟩
  · simp at hl
  · simp only [Value.slice.injEq] at e
    obtain ⟨rfl, _, _⟩ := e
    have h0 := hc 0 xs[0] (by simp)
    have hsp : sp = none := by simpa [Addr.add] using World.cell?_spot h0
    subst hsp
    refine ⟨b, off, rfl, by have := World.block_lt_of_cell? _ _ h0; simpa [Addr.add] using this, fun i hi => ?_⟩
    have := hc i xs[i] (by simp [hi])
    rwa [Addr.add_lit] at this
theorem CellsAt.below {w w' : World} {v : Value} {xs : List Value} (h : CellsAt w v xs) (hb : Below w.heap.size w w') : CellsAt w' v xs := by
  rcases h with h | ⟨a, cap, rfl, hc, h⟩
  · exact .inl h
  · exact .inr ⟨a, cap, rfl, hc, fun j u hu => by have := h j u hu; rw [hb.cell (World.block_lt_of_cell? _ _ this)]; exact this⟩
section
variable {H : Type} {enc : TypeId × Value → H} {P : Program} {w : World} {base : Nat} {sp : Nat → Bool} {held : Bool}
theorem open_cells {t e : TypeId} {fuel : Nat} {cs : List Value} {x : DataW H × List MemPlace} (ht : P.underlying t = some (.slice e)) (hc : P.cellsOf e = 1) (Q : Value → Prop) (hQ : ∀ fuel u x, DataW.trod enc P w base sp held fuel e [u] = some x → Q u) (h : DataW.trod enc P w base sp held fuel t cs = some x) :
    ∃ v xs, cs = [v] ∧ CellsAt w v xs ∧ xs.length ≤ maxLen ∧ ∀ u ∈ xs, Q u := by
  rcases open_slice1 ht hc h with ⟨rfl, _⟩ | ⟨a, len, cap, m, n, V, D, Pl, rfl, hb, hl, hm, hmm, rfl, hx⟩
  · exact ⟨_, [], rfl, .inl ⟨rfl, rfl⟩, Nat.zero_le _, fun _ h => by simp at h⟩
  have hlm : len ≤ m := by rw [hmm]; split <;> omega
  refine ⟨_, (List.range len).map V, rfl, .inr ⟨a, cap, by simp, by simpa using hl, fun j u hu => ?_⟩, by simp; omega, fun u hu => ?_⟩
  · have hj := (List.getElem?_eq_some_iff.1 hu).1
    simp at hj
    simp [hj] at hu
    subst hu
    exact (hx j (by omega)).1
  · obtain ⟨i, hi, rfl⟩ := List.mem_map.1 hu
    exact hQ _ _ _ (hx i (by have := List.mem_range.1 hi; omega)).2
theorem list_of_ints {k : IntKind} : ∀ (xs : List Value), (∀ u ∈ xs, ∃ n, u = .int k n ∧ (Lit.int k n).wf = true) → ∃ l : List Int, xs = l.map (.int k) ∧ ∀ n ∈ l, (Lit.int k n).wf = true
  | [], _ => ⟨[], rfl, fun _ h => by simp at h⟩
  | x :: xs, h => by
    obtain ⟨n, rfl, hn⟩ := h x (by simp)
    obtain ⟨l, rfl, hl⟩ := list_of_ints xs (fun u hu => h u (by simp [hu]))
    exact ⟨n :: l, rfl, fun m hm => by rcases List.mem_cons.1 hm with rfl | hm; exact hn; exact hl m hm⟩
theorem open_intcells {t e : TypeId} {k : IntKind} {fuel : Nat} {cs : List Value} {x : DataW H × List MemPlace} (ht : P.underlying t = some (.slice e)) (he : P.underlying e = some (.int k)) (hc : P.cellsOf e = 1) (h : DataW.trod enc P w base sp held fuel t cs = some x) :
    ∃ v l, cs = [v] ∧ CellsAt w v (List.map (.int k) l) ∧ l.length ≤ maxLen ∧ ∀ n ∈ l, (Lit.int k n).wf = true := by
  obtain ⟨v, xs, rfl, h1, h2, h3⟩ := open_cells ht hc (fun u => ∃ n, u = .int k n ∧ (Lit.int k n).wf = true) (fun fuel u x hx => by
    obtain ⟨n, hn, hw⟩ := DataW.trod_int he hx
    simp at hn
    exact ⟨n, hn, by first | exact hw.2 | exact hw.2.1⟩) h
  obtain ⟨l, rfl, hl⟩ := list_of_ints xs h3
  exact ⟨v, l, rfl, h1, by simpa using h2, hl⟩
end
end Go.Proofs.YtmjehnjodaicfaaDoor

/- Package roll: lists of numbers that came in. -/
namespace Go.Proofs.YtmjehnjodaicfaaDoor
open Go.ChangeShapes Go.WideShapes Go.ChangeAt Go.RowKit Go.Joins

theorem ints_of_cells {w : World} {v : Value} {l : List Int} (h : CellsAt w v (l.map (Value.int .i64))) : IntsAt w v l := by
  rcases h with ⟨rfl, e⟩ | ⟨a, cap, rfl, hc, hx⟩
  · obtain rfl : l = [] := by simpa using e
    exact RowAt.nil w 1
  · rw [List.length_map] at hc
    refine ⟨by simp, .inr ⟨a, cap, by rw [List.length_map], hc, hx⟩⟩
section
variable {H : Type} {enc : TypeId × Value → H} {w : World} {base : Nat} {sp : Nat → Bool} {held : Bool}
set_option maxRecDepth 100000 in
theorem open_intsv {r : Reach} {b0 : Nat} {v : Value} {d : DataW H} {ps : List MemPlace} (hval : Value.okWide Tryd.prog w r b0 32 v) (h : DataW.Trod enc Tryd.prog w base sp held 32 v d ps) : ∃ l : List Int, IntsAt w v l ∧ (∀ n ∈ l, (Lit.int .i64 n).wf = true) ∧ l.length ≤ maxLen := by
  obtain ⟨fu, hm⟩ := h
  obtain ⟨v', l, hv, h1, h2, h3⟩ := open_intcells Tryd.underlying32 Tryd.underlying3 (by kernel_rfl) hm
  obtain ⟨sa, sn, sc, rfl⟩ := okWide_slice Tryd.underlying32 hval
  have hy : Value.slice sa sn sc = v' := by simpa [Value.cells] using hv
  subst hy
  exact ⟨l, ints_of_cells h1, h3, h2⟩
end
end Go.Proofs.YtmjehnjodaicfaaDoor
