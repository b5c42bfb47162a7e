/- Lists of lists of value types that came in: what they hold. -/
import Derived.Test.YtjjhdbjbjgkijaaOpen
import Derived.Test.YtjjhdbjbjgkijaaLabels
namespace Go.Proofs.Ytjjhdbjbjgkijaa
open Go.Deep Go.ChangeShapes Go.WideShapes Go.ChangeAt Go.RowKit Go.Joins

section
variable {H : Type} {enc : TypeId × Value → H} {w : World} {base : Nat} {sp : Nat → Bool} {held : Bool}
theorem lists_of {P : Value → List Vl → Prop} : ∀ (xs : List Value), (∀ u ∈ xs, ∃ l, P u l) → ∃ rs : List (List Vl), xs.length = rs.length ∧ ∀ i (h : i < xs.length), P xs[i] (rs.getD i [])
  | [], _ => ⟨[], rfl, fun i h => by simp at h⟩
  | x :: xs, h => by
    obtain ⟨l, hl⟩ := h x (by simp)
    obtain ⟨rs, h1, h2⟩ := lists_of xs (fun u hu => h u (by simp [hu]))
    refine ⟨l :: rs, by simp [h1], fun i hi => ?_⟩
    cases i with
    | zero => exact hl
    | succ i => exact h2 i (by simpa using hi)
theorem open_valss {fuel : Nat} {cs : List Value} {x : DataW H × List MemPlace} (h : DataW.trod enc Try.prog w base sp held fuel 48 cs = some x) : ∃ v xs rs, cs = [v] ∧ RowsAt w v xs rs ∧ xs.length ≤ maxLen := by
  obtain ⟨v, xs, rfl, h1, h2, h3⟩ := open_cells Try.underlying48 (by kernel_rfl) (fun u => ∃ l, ValsAt w u l ∧ l.length ≤ maxLen) (fun fuel u x hx => by
    obtain ⟨u', l, hu, h1, h2⟩ := open_vals hx
    simp only [List.cons.injEq, and_true] at hu
    subst hu
    exact ⟨l, h1, h2⟩) h
  obtain ⟨rs, h4, h5⟩ := lists_of xs h3
  refine ⟨v, xs, rs, rfl, ⟨h1, h4, fun i hi => (h5 i hi).1, fun i => ?_⟩, h2⟩
  by_cases hi : i < xs.length
  · exact (h5 i hi).2
  · simp [show rs.length ≤ i by omega]
end
end Go.Proofs.Ytjjhdbjbjgkijaa
