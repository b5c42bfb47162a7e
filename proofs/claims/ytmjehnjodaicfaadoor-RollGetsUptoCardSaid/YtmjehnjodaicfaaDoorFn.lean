/- Of no program: a function value that is handed in: what each call of it gives, what it keeps for itself, which blocks it may write. -/
import Derived.Test.YtmjehnjodaicfaaDoorUpd
import Derived.WalkKit
namespace Go.Proofs.YtmjehnjodaicfaaDoor
open Go.RowKit

/-- A function value that is called with things of one kind, and gives things of that kind: in the state s it gives (φ s x).1 and goes on in (φ s x).2. J s n T w: in w it is in the state s, n calls more may be made, and it writes the blocks T alone. -/
structure FnOk {σ α : Type} (P : Program) (cells : α → List Value) (D : α → Prop) (f : FuncId) (cap : Array Value) (φ : σ → α → α × σ) (J : σ → Nat → (Nat → Prop) → World → Prop) (B : Nat) : Prop where
  enter : ∀ args w, (callFunc f args).run P w = .ok (.enter f args) w
  lt : ∀ {s n T w}, J s n T w → (∀ b, T b → b < w.heap.size) ∧ B ≤ w.heap.size
  keep : ∀ {s n T w w'}, J s n T w → Upd (fun b => B ≤ b ∧ ¬ T b) w w' → J s n T w'
  less : ∀ {s n m T w}, J s n T w → m ≤ n → J s m T w
  call : ∀ {s n T w} x, D x → J s (n + 1) T w → Calls P f (#[.agg (cells x).toArray] ++ cap) w fun e w' => ∃ T', e = .returned (.agg (cells (φ s x).1).toArray) ∧ J (φ s x).2 n T' w' ∧ Upd T w w' ∧ Fresh T w T'
/-- A list through such a function, from the front. -/
def mapS {σ α : Type} (φ : σ → α → α × σ) : σ → List α → List α × σ
  | s, [] => ([], s)
  | s, x :: l => ((φ s x).1 :: (mapS φ (φ s x).2 l).1, (mapS φ (φ s x).2 l).2)
variable {σ α : Type} {φ : σ → α → α × σ}
theorem mapS_append (s : σ) : ∀ (l r : List α), mapS φ s (l ++ r) = ((mapS φ s l).1 ++ (mapS φ (mapS φ s l).2 r).1, (mapS φ (mapS φ s l).2 r).2) := by
  intro l
  induction l generalizing s with
  | nil => intro r; simp [mapS]
  | cons x l ih => intro r; simp [mapS, ih]
theorem mapS_len (s : σ) (l : List α) : (mapS φ s l).1.length = l.length := by
  induction l generalizing s with
  | nil => rfl
  | cons x l ih => simp [mapS, ih]
theorem mapS_snoc (s : σ) (l : List α) (x : α) : mapS φ s (l ++ [x]) = ((mapS φ s l).1 ++ [(φ (mapS φ s l).2 x).1], (φ (mapS φ s l).2 x).2) := by
  rw [mapS_append]; simp [mapS]
theorem mapS_take (s : σ) (l : List α) (k : Nat) (x : α) (h : l[k]? = some x) : mapS φ s (l.take (k + 1)) = ((mapS φ s (l.take k)).1 ++ [(φ (mapS φ s (l.take k)).2 x).1], (φ (mapS φ s (l.take k)).2 x).2) := by
  obtain ⟨hk, rfl⟩ := List.getElem?_eq_some_iff.1 h
  rw [List.take_succ_eq_append_getElem hk, mapS_snoc]
/-- A function without a state. -/
theorem mapS_pure {g : α → α} (s : σ) (l : List α) (h : ∀ s x, φ s x = (g x, s)) : mapS φ s l = (l.map g, s) := by
  induction l generalizing s with
  | nil => rfl
  | cons x l ih => simp [mapS, h, ih]
/-- While such a function is called, its own blocks and new ones are written: what lies elsewhere stays. -/
theorem Fresh.off {T T' : Nat → Prop} {w : World} (h : Fresh T w T') {b : Nat} (hb : ¬ T b) (hs : b < w.heap.size) : ¬ T' b := fun h' => by
  rcases h b h' with h | h
  · exact hb h
  · omega
end Go.Proofs.YtmjehnjodaicfaaDoor
