/- Of no program: two rows that grow side by side in a region that draws its order ('append(append([]T{}, ..), ..)' twice). -/
import Derived.Test.YtofoaheiblhpoaaAppend2
import Derived.Deep.RegionLaw
namespace Go.Proofs.Ytofoaheiblhpoaa
open Go.RowKit

/-- Two rows of one type that were made since w0, in W. -/
structure Pair (w0 : World) (e : TypeId) (size : Nat) (W : World) (n1 : Nat) (v1 : Value) (x1 : List Value) (n2 : Nat) (v2 : Value) (x2 : List Value) : Prop where
  below : Below w0.heap.size w0 W
  r1 : W.ownsRow w0.heap.size e size v1 n1 x1
  r2 : W.ownsRow w0.heap.size e size v2 n2 x2
  ne : ∀ q, v1.ownBlock = some q → v2.ownBlock ≠ some q
variable {w0 W : World} {e : TypeId} {size n1 n2 : Nat} {v1 v2 : Value} {x1 x2 : List Value}
theorem Pair.start (w0 : World) (e : TypeId) (size : Nat) {W : World} (h : Below w0.heap.size w0 W) : Pair w0 e size W 0 (.slice none 0 0) [] 0 (.slice none 0 0) [] :=
  ⟨h, World.ownsRow_nil _ _ _ _, World.ownsRow_nil _ _ _ _, fun q h => by simp [Value.ownBlock] at h⟩
theorem Pair.swap (J : Pair w0 e size W n1 v1 x1 n2 v2 x2) : Pair w0 e size W n2 v2 x2 n1 v1 x1 := ⟨J.below, J.r2, J.r1, fun q h h' => J.ne q h' h⟩
theorem owns_empty (W : World) {B : Nat} (hB : B ≤ W.heap.size) (e : TypeId) (size : Nat) : (W.alloc (.cells #[] e)).ownsRow B e size (.slice (some ⟨W.heap.size, 0, none⟩) 0 0) 0 [] :=
  ⟨by simp, .inr ⟨W.heap.size, 0, #[], rfl, hB, heap_alloc_new _ _, Nat.le_refl _, Nat.zero_le _, by simp, by simp⟩⟩
/-- A new row without elements. -/
theorem Pair.new1 (J : Pair w0 e size W n1 v1 x1 n2 v2 x2) : Pair w0 e size (W.alloc (.cells #[] e)) 0 (.slice (some ⟨W.heap.size, 0, none⟩) 0 0) [] n2 v2 x2 :=
  ⟨J.below.alloc J.below.size _, owns_empty W J.below.size e size, J.r2.alloc _, fun q h h' => by
    simp [Value.ownBlock] at h
    have := (J.r2.lt q h').2; omega⟩
theorem Pair.new2 (J : Pair w0 e size W n1 v1 x1 n2 v2 x2) : Pair w0 e size (W.alloc (.cells #[] e)) n1 v1 x1 0 (.slice (some ⟨W.heap.size, 0, none⟩) 0 0) [] := (J.swap.new1).swap
theorem Pair.at1 (J : Pair w0 e size W n1 v1 x1 n2 v2 x2) {b : Nat} (hb : b = W.heap.size) : Pair w0 e size (W.alloc (.cells #[] e)) 0 (.slice (some ⟨b, 0, none⟩) 0 0) [] n2 v2 x2 := by subst hb; exact J.new1
theorem Pair.at2 (J : Pair w0 e size W n1 v1 x1 n2 v2 x2) {b : Nat} (hb : b = W.heap.size) : Pair w0 e size (W.alloc (.cells #[] e)) n1 v1 x1 0 (.slice (some ⟨b, 0, none⟩) 0 0) [] := by subst hb; exact J.new2
theorem Pair.drew (J : Pair w0 e size W n1 v1 x1 n2 v2 x2) : Pair w0 e size W.drew n1 v1 x1 n2 v2 x2 := ⟨J.below.drew, J.r1, J.r2, J.ne⟩
theorem owns_grown {w w' : World} {B : Nat} {v : Value} {n : Nat} {xs : List Value} {row : Option Nat} (h : w.ownsRow B e size v n xs) (g : w.grownBy w' row) (hne : ∀ q, v.ownBlock = some q → row ≠ some q) : w'.ownsRow B e size v n xs := by
  obtain ⟨hl, (⟨h0, h1⟩ | ⟨b, cap, cur, rfl, hg2, hcur, hr⟩)⟩ := h
  · exact ⟨hl, .inl ⟨h0, h1⟩⟩
  · exact ⟨hl, .inr ⟨b, cap, cur, rfl, hg2, by rw [g.block b (Array.getElem?_eq_some_iff.1 hcur).1 (fun e => hne b rfl e.symm)]; exact hcur, hr⟩⟩
section
variable {P : Program} {ops : Array Oper} {o : Oper} {a : Act} {K : Act → World → Prop} {Q : Exit → Act → World → Prop} {E : Prop}
/-- An append to the first row, as a step of a region. -/
theorem Pair.step1 (hg : o.guard = none) (s x : Operand) (t : TypeId) (hop : o.op = Op.call { callee := Callee.builtin Builtin.append, args := #[s, x], argTypes := #[t, t] })
    (i : TypeInfo) (z : Value) (bytes : Nat) (h1 : P.underlying t = some (.slice e)) (h2 : P.info? e = some i) (h3 : i.zero = some z) (h4 : i.size = size) (h5 : i.bytes = bytes) (h6 : z.cells.size = size) (h7 : 0 < size)
    (J : Pair w0 e size W n1 v1 x1 n2 v2 x2) (hs : a.eval s = v1)
    (ad : Addr) (m c : Nat) (news : List Value) (hx : a.eval x = .slice (some ad) m c) (hn : news.length = m * size) (hc : ∀ j u, news[j]? = some u → w0.cell? (ad.add j) = some u) (h1c : ∀ u ∈ news, u.oneCell' = true)
    (b1 : n1 + m ≤ maxLen) (b2 : (n1 + m) * bytes ≤ 140737488355328)
    (hK : ∀ v' w', Pair w0 e size w' (n1 + m) v' (x1 ++ news) n2 v2 x2 → K (a.put o.dst v') w') :
    if Region.wanted o (yielded ops a.tmps) = true then Oper.wp P o a W K Q else E := by
  have hw : Region.wanted o (yielded ops a.tmps) = true := by simp [Region.wanted, hg]
  rw [if_pos hw]
  obtain ⟨v', w', hr, r1, r2, _, r4⟩ := run_append_own_at (P := P) W w0.heap.size t o.type e i z size bytes h1 h2 h3 h4 h5 h6 h7 v1 n1 x1 J.r1 ad m c news hn (fun j u hj => by
    have := hc j u hj
    rw [J.below.cell (World.block_lt_of_cell? _ _ this)]; exact this) h1c b1 b2 J.below.size
  unfold Oper.wp
  simp [execOp, hop, resolve, invoke, builtin, hs, hx, hr, Result.andThen]
  refine hK v' w' ⟨J.below.grown r2 J.below.size (fun k hk => (J.r1.lt k hk).1), r1, owns_grown J.r2 r2 (fun q hq hq' => J.ne q hq' hq), fun q hq hq' => ?_⟩
  rcases r4 with h | h
  · exact J.ne q (by rw [← h]; exact hq) hq'
  · rw [h] at hq
    have := (J.r2.lt q hq').2
    simp at hq; omega
theorem Pair.step2 (hg : o.guard = none) (s x : Operand) (t : TypeId) (hop : o.op = Op.call { callee := Callee.builtin Builtin.append, args := #[s, x], argTypes := #[t, t] })
    (i : TypeInfo) (z : Value) (bytes : Nat) (h1 : P.underlying t = some (.slice e)) (h2 : P.info? e = some i) (h3 : i.zero = some z) (h4 : i.size = size) (h5 : i.bytes = bytes) (h6 : z.cells.size = size) (h7 : 0 < size)
    (J : Pair w0 e size W n1 v1 x1 n2 v2 x2) (hs : a.eval s = v2)
    (ad : Addr) (m c : Nat) (news : List Value) (hx : a.eval x = .slice (some ad) m c) (hn : news.length = m * size) (hc : ∀ j u, news[j]? = some u → w0.cell? (ad.add j) = some u) (h1c : ∀ u ∈ news, u.oneCell' = true)
    (b1 : n2 + m ≤ maxLen) (b2 : (n2 + m) * bytes ≤ 140737488355328)
    (hK : ∀ v' w', Pair w0 e size w' n1 v1 x1 (n2 + m) v' (x2 ++ news) → K (a.put o.dst v') w') :
    if Region.wanted o (yielded ops a.tmps) = true then Oper.wp P o a W K Q else E :=
  Pair.step1 hg s x t hop i z bytes h1 h2 h3 h4 h5 h6 h7 J.swap hs ad m c news hx hn hc h1c b1 b2 fun v' w' h => hK v' w' h.swap
end
end Go.Proofs.Ytofoaheiblhpoaa
