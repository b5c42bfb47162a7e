/- Of no program: a row of cells that is read, it may be empty; append of it, telling where the new row lies. -/
import Derived.Test.YtfpfpopfnbcblaaDoorQUpdBd
import Derived.Maps.AppendAt
import Derived.Laws.OwnMore
import Derived.Deep.Slices
import Derived.Test.YtfpfpopfnbcblaaDoorRows
import Derived.WalkKit
import Derived.WalkLawsBesides
import Derived.WalkSpells
import Derived.RegionTactic
import Derived.ChangeAlike
import Derived.Deep.QuietTactic
import Derived.BigQuiet
import Derived.Outline
import Derived.Lib.Hide
namespace Go.Proofs.YtfpfpopfnbcblaaDoor
open Go.RowKit Go.Maps

/-- A slice of n elements of c cells each reads as these cells. -/
def RowG (w : World) (c : Nat) (v : Value) (n : Nat) (xs : List Value) : Prop :=
  xs.length = n * c ∧ ((v = .slice none 0 0 ∧ n = 0) ∨ ∃ (a : Addr) (cap : Nat), v = .slice (some a) n cap ∧ n ≤ cap ∧ ∀ j u, xs[j]? = some u → w.cell? (a.add j) = some u)
variable {w w' : World} {c n : Nat} {v : Value} {xs : List Value}
theorem RowG.nil (w : World) (c : Nat) : RowG w c (.slice none 0 0) 0 [] := ⟨by simp, .inl ⟨rfl, rfl⟩⟩
theorem RowG.form (h : RowG w c v n xs) : ∃ ao cap, v = .slice ao n cap := by
  obtain ⟨_, ⟨rfl, rfl⟩ | ⟨a, cap, rfl, _⟩⟩ := h
  · exact ⟨_, _, rfl⟩
  · exact ⟨_, _, rfl⟩
theorem RowG.keep (h : RowG w c v n xs) (hk : ∀ p u, w.cell? p = some u → w'.cell? p = some u) : RowG w' c v n xs := by
  obtain ⟨h1, h | ⟨a, cap, rfl, h2, h3⟩⟩ := h
  · exact ⟨h1, .inl h⟩
  · exact ⟨h1, .inr ⟨a, cap, rfl, h2, fun j u hj => hk _ _ (h3 j u hj)⟩⟩
theorem RowG.below {B : Nat} (h : RowG w c v n xs) (hb : Below B w w') (hB : w.heap.size ≤ B) : RowG w' c v n xs :=
  h.keep fun p u hp => by rw [hb.cell (Nat.lt_of_lt_of_le (World.block_lt_of_cell? _ _ hp) hB)]; exact hp
theorem RowG.of_own {base : Nat} {e : TypeId} (h : w.ownsRow base e c v n xs) : RowG w c v n xs := by
  refine ⟨h.1, ?_⟩
  rcases h.2 with ⟨rfl, h0⟩ | ⟨g, cap, cur, rfl, hg, hh, hc, _, _, _⟩
  · exact .inl ⟨rfl, h0⟩
  · exact .inr ⟨⟨g, 0, none⟩, cap, rfl, hc, fun j u hu => h.cells (g := g) rfl j u hu⟩
theorem RowG.at {ao : Option Addr} {cap : Nat} (h : RowG w c (.slice ao n cap) n xs) (hc : 0 < c) (hn : 0 < n) : ∃ b off, ao = some ⟨b, off, none⟩ ∧ b < w.heap.size ∧ n ≤ cap ∧ ∀ j, j < n * c → w.cell? ⟨b, off + j, none⟩ = xs[j]? := by
  obtain ⟨h1, ⟨_, rfl⟩ | ⟨⟨b, off, sp⟩, cap', e, hle, hx⟩⟩ := h
  · omega
  · simp only [Value.slice.injEq] at e
    obtain ⟨rfl, _, rfl⟩ := e
    have hpos : 0 < xs.length := by rw [h1]; exact Nat.mul_pos hn hc
    have h0 := hx 0 xs[0] (by simp)
    have hsp : sp = none := by simpa [Addr.add] using World.cell?_spot h0
    subst hsp
    refine ⟨b, off, rfl, by have := World.block_lt_of_cell? _ _ h0; simpa [Addr.add] using this, hle, fun j hj => ?_⟩
    have hj' : j < xs.length := by rw [h1]; exact hj
    have := hx j xs[j] (by simp [hj'])
    rw [Addr.add_lit] at this
    rw [this]; simp [hj']
/-- The cells of a list of things, c cells each. -/
theorem flatG_len {α : Type} {f : α → List Value} {c : Nat} (hf : ∀ x, (f x).length = c) (l : List α) : (l.flatMap f).length = l.length * c := by
  induction l with
  | nil => simp
  | cons x l ih => rw [List.flatMap_cons, List.length_append, ih, hf, List.length_cons, Nat.add_mul]; omega
theorem flatG_at {α : Type} {f : α → List Value} {c : Nat} (hf : ∀ x, (f x).length = c) : ∀ (l : List α) (i j : Nat) (x : α), l[i]? = some x → j < c → (l.flatMap f)[i * c + j]? = (f x)[j]?
  | [], i, j, x, h, _ => by simp at h
  | y :: l, 0, j, x, h, hj => by
    simp at h; subst h
    rw [List.flatMap_cons, List.getElem?_append_left (by rw [hf]; omega)]; simp
  | y :: l, i + 1, j, x, h, hj => by
    rw [List.flatMap_cons, List.getElem?_append_right (by rw [hf, Nat.add_mul]; omega), hf, show (i + 1) * c + j - c = i * c + j by rw [Nat.add_mul]; omega]
    exact flatG_at hf l i j x (by simpa using h) hj
theorem wpList_append_rowG {P : Program} (w : World) {ops : Array Oper} {rest : List Oper} {o : Oper} {a : Act} {Q : Exit → Act → World → Prop} (hgd : o.guard = none) (s x : Operand) (t : TypeId)
    (ho : o.op = .call { callee := .builtin .append, args := #[s, x], argTypes := #[t, t] })
    (base : Nat) (e : TypeId) (i : TypeInfo) (z : Value) (size bytes : Nat) (ht : P.underlying t = some (.slice e)) (hi : P.info? e = some i) (hz : i.zero = some z)
    (hsize : i.size = size) (hby : i.bytes = bytes) (hzs : z.cells.size = size) (hsz : 0 < size)
    (v : Value) (n : Nat) (xs : List Value) (hs : a.eval s = v) (hown : w.ownsRow base e size v n xs)
    (y : Value) (m : Nat) (news : List Value) (hx : a.eval x = y) (hrow : RowG w size y m news) (h1 : ∀ u ∈ news, u.oneCell' = true)
    (h63 : n + m ≤ maxLen) (hbytes : (n + m) * bytes ≤ 140737488355328) (hbase : base ≤ w.heap.size)
    (h : ∀ v' w', w'.ownsRow base e size v' (n + m) (xs ++ news) → w.grownBy w' v.ownBlock → (v'.ownBlock = v.ownBlock ∨ v'.ownBlock = some w.heap.size) → wpList P ops Q rest (a.put o.dst v') w') : wpList P ops Q (o :: rest) a w := by
  obtain ⟨hl, ⟨rfl, rfl⟩ | ⟨ad, cap, rfl, hc, hnews⟩⟩ := hrow
  · refine wpList_plain hgd fun K hK => ?_
    have hr := run_append_owned_none (P := P) (w := w) base t o.type e i size ht hi v n xs hown
    unfold Oper.wp execOp
    simp only [ho, resolve, invoke, builtin, Sem.run_bind, Sem.run_pure, Result.andThen_ok, List.map_toArray, List.map_cons, List.map_nil, hs, hx, hr]
    refine hK _ _ (h v w ?_ ⟨rfl, rfl, rfl, Nat.le_refl _, fun _ _ _ => rfl⟩ (.inl rfl))
    have hn : news = [] := List.eq_nil_of_length_eq_zero (by simpa using hl)
    subst hn
    simpa using hown
  · exact wpList_append_own_at w hgd s x t ho base e i z size bytes ht hi hz hsize hby hzs hsz v n xs hs hown ad m cap news hx hl hnews h1 h63 hbytes hbase (fun v' w' r1 r2 _ r4 => h v' w' r1 r2 r4)
theorem step_append_rowG {P : Program} {ops : Array Oper} {o : Oper} {a : Act} {w : World} {K : Act → World → Prop} {Q : Exit → Act → World → Prop} {E : Prop} (hg : o.guard = none) (s x : Operand) (t : TypeId) (hop : o.op = Op.call { callee := Callee.builtin Builtin.append, args := #[s, x], argTypes := #[t, t] })
    (base : Nat) (e : TypeId) (i : TypeInfo) (z : Value) (size bytes : Nat) (ht : P.underlying t = some (.slice e)) (hi : P.info? e = some i) (hz : i.zero = some z)
    (hsize : i.size = size) (hby : i.bytes = bytes) (hzs : z.cells.size = size) (hsz : 0 < size)
    (v : Value) (n : Nat) (xs : List Value) (hs : a.eval s = v) (hown : w.ownsRow base e size v n xs)
    (y : Value) (m : Nat) (news : List Value) (hx : a.eval x = y) (hrow : RowG w size y m news) (h1 : ∀ u ∈ news, u.oneCell' = true)
    (h63 : n + m ≤ maxLen) (hbytes : (n + m) * bytes ≤ 140737488355328) (hbase : base ≤ w.heap.size)
    (hK : ∀ v' w', w'.ownsRow base e size v' (n + m) (xs ++ news) → w.grownBy w' v.ownBlock → (v'.ownBlock = v.ownBlock ∨ v'.ownBlock = some w.heap.size) → K (a.put o.dst v') w') :
    if Region.wanted o (yielded ops a.tmps) = true then Oper.wp P o a w K Q else E := by
  have hw : Region.wanted o (yielded ops a.tmps) = true := by simp [Region.wanted, hg]
  rw [if_pos hw]
  obtain ⟨hl, ⟨rfl, rfl⟩ | ⟨ad, cap, rfl, hc, hnews⟩⟩ := hrow
  · have hr := run_append_owned_none (P := P) (w := w) base t o.type e i size ht hi v n xs hown
    unfold Oper.wp
    simp [execOp, hop, resolve, invoke, builtin, hs, hx, hr, Result.andThen]
    refine hK v w ?_ ⟨rfl, rfl, rfl, Nat.le_refl _, fun _ _ _ => rfl⟩ (.inl rfl)
    have hn : news = [] := List.eq_nil_of_length_eq_zero (by simpa using hl)
    subst hn
    simpa using hown
  · obtain ⟨v', w', hr, r1, r2, _, r4⟩ := run_append_own_at (P := P) w base t o.type e i z size bytes ht hi hz hsize hby hzs hsz v n xs hown ad m cap news hl hnews h1 h63 hbytes hbase
    unfold Oper.wp
    simp [execOp, hop, resolve, invoke, builtin, hs, hx, hr, Result.andThen]
    exact hK v' w' r1 r2 r4
end Go.Proofs.YtfpfpopfnbcblaaDoor

/- Of no program: slices of things that came in, as rows that are read (RowG). -/
namespace Go.Proofs.YtfpfpopfnbcblaaDoor
open Go.Deep Go.ChangeShapes Go.WideShapes Go.ChangeAt Go.RowKit Go.Joins

theorem add_add (a : Addr) (i j : Nat) : (a.add i).add j = a.add (i + j) := by
  unfold Addr.add
  by_cases h0 : i = 0
  · subst h0; simp
  · by_cases h1 : j = 0
    · subst h1; simp
    · simp [h0, h1, Nat.add_assoc]
section
variable {H : Type} {enc : TypeId × Value → H} {w : World} {base : Nat} {sp : Nat → Bool} {held : Bool} {P : Program}
theorem trod3 {t : TypeId} {f0 f1 f2 : Field} {fuel : Nat} {cs : List Value} {x : DataW H × List MemPlace} (ht : P.underlying t = some (.struct #[f0, f1, f2])) (h : DataW.trod enc P w base sp held fuel t cs = some x) :
    ∃ y0 y1 y2 n, cs.length = P.cellsOf t ∧ DataW.trod enc P w base sp held n f0.type ((cs.drop f0.offset).take (P.cellsOf f0.type)) = some y0 ∧
      DataW.trod enc P w base sp held n f1.type ((cs.drop f1.offset).take (P.cellsOf f1.type)) = some y1 ∧ DataW.trod enc P w base sp held n f2.type ((cs.drop f2.offset).take (P.cellsOf f2.type)) = some y2 := by
  obtain ⟨xs, n, _, rfl, hl, hlen, hf⟩ := DataW.trod_struct ht h
  match xs, hlen with
  | [y0, y1, y2], _ => exact ⟨y0, y1, y2, n, hl, by simpa using hf 0 f0 rfl, by simpa using hf 1 f1 rfl, by simpa using hf 2 f2 rfl⟩
theorem trod4 {t : TypeId} {f0 f1 f2 f3 : Field} {fuel : Nat} {cs : List Value} {x : DataW H × List MemPlace} (ht : P.underlying t = some (.struct #[f0, f1, f2, f3])) (h : DataW.trod enc P w base sp held fuel t cs = some x) :
    ∃ y0 y1 y2 y3 n, cs.length = P.cellsOf t ∧ DataW.trod enc P w base sp held n f0.type ((cs.drop f0.offset).take (P.cellsOf f0.type)) = some y0 ∧
      DataW.trod enc P w base sp held n f1.type ((cs.drop f1.offset).take (P.cellsOf f1.type)) = some y1 ∧ DataW.trod enc P w base sp held n f2.type ((cs.drop f2.offset).take (P.cellsOf f2.type)) = some y2 ∧ DataW.trod enc P w base sp held n f3.type ((cs.drop f3.offset).take (P.cellsOf f3.type)) = some y3 := by
  obtain ⟨xs, n, _, rfl, hl, hlen, hf⟩ := DataW.trod_struct ht h
  match xs, hlen with
  | [y0, y1, y2, y3], _ => exact ⟨y0, y1, y2, y3, n, hl, by simpa using hf 0 f0 rfl, by simpa using hf 1 f1 rfl, by simpa using hf 2 f2 rfl, by simpa using hf 3 f3 rfl⟩
/-- A slice of things of c cells each that came in. -/
theorem open_rows {α : Type} [Inhabited α] {f : α → List Value} {Q : α → Prop} {c : Nat} {e t : TypeId} {fuel : Nat} {cs : List Value} {x : DataW H × List MemPlace} (ht : P.underlying t = some (.slice e)) (hc : P.cellsOf e = c) (hc0 : 0 < c) (hf : ∀ a, (f a).length = c)
    (hel : ∀ n cs x, DataW.trod enc P w base sp held n e cs = some x → ∃ a, cs = f a ∧ Q a) (h : DataW.trod enc P w base sp held fuel t cs = some x) :
    ∃ (v : Value) (l : List α), cs = [v] ∧ RowG w c v l.length (l.flatMap f) ∧ l.length ≤ maxLen ∧ ∀ a ∈ l, Q a := by
  rcases open_slice ht h with ⟨rfl, _⟩ | ⟨a, len, cap, m, n, D, Pl, rfl, hb, hl, hm, hmm, rfl, hx⟩
  · exact ⟨_, [], rfl, RowG.nil w c, Nat.zero_le _, by simp⟩
  rw [hc] at hx
  have hlm : len ≤ m := by rw [hmm]; split <;> omega
  obtain ⟨V, hV⟩ := choose_lt (α := α) (p := fun i v => w.cells? base (a.add (i * c)) c = some (f v) ∧ Q v) (n := len) (fun i hi => by
    obtain ⟨cs', h1, h2⟩ := hx i (by omega)
    obtain ⟨v, rfl, hq⟩ := hel _ _ _ h2
    exact ⟨v, h1, hq⟩)
  refine ⟨_, (List.range len).map V, rfl, ⟨flatG_len hf _, .inr ⟨a, cap, by simp, by simpa using hl, fun j u hu => ?_⟩⟩, by simp; omega, fun v hv => ?_⟩
  · have hj : j < len * c := by
      have := (List.getElem?_eq_some_iff.1 hu).1
      rw [flatG_len hf] at this; simpa using this
    have hjc : j / c < len := Nat.div_lt_of_lt_mul (by rw [Nat.mul_comm]; exact hj)
    have hjm : j % c < c := Nat.mod_lt _ hc0
    obtain ⟨_, _, hcell⟩ := World.cells?_some (hV (j / c) hjc).1
    have h1 := hcell (j % c) hjm
    have hd : j / c * c + j % c = j := by rw [Nat.mul_comm]; exact Nat.div_add_mod j c
    rw [add_add, hd] at h1
    rw [h1, ← hu, ← hd, flatG_at hf _ (j / c) (j % c) (V (j / c)) (by simp [hjc]) hjm, hd]
  · obtain ⟨i, hi, rfl⟩ := List.mem_map.1 hv
    exact (hV i (by simpa using hi)).2
end
end Go.Proofs.YtfpfpopfnbcblaaDoor

/- Of no program: a slice of one-cell elements that came in: the cells that it holds; slices of integers. -/
namespace Go.Proofs.YtfpfpopfnbcblaaDoor
open Go.Deep Go.ChangeShapes Go.WideShapes Go.ChangeAt Go.RowKit Go.Joins

/-- A slice holds these cells. -/
def CellsAt (w : World) (v : Value) (xs : List Value) : Prop :=
  (v = .slice none 0 0 ∧ xs = []) ∨ ∃ (a : Addr) (cap : Nat), v = .slice (some a) xs.length cap ∧ xs.length ≤ cap ∧ ∀ j u, xs[j]? = some u → w.cell? (a.add j) = some u
theorem CellsAt.form {w : World} {v : Value} {xs : List Value} (h : CellsAt w v xs) : ∃ ao cap, v = .slice ao xs.length cap := by
  rcases h with ⟨rfl, rfl⟩ | ⟨a, cap, rfl, _⟩
  · exact ⟨_, _, rfl⟩
  · exact ⟨_, _, rfl⟩
theorem CellsAt.at {w : World} {ao : Option Addr} {n cap : Nat} {xs : List Value} (h : CellsAt w (.slice ao n cap) xs) (hl : 0 < xs.length) : ∃ b off, ao = some ⟨b, off, none⟩ ∧ b < w.heap.size ∧ ∀ i (hi : i < xs.length), w.cell? ⟨b, off + i, none⟩ = some xs[i] := by
  rcases h with ⟨_, rfl⟩ | ⟨⟨b, off, sp⟩, cap', e, _, hc⟩
  · simp at hl
  · simp only [Value.slice.injEq] at e
    obtain ⟨rfl, _, _⟩ := e
    have h0 := hc 0 xs[0] (by simp)
    have hsp : sp = none := by simpa [Addr.add] using World.cell?_spot h0
    subst hsp
    refine ⟨b, off, rfl, by have := World.block_lt_of_cell? _ _ h0; simpa [Addr.add] using this, fun i hi => ?_⟩
    have := hc i xs[i] (by simp [hi])
    rwa [Addr.add_lit] at this
theorem CellsAt.below {w w' : World} {v : Value} {xs : List Value} (h : CellsAt w v xs) (hb : Below w.heap.size w w') : CellsAt w' v xs := by
  rcases h with h | ⟨a, cap, rfl, hc, h⟩
  · exact .inl h
  · exact .inr ⟨a, cap, rfl, hc, fun j u hu => by have := h j u hu; rw [hb.cell (World.block_lt_of_cell? _ _ this)]; exact this⟩
section
variable {H : Type} {enc : TypeId × Value → H} {P : Program} {w : World} {base : Nat} {sp : Nat → Bool} {held : Bool}
theorem open_cells {t e : TypeId} {fuel : Nat} {cs : List Value} {x : DataW H × List MemPlace} (ht : P.underlying t = some (.slice e)) (hc : P.cellsOf e = 1) (Q : Value → Prop) (hQ : ∀ fuel u x, DataW.trod enc P w base sp held fuel e [u] = some x → Q u) (h : DataW.trod enc P w base sp held fuel t cs = some x) :
    ∃ v xs, cs = [v] ∧ CellsAt w v xs ∧ xs.length ≤ maxLen ∧ ∀ u ∈ xs, Q u := by
  rcases open_slice1 ht hc h with ⟨rfl, _⟩ | ⟨a, len, cap, m, n, V, D, Pl, rfl, hb, hl, hm, hmm, rfl, hx⟩
  · exact ⟨_, [], rfl, .inl ⟨rfl, rfl⟩, Nat.zero_le _, fun _ h => by simp at h⟩
  have hlm : len ≤ m := by rw [hmm]; split <;> omega
  refine ⟨_, (List.range len).map V, rfl, .inr ⟨a, cap, by simp, by simpa using hl, fun j u hu => ?_⟩, by simp; omega, fun u hu => ?_⟩
  · have hj := (List.getElem?_eq_some_iff.1 hu).1
    simp at hj
    simp [hj] at hu
    subst hu
    exact (hx j (by omega)).1
  · obtain ⟨i, hi, rfl⟩ := List.mem_map.1 hu
    exact hQ _ _ _ (hx i (by have := List.mem_range.1 hi; omega)).2
theorem list_of_ints {k : IntKind} : ∀ (xs : List Value), (∀ u ∈ xs, ∃ n, u = .int k n ∧ (Lit.int k n).wf = true) → ∃ l : List Int, xs = l.map (.int k) ∧ ∀ n ∈ l, (Lit.int k n).wf = true
  | [], _ => ⟨[], rfl, fun _ h => by simp at h⟩
  | x :: xs, h => by
    obtain ⟨n, rfl, hn⟩ := h x (by simp)
    obtain ⟨l, rfl, hl⟩ := list_of_ints xs (fun u hu => h u (by simp [hu]))
    exact ⟨n :: l, rfl, fun m hm => by rcases List.mem_cons.1 hm with rfl | hm; exact hn; exact hl m hm⟩
theorem open_intcells {t e : TypeId} {k : IntKind} {fuel : Nat} {cs : List Value} {x : DataW H × List MemPlace} (ht : P.underlying t = some (.slice e)) (he : P.underlying e = some (.int k)) (hc : P.cellsOf e = 1) (h : DataW.trod enc P w base sp held fuel t cs = some x) :
    ∃ v l, cs = [v] ∧ CellsAt w v (List.map (.int k) l) ∧ l.length ≤ maxLen ∧ ∀ n ∈ l, (Lit.int k n).wf = true := by
  obtain ⟨v, xs, rfl, h1, h2, h3⟩ := open_cells ht hc (fun u => ∃ n, u = .int k n ∧ (Lit.int k n).wf = true) (fun fuel u x hx => by
    obtain ⟨n, hn, hw⟩ := DataW.trod_int he hx
    simp at hn
    exact ⟨n, hn, by first | exact hw.2 | exact hw.2.1⟩) h
  obtain ⟨l, rfl, hl⟩ := list_of_ints xs h3
  exact ⟨v, l, rfl, h1, by simpa using h2, hl⟩
end
end Go.Proofs.YtfpfpopfnbcblaaDoor

/- What the functions of layer 21 (word), and the reference's, compute: each one's contract. Condition: the table 'bounds' lies in its block as its initialiser lays it. -/
namespace Go.Proofs.YtfpfpopfnbcblaaDoor
open Go.RowKit

/-- The table 'bounds' lies in its block. -/
structure Tab (w : World) : Prop where
  c0 : w.cell? ⟨1, 0, none⟩ = some (.int .u64 0)
  c1 : w.cell? ⟨1, 1, none⟩ = some (.int .u64 1)
  c2 : w.cell? ⟨1, 2, none⟩ = some (.int .u64 0)
  c3 : w.cell? ⟨1, 3, none⟩ = some (.int .u64 2147483648)
  c4 : w.cell? ⟨1, 4, none⟩ = some (.int .u64 1)
  c5 : w.cell? ⟨1, 5, none⟩ = some (.int .u64 1099511627776)
  c6 : w.cell? ⟨1, 6, none⟩ = some (.int .u64 0)
  c7 : w.cell? ⟨1, 7, none⟩ = some (.int .u64 1099511627776)
  c8 : w.cell? ⟨1, 8, none⟩ = some (.int .u64 0)
  c9 : w.cell? ⟨1, 9, none⟩ = some (.int .u64 1099511627776)
  c10 : w.cell? ⟨1, 10, none⟩ = some (.int .u64 1)
  c11 : w.cell? ⟨1, 11, none⟩ = some (.int .u64 1099511627776)

theorem ret1 {k1 : IntKind} {a b : Int} (h : a = b) : Ending.returned (.int k1 a) = .returned (.int k1 b) := by rw [h]
theorem ret2 {k1 k2 : IntKind} {a b c d : Int} (h : a = b) (h' : c = d) : Ending.returned (.tuple #[.int k1 a, .int k2 c]) = .returned (.tuple #[.int k1 b, .int k2 d]) := by rw [h, h']
theorem ret3 {k1 k2 k3 : IntKind} {a b c d e f : Int} (h : a = b) (h' : c = d) (h'' : e = f) : Ending.returned (.tuple #[.int k1 a, .int k2 c, .int k3 e]) = .returned (.tuple #[.int k1 b, .int k2 d, .int k3 f]) := by rw [h, h', h'']

/-- Is there such a reference? -/
def there (k n : Int) : Bool :=
  (k == 0 && n == 0) || (k == 1 && decide (n < 2147483648)) || ((k == 2 || k == 5) && decide (1 ≤ n) && decide (n < 1099511627776)) || ((k == 3 || k == 4) && decide (n < 1099511627776))
def refW (k n : Int) : Int := if there k n then 8 * n + k else 0
def refE (k n : Int) : Int := if there k n then 0 else 2

theorem or3 (n k : Int) (h0 : 0 ≤ n) (h1 : n < 1099511627776) (h2 : 0 ≤ k) (h3 : k < 8) : bits .or .u64 (n * 8) k = 8 * n + k := by
  rw [u64_or _ _ (by omega) (by omega) (by omega) (by omega), nat_join 3 _ _ (by omega) (by omega)]
  omega

theorem ref_any (k n : Int) (w : World) (h0 : 0 ≤ n) (ht : Tab w) :
    Calls Tryd.prog 71 #[.int .i64 k, .int .u64 n] w fun e w' => e = .returned (.tuple #[.int .u64 (refW k n), .int .i64 (refE k n)]) ∧ w = w' := by
  obtain ⟨c0, c1, c2, c3, c4, c5, c6, c7, c8, c9, c10, c11⟩ := ht
  by_cases hk : k < 0
  · have hx : there k n = false := by simp [there]; omega
    have hr : refW k n = 0 := by simp [refW, hx]
    have hs : refE k n = 2 := by simp [refE, hx]
    clear hx c0 c1 c2 c3 c4 c5 c6 c7 c8 c9 c10 c11
    rw [hr, hs]; clear hr hs
    go_enter Tryd.func71, Tryd.ntmps71
    go_wp2
    go_ret2
    exact ⟨rfl, rfl⟩
  by_cases hk6 : 6 ≤ k
  · have hx : there k n = false := by simp [there]; omega
    have hr : refW k n = 0 := by simp [refW, hx]
    have hs : refE k n = 2 := by simp [refE, hx]
    clear hx c0 c1 c2 c3 c4 c5 c6 c7 c8 c9 c10 c11
    rw [hr, hs]; clear hr hs
    go_enter Tryd.func71, Tryd.ntmps71
    go_wp2
    go_ret2
    exact ⟨rfl, rfl⟩
  have hk' : k = 0 ∨ k = 1 ∨ k = 2 ∨ k = 3 ∨ k = 4 ∨ k = 5 := by omega
  clear hk hk6
  rcases hk' with rfl | rfl | rfl | rfl | rfl | rfl
  · clear c2 c3 c4 c5 c6 c7 c8 c9 c10 c11
    go_enter Tryd.func71, Tryd.ntmps71
    go_wp2
    all_goals go_ret2
    all_goals refine ⟨ret2 ?_ ?_, rfl⟩
    all_goals simp [refW, refE, there]
    all_goals first | omega | (rw [or3 _ _ (by omega) (by omega) (by omega) (by omega)]; omega)
  · clear c0 c1 c4 c5 c6 c7 c8 c9 c10 c11
    go_enter Tryd.func71, Tryd.ntmps71
    go_wp2
    all_goals go_ret2
    all_goals refine ⟨ret2 ?_ ?_, rfl⟩
    all_goals simp [refW, refE, there]
    all_goals first | omega | (rw [or3 _ _ (by omega) (by omega) (by omega) (by omega)]; omega)
  · clear c0 c1 c2 c3 c6 c7 c8 c9 c10 c11
    go_enter Tryd.func71, Tryd.ntmps71
    go_wp2
    all_goals go_ret2
    all_goals refine ⟨ret2 ?_ ?_, rfl⟩
    all_goals simp [refW, refE, there]
    all_goals first | omega | (rw [or3 _ _ (by omega) (by omega) (by omega) (by omega)]; omega)
  · clear c0 c1 c2 c3 c4 c5 c8 c9 c10 c11
    go_enter Tryd.func71, Tryd.ntmps71
    go_wp2
    all_goals go_ret2
    all_goals refine ⟨ret2 ?_ ?_, rfl⟩
    all_goals simp [refW, refE, there]
    all_goals first | omega | (rw [or3 _ _ (by omega) (by omega) (by omega) (by omega)]; omega)
  · clear c0 c1 c2 c3 c4 c5 c6 c7 c10 c11
    go_enter Tryd.func71, Tryd.ntmps71
    go_wp2
    all_goals go_ret2
    all_goals refine ⟨ret2 ?_ ?_, rfl⟩
    all_goals simp [refW, refE, there]
    all_goals first | omega | (rw [or3 _ _ (by omega) (by omega) (by omega) (by omega)]; omega)
  · clear c0 c1 c2 c3 c4 c5 c6 c7 c8 c9
    go_enter Tryd.func71, Tryd.ntmps71
    go_wp2
    all_goals go_ret2
    all_goals refine ⟨ret2 ?_ ?_, rfl⟩
    all_goals simp [refW, refE, there]
    all_goals first | omega | (rw [or3 _ _ (by omega) (by omega) (by omega) (by omega)]; omega)

theorem There_any (k n : Int) (w : World) (h0 : 0 ≤ n) :
    Calls Tryd.prog 66 #[.int .i64 k, .int .u64 n] w fun e w' => e = .returned (.bool (there k n)) ∧ w = w' := by
  by_cases hk : k < 0 ∨ 6 ≤ k
  · have hx : there k n = false := by simp [there]; omega
    rw [hx]; clear hx
    have b0 : (k == 0) = false := by simp; omega
    have b1 : (k == 1) = false := by simp; omega
    have b2 : (k == 2) = false := by simp; omega
    have b3 : (k == 3) = false := by simp; omega
    have b4 : (k == 4) = false := by simp; omega
    have b5 : (k == 5) = false := by simp; omega
    clear hk
    go_enter Tryd.func66, Tryd.ntmps66
    go_wp2
    go_ret
    exact ⟨rfl, rfl⟩
  have hk' : k = 0 ∨ k = 1 ∨ k = 2 ∨ k = 3 ∨ k = 4 ∨ k = 5 := by omega
  clear hk
  rcases hk' with rfl | rfl | rfl | rfl | rfl | rfl
  all_goals
    go_enter Tryd.func66, Tryd.ntmps66
    go_wp2
    all_goals go_ret
    all_goals refine ⟨?_, rfl⟩
    all_goals simp [there]
  all_goals omega

def ofK (w : Int) : Int := if there (w % 8) (w / 8) then w % 8 else 0
def ofN (w : Int) : Int := if there (w % 8) (w / 8) then w / 8 else 0
def ofE (w : Int) : Int := if there (w % 8) (w / 8) then 0 else 2

theorem mask7 (x : Int) (h0 : 0 ≤ x) (h1 : x < 18446744073709551616) : bits .and .u64 x 7 = x % 8 := by
  rw [u64_and _ _ h0 h1 (by omega) (by omega)]
  have : (7 : Int).toNat = 7 := rfl
  rw [this, nat_mask3]; omega
theorem mask7' (x : Int) (h0 : 0 ≤ x) (h1 : x < 18446744073709551616) : wrap64 (bits .and .u64 x 7) = x % 8 := by
  rw [mask7 x h0 h1, IntWalk.wrap64_in _ (by omega)]

theorem Of_any (x : Int) (w : World) (h0 : 0 ≤ x) (h1 : x < 18446744073709551616) (ht : Tab w) :
    Calls Tryd.prog 67 #[.int .u64 x] w fun e w' => e = .returned (.tuple #[.int .i64 (ofK x), .int .u64 (ofN x), .int .i64 (ofE x)]) ∧ w = w' := by
  have Ht := Lib.hid ht; clear ht
  cases hx : there (x % 8) (x / 8)
  · rw [show ofK x = 0 by simp [ofK, hx], show ofN x = 0 by simp [ofN, hx], show ofE x = 2 by simp [ofE, hx]]
    have hy : refE (x % 8) (x / 8) = 2 := by simp [refE, hx]
    have Hx := Lib.hid hy; clear hy
    clear hx
    go_enter Tryd.func67, Tryd.ntmps67
    go_wp2_with fail
    rw [mask7' x h0 h1]
    refine (ref_any _ _ _ (by omega) Ht.out).mono ?_
    rintro e w' ⟨rfl, rfl⟩
    rw [Hx.out]
    go_wp2
    go_ret3
    exact ⟨rfl, rfl⟩
  · rw [show ofK x = x % 8 by simp [ofK, hx], show ofN x = x / 8 by simp [ofN, hx], show ofE x = 0 by simp [ofE, hx]]
    have hy : refE (x % 8) (x / 8) = 0 := by simp [refE, hx]
    have Hx := Lib.hid hy; clear hy
    clear hx
    go_enter Tryd.func67, Tryd.ntmps67
    go_wp2_with fail
    rw [mask7' x h0 h1]
    refine (ref_any _ _ _ (by omega) Ht.out).mono ?_
    rintro e w' ⟨rfl, rfl⟩
    rw [Hx.out]
    go_wp2
    go_ret3
    exact ⟨rfl, rfl⟩

theorem ROf_any (x : Int) (w : World) (h0 : 0 ≤ x) (h1 : x < 18446744073709551616) :
    Calls Tryd.prog 51 #[.int .u64 x] w fun e w' => e = .returned (.tuple #[.int .i64 (ofK x), .int .u64 (ofN x), .int .i64 (ofE x)]) ∧ w = w' := by
  cases hx : there (x % 8) (x / 8)
  · rw [show ofK x = 0 by simp [ofK, hx], show ofN x = 0 by simp [ofN, hx], show ofE x = 2 by simp [ofE, hx]]
    have Hx := Lib.hid hx; clear hx
    go_enter Tryd.func51, Tryd.ntmps51
    go_wp2_with fail
    refine (There_any _ _ _ (by omega)).mono ?_
    rintro e w' ⟨rfl, rfl⟩
    rw [Hx.out]
    go_wp2
    go_ret3
    exact ⟨rfl, rfl⟩
  · rw [show ofK x = x % 8 by simp [ofK, hx], show ofN x = x / 8 by simp [ofN, hx], show ofE x = 0 by simp [ofE, hx]]
    have Hx := Lib.hid hx; clear hx
    go_enter Tryd.func51, Tryd.ntmps51
    go_wp2_with fail
    refine (There_any _ _ _ (by omega)).mono ?_
    rintro e w' ⟨rfl, rfl⟩
    rw [Hx.out]
    go_wp2
    go_ret3
    exact ⟨rfl, rfl⟩

theorem i31_bits (n : Int) (h0 : 0 ≤ n) (h1 : n < 18446744073709551616) : bits .or .u64 (IntKind.u64.wrap (bits .and .u64 n 2147483647 * 8)) 1 = 8 * (n % 2147483648) + 1 := by
  have e : bits .and .u64 n 2147483647 = n % 2147483648 := by
    rw [u64_and _ _ h0 h1 (by omega) (by omega)]
    have : (2147483647 : Int).toNat = 2147483647 := rfl
    rw [this, nat_mask31]; omega
  rw [e, IntWalk.u64_in _ (by omega), or3 _ _ (by omega) (by omega) (by omega) (by omega)]

/-- The small number of a word. -/
def isI31 (x : Int) : Bool := there (x % 8) (x / 8) && x % 8 == 1
def numF (x : Int) (s : Bool) : Int := if isI31 x then (if s && decide (1073741824 ≤ x / 8) then x / 8 + 2147483648 else x / 8) else 0
theorem sign_bits (n : Int) (h0 : 0 ≤ n) (h1 : n < 2147483648) :
    bits .or .u64 n (bits .and .u64 (IntKind.u64.wrap (n * 2)) 2147483648) = if 1073741824 ≤ n then n + 2147483648 else n := by
  rw [IntWalk.u64_in _ (by omega), u64_and _ _ (by omega) (by omega) (by omega) (by omega)]
  have e : (2147483648 : Int).toNat = 2 ^ 31 := rfl
  rw [e, nat_bit]
  by_cases h : 1073741824 ≤ n
  · rw [if_pos h, u64_or _ _ h0 (by omega) (by omega) (by omega)]
    have e1 : (n * 2).toNat / 2 ^ 31 % 2 * 2 ^ 31 = 2147483648 := by omega
    rw [e1]
    have e2 : ((2147483648 : Nat) : Int).toNat = 2147483648 := rfl
    rw [e2, Nat.or_comm, nat_join 31 _ _ (by omega) (by omega)]
    omega
  · rw [if_neg h, u64_or _ _ h0 (by omega) (by omega) (by omega)]
    have e1 : (n * 2).toNat / 2 ^ 31 % 2 * 2 ^ 31 = 0 := by omega
    rw [e1]
    simp; omega


end Go.Proofs.YtfpfpopfnbcblaaDoor
