/- geodelaw11: nodes that came in. -/
import Derived.Test.YtcihideabmpmjaaDoorQFnP
import Derived.Test.YtcihideabmpmjaaDoorQMaTab
namespace Go.Proofs.YtcihideabmpmjaaDoor
open Go.Deep Go.ChangeShapes Go.WideShapes Go.ChangeAt Go.RowKit Go.Joins

/-- A node: its cells, and what its supers are. -/
structure NdV where
  n : Int
  v : Value
  sups : List Int
  g : Bool
instance : Inhabited NdV := ⟨⟨0, .slice none 0 0, [], false⟩⟩
def ndC (a : NdV) : List Value := [.int .i64 a.n, a.v, .bool a.g]
structure NodesAt (w : World) (v : Value) (l : List NdV) : Prop where
  row : RowAt w 3 v l.length (l.flatMap ndC)
  ints : ∀ a ∈ l, IntsAt w a.v a.sups
theorem NodesAt.keep {w w' : World} {v : Value} {l : List NdV} (h : NodesAt w v l) (hk : ∀ p u, w.cell? p = some u → w'.cell? p = some u) : NodesAt w' v l :=
  ⟨RowAt.keep h.row hk, fun a ha => RowAt.keep (h.ints a ha) hk⟩
theorem NodesAt.below {w w' : World} {B : Nat} {v : Value} {l : List NdV} (h : NodesAt w v l) (hb : Below B w w') (hB : w.heap.size ≤ B) : NodesAt w' v l :=
  h.keep fun p u hp => by rw [hb.cell (Nat.lt_of_lt_of_le (World.block_lt_of_cell? _ _ hp) hB)]; exact hp
theorem NodesAt.form {w : World} {v : Value} {l : List NdV} (h : NodesAt w v l) : ∃ ao cap, v = .slice ao l.length cap := RowAt.form h.row
theorem NodesAt.at {w : World} {ao : Option Addr} {cap : Nat} {l : List NdV} (h : NodesAt w (.slice ao l.length cap) l) {i : Nat} {x : NdV} (hi : l[i]? = some x) : ∃ b off a c, ao = some ⟨b, off, none⟩ ∧ x.v = .slice a x.sups.length c ∧ IntsAt w (.slice a x.sups.length c) x.sups ∧
    w.cell? ⟨b, off + i * 3, none⟩ = some (.int .i64 x.n) ∧ w.cell? ⟨b, off + i * 3 + 1, none⟩ = some (.slice a x.sups.length c) ∧ w.cell? ⟨b, off + i * 3 + 2, none⟩ = some (.bool x.g) := by
  have hlt := (List.getElem?_eq_some_iff.1 hi).1
  obtain ⟨b, off, rfl, hb, _, hc⟩ := RowAt.at h.row (by decide) (by omega)
  have at' : ∀ j, j < 3 → w.cell? ⟨b, off + i * 3 + j, none⟩ = (ndC x)[j]? := fun j hj => by
    rw [Nat.add_assoc, hc (i * 3 + j) (by omega)]; exact flat_at (c := 3) (fun _ => rfl) l i j x hi hj
  have hx := h.ints x (List.mem_of_getElem? hi)
  obtain ⟨a, c, e⟩ := RowAt.form hx
  rw [e] at hx
  exact ⟨b, off, a, c, rfl, e, hx, at' 0 (by omega), by rw [at' 1 (by omega), ← e]; rfl, at' 2 (by omega)⟩
theorem ints_of_cellsN {w : World} {v : Value} {l : List Int} (h : CellsAt w v (l.map (Value.int .i64))) : IntsAt w v l := by
  rcases h with ⟨rfl, e⟩ | ⟨a, cap, rfl, hc, hx⟩
  · obtain rfl : l = [] := by simpa using e
    exact RowAt.nil w 1
  · rw [List.length_map] at hc
    refine ⟨by simp, .inr ⟨a, cap, by rw [List.length_map], hc, hx⟩⟩
section
variable {H : Type} {enc : TypeId × Value → H} {w : World} {base : Nat} {sp : Nat → Bool} {held : Bool}
set_option maxRecDepth 100000 in
theorem trod_node {fuel : Nat} {cs : List Value} {x : DataW H × List MemPlace} (h : DataW.trod enc Tryd.prog w base sp held fuel 30 cs = some x) : ∃ a : NdV, cs = ndC a ∧ IntsAt w a.v a.sups ∧ ∀ k ∈ a.sups, B64 k := by
  obtain ⟨y0, y1, y2, n, hl, h0, h1, h2⟩ := trod3 Tryd.underlying30 h
  have hc : Tryd.prog.cellsOf 30 = 3 := by kernel_rfl
  rw [hc] at hl
  match cs, hl with
  | [c0, c1, c2], _ =>
    have e0 : Tryd.prog.cellsOf 3 = 1 := by kernel_rfl
    have e1 : Tryd.prog.cellsOf 28 = 1 := by kernel_rfl
    have e2 : Tryd.prog.cellsOf 4 = 1 := by kernel_rfl
    simp [e0] at h0
    simp [e1] at h1
    simp [e2] at h2
    obtain ⟨a, ha, _⟩ := DataW.trod_int Tryd.underlying3 h0
    obtain ⟨v, l, hv, h3, _, h4⟩ := open_intcells Tryd.underlying28 Tryd.underlying3 (by kernel_rfl) h1
    obtain ⟨g, hg, _⟩ := DataW.trod_bool Tryd.underlying4 h2
    simp at ha hv hg
    exact ⟨⟨a, v, l, g⟩, by rw [ha, hv, hg]; rfl, ints_of_cellsN h3, fun k hk => bounds_i64 (h4 k hk)⟩
set_option maxRecDepth 100000 in
theorem open_nodes {r : Reach} {b0 : Nat} {v : Value} {d : DataW H} {ps : List MemPlace} (hval : Value.okWide Tryd.prog w r b0 22 v) (h : DataW.Trod enc Tryd.prog w base sp held 22 v d ps) : ∃ l : List NdV, NodesAt w v l ∧ l.length ≤ maxLen ∧ ∀ a ∈ l, ∀ k ∈ a.sups, B64 k := by
  obtain ⟨fu, hm⟩ := h
  obtain ⟨v', l, hv, h1, h2, h3⟩ := open_rows (f := ndC) (Q := fun a => IntsAt w a.v a.sups ∧ ∀ k ∈ a.sups, B64 k) (c := 3) Tryd.underlying22 (by kernel_rfl) (by decide) (fun _ => rfl) (fun _ _ _ h => trod_node h) hm
  obtain ⟨sa, sn, sc, rfl⟩ := okWide_slice Tryd.underlying22 hval
  have hy : Value.slice sa sn sc = v' := by simpa [Value.cells] using hv
  subst hy
  exact ⟨l, ⟨h1, fun a ha => (h3 a ha).1⟩, h2, fun a ha => (h3 a ha).2⟩
end
end Go.Proofs.YtcihideabmpmjaaDoor

/- package chain: the lines of a table's types (no program in sight). -/
namespace Go.Proofs.YtcihideabmpmjaaDoor
open Go.RowKit

/-- A type's line, by the lines of those ahead of it: the error, the line. -/
def nextL (L : List (List Nat)) (id : Nat) (sups : List Hp) : Int × List Nat :=
  match sups with
  | [] => (0, [id])
  | [s] => if s.k ≠ 15 ∨ (id : Int) ≤ s.n ∨ s.n < 0 ∨ (L.length : Int) ≤ s.n then (110, []) else if 64 ≤ (L.getD s.n.toNat []).length then (111, []) else (0, L.getD s.n.toNat [] ++ [id])
  | _ => (110, [])
/-- So many further types get their lines, or the first error. -/
def growL (ts : List Sb) : Nat → List (List Nat) → Int × List (List Nat)
  | 0, L => (0, L)
  | n + 1, L => match ts[L.length]? with
    | none => (0, L)
    | some s => if (nextL L L.length s.sups).1 = 0 then growL ts n (L ++ [(nextL L L.length s.sups).2]) else ((nextL L L.length s.sups).1, L)
def growAll (ts : List Sb) (L : List (List Nat)) : Int × List (List Nat) := growL ts (ts.length - L.length) L
/-- What a table's lines are: each ends in its type, has at most 64 numbers, all of the table. -/
structure LinesOk (L : List (List Nat)) : Prop where
  last : ∀ (i : Nat) p, L[i]? = some p → p.getLast? = some i
  len : ∀ p ∈ L, 0 < p.length ∧ p.length ≤ 64
  num : ∀ p ∈ L, ∀ x ∈ p, x < L.length
theorem linesOk_nil : LinesOk [] := ⟨fun i p h => by simp at h, by simp, by simp⟩
theorem linesOk_next {L : List (List Nat)} (h : LinesOk L) {sups : List Hp} (he : (nextL L L.length sups).1 = 0) : LinesOk (L ++ [(nextL L L.length sups).2]) := by
  obtain ⟨p, hp, hl, hn, hlast⟩ : ∃ p, (nextL L L.length sups).2 = p ∧ (0 < p.length ∧ p.length ≤ 64) ∧ (∀ x ∈ p, x < L.length + 1) ∧ p.getLast? = some L.length := by
    refine ⟨_, rfl, ?_⟩
    match sups, he with
    | [], _ => exact ⟨by simp [nextL], by simp [nextL], by simp [nextL]⟩
    | [s], he =>
      unfold nextL at he ⊢
      dsimp only at he ⊢
      split at he
      · simp at he
      · rename_i h1
        split at he
        · simp at he
        · rename_i h2
          rw [if_neg h1, if_neg h2]
          have hlt : s.n.toNat < L.length := by omega
          have hm : L.getD s.n.toNat [] ∈ L := by
            rw [List.getD_eq_getElem?_getD, List.getElem?_eq_getElem hlt]; exact List.getElem_mem _
          refine ⟨⟨by simp, by rw [List.length_append, List.length_singleton]; omega⟩, fun x hx => ?_, by simp⟩
          simp at hx
          rcases hx with hx | rfl
          · have := h.num _ hm x (by rw [List.getD_eq_getElem?_getD]; exact hx); omega
          · omega
    | a :: b :: r, he => unfold nextL at he; simp at he
  rw [hp]
  refine ⟨fun i q hq => ?_, fun q hq => ?_, fun q hq x hx => ?_⟩
  · by_cases hi : i < L.length
    · rw [List.getElem?_append_left hi] at hq; exact h.last i q hq
    · have h1 := (List.getElem?_eq_some_iff.1 hq).1
      simp at h1
      obtain rfl : i = L.length := by omega
      simp at hq
      subst hq; exact hlast
  · simp at hq
    rcases hq with hq | rfl
    · exact h.len q hq
    · exact hl
  · simp at hq ⊢
    rcases hq with hq | rfl
    · have := h.num q hq x hx; omega
    · exact hn x hx
/-- Who is below whom. -/
def belowL (L : List (List Nat)) (a b : Int) : Bool :=
  decide (0 ≤ a) && decide (a < L.length) && decide (0 ≤ b) && decide (b < L.length) &&
    (decide (((L.getD a.toNat []).getD ((L.getD b.toNat []).length - 1) 0 : Nat) = b.toNat) && decide ((L.getD b.toNat []).length ≤ (L.getD a.toNat []).length))
def depthL (L : List (List Nat)) (a : Int) : Int := if 0 ≤ a ∧ a < L.length then ((L.getD a.toNat []).length : Int) - 1 else -1
end Go.Proofs.YtcihideabmpmjaaDoor

/- package match: what it tells (no program in sight). -/
namespace Go.Proofs.YtcihideabmpmjaaDoor
open Go.RowKit

theorem boolOf (P : Prop) : ∃ r : Bool, (r = true ↔ P) := by
  by_cases h : P
  · exact ⟨true, by simp [h]⟩
  · exact ⟨false, by simp [h]⟩
/-- The family of a given heap type. -/
def fam (k : Int) : Int × Int :=
  if k = 1 ∨ k = 2 ∨ k = 3 ∨ k = 4 ∨ k = 5 ∨ k = 6 then (1, 6) else if k = 7 ∨ k = 8 then (7, 8) else if k = 9 ∨ k = 10 then (9, 10) else if k = 11 ∨ k = 12 then (11, 12) else (0, 0)
def belowG (a b t1 b1 t2 : Int) : Bool := if t1 ≠ t2 then false else if a = b ∨ a = b1 ∨ b = t1 then true else if b = 2 then decide (a = 3 ∨ a = 4 ∨ a = 5) else false
def belowB (a b : Int) : Bool := belowG a b (fam a).1 (fam a).2 (fam b).1
def kindK (k : Int) : Int := if k = 1 then 7 else if k = 2 then 4 else if k = 3 then 5 else 0
def ClosedP (n : Nat) (h : Hp) : Prop := GivenP h ∨ NumC n h
/-- What is reached by Supers. -/
inductive UpTo (ts : List Sb) (i : Nat) : Nat → Prop
  | refl : UpTo ts i i
  | step {j k : Nat} {s : Sb} {h : Hp} : UpTo ts i j → ts[j]? = some s → h ∈ s.sups → h.n = (k : Int) → UpTo ts i k
def Hits (ts : List Sb) (b : Hp) (j : Nat) : Prop := (b.k = 15 ∧ b.n = (j : Int)) ∨ (b.k ≠ 15 ∧ ∃ s, ts[j]? = some s ∧ belowB (kindK s.k) b.k = true)
def ClimbP (ts : List Sb) (i : Nat) (b : Hp) : Prop := ∃ j, UpTo ts i j ∧ Hits ts b j
def HeapP (ts : List Sb) (a b : Hp) : Prop :=
  ClosedP ts.length a ∧ ClosedP ts.length b ∧ (a = b ∨ (a.k = 15 ∧ ClimbP ts a.n.toNat b) ∨ (a.k ≠ 15 ∧ b.k = 15 ∧ ∃ s, ts[b.n.toNat]? = some s ∧ a.k = (fam (kindK s.k)).2) ∨ (a.k ≠ 15 ∧ b.k ≠ 15 ∧ belowB a.k b.k = true))
def NeverP (v : Vl) : Prop := v = ⟨3, false, 0, 0⟩
def ProperP (n : Nat) (v : Vl) : Prop := (v.k = 3 ∧ (NeverP v ∨ ClosedP n ⟨v.h, v.n⟩)) ∨ (v.k ≠ 3 ∧ 1 ≤ v.k ∧ v.k ≤ 4 ∧ v = ⟨v.k, false, 0, 0⟩)
def ValP (ts : List Sb) (a b : Vl) : Prop :=
  ProperP ts.length a ∧ ProperP ts.length b ∧ (a.k = 4 ∨ (a.k = b.k ∧ (a.k ≠ 3 ∨ NeverP a ∨ ((a.nl = true → b.nl = true) ∧ HeapP ts ⟨a.h, a.n⟩ ⟨b.h, b.n⟩))))
/-- Two lists, one by one. -/
def ListP {α : Type} (R : α → α → Prop) (l m : List α) : Prop := l.length = m.length ∧ ∀ (i : Nat) x y, l[i]? = some x → m[i]? = some y → R x y
def StoreP (ts : List Sb) (p q : Int) (a b : Vl) : Prop := (p = 0 ∨ p = 8 ∨ p = 16) ∧ p = q ∧ ValP ts a b
def FieldP (ts : List Sb) (a b : Fl) : Prop := a.m = b.m ∧ StoreP ts a.p b.p a.v b.v ∧ (a.m = true → StoreP ts b.p a.p b.v a.v)
def FieldsP (ts : List Sb) (l m : List Fl) : Prop := m.length ≤ l.length ∧ ∀ (i : Nat) x y, l[i]? = some x → m[i]? = some y → FieldP ts x y
def CompP (ts : List Sb) (a b : Sb) : Prop :=
  a.k = b.k ∧ ((a.k = 1 ∧ ListP (ValP ts) b.ps a.ps ∧ ListP (ValP ts) a.rs b.rs) ∨ (a.k = 2 ∧ FieldsP ts a.fs b.fs) ∨ (a.k = 3 ∧ a.fs.length = 1 ∧ b.fs.length = 1 ∧ FieldsP ts a.fs b.fs))
def kindAt (ts : List Sb) (h : Hp) : Int := if h.k = 15 then kindK ((ts[h.n.toNat]?).getD ⟨false, [], 0, [], [], []⟩).k else h.k

variable {ts : List Sb}
/-- A table: all types closed. -/
def Clo (ts : List Sb) : Prop := ∀ y ∈ ts, TypC ts.length y
theorem TabC.clo {gs : List (List Sb)} (h : TabC gs) : Clo (tabL gs) := fun y hy => by rw [tabL_len]; exact h.typ hy
theorem UpTo.trans {i j k : Nat} (h : UpTo ts i j) (h2 : UpTo ts j k) : UpTo ts i k := by
  induction h2 with
  | refl => exact h
  | step _ h3 h4 h5 ih => exact ih.step h3 h4 h5
theorem UpTo.lt {i j : Nat} (hc : Clo ts) (hi : i < ts.length) (h : UpTo ts i j) : j < ts.length := by
  induction h with
  | refl => exact hi
  | step _ h3 h4 h5 _ =>
    have := ((hc _ (List.mem_of_getElem? h3)).sups _ h4).2
    omega
/-- What is reached, when all that was met was looked at. -/
theorem up_in {i : Nat} {Z : Nat → Prop} (h0 : Z i) (h1 : ∀ (j k : Nat) s h, Z j → ts[j]? = some s → h ∈ s.sups → h.n = (k : Int) → Z k) {j : Nat} (hj : UpTo ts i j) : Z j := by
  induction hj with
  | refl => exact h0
  | step _ h3 h4 h5 ih => exact h1 _ _ _ _ ih h3 h4 h5
end Go.Proofs.YtcihideabmpmjaaDoor
