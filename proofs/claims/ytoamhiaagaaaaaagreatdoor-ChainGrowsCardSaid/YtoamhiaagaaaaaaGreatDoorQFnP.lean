/- Declared types and value types that came in: what they hold, and that their numbers are of 64 bits. -/
import Derived.Test.YtoamhiaagaaaaaaGreatDoorQKdComp
import Derived.Test.YtoamhiaagaaaaaaGreatDoorQFlat
import Derived.Deep.Slices
import Derived.Test.YtoamhiaagaaaaaaGreatDoorQKdRowsP
import Derived.WalkKit
namespace Go.Proofs.YtoamhiaagaaaaaaGreatDoor
open Go.Deep Go.ChangeShapes Go.WideShapes Go.ChangeAt Go.RowKit Go.Joins

theorem add_add (a : Addr) (i j : Nat) : (a.add i).add j = a.add (i + j) := by
  unfold Addr.add
  by_cases h0 : i = 0
  · subst h0; simp
  · by_cases h1 : j = 0
    · subst h1; simp
    · simp [h0, h1, Nat.add_assoc]
section
variable {H : Type} {enc : TypeId × Value → H} {w : World} {base : Nat} {sp : Nat → Bool} {held : Bool} {P : Program}
theorem trod3 {t : TypeId} {f0 f1 f2 : Field} {fuel : Nat} {cs : List Value} {x : DataW H × List MemPlace} (ht : P.underlying t = some (.struct #[f0, f1, f2])) (h : DataW.trod enc P w base sp held fuel t cs = some x) :
    ∃ y0 y1 y2 n, cs.length = P.cellsOf t ∧ DataW.trod enc P w base sp held n f0.type ((cs.drop f0.offset).take (P.cellsOf f0.type)) = some y0 ∧
      DataW.trod enc P w base sp held n f1.type ((cs.drop f1.offset).take (P.cellsOf f1.type)) = some y1 ∧ DataW.trod enc P w base sp held n f2.type ((cs.drop f2.offset).take (P.cellsOf f2.type)) = some y2 := by
  obtain ⟨xs, n, _, rfl, hl, hlen, hf⟩ := DataW.trod_struct ht h
  match xs, hlen with
  | [y0, y1, y2], _ => exact ⟨y0, y1, y2, n, hl, by simpa using hf 0 f0 rfl, by simpa using hf 1 f1 rfl, by simpa using hf 2 f2 rfl⟩
theorem trod4 {t : TypeId} {f0 f1 f2 f3 : Field} {fuel : Nat} {cs : List Value} {x : DataW H × List MemPlace} (ht : P.underlying t = some (.struct #[f0, f1, f2, f3])) (h : DataW.trod enc P w base sp held fuel t cs = some x) :
    ∃ y0 y1 y2 y3 n, cs.length = P.cellsOf t ∧ DataW.trod enc P w base sp held n f0.type ((cs.drop f0.offset).take (P.cellsOf f0.type)) = some y0 ∧
      DataW.trod enc P w base sp held n f1.type ((cs.drop f1.offset).take (P.cellsOf f1.type)) = some y1 ∧ DataW.trod enc P w base sp held n f2.type ((cs.drop f2.offset).take (P.cellsOf f2.type)) = some y2 ∧ DataW.trod enc P w base sp held n f3.type ((cs.drop f3.offset).take (P.cellsOf f3.type)) = some y3 := by
  obtain ⟨xs, n, _, rfl, hl, hlen, hf⟩ := DataW.trod_struct ht h
  match xs, hlen with
  | [y0, y1, y2, y3], _ => exact ⟨y0, y1, y2, y3, n, hl, by simpa using hf 0 f0 rfl, by simpa using hf 1 f1 rfl, by simpa using hf 2 f2 rfl, by simpa using hf 3 f3 rfl⟩
/-- A slice of things of c cells each that came in. -/
theorem open_rows {α : Type} [Inhabited α] {f : α → List Value} {Q : α → Prop} {c : Nat} {e t : TypeId} {fuel : Nat} {cs : List Value} {x : DataW H × List MemPlace} (ht : P.underlying t = some (.slice e)) (hc : P.cellsOf e = c) (hc0 : 0 < c) (hf : ∀ a, (f a).length = c)
    (hel : ∀ n cs x, DataW.trod enc P w base sp held n e cs = some x → ∃ a, cs = f a ∧ Q a) (h : DataW.trod enc P w base sp held fuel t cs = some x) :
    ∃ (v : Value) (l : List α), cs = [v] ∧ RowAt w c v l.length (l.flatMap f) ∧ l.length ≤ maxLen ∧ ∀ a ∈ l, Q a := by
  rcases open_slice ht h with ⟨rfl, _⟩ | ⟨a, len, cap, m, n, D, Pl, rfl, hb, hl, hm, hmm, rfl, hx⟩
  · exact ⟨_, [], rfl, RowAt.nil w c, Nat.zero_le _, by simp⟩
  rw [hc] at hx
  have hlm : len ≤ m := by rw [hmm]; split <;> omega
  obtain ⟨V, hV⟩ := choose_lt (α := α) (p := fun i v => w.cells? base (a.add (i * c)) c = some (f v) ∧ Q v) (n := len) (fun i hi => by
    obtain ⟨cs', h1, h2⟩ := hx i (by omega)
    obtain ⟨v, rfl, hq⟩ := hel _ _ _ h2
    exact ⟨v, h1, hq⟩)
  refine ⟨_, (List.range len).map V, rfl, ⟨flat_len hf _, .inr ⟨a, cap, by simp, by simpa using hl, fun j u hu => ?_⟩⟩, by simp; omega, fun v hv => ?_⟩
  · have hj : j < len * c := by
      have := (List.getElem?_eq_some_iff.1 hu).1
      rw [flat_len hf] at this; simpa using this
    have hjc : j / c < len := Nat.div_lt_of_lt_mul (by rw [Nat.mul_comm]; exact hj)
    have hjm : j % c < c := Nat.mod_lt _ hc0
    obtain ⟨_, _, hcell⟩ := World.cells?_some (hV (j / c) hjc).1
    have h1 := hcell (j % c) hjm
    have hd : j / c * c + j % c = j := by rw [Nat.mul_comm]; exact Nat.div_add_mod j c
    rw [add_add, hd] at h1
    rw [h1, ← hu, ← hd, flat_at hf _ (j / c) (j % c) (V (j / c)) (by simp [hjc]) hjm, hd]
  · obtain ⟨i, hi, rfl⟩ := List.mem_map.1 hv
    exact (hV i (by simpa using hi)).2
end
section
variable {H : Type} {enc : TypeId × Value → H} {w : World} {base : Nat} {sp : Nat → Bool} {held : Bool}
instance : Inhabited Hp := ⟨⟨0, 0⟩⟩
instance : Inhabited Vl := ⟨⟨0, false, 0, 0⟩⟩
instance : Inhabited Fl := ⟨⟨0, default, false⟩⟩
set_option maxRecDepth 100000 in
theorem trod_heap {fuel : Nat} {cs : List Value} {x : DataW H × List MemPlace} (h : DataW.trod enc Tryz.prog w base sp held fuel 26 cs = some x) : ∃ a : Hp, cs = cellsH a ∧ B64 a.n := by
  obtain ⟨y0, y1, n, _, hl, h0, h1⟩ := trod_struct2 Tryz.underlying26 h
  have hc : Tryz.prog.cellsOf 26 = 2 := by kernel_rfl
  rw [hc] at hl
  match cs, hl with
  | [c0, c1], _ =>
    have e0 : Tryz.prog.cellsOf 24 = 1 := by kernel_rfl
    have e1 : Tryz.prog.cellsOf 3 = 1 := by kernel_rfl
    simp [e0] at h0
    simp [e1] at h1
    obtain ⟨a, ha, _⟩ := DataW.trod_int Tryz.underlying24 h0
    obtain ⟨b, hb, _, wb⟩ := DataW.trod_int Tryz.underlying3 h1
    simp at ha hb
    exact ⟨⟨a, b⟩, by rw [ha, hb]; rfl, bounds_i64 wb⟩
set_option maxRecDepth 100000 in
theorem trod_val {fuel : Nat} {cs : List Value} {x : DataW H × List MemPlace} (h : DataW.trod enc Tryz.prog w base sp held fuel 28 cs = some x) : ∃ v : Vl, cs = cellsV v ∧ B64 v.n := by
  obtain ⟨y0, y1, y2, n, hl, h0, h1, h2⟩ := trod3 Tryz.underlying28 h
  have hc : Tryz.prog.cellsOf 28 = 4 := by kernel_rfl
  rw [hc] at hl
  match cs, hl with
  | [c0, c1, c2, c3], _ =>
    have e0 : Tryz.prog.cellsOf 23 = 1 := by kernel_rfl
    have e1 : Tryz.prog.cellsOf 4 = 1 := by kernel_rfl
    have e2 : Tryz.prog.cellsOf 26 = 2 := by kernel_rfl
    simp [e0] at h0
    simp [e1] at h1
    simp [e2] at h2
    obtain ⟨a, ha, _⟩ := DataW.trod_int Tryz.underlying23 h0
    obtain ⟨b, hb, _⟩ := DataW.trod_bool Tryz.underlying4 h1
    obtain ⟨⟨c, d⟩, hcd, hB⟩ := trod_heap h2
    simp [cellsH] at ha hb hcd
    exact ⟨⟨a, b, c, d⟩, by rw [ha, hb, hcd.1, hcd.2]; rfl, hB⟩
set_option maxRecDepth 100000 in
theorem trod_store {fuel : Nat} {cs : List Value} {x : DataW H × List MemPlace} (h : DataW.trod enc Tryz.prog w base sp held fuel 105 cs = some x) : ∃ (p : Int) (v : Vl), cs = .int .i64 p :: cellsV v ∧ B64 v.n ∧ B64 p := by
  obtain ⟨y0, y1, n, _, hl, h0, h1⟩ := trod_struct2 Tryz.underlying105 h
  have hc : Tryz.prog.cellsOf 105 = 5 := by kernel_rfl
  rw [hc] at hl
  match cs, hl with
  | [c0, c1, c2, c3, c4], _ =>
    have e0 : Tryz.prog.cellsOf 3 = 1 := by kernel_rfl
    have e1 : Tryz.prog.cellsOf 28 = 4 := by kernel_rfl
    simp [e0] at h0
    simp [e1] at h1
    obtain ⟨p, hp, _, wp⟩ := DataW.trod_int Tryz.underlying3 h0
    obtain ⟨v, hv, hB⟩ := trod_val h1
    simp at hp
    exact ⟨p, v, by rw [hp, ← hv], hB, bounds_i64 wp⟩
set_option maxRecDepth 100000 in
theorem trod_field {fuel : Nat} {cs : List Value} {x : DataW H × List MemPlace} (h : DataW.trod enc Tryz.prog w base sp held fuel 107 cs = some x) : ∃ f : Fl, cs = cellsF f ∧ B64 f.v.n ∧ B64 f.p := by
  obtain ⟨y0, y1, n, _, hl, h0, h1⟩ := trod_struct2 Tryz.underlying107 h
  have hc : Tryz.prog.cellsOf 107 = 6 := by kernel_rfl
  rw [hc] at hl
  match cs, hl with
  | [c0, c1, c2, c3, c4, c5], _ =>
    have e0 : Tryz.prog.cellsOf 4 = 1 := by kernel_rfl
    have e1 : Tryz.prog.cellsOf 105 = 5 := by kernel_rfl
    simp [e0, e1] at h0 h1
    obtain ⟨p, v, hv, hB, hp⟩ := trod_store h0
    obtain ⟨m, hm, _⟩ := DataW.trod_bool Tryz.underlying4 h1
    simp [cellsV] at hv hm
    obtain ⟨rfl, rfl, rfl, rfl, rfl⟩ := hv
    exact ⟨⟨p, v, m⟩, by rw [hm]; rfl, hB, hp⟩
set_option maxRecDepth 100000 in
theorem trod_comp {fuel : Nat} {cs : List Value} {x : DataW H × List MemPlace} (h : DataW.trod enc Tryz.prog w base sp held fuel 46 cs = some x) : ∃ (k : Int) (vp vr vf : Value) (ps rs : List Vl) (fs : List Fl), cs = [.int .i64 k, vp, vr, vf] ∧ ValsAt w vp ps ∧ ValsAt w vr rs ∧ FlsAt w vf fs ∧ (∀ v ∈ ps, B64 v.n) ∧ (∀ v ∈ rs, B64 v.n) ∧ ∀ f ∈ fs, B64 f.v.n ∧ B64 f.p := by
  obtain ⟨y0, y1, y2, y3, n, hl, h0, h1, h2, h3⟩ := trod4 Tryz.underlying46 h
  have hc : Tryz.prog.cellsOf 46 = 4 := by kernel_rfl
  rw [hc] at hl
  match cs, hl with
  | [c0, c1, c2, c3], _ =>
    have e0 : Tryz.prog.cellsOf 42 = 1 := by kernel_rfl
    have e1 : Tryz.prog.cellsOf 43 = 1 := by kernel_rfl
    have e2 : Tryz.prog.cellsOf 44 = 1 := by kernel_rfl
    simp [e0] at h0
    simp [e1] at h1 h2
    simp [e2] at h3
    obtain ⟨k, hk, _⟩ := DataW.trod_int Tryz.underlying42 h0
    obtain ⟨vp, ps, hp, rp, _, bp⟩ := open_rows (f := cellsV) (Q := fun v => B64 v.n) (c := 4) Tryz.underlying43 (by kernel_rfl) (by decide) (fun _ => rfl) (fun _ _ _ h => trod_val h) h1
    obtain ⟨vr, rs, hr, rr, _, br⟩ := open_rows (f := cellsV) (Q := fun v => B64 v.n) (c := 4) Tryz.underlying43 (by kernel_rfl) (by decide) (fun _ => rfl) (fun _ _ _ h => trod_val h) h2
    obtain ⟨vf, fs, hf, rf, _, bf⟩ := open_rows (f := cellsF) (Q := fun f => B64 f.v.n ∧ B64 f.p) (c := 6) Tryz.underlying44 (by kernel_rfl) (by decide) (fun _ => rfl) (fun _ _ _ h => trod_field h) h3
    simp at hk hp hr hf
    exact ⟨k, vp, vr, vf, ps, rs, fs, by rw [hk, hp, hr, hf], rp, rr, rf, bp, br, bf⟩
set_option maxRecDepth 100000 in
theorem trod_sub {fuel : Nat} {cs : List Value} {x : DataW H × List MemPlace} (h : DataW.trod enc Tryz.prog w base sp held fuel 48 cs = some x) : ∃ s : Sb, SubAt w cs s ∧ (Small s → Fits s) := by
  obtain ⟨y0, y1, y2, n, hl, h0, h1, h2⟩ := trod3 Tryz.underlying48 h
  have hc : Tryz.prog.cellsOf 48 = 6 := by kernel_rfl
  rw [hc] at hl
  match cs, hl with
  | [c0, c1, c2, c3, c4, c5], _ =>
    have e0 : Tryz.prog.cellsOf 4 = 1 := by kernel_rfl
    have e1 : Tryz.prog.cellsOf 41 = 1 := by kernel_rfl
    have e2 : Tryz.prog.cellsOf 46 = 4 := by kernel_rfl
    simp [e0] at h0
    simp [e1] at h1
    simp [e2] at h2
    obtain ⟨b, hb, _⟩ := DataW.trod_bool Tryz.underlying4 h0
    obtain ⟨vs, ss, hs, rs, _, bs⟩ := open_rows (f := cellsH) (Q := fun a => B64 a.n) (c := 2) Tryz.underlying41 (by kernel_rfl) (by decide) (fun _ => rfl) (fun _ _ _ h => trod_heap h) h1
    obtain ⟨k, vp, vr, vf, lp, lr, lf, hcc, rp, rr, rf, bp, br, bf⟩ := trod_comp h2
    simp at hb hs hcc
    obtain ⟨rfl, rfl, rfl, rfl⟩ := hcc
    subst hb hs
    exact ⟨⟨b, ss, k, lp, lr, lf⟩, ⟨⟨_, _, _, _, rfl, rs, rp, rr, rf⟩⟩, fun hm => ⟨bs, bp, br, bf, hm⟩⟩
end
set_option maxRecDepth 100000 in
theorem open_sub {H : Type} {enc : TypeId × Value → H} {W : World} {r : Reach} {b0 base : Nat} {sp : Nat → Bool} {held : Bool} {v : Value} {d : DataW H} {ps : List MemPlace} (hval : Value.okWide Tryz.prog W r b0 48 v) (h : DataW.Trod enc Tryz.prog W base sp held 48 v d ps) :
    ∃ (cs : List Value) (s : Sb), v = .agg cs.toArray ∧ SubAt W cs s ∧ (Small s → Fits s) := by
  obtain ⟨cs, rfl, hs⟩ := okWide_struct Tryz.underlying48 hval
  obtain ⟨fu, hm⟩ := h
  obtain ⟨l⟩ := cs
  obtain ⟨s, h1, h2⟩ := trod_sub hm
  exact ⟨l, s, rfl, by simpa [Value.cells] using h1, h2⟩
set_option maxRecDepth 100000 in
theorem open_valv {H : Type} {enc : TypeId × Value → H} {W : World} {r : Reach} {b0 base : Nat} {sp : Nat → Bool} {held : Bool} {v : Value} {d : DataW H} {ps : List MemPlace} (hval : Value.okWide Tryz.prog W r b0 28 v) (h : DataW.Trod enc Tryz.prog W base sp held 28 v d ps) :
    ∃ x : Vl, v = .agg (cellsV x).toArray ∧ B64 x.n := by
  obtain ⟨cs, rfl, hs⟩ := okWide_struct Tryz.underlying28 hval
  obtain ⟨fu, hm⟩ := h
  obtain ⟨l⟩ := cs
  obtain ⟨x, h1, h2⟩ := trod_val hm
  exact ⟨x, by rw [← h1]; simp [Value.cells], h2⟩
end Go.Proofs.YtoamhiaagaaaaaaGreatDoor

/- Of no program: a slice of one-cell elements that came in: the cells that it holds; slices of integers. -/
namespace Go.Proofs.YtoamhiaagaaaaaaGreatDoor
open Go.Deep Go.ChangeShapes Go.WideShapes Go.ChangeAt Go.RowKit Go.Joins

/-- A slice holds these cells. -/
def CellsAt (w : World) (v : Value) (xs : List Value) : Prop :=
  (v = .slice none 0 0 ∧ xs = []) ∨ ∃ (a : Addr) (cap : Nat), v = .slice (some a) xs.length cap ∧ xs.length ≤ cap ∧ ∀ j u, xs[j]? = some u → w.cell? (a.add j) = some u
theorem CellsAt.form {w : World} {v : Value} {xs : List Value} (h : CellsAt w v xs) : ∃ ao cap, v = .slice ao xs.length cap := by
  rcases h with ⟨rfl, rfl⟩ | ⟨a, cap, rfl, _⟩
  · exact ⟨_, _, rfl⟩
  · exact ⟨_, _, rfl⟩
theorem CellsAt.at {w : World} {ao : Option Addr} {n cap : Nat} {xs : List Value} (h : CellsAt w (.slice ao n cap) xs) (hl : 0 < xs.length) : ∃ b off, ao = some ⟨b, off, none⟩ ∧ b < w.heap.size ∧ ∀ i (hi : i < xs.length), w.cell? ⟨b, off + i, none⟩ = some xs[i] := by
  rcases h with ⟨_, rfl⟩ | ⟨⟨b, off, sp⟩, cap', e, _, hc⟩
  · simp at hl
  · simp only [Value.slice.injEq] at e
    obtain ⟨rfl, _, _⟩ := e
    have h0 := hc 0 xs[0] (by simp)
    have hsp : sp = none := by simpa [Addr.add] using World.cell?_spot h0
    subst hsp
    refine ⟨b, off, rfl, by have := World.block_lt_of_cell? _ _ h0; simpa [Addr.add] using this, fun i hi => ?_⟩
    have := hc i xs[i] (by simp [hi])
    rwa [Addr.add_lit] at this
theorem CellsAt.below {w w' : World} {v : Value} {xs : List Value} (h : CellsAt w v xs) (hb : Below w.heap.size w w') : CellsAt w' v xs := by
  rcases h with h | ⟨a, cap, rfl, hc, h⟩
  · exact .inl h
  · exact .inr ⟨a, cap, rfl, hc, fun j u hu => by have := h j u hu; rw [hb.cell (World.block_lt_of_cell? _ _ this)]; exact this⟩
section
variable {H : Type} {enc : TypeId × Value → H} {P : Program} {w : World} {base : Nat} {sp : Nat → Bool} {held : Bool}
theorem open_cells {t e : TypeId} {fuel : Nat} {cs : List Value} {x : DataW H × List MemPlace} (ht : P.underlying t = some (.slice e)) (hc : P.cellsOf e = 1) (Q : Value → Prop) (hQ : ∀ fuel u x, DataW.trod enc P w base sp held fuel e [u] = some x → Q u) (h : DataW.trod enc P w base sp held fuel t cs = some x) :
    ∃ v xs, cs = [v] ∧ CellsAt w v xs ∧ xs.length ≤ maxLen ∧ ∀ u ∈ xs, Q u := by
  rcases open_slice1 ht hc h with ⟨rfl, _⟩ | ⟨a, len, cap, m, n, V, D, Pl, rfl, hb, hl, hm, hmm, rfl, hx⟩
  · exact ⟨_, [], rfl, .inl ⟨rfl, rfl⟩, Nat.zero_le _, fun _ h => by simp at h⟩
  have hlm : len ≤ m := by rw [hmm]; split <;> omega
  refine ⟨_, (List.range len).map V, rfl, .inr ⟨a, cap, by simp, by simpa using hl, fun j u hu => ?_⟩, by simp; omega, fun u hu => ?_⟩
  · have hj := (List.getElem?_eq_some_iff.1 hu).1
    simp at hj
    simp [hj] at hu
    subst hu
    exact (hx j (by omega)).1
  · obtain ⟨i, hi, rfl⟩ := List.mem_map.1 hu
    exact hQ _ _ _ (hx i (by have := List.mem_range.1 hi; omega)).2
theorem list_of_ints {k : IntKind} : ∀ (xs : List Value), (∀ u ∈ xs, ∃ n, u = .int k n ∧ (Lit.int k n).wf = true) → ∃ l : List Int, xs = l.map (.int k) ∧ ∀ n ∈ l, (Lit.int k n).wf = true
  | [], _ => ⟨[], rfl, fun _ h => by simp at h⟩
  | x :: xs, h => by
    obtain ⟨n, rfl, hn⟩ := h x (by simp)
    obtain ⟨l, rfl, hl⟩ := list_of_ints xs (fun u hu => h u (by simp [hu]))
    exact ⟨n :: l, rfl, fun m hm => by rcases List.mem_cons.1 hm with rfl | hm; exact hn; exact hl m hm⟩
theorem open_intcells {t e : TypeId} {k : IntKind} {fuel : Nat} {cs : List Value} {x : DataW H × List MemPlace} (ht : P.underlying t = some (.slice e)) (he : P.underlying e = some (.int k)) (hc : P.cellsOf e = 1) (h : DataW.trod enc P w base sp held fuel t cs = some x) :
    ∃ v l, cs = [v] ∧ CellsAt w v (List.map (.int k) l) ∧ l.length ≤ maxLen ∧ ∀ n ∈ l, (Lit.int k n).wf = true := by
  obtain ⟨v, xs, rfl, h1, h2, h3⟩ := open_cells ht hc (fun u => ∃ n, u = .int k n ∧ (Lit.int k n).wf = true) (fun fuel u x hx => by
    obtain ⟨n, hn, hw⟩ := DataW.trod_int he hx
    simp at hn
    exact ⟨n, hn, by first | exact hw.2 | exact hw.2.1⟩) h
  obtain ⟨l, rfl, hl⟩ := list_of_ints xs h3
  exact ⟨v, l, rfl, h1, by simpa using h2, hl⟩
end
end Go.Proofs.YtoamhiaagaaaaaaGreatDoor

/- Of no program: a function value that is handed in: what each call of it gives, what it keeps for itself, which blocks it may write. -/
namespace Go.Proofs.YtoamhiaagaaaaaaGreatDoor
open Go.RowKit

/-- A function value that is called with things of one kind, and gives things of that kind: in the state s it gives (φ s x).1 and goes on in (φ s x).2. J s n T w: in w it is in the state s, n calls more may be made, and it writes the blocks T alone. -/
structure FnOk {σ α : Type} (P : Program) (cells : α → List Value) (D : α → Prop) (f : FuncId) (cap : Array Value) (φ : σ → α → α × σ) (J : σ → Nat → (Nat → Prop) → World → Prop) (B : Nat) : Prop where
  enter : ∀ args w, (callFunc f args).run P w = .ok (.enter f args) w
  lt : ∀ {s n T w}, J s n T w → (∀ b, T b → b < w.heap.size) ∧ B ≤ w.heap.size
  keep : ∀ {s n T w w'}, J s n T w → Upd (fun b => B ≤ b ∧ ¬ T b) w w' → J s n T w'
  less : ∀ {s n m T w}, J s n T w → m ≤ n → J s m T w
  call : ∀ {s n T w} x, D x → J s (n + 1) T w → Calls P f (#[.agg (cells x).toArray] ++ cap) w fun e w' => ∃ T', e = .returned (.agg (cells (φ s x).1).toArray) ∧ J (φ s x).2 n T' w' ∧ Upd T w w' ∧ Fresh T w T'
/-- A list through such a function, from the front. -/
def mapS {σ α : Type} (φ : σ → α → α × σ) : σ → List α → List α × σ
  | s, [] => ([], s)
  | s, x :: l => ((φ s x).1 :: (mapS φ (φ s x).2 l).1, (mapS φ (φ s x).2 l).2)
variable {σ α : Type} {φ : σ → α → α × σ}
theorem mapS_append (s : σ) : ∀ (l r : List α), mapS φ s (l ++ r) = ((mapS φ s l).1 ++ (mapS φ (mapS φ s l).2 r).1, (mapS φ (mapS φ s l).2 r).2) := by
  intro l
  induction l generalizing s with
  | nil => intro r; simp [mapS]
  | cons x l ih => intro r; simp [mapS, ih]
theorem mapS_len (s : σ) (l : List α) : (mapS φ s l).1.length = l.length := by
  induction l generalizing s with
  | nil => rfl
  | cons x l ih => simp [mapS, ih]
theorem mapS_snoc (s : σ) (l : List α) (x : α) : mapS φ s (l ++ [x]) = ((mapS φ s l).1 ++ [(φ (mapS φ s l).2 x).1], (φ (mapS φ s l).2 x).2) := by
  rw [mapS_append]; simp [mapS]
theorem mapS_take (s : σ) (l : List α) (k : Nat) (x : α) (h : l[k]? = some x) : mapS φ s (l.take (k + 1)) = ((mapS φ s (l.take k)).1 ++ [(φ (mapS φ s (l.take k)).2 x).1], (φ (mapS φ s (l.take k)).2 x).2) := by
  obtain ⟨hk, rfl⟩ := List.getElem?_eq_some_iff.1 h
  rw [List.take_succ_eq_append_getElem hk, mapS_snoc]
/-- A function without a state. -/
theorem mapS_pure {g : α → α} (s : σ) (l : List α) (h : ∀ s x, φ s x = (g x, s)) : mapS φ s l = (l.map g, s) := by
  induction l generalizing s with
  | nil => rfl
  | cons x l ih => simp [mapS, h, ih]
/-- While such a function is called, its own blocks and new ones are written: what lies elsewhere stays. -/
theorem Fresh.off {T T' : Nat → Prop} {w : World} (h : Fresh T w T') {b : Nat} (hb : ¬ T b) (hs : b < w.heap.size) : ¬ T' b := fun h' => by
  rcases h b h' with h | h
  · exact hb h
  · omega
end Go.Proofs.YtoamhiaagaaaaaaGreatDoor
