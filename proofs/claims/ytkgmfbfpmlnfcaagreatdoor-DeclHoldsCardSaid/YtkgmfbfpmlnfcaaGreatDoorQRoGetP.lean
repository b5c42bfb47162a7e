/- Groups of declared types that came in: what they hold, and that what is read bounds their sizes. -/
import Derived.Test.YtkgmfbfpmlnfcaaGreatDoorQKdOpenP
import Derived.Test.YtkgmfbfpmlnfcaaGreatDoorRows
import Derived.SizedLaws
import Derived.Deep.RegionLaw
import Derived.Deep.RegionHeldLaw
import Derived.BigRegion
namespace Go.Proofs.YtkgmfbfpmlnfcaaGreatDoor
open Go.Deep Go.ChangeShapes Go.WideShapes Go.ChangeAt Go.RowKit Go.Joins

theorem bulk_one {H : Type} (d : DataW H) : 1 ≤ Rows.uptoBulk d := by
  cases d with
  | lit l => cases l <;> simp [Rows.uptoBulk]
  | nil => simp [Rows.uptoBulk]
  | ptr d => simp [Rows.uptoBulk]
  | slice elems spare => simp [Rows.uptoBulk]
  | agg parts => simp [Rows.uptoBulk]
  | iface t d => simp [Rows.uptoBulk]
  | map entries => simp [Rows.uptoBulk]
  | held h => simp [Rows.uptoBulk]
theorem bulk_part {H : Type} {d : DataW H} {l : List (DataW H)} (h : d ∈ l) : Rows.uptoBulk d ≤ Rows.uptoBulkAll l := by
  induction l with
  | nil => cases h
  | cons x r ih =>
    simp only [Rows.uptoBulkAll]
    cases List.mem_cons.1 h with
    | inl e => subst e; omega
    | inr e => have := ih e; omega
theorem bulk_each {H : Type} {k : Nat} {l : List (DataW H)} (h : ∀ d ∈ l, k ≤ Rows.uptoBulk d) : k * l.length ≤ Rows.uptoBulkAll l := by
  induction l with
  | nil => simp [Rows.uptoBulkAll]
  | cons x r ih =>
    have h1 := ih (fun d hd => h d (by simp [hd]))
    have h2 := h x (by simp)
    simp only [Rows.uptoBulkAll, List.length_cons, Nat.mul_add]; omega
section
variable {H : Type} {enc : TypeId × Value → H} {w : World} {base : Nat} {sp : Nat → Bool} {held : Bool} {P : Program}
/-- A slice of things of c cells each that came in; each element's reading. -/
theorem open_rowsB {α : Type} [Inhabited α] {f : α → List Value} {Q : α → DataW H → Prop} {c : Nat} {e t : TypeId} {fuel : Nat} {cs : List Value} {x : DataW H × List MemPlace} (ht : P.underlying t = some (.slice e)) (hc : P.cellsOf e = c) (hc0 : 0 < c) (hf : ∀ a, (f a).length = c)
    (k : Nat) (hel : ∀ n cs x, DataW.trod enc P w base sp held n e cs = some x → ∃ a, cs = f a ∧ Q a x.1 ∧ k ≤ Rows.uptoBulk x.1) (h : DataW.trod enc P w base sp held fuel t cs = some x) :
    ∃ (v : Value) (l : List α), cs = [v] ∧ RowAt w c v l.length (l.flatMap f) ∧ k * l.length ≤ Rows.uptoBulk x.1 ∧ ∀ a ∈ l, ∃ d, Q a d ∧ Rows.uptoBulk d ≤ Rows.uptoBulk x.1 := by
  rcases open_slice ht h with ⟨rfl, rfl⟩ | ⟨a, len, cap, m, n, D, Pl, rfl, hb, hl, hm, hmm, rfl, hx⟩
  · exact ⟨_, [], rfl, RowAt.nil w c, Nat.zero_le _, by simp⟩
  rw [hc] at hx
  have hlm : len ≤ m := by rw [hmm]; split <;> omega
  obtain ⟨V, hV⟩ := choose_lt (α := α) (p := fun i v => w.cells? base (a.add (i * c)) c = some (f v) ∧ Q v (D i) ∧ k ≤ Rows.uptoBulk (D i)) (n := len) (fun i hi => by
    obtain ⟨cs', h1, h2⟩ := hx i (by omega)
    obtain ⟨v, rfl, hq⟩ := hel _ _ _ h2
    exact ⟨v, h1, hq⟩)
  refine ⟨_, (List.range len).map V, rfl, ⟨flat_len hf _, .inr ⟨a, cap, by simp, by simpa using hl, fun j u hu => ?_⟩⟩, ?_, fun v hv => ?_⟩
  · have hj : j < len * c := by
      have := (List.getElem?_eq_some_iff.1 hu).1
      rw [flat_len hf] at this; simpa using this
    have hjc : j / c < len := Nat.div_lt_of_lt_mul (by rw [Nat.mul_comm]; exact hj)
    have hjm : j % c < c := Nat.mod_lt _ hc0
    obtain ⟨_, _, hcell⟩ := World.cells?_some (hV (j / c) hjc).1
    have h1 := hcell (j % c) hjm
    have hd : j / c * c + j % c = j := by rw [Nat.mul_comm]; exact Nat.div_add_mod j c
    rw [add_add, hd] at h1
    rw [h1, ← hu, ← hd, flat_at hf _ (j / c) (j % c) (V (j / c)) (by simp [hjc]) hjm, hd]
  · have h1 := bulk_each (k := k) (l := (List.range len).map D) (fun d hd => by
      obtain ⟨i, hi, rfl⟩ := List.mem_map.1 hd
      exact (hV i (by simpa using hi)).2.2)
    simp only [Rows.uptoBulk, List.length_map, List.length_range] at h1 ⊢; omega
  · obtain ⟨i, hi, rfl⟩ := List.mem_map.1 hv
    have hi' : i < len := by simpa using hi
    refine ⟨D i, (hV i hi').2.1, ?_⟩
    have h1 := bulk_part (d := D i) (l := (List.range len).map D) (List.mem_map.2 ⟨i, hi, rfl⟩)
    simp only [Rows.uptoBulk]; omega
theorem struct_bulk {t : TypeId} {fs : Array Field} {fuel : Nat} {cs : List Value} {x : DataW H × List MemPlace} (ht : P.underlying t = some (.struct fs)) (h0 : 0 < fs.size) (h : DataW.trod enc P w base sp held fuel t cs = some x) : 2 ≤ Rows.uptoBulk x.1 := by
  obtain ⟨xs, n, _, rfl, _, hlen, _⟩ := DataW.trod_struct ht h
  cases xs with
  | nil => simp at hlen; omega
  | cons y ys =>
    have := bulk_one y.1
    simp only [List.map_cons, Rows.uptoBulk, Rows.uptoBulkAll]; omega
end
section
variable {H : Type} {enc : TypeId × Value → H} {w : World} {base : Nat} {sp : Nat → Bool} {held : Bool}
set_option maxRecDepth 100000 in
theorem trod_compB {fuel : Nat} {cs : List Value} {x : DataW H × List MemPlace} (h : DataW.trod enc Tryz.prog w base sp held fuel 42 cs = some x) : ∃ (k : Int) (vp vr vf : Value) (ps rs : List Vl) (fs : List Fl), cs = [.int .i64 k, vp, vr, vf] ∧ ValsAt w vp ps ∧ ValsAt w vr rs ∧ FlsAt w vf fs ∧ (∀ v ∈ ps, B64 v.n) ∧ (∀ v ∈ rs, B64 v.n) ∧ (∀ f ∈ fs, B64 f.v.n ∧ B64 f.p) ∧ 2 * (ps.length + (rs.length + fs.length)) ≤ Rows.uptoBulk x.1 := by
  obtain ⟨xs, n, _, rfl, hl, hlen, hf⟩ := DataW.trod_struct Tryz.underlying42 h
  match xs, hlen with
  | [y0, y1, y2, y3], _ =>
    have h0 := hf 0 _ rfl; have h1 := hf 1 _ rfl; have h2 := hf 2 _ rfl; have h3 := hf 3 _ rfl
    have hc : Tryz.prog.cellsOf 42 = 4 := by kernel_rfl
    rw [hc] at hl
    match cs, hl with
    | [c0, c1, c2, c3], _ =>
      have e0 : Tryz.prog.cellsOf 38 = 1 := by kernel_rfl
      have e1 : Tryz.prog.cellsOf 39 = 1 := by kernel_rfl
      have e2 : Tryz.prog.cellsOf 40 = 1 := by kernel_rfl
      simp [e0] at h0
      simp [e1] at h1 h2
      simp [e2] at h3
      obtain ⟨k, hk, _⟩ := DataW.trod_int Tryz.underlying38 h0
      obtain ⟨vp, ps, hp, rp, bp, qp⟩ := open_rowsB (f := cellsV) (Q := fun v _ => B64 v.n) (c := 4) Tryz.underlying39 (by kernel_rfl) (by decide) (fun _ => rfl) 2 (fun _ _ _ h => by obtain ⟨a, ha, hb⟩ := trod_val h; exact ⟨a, ha, hb, struct_bulk Tryz.underlying89 (by decide) h⟩) h1
      obtain ⟨vr, rs, hr, rr, br, qr⟩ := open_rowsB (f := cellsV) (Q := fun v _ => B64 v.n) (c := 4) Tryz.underlying39 (by kernel_rfl) (by decide) (fun _ => rfl) 2 (fun _ _ _ h => by obtain ⟨a, ha, hb⟩ := trod_val h; exact ⟨a, ha, hb, struct_bulk Tryz.underlying89 (by decide) h⟩) h2
      obtain ⟨vf, fs, hff, rf, bf, qf⟩ := open_rowsB (f := cellsF) (Q := fun f _ => B64 f.v.n ∧ B64 f.p) (c := 6) Tryz.underlying40 (by kernel_rfl) (by decide) (fun _ => rfl) 2 (fun _ _ _ h => by obtain ⟨a, ha, hb⟩ := trod_field h; exact ⟨a, ha, hb, struct_bulk Tryz.underlying93 (by decide) h⟩) h3
      simp at hk hp hr hff
      refine ⟨k, vp, vr, vf, ps, rs, fs, by rw [hk, hp, hr, hff], rp, rr, rf, fun v hv => (qp v hv).elim fun _ h => h.1, fun v hv => (qr v hv).elim fun _ h => h.1, fun v hv => (qf v hv).elim fun _ h => h.1, ?_⟩
      simp only [List.map_cons, List.map_nil, Rows.uptoBulk, Rows.uptoBulkAll]; omega
set_option maxRecDepth 100000 in
theorem trod_subB {fuel : Nat} {cs : List Value} {x : DataW H × List MemPlace} (h : DataW.trod enc Tryz.prog w base sp held fuel 44 cs = some x) : ∃ s : Sb, SubAt w cs s ∧ (Small s → Fits s) ∧ 2 * cnt s ≤ Rows.uptoBulk x.1 := by
  obtain ⟨xs, n, _, rfl, hl, hlen, hf⟩ := DataW.trod_struct Tryz.underlying44 h
  match xs, hlen with
  | [y0, y1, y2], _ =>
    have h0 := hf 0 _ rfl; have h1 := hf 1 _ rfl; have h2 := hf 2 _ rfl
    have hc : Tryz.prog.cellsOf 44 = 6 := by kernel_rfl
    rw [hc] at hl
    match cs, hl with
    | [c0, c1, c2, c3, c4, c5], _ =>
      have e0 : Tryz.prog.cellsOf 4 = 1 := by kernel_rfl
      have e1 : Tryz.prog.cellsOf 37 = 1 := by kernel_rfl
      have e2 : Tryz.prog.cellsOf 42 = 4 := by kernel_rfl
      simp [e0] at h0
      simp [e1] at h1
      simp [e2] at h2
      obtain ⟨b, hb, _⟩ := DataW.trod_bool Tryz.underlying4 h0
      obtain ⟨vs, ss, hs, rs, bs, qs⟩ := open_rowsB (f := cellsH) (Q := fun a _ => B64 a.n) (c := 2) Tryz.underlying37 (by kernel_rfl) (by decide) (fun _ => rfl) 2 (fun _ _ _ h => by obtain ⟨a, ha, hb⟩ := trod_heap h; exact ⟨a, ha, hb, struct_bulk Tryz.underlying49 (by decide) h⟩) h1
      obtain ⟨k, vp, vr, vf, lp, lr, lf, hcc, rp, rr, rf, bp, br, bf, bb⟩ := trod_compB h2
      simp at hb hs hcc
      obtain ⟨rfl, rfl, rfl, rfl⟩ := hcc
      subst hb hs
      refine ⟨⟨b, ss, k, lp, lr, lf⟩, ⟨⟨_, _, _, _, rfl, rs, rp, rr, rf⟩⟩, fun hm => ⟨fun v hv => (qs v hv).elim fun _ h => h.1, bp, br, bf, hm⟩, ?_⟩
      simp only [List.map_cons, List.map_nil, Rows.uptoBulk, Rows.uptoBulkAll, cnt]; omega
/-- A group's type, with the cells that it was read out of. -/
abbrev CS := {cs : List Value // cs.length = 6} × Sb
instance : Inhabited CS := ⟨⟨⟨List.replicate 6 undef, rfl⟩, ⟨false, [], 0, [], [], []⟩⟩⟩
theorem trod_group {fuel : Nat} {cs : List Value} {x : DataW H × List MemPlace} (h : DataW.trod enc Tryz.prog w base sp held fuel 32 cs = some x) : ∃ (v : Value) (g : List Sb), cs = [v] ∧ GrpAt w v g ∧ ∀ s ∈ g, (Small s → Fits s) ∧ 2 * cnt s ≤ Rows.uptoBulk x.1 := by
  obtain ⟨v, l, rfl, hr, _, hq⟩ := open_rowsB (α := CS) (f := fun a => a.1.1) (Q := fun a d => SubAt w a.1.1 a.2 ∧ (Small a.2 → Fits a.2) ∧ 2 * cnt a.2 ≤ Rows.uptoBulk d) (c := 6) Tryz.underlying32 (by kernel_rfl) (by decide) (fun a => a.1.2) 0 (fun _ cs _ h => by
    obtain ⟨s, h1, h2, h3⟩ := trod_subB h
    exact ⟨⟨⟨cs, (one_S h1).1⟩, s⟩, rfl, ⟨h1, h2, h3⟩, Nat.zero_le _⟩) h
  refine ⟨v, l.map (·.2), rfl, ⟨l.map (·.1.1), by simp, fun c hc => ?_, by rw [List.length_map, ← List.flatMap_def]; exact hr, fun i c y hc hy => ?_⟩, fun s hs => ?_⟩
  · obtain ⟨a, _, rfl⟩ := List.mem_map.1 hc
    exact a.1.2
  · rw [List.getElem?_map] at hc hy
    cases ha : l[i]? with
    | none => rw [ha] at hc; cases hc
    | some a =>
      rw [ha] at hc hy
      simp at hc hy
      subst hc hy
      obtain ⟨d, ⟨h1, _⟩, _⟩ := hq a (List.mem_of_getElem? ha)
      exact h1
  · obtain ⟨a, ha, rfl⟩ := List.mem_map.1 hs
    obtain ⟨d, ⟨_, h2, h3⟩, h4⟩ := hq a ha
    exact ⟨h2, Nat.le_trans h3 h4⟩
instance : Inhabited (Value × List Sb) := ⟨undef, []⟩
theorem trod_groups {fuel : Nat} {cs : List Value} {x : DataW H × List MemPlace} (h : DataW.trod enc Tryz.prog w base sp held fuel 22 cs = some x) : ∃ (v : Value) (l : List (List Sb)), cs = [v] ∧ GrpsAt w v l ∧ ∀ g ∈ l, ∀ s ∈ g, (Small s → Fits s) ∧ 2 * cnt s ≤ Rows.uptoBulk x.1 := by
  obtain ⟨v, l, rfl, hr, _, hq⟩ := open_rowsB (α := Value × List Sb) (f := fun a => [a.1]) (Q := fun a d => GrpAt w a.1 a.2 ∧ ∀ s ∈ a.2, (Small s → Fits s) ∧ 2 * cnt s ≤ Rows.uptoBulk d) (c := 1) Tryz.underlying22 (by kernel_rfl) (by decide) (fun _ => rfl) 0 (fun _ _ _ h => by
    obtain ⟨v, g, h1, h2, h3⟩ := trod_group h
    exact ⟨⟨v, g⟩, h1, ⟨h2, h3⟩, Nat.zero_le _⟩) h
  have hfm : ∀ l : List (Value × List Sb), l.flatMap (fun a => [a.1]) = l.map (·.1) := by
    intro l
    induction l with
    | nil => rfl
    | cons a l ih => rw [List.flatMap_cons, ih]; rfl
  rw [hfm] at hr
  refine ⟨v, l.map (·.2), rfl, ⟨⟨l.map (·.1), by simp, by rw [List.length_map]; exact hr, fun i y g hy hg => ?_⟩⟩, fun g hg s hs => ?_⟩
  · rw [List.getElem?_map] at hy hg
    cases ha : l[i]? with
    | none => rw [ha] at hy; cases hy
    | some a =>
      rw [ha] at hy hg
      simp at hy hg
      subst hy hg
      obtain ⟨d, ⟨h1, _⟩, _⟩ := hq a (List.mem_of_getElem? ha)
      exact h1
  · obtain ⟨a, ha, rfl⟩ := List.mem_map.1 hg
    obtain ⟨d, ⟨_, h2⟩, h4⟩ := hq a ha
    exact ⟨(h2 s hs).1, Nat.le_trans (h2 s hs).2 h4⟩
set_option maxRecDepth 100000 in
/-- The argument, where what is read is small. -/
theorem open_groups {r : Reach} {b0 : Nat} {v : Value} {d : DataW H} {ps : List MemPlace} (hval : Value.okWide Tryz.prog w r b0 22 v) (h : DataW.Trod enc Tryz.prog w base sp held 22 v d ps) (hb : Rows.uptoBulk d ≤ 1048576) : ∃ g : List (List Sb), GrpsAt w v g ∧ RawL g := by
  obtain ⟨fu, hm⟩ := h
  obtain ⟨v', g, hv, h1, h2⟩ := trod_groups hm
  obtain ⟨sa, sn, sc, rfl⟩ := okWide_slice Tryz.underlying22 hval
  have hy : Value.slice sa sn sc = v' := by simpa [Value.cells] using hv
  subst hy
  refine ⟨g, h1, fun x hx s hs => ?_⟩
  obtain ⟨k1, k2⟩ := h2 x hx s hs
  have hc : cnt s ≤ 1000000 := by
    have : 2 * cnt s ≤ 1048576 := Nat.le_trans k2 hb
    omega
  exact ⟨k1 (small_of_cnt hc), hc⟩
end
end Go.Proofs.YtkgmfbfpmlnfcaaGreatDoor

/- geodelaw12: what great lets pass. -/
namespace Go.Proofs.YtkgmfbfpmlnfcaaGreatDoor
open Go.RowKit Go.Maps Go.WideMaps

/-- Limits of a type's lists. -/
def LimD (x : Sb) : Prop := x.ps.length ≤ 20 ∧ x.rs.length ≤ 20 ∧ x.fs.length ≤ 20 ∧ x.sups.length ≤ 5
def sizeD (l : List (List Sb)) : Nat := (l.map fun g => 1 + g.length).sum
/-- What is left where great answers no. -/
structure OkD (l : List (List Sb)) : Prop where
  size : sizeD l ≤ 150
  lim : ∀ g ∈ l, ∀ x ∈ g, LimD x
theorem sizeD_snoc (l : List (List Sb)) (g : List Sb) : sizeD (l ++ [g]) = sizeD l + (1 + g.length) := by simp [sizeD]
theorem sizeD_take {l : List (List Sb)} (k : Nat) : sizeD (l.take k) ≤ sizeD l := by
  have h : sizeD l = sizeD (l.take k) + sizeD (l.drop k) := by
    unfold sizeD
    rw [← List.sum_append, ← List.map_append, List.take_append_drop]
  omega
theorem sizeD_app (l m : List (List Sb)) : sizeD (l ++ m) = sizeD l + sizeD m := by simp [sizeD]
theorem sizeD_mem {l : List (List Sb)} {g : List Sb} (h : g ∈ l) : 1 + g.length ≤ sizeD l := by
  induction l with
  | nil => cases h
  | cons a l ih =>
    have e : sizeD (a :: l) = (1 + a.length) + sizeD l := by simp [sizeD]
    rcases List.mem_cons.1 h with rfl | h
    · omega
    · have := ih h; omega
theorem LimD.raw {x : Sb} (h : LimD x) (hf : Small x → Fits x) : Fits x ∧ cnt x ≤ 1000000 := by
  obtain ⟨a, b, c, d⟩ := h
  exact ⟨hf ⟨by omega, by omega, by omega, by omega⟩, by unfold cnt; omega⟩
theorem OkD.raw {l : List (List Sb)} (h : OkD l) (hf : ∀ g ∈ l, ∀ x ∈ g, Small x → Fits x) : ∀ g ∈ l, RawG g := fun g hg =>
  ⟨by have := sizeD_mem hg; have := h.size; omega, fun x hx => ((h.lim g hg x hx).raw (hf g hg x hx)).1, fun x hx => ((h.lim g hg x hx).raw (hf g hg x hx)).2⟩
theorem OkD.take {l : List (List Sb)} (h : OkD l) (k : Nat) : OkD (l.take k) := ⟨Nat.le_trans (sizeD_take k) h.size, fun g hg => h.lim g (List.mem_of_mem_take hg)⟩
section
open Go.Deep Go.ChangeShapes Go.WideShapes Go.ChangeAt Go.Joins
variable {H : Type} {enc : TypeId × Value → H} {w : World} {base : Nat} {sp : Nat → Bool} {held : Bool}
set_option maxRecDepth 100000 in
/-- The argument, whatever its size. -/
theorem open_groupsF {r : Reach} {b0 : Nat} {v : Value} {d : DataW H} {ps : List MemPlace} (hval : Value.okWide Tryz.prog w r b0 22 v) (h : DataW.Trod enc Tryz.prog w base sp held 22 v d ps) : ∃ g : List (List Sb), GrpsAt w v g ∧ ∀ x ∈ g, ∀ s ∈ x, Small s → Fits s := by
  obtain ⟨fu, hm⟩ := h
  obtain ⟨v', g, hv, h1, h2⟩ := trod_groups hm
  obtain ⟨sa, sn, sc, rfl⟩ := okWide_slice Tryz.underlying22 hval
  have hy : Value.slice sa sn sc = v' := by simpa [Value.cells] using hv
  subst hy
  exact ⟨g, h1, fun x hx s hs => (h2 x hx s hs).1⟩
end
end Go.Proofs.YtkgmfbfpmlnfcaaGreatDoor

/- Groups that came in: no list of types is larger than what a machine bears. -/
namespace Go.Proofs.YtkgmfbfpmlnfcaaGreatDoor
open Go.Deep Go.ChangeShapes Go.WideShapes Go.ChangeAt Go.RowKit Go.Joins

section
variable {H : Type} {enc : TypeId × Value → H} {w : World} {base : Nat} {sp : Nat → Bool} {held : Bool} {P : Program}
/-- A slice of things of c cells each that came in; each element's reading is one of the slice's. -/
theorem open_rowsM {α : Type} [Inhabited α] {f : α → List Value} {Q : α → DataW H → Prop} {c : Nat} {e t : TypeId} {fuel : Nat} {cs : List Value} {x : DataW H × List MemPlace} (ht : P.underlying t = some (.slice e)) (hc : P.cellsOf e = c) (hc0 : 0 < c) (hf : ∀ a, (f a).length = c)
    (hel : ∀ n cs x, DataW.trod enc P w base sp held n e cs = some x → ∃ a, cs = f a ∧ Q a x.1) (h : DataW.trod enc P w base sp held fuel t cs = some x) :
    ∃ (v : Value) (l : List α), cs = [v] ∧ RowAt w c v l.length (l.flatMap f) ∧ (l = [] ∨ ∃ elems spare, x.1 = .slice elems spare ∧ elems.length = l.length) ∧ ∀ a ∈ l, ∃ d, Q a d ∧ ∃ elems spare, x.1 = .slice elems spare ∧ d ∈ elems := by
  rcases open_slice ht h with ⟨rfl, rfl⟩ | ⟨a, len, cap, m, n, D, Pl, rfl, hb, hl, hm, hmm, rfl, hx⟩
  · exact ⟨_, [], rfl, RowAt.nil w c, .inl rfl, by simp⟩
  rw [hc] at hx
  have hlm : len ≤ m := by rw [hmm]; split <;> omega
  obtain ⟨V, hV⟩ := choose_lt (α := α) (p := fun i v => w.cells? base (a.add (i * c)) c = some (f v) ∧ Q v (D i)) (n := len) (fun i hi => by
    obtain ⟨cs', h1, h2⟩ := hx i (by omega)
    obtain ⟨v, rfl, hq⟩ := hel _ _ _ h2
    exact ⟨v, h1, hq⟩)
  refine ⟨_, (List.range len).map V, rfl, ⟨flat_len hf _, .inr ⟨a, cap, by simp, by simpa using hl, fun j u hu => ?_⟩⟩, .inr ⟨_, _, rfl, by simp⟩, fun v hv => ?_⟩
  · have hj : j < len * c := by
      have := (List.getElem?_eq_some_iff.1 hu).1
      rw [flat_len hf] at this; simpa using this
    have hjc : j / c < len := Nat.div_lt_of_lt_mul (by rw [Nat.mul_comm]; exact hj)
    have hjm : j % c < c := Nat.mod_lt _ hc0
    obtain ⟨_, _, hcell⟩ := World.cells?_some (hV (j / c) hjc).1
    have h1 := hcell (j % c) hjm
    have hd : j / c * c + j % c = j := by rw [Nat.mul_comm]; exact Nat.div_add_mod j c
    rw [add_add, hd] at h1
    rw [h1, ← hu, ← hd, flat_at hf _ (j / c) (j % c) (V (j / c)) (by simp [hjc]) hjm, hd]
  · obtain ⟨i, hi, rfl⟩ := List.mem_map.1 hv
    have hi' : i < len := by simpa using hi
    exact ⟨D i, (hV i hi').2, _, _, rfl, List.mem_map.2 ⟨i, hi, rfl⟩⟩
theorem weightsAll_mem {e : TypeId} {d : DataW H} {l : List (DataW H)} (h : d ∈ l) : ∀ n ∈ d.weights P e, n ∈ DataW.weightsAll P e l := fun n hn => by
  induction l with
  | nil => cases h
  | cons a l ih =>
    rw [DataW.weightsAll, List.mem_append]
    rcases List.mem_cons.1 h with rfl | h
    · exact .inl hn
    · exact .inr (ih h)
theorem weights_slice {t e : TypeId} (ht : P.underlying t = some (.slice e)) {elems spare : List (DataW H)} (h : ∀ n ∈ (DataW.slice elems spare).weights P t, n ≤ reachBytes) : (elems.length + spare.length) * P.bytesOf e ≤ reachBytes ∧ ∀ d ∈ elems, ∀ n ∈ d.weights P e, n ≤ reachBytes := by
  rw [DataW.weights, ht] at h
  exact ⟨h _ (by simp), fun d hd n hn => h n (by simp [weightsAll_mem hd n hn])⟩
end
section
variable {H : Type} {enc : TypeId × Value → H} {w : World} {base : Nat} {sp : Nat → Bool} {held : Bool}
theorem trod_groupW {fuel : Nat} {cs : List Value} {x : DataW H × List MemPlace} (h : DataW.trod enc Tryz.prog w base sp held fuel 32 cs = some x) : ∃ (v : Value) (g : List Sb), cs = [v] ∧ GrpAt w v g ∧ (∀ s ∈ g, Small s → Fits s) ∧ (g = [] ∨ ∃ elems spare, x.1 = .slice elems spare ∧ elems.length = g.length) := by
  obtain ⟨v, l, rfl, hr, hl, hq⟩ := open_rowsM (α := CS) (f := fun a => a.1.1) (Q := fun a _ => SubAt w a.1.1 a.2 ∧ (Small a.2 → Fits a.2)) (c := 6) Tryz.underlying32 (by kernel_rfl) (by decide) (fun a => a.1.2) (fun _ cs _ h => by
    obtain ⟨s, h1, h2, h3⟩ := trod_subB h
    exact ⟨⟨⟨cs, (one_S h1).1⟩, s⟩, rfl, h1, h2⟩) h
  refine ⟨v, l.map (·.2), rfl, ⟨l.map (·.1.1), by simp, fun c hc => ?_, by rw [List.length_map, ← List.flatMap_def]; exact hr, fun i c y hc hy => ?_⟩, fun s hs => ?_, ?_⟩
  · obtain ⟨a, _, rfl⟩ := List.mem_map.1 hc
    exact a.1.2
  · rw [List.getElem?_map] at hc hy
    cases ha : l[i]? with
    | none => rw [ha] at hc; cases hc
    | some a =>
      rw [ha] at hc hy
      simp at hc hy
      subst hc hy
      obtain ⟨d, ⟨h1, _⟩, _⟩ := hq a (List.mem_of_getElem? ha)
      exact h1
  · obtain ⟨a, ha, rfl⟩ := List.mem_map.1 hs
    obtain ⟨d, ⟨_, h2⟩, _⟩ := hq a ha
    exact h2
  · rcases hl with rfl | ⟨e, s, h1, h2⟩
    · exact .inl rfl
    · exact .inr ⟨e, s, h1, by simpa using h2⟩
theorem trod_groupsW {fuel : Nat} {cs : List Value} {x : DataW H × List MemPlace} (h : DataW.trod enc Tryz.prog w base sp held fuel 22 cs = some x) (hw : ∀ n ∈ x.1.weights Tryz.prog 22, n ≤ reachBytes) : ∃ (v : Value) (l : List (List Sb)), cs = [v] ∧ GrpsAt w v l ∧ ∀ g ∈ l, g.length ≤ 2000000000000 ∧ ∀ s ∈ g, Small s → Fits s := by
  obtain ⟨v, l, rfl, hr, _, hq⟩ := open_rowsM (α := Value × List Sb) (f := fun a => [a.1]) (Q := fun a d => GrpAt w a.1 a.2 ∧ (∀ s ∈ a.2, Small s → Fits s) ∧ (a.2 = [] ∨ ∃ elems spare, d = .slice elems spare ∧ elems.length = a.2.length)) (c := 1) Tryz.underlying22 (by kernel_rfl) (by decide) (fun _ => rfl) (fun _ _ _ h => by
    obtain ⟨v, g, h1, h2, h3, h4⟩ := trod_groupW h
    exact ⟨⟨v, g⟩, h1, h2, h3, h4⟩) h
  have hfm : ∀ l : List (Value × List Sb), l.flatMap (fun a => [a.1]) = l.map (·.1) := by
    intro l
    induction l with
    | nil => rfl
    | cons a l ih => rw [List.flatMap_cons, ih]; rfl
  rw [hfm] at hr
  refine ⟨v, l.map (·.2), rfl, ⟨⟨l.map (·.1), by simp, by rw [List.length_map]; exact hr, fun i y g hy hg => ?_⟩⟩, fun g hg => ?_⟩
  · rw [List.getElem?_map] at hy hg
    cases ha : l[i]? with
    | none => rw [ha] at hy; cases hy
    | some a =>
      rw [ha] at hy hg
      simp at hy hg
      subst hy hg
      obtain ⟨d, ⟨h1, _⟩, _⟩ := hq a (List.mem_of_getElem? ha)
      exact h1
  · obtain ⟨a, ha, rfl⟩ := List.mem_map.1 hg
    obtain ⟨d, ⟨_, h2, h3⟩, el, sp', e1, hd⟩ := hq a ha
    refine ⟨?_, h2⟩
    rw [e1] at hw
    have hwd := (weights_slice Tryz.underlying22 hw).2 d hd
    rcases h3 with h3 | ⟨el2, sp2, e2, h4⟩
    · rw [h3]; exact Nat.zero_le _
    · rw [e2] at hwd
      have h5 := (weights_slice Tryz.underlying32 hwd).1
      have hb : Tryz.prog.bytesOf 44 = 112 := by kernel_rfl
      rw [hb] at h5
      unfold reachBytes at h5
      rw [← h4]; omega
set_option maxRecDepth 100000 in
/-- The argument. -/
theorem open_groupsW {r : Reach} {b0 : Nat} {v : Value} {d : DataW H} {ps : List MemPlace} (hval : Value.okWide Tryz.prog w r b0 22 v) (h : DataW.Trod enc Tryz.prog w base sp held 22 v d ps) (hw : ∀ n ∈ d.weights Tryz.prog 22, n ≤ reachBytes) : ∃ l : List (List Sb), GrpsAt w v l ∧ (∀ g ∈ l, g.length ≤ 2000000000000) ∧ ∀ g ∈ l, ∀ s ∈ g, Small s → Fits s := by
  obtain ⟨fu, hm⟩ := h
  obtain ⟨v', g, hv, h1, h2⟩ := trod_groupsW hm hw
  obtain ⟨sa, sn, sc, rfl⟩ := okWide_slice Tryz.underlying22 hval
  have hy : Value.slice sa sn sc = v' := by simpa [Value.cells] using hv
  subst hy
  exact ⟨g, h1, fun x hx => (h2 x hx).1, fun x hx => (h2 x hx).2⟩
end
end Go.Proofs.YtkgmfbfpmlnfcaaGreatDoor

/- package roll: Get and Group. -/
namespace Go.Proofs.YtkgmfbfpmlnfcaaGreatDoor
open Go.RowKit Go.Maps Go.WideMaps

/-- What the closure of Get gives of a heap type. -/
def unroll (first : Int) (h : Hp) : Hp := if h.k = 14 then ⟨15, first + h.n⟩ else h
def DRec (h : Hp) : Prop := h.k = 14 → 0 ≤ h.n ∧ h.n ≤ 4294967295
structure PureJ (W0 : World) (B : Nat) (u : Unit) (n : Nat) (T : Nat → Prop) (w : World) : Prop where
  be : Below B W0 w
  t : ∀ b, ¬ T b
  le : B ≤ w.heap.size
set_option maxRecDepth 100000 in
set_option maxHeartbeats 8000000 in
theorem unroll_ok (W0 : World) (B b : Nat) (first : Int) (vg : Value) (hf : 0 ≤ first ∧ first ≤ 10000) (hb : W0.heap[b]? = some (.cells #[.int .i64 first, vg] 74 (0, 0))) (hB : b < B) :
    FnOk Tryz.prog cellsH DRec 25 #[.pointer (some ⟨b, 0, none⟩)] (fun (s : Unit) h => (unroll first h, s)) (PureJ W0 B) B where
  enter := fun _ _ => rfl
  lt := fun h => ⟨fun b hb => (h.t b hb).elim, h.le⟩
  keep := fun h u => ⟨h.be.trans (u.below (fun k hk => hk.1) h.le), h.t, Nat.le_trans h.le u.size⟩
  less := fun h _ => ⟨h.be, h.t, h.le⟩
  call := by
    intro s n T w x hd hj
    obtain ⟨k, m⟩ := x
    rw [show cellsH ⟨k, m⟩ = [.int .i64 k, .int .i64 m] from rfl]
    show Calls Tryz.prog 25 #[.agg #[.int .i64 k, .int .i64 m], .pointer (some ⟨b, 0, none⟩)] w _
    have zb : w.heap[b]? = some (.cells #[.int .i64 first, vg] 74 (0, 0)) := by rw [hj.be.block b hB]; exact hb
    have cb0 := heap_cell zb 0
    simp at cb0
    have cb := cell_alloc (cell_alloc cb0 (.cells #[.int .i64 k, .int .i64 m] 49)) (.cells #[.int .i64 0, .int .i64 0] 49)
    have HJ := Lib.hid hj; have HD := Lib.hid hd
    clear zb hb hj hd cb0 hB
    have fin : ∀ W', Below w.heap.size w W' → ∃ T', PureJ W0 B () n T' W' ∧ Upd T w W' ∧ Fresh T w T' := fun W' h =>
      ⟨T, ⟨HJ.out.be.trans (h.mono HJ.out.le), HJ.out.t, Nat.le_trans HJ.out.le h.size⟩, Upd.of_below h, Fresh.refl _ _⟩
    have FIN := Lib.hid fin
    clear fin
    by_cases hk : k = 14
    · subst hk
      obtain ⟨hm0, hm1⟩ := HD.out rfl
      dsimp only at hm0 hm1
      have hu : unroll first ⟨14, m⟩ = ⟨15, first + m⟩ := rfl
      obtain ⟨hf0, hf1⟩ := hf
      go_enter Tryz.func25, Tryz.ntmps25
      go_wp2
      refine bodyPost_ret (v := .agg #[.int .i64 15, .int .i64 (first + m)]) (by simp [results, Tryz.results25, go_sem]) rfl ?_
      obtain ⟨T', h1, h2, h3⟩ := FIN.out _ (((Below.refl _ w).alloc (Nat.le_refl _) (.cells #[.int .i64 14, .int .i64 m] 49)).alloc (by simp) (.cells #[.int .i64 15, .int .i64 (first + m)] 49))
      exact ⟨T', rfl, h1, h2, h3⟩
    · have hk' : (k == 14) = false := by simpa using hk
      have hu : unroll first ⟨k, m⟩ = ⟨k, m⟩ := by unfold unroll; rw [if_neg hk]
      dsimp only
      rw [hu]
      clear hk
      go_enter Tryz.func25, Tryz.ntmps25
      go_wp2
      refine bodyPost_ret (v := .agg #[.int .i64 k, .int .i64 m]) (by simp [results, Tryz.results25, go_sem]) rfl ?_
      obtain ⟨T', h1, h2, h3⟩ := FIN.out _ (((Below.refl _ w).alloc (Nat.le_refl _) (.cells #[.int .i64 k, .int .i64 m] 49)).alloc (by simp) (.cells #[.int .i64 k, .int .i64 m] 49))
      exact ⟨T', rfl, h1, h2, h3⟩
theorem ofL_at (gs : List (List Sb)) (id : Nat) (h : id < total gs) : ∃ (j : Nat) (g : List Sb), gs[j]? = some g ∧ (ofL gs)[id]? = some (j : Int) ∧ firstOf gs j ≤ id ∧ id < firstOf gs j + g.length := by
  have key : ∀ (gs : List (List Sb)) (n id : Nat), id < total gs → ∃ (j : Nat) (g : List Sb), gs[j]? = some g ∧ ((gs.zipIdx n).flatMap fun p => List.replicate p.1.length (p.2 : Int))[id]? = some ((n + j : Nat) : Int) ∧ total (gs.take j) ≤ id ∧ id < total (gs.take j) + g.length := by
    intro gs
    induction gs with
    | nil => intro n id h; simp [total] at h
    | cons g gs ih =>
      intro n id h
      have ht : total (g :: gs) = g.length + total gs := by simp [total]
      rw [List.zipIdx_cons, List.flatMap_cons]
      by_cases hlt : id < g.length
      · refine ⟨0, g, rfl, ?_, by simp [total], by simp [total]; exact hlt⟩
        rw [List.getElem?_append_left (by simpa using hlt)]
        simp [hlt]
      · obtain ⟨j, g', h1, h2, h3, h4⟩ := ih (n + 1) (id - g.length) (by omega)
        have ht2 : total ((g :: gs).take (j + 1)) = g.length + total (gs.take j) := by simp [total]
        refine ⟨j + 1, g', by simpa using h1, ?_, by omega, by omega⟩
        rw [List.getElem?_append_right (by simp; omega), List.length_replicate, h2]
        congr 2; omega
  obtain ⟨j, g, h1, h2, h3, h4⟩ := key gs 0 id h
  exact ⟨j, g, h1, by simpa [ofL] using h2, h3, h4⟩
variable {S R : Nat → Prop} {w : World} {t : Nat} {gs : List (List Sb)}
/-- What Get and Group read of a table. -/
structure Read (R : Nat → Prop) (w : World) (t id j : Nat) (g : List Sb) (gs : List (List Sb)) : Prop where
  ex : ∃ (be bo ce co cg : Nat) (ag : Option Addr) (_ : Option Nat), w.cell? ⟨t, 0, none⟩ = some (.slice (some ⟨be, 0, none⟩) gs.length ce) ∧ w.cell? ⟨t, 1, none⟩ = some (.slice (some ⟨bo, 0, none⟩) (total gs) co) ∧ w.cell? ⟨bo, id, none⟩ = some (.int .i64 j) ∧
    w.cell? ⟨be, j * 2, none⟩ = some (.int .i64 (firstOf gs j)) ∧ w.cell? ⟨be, j * 2 + 1, none⟩ = some (.slice ag g.length cg) ∧ ∀ w', Below w.heap.size w w' → GrpAt w' (.slice ag g.length cg) g
theorem read_of (ht : TabAt S R w t gs) {id j : Nat} {g : List Sb} (hj : gs[j]? = some g) (ho : (ofL gs)[id]? = some (j : Int)) (hid : id < total gs) : Read R w t id j g gs := by
  obtain ⟨ev, ov, M, h1, h2, h3, _⟩ := ht.ex
  obtain ⟨ae, ce, rfl⟩ : ∃ ae ce, ev = .slice ae gs.length ce := by
    obtain ⟨vs, e1, e2, e3⟩ := h2.ex
    obtain ⟨ae, ce, rfl, _⟩ := ownsRow_form e2
    exact ⟨ae, ce, rfl⟩
  obtain ⟨be, ag, cg, rfl, p0, p1, hgr⟩ := h2.at hj
  rw [ofL_len] at h3
  obtain ⟨bo, co, cur, rfl, _, _, _, hc⟩ := ownsRow_some h3 (by omega)
  have c0 := heap_cell h1 0; have c1 := heap_cell h1 1
  refine ⟨be, bo, ce, co, cg, ag, some M, by simpa using c0, by simpa using c1, ?_, p0, p1, fun w' hb => hgr w' ((Upd.of_below hb : Upd (fun _ => False) w w').mono fun _ _ h => h.elim)⟩
  rw [hc id (by omega), List.getElem?_map, ho]; rfl
/-- What Get tells of a number. -/
def getG (gs : List (List Sb)) (j : Nat) (x : Sb) : Sb := (mapSub (fun (s : Unit) h => (unroll (firstOf gs j) h, s)) () x).1
set_option maxRecDepth 100000 in
set_option maxHeartbeats 8000000 in
theorem get_own (ht : TabAt S R w t gs) (hok : TabOk gs) {id j k : Nat} {g : List Sb} {x : Sb} (hj : gs[j]? = some g) (ho : (ofL gs)[id]? = some (j : Int)) (hid : id < total gs) (hk : id = firstOf gs j + k) (hx : g[k]? = some x) (hd : DS DRec x) :
    Calls Tryz.prog 12 #[.pointer (some ⟨t, 0, none⟩), .int .i64 id] w fun e w' => ∃ ds : List Value, e = .returned (.tuple #[.agg ds.toArray, .int .i64 0]) ∧ (∀ w'', Upd (fun b => b < w.heap.size) w' w'' → SubAt w'' ds (getG gs j x)) ∧ Below w.heap.size w w' := by
  obtain ⟨W1, hW1⟩ : ∃ W1, W1 = w.alloc (.cells #[.bool false, .slice none 0 0, .int .i64 0, .slice none 0 0, .slice none 0 0, .slice none 0 0] 44) := ⟨_, rfl⟩
  have hb1 : Below w.heap.size w W1 := by rw [hW1]; exact (Below.refl _ _).alloc (Nat.le_refl _) _
  have z4 : W1.heap[w.heap.size]? = some (.cells #[.bool false, .slice none 0 0, .int .i64 0, .slice none 0 0, .slice none 0 0, .slice none 0 0] 44 (0, 0)) := by rw [hW1]; exact heap_alloc_at _ _ rfl
  have ht1 := ht.below hb1
  have CM := Lib.hid (made_any ht1)
  have CH := has_any ht1 id hok.total
  rw [show (decide (0 ≤ (id : Int)) && decide ((id : Int) < total gs)) = true by simp; omega] at CH
  have HCH := Lib.hid CH
  obtain ⟨be, bo, ce, co, cg, ag, M, r0, r1, r2, r3, r4, hgr⟩ := (read_of ht1 hj ho hid).ex
  have hjl := (List.getElem?_eq_some_iff.1 hj).1
  have hkl := (List.getElem?_eq_some_iff.1 hx).1
  have hj2 : (j : Int) < gs.length := by omega
  have hid2 : (id : Int) < total gs := by omega
  have hfk : (id : Int) - (firstOf gs j : Nat) = k := by omega
  have hkl2 : (k : Int) < g.length := by omega
  have hgood := hok.good g (List.mem_of_getElem? hj)
  have hfl := firstOf_le gs j
  have htl := hok.total
  have R0 := Lib.hid r0; have R1 := Lib.hid r1; have R2 := Lib.hid r2; have R3 := Lib.hid r3; have R4 := Lib.hid r4; have HGR := Lib.hid hgr; have HX := Lib.hid hx; have HD := Lib.hid hd; have HGD := Lib.hid hgood; have HFK := Lib.hid hfk; have HFL := Lib.hid hfl; have HTL := Lib.hid htl; have HW1 := Lib.hid hW1; have HB1 := Lib.hid hb1; have Z4 := Lib.hid z4
  clear CH ht hok hj ho hid r0 r1 r2 r3 r4 hjl hgr hx hd hgood ht1 hfl htl hW1 hb1 z4 hkl hfk hk
  have hmf : ∀ (fn : Fn) (first cap : Array Value) (w : World), (Instr.makeFunc fn first cap).run Tryz.prog w = .ok (.func fn first cap) w := fun _ _ _ _ => rfl
  go_enter Tryz.func12, Tryz.ntmps12
  go_wp2_with fail
  rw [← HW1.out]
  refine CM.out.mono ?_
  rintro e x1 ⟨rfl, rfl⟩
  go_wp2_with fail
  refine HCH.out.mono ?_
  rintro e x1 ⟨rfl, rfl⟩
  go_wp2
  go_region_held_law (fun w' => w'.cell? ⟨t, 0, none⟩ = some (.slice (some ⟨be, 0, none⟩) gs.length ce) ∧ w'.cell? ⟨t, 1, none⟩ = some (.slice (some ⟨bo, 0, none⟩) (total gs) co) ∧ w'.cell? ⟨bo, id, none⟩ = some (.int .i64 j) ∧ w'.cell? ⟨be, j * 2, none⟩ = some (.int .i64 (firstOf gs j)) ∧ w'.cell? ⟨be, j * 2 + 1, none⟩ = some (.slice ag g.length cg)) (first | exact ⟨R0.out, R1.out, R2.out, R3.out, R4.out⟩ | exact ⟨cell_alloc R0.out _, cell_alloc R1.out _, cell_alloc R2.out _, cell_alloc R3.out _, cell_alloc R4.out _⟩) (fail)
  obtain ⟨W2, hW2⟩ : ∃ W2, W2 = (x1.alloc (.cells #[.int .i64 (firstOf gs j : Nat), .slice ag g.length cg] 74)).drew := ⟨_, rfl⟩
  rw [← hW2]
  have hb2 : Below x1.heap.size x1 W2 := by
    have h := (Below.refl x1.heap.size x1).alloc (Nat.le_refl _) (.cells #[.int .i64 (firstOf gs j : Nat), .slice ag g.length cg] 74)
    rw [hW2]; exact ⟨h.os, h.tape, h.output, h.size, h.block⟩
  have z6 : W2.heap[x1.heap.size]? = some (.cells #[.int .i64 (firstOf gs j : Nat), .slice ag g.length cg] 74 (0, 0)) := by
    rw [hW2]; exact heap_alloc_at x1 _ rfl
  have hbw : Below w.heap.size w W2 := HB1.out.trans (hb2.mono HB1.out.size)
  have y4 := (hb2.block _ (heap_lt Z4.out)).trans Z4.out
  obtain ⟨b2, o2, e2, hbl, d1, f1, d2, f2, d3, f3, d4, f4, sb, q0, q1, q2, q3, q4, q5⟩ := (HGR.out W2 hb2).at HX.out
  subst e2
  have c60 := heap_cell z6 0; have c61 := heap_cell z6 1
  simp at c60 c61
  have hfl := HFL.out; have htl := HTL.out
  have hmem := List.mem_of_getElem? HX.out
  have FN := unroll_ok W2 W2.heap.size x1.heap.size (firstOf gs j) _ (by omega) z6 (heap_lt z6)
  have hsm := HGD.out.sm x hmem
  have C := map_any FN _ x () 0 (fun _ => False) W2 (fun w' hu => sb.below (hu.toBelow (fun _ h => h)) (Nat.le_refl _)) hsm.small HD.out ⟨Below.refl _ _, fun _ h => h, Nat.le_refl _⟩
  have HC := Lib.hid C; have HBW := Lib.hid hbw; have Y4 := Lib.hid y4
  clear C FN hsm hmem hfl htl hbw y4 hb2 sb z6 hW2
  have hfk := HFK.out
  have hwk : wrap64 (k : Int) = k := by have := HGD.out.len; unfold wrap64; omega
  go_wp2_with fail
  refine HC.out.mono ?_
  rintro e w3 ⟨ds, rfl, T3, hsub, hj3, hu3, _⟩
  have hsub3 := hsub w3 (Upd.refl _ _)
  have hb3 : Below W2.heap.size W2 w3 := hu3.toBelow (fun _ h => h)
  have hT3 := hj3.t
  obtain ⟨vs, vp, vr, vf, rfl, k1, k2, k3, k4⟩ := hsub3.ex
  obtain ⟨a5, c5, rfl⟩ := RowAt.form k1
  obtain ⟨a6, c6, rfl⟩ := RowAt.form k2
  obtain ⟨a7, c7, rfl⟩ := RowAt.form k3
  obtain ⟨a8, c8, rfl⟩ := RowAt.form k4
  have y5 := (hb3.block _ (heap_lt Y4.out)).trans Y4.out
  have g0 := heap_cell y5 0; have g1 := heap_cell y5 1; have g2 := heap_cell y5 2; have g3 := heap_cell y5 3; have g4 := heap_cell y5 4; have g5 := heap_cell y5 5
  have fz := fun i => heap_frozen y5 i
  simp at g0 g1 g2 g3 g4 g5
  have HSUB := Lib.hid hsub; have HB3 := Lib.hid (HBW.out.trans (hb3.mono HBW.out.size)); have Y5 := Lib.hid y5; have HS4 := Lib.hid (heap_lt Y4.out)
  clear hsub hj3 hu3 hsub3 hb3 k1 k2 k3 k4 y5 hT3 q0 q1 q2 q3 q4 q5 c60 c61 hfk hwk
  go_wp2
  refine bodyPost_ret (v := .tuple #[.agg #[.bool (mapSub (fun (s : Unit) h => (unroll (firstOf gs j) h, s)) () x).1.fin, .slice a5 (mapSub (fun (s : Unit) h => (unroll (firstOf gs j) h, s)) () x).1.sups.length c5, .int .i64 (mapSub (fun (s : Unit) h => (unroll (firstOf gs j) h, s)) () x).1.k, .slice a6 (mapSub (fun (s : Unit) h => (unroll (firstOf gs j) h, s)) () x).1.ps.length c6, .slice a7 (mapSub (fun (s : Unit) h => (unroll (firstOf gs j) h, s)) () x).1.rs.length c7, .slice a8 (mapSub (fun (s : Unit) h => (unroll (firstOf gs j) h, s)) () x).1.fs.length c8], .int .i64 0]) (by simp [results, Tryz.results12, go_sem, g0, g1, g2, g3, g4, g5]) rfl ?_
  refine ⟨_, rfl, fun w'' hu => HSUB.out _ (Upd.trans' ((((((((Upd.refl _ w3).setCell (.inl (.inl HS4.out)) _).setCell (.inl (.inl HS4.out)) _).setCell (.inl (.inl HS4.out)) _).setCell (.inl (.inl HS4.out)) _).setCell (.inl (.inl HS4.out)) _).setCell (.inl (.inl HS4.out)) _)) (hu.mono (fun b _ hb => .inl (Nat.lt_trans hb HS4.out)))), ?_⟩
  exact (((((HB3.out.setCell (Nat.le_refl _) _).setCell (Nat.le_refl _) _).setCell (Nat.le_refl _) _).setCell (Nat.le_refl _) _).setCell (Nat.le_refl _) _).setCell (Nat.le_refl _) _
theorem get_any (ht : TabAt S R w t gs) (hok : TabOk gs) {id j k : Nat} {g : List Sb} {x : Sb} (hj : gs[j]? = some g) (ho : (ofL gs)[id]? = some (j : Int)) (hid : id < total gs) (hk : id = firstOf gs j + k) (hx : g[k]? = some x) (hd : DS DRec x) :
    Calls Tryz.prog 12 #[.pointer (some ⟨t, 0, none⟩), .int .i64 id] w fun e w' => ∃ ds : List Value, e = .returned (.tuple #[.agg ds.toArray, .int .i64 0]) ∧ SubAt w' ds (getG gs j x) ∧ Below w.heap.size w w' :=
  (get_own ht hok hj ho hid hk hx hd).mono fun _ _ ⟨ds, h1, h2, h3⟩ => ⟨ds, h1, h2 _ (Upd.refl _ _), h3⟩
end Go.Proofs.YtkgmfbfpmlnfcaaGreatDoor
