/- Groups of declared types that came in: what they hold, and that what is read bounds their sizes. -/
import Derived.Test.YtoamhiaagaaaaaaGreatDoorQRoGetP
import Derived.Test.YtoamhiaagaaaaaaGreatDoorQFnP
import Derived.Test.YtoamhiaagaaaaaaGreatDoorRows
namespace Go.Proofs.YtoamhiaagaaaaaaGreatDoor
open Go.Deep Go.ChangeShapes Go.WideShapes Go.ChangeAt Go.RowKit Go.Joins

theorem bulk_one {H : Type} (d : DataW H) : 1 ≤ Rows.uptoBulk d := by
  cases d with
  | lit l => cases l <;> simp [Rows.uptoBulk]
  | nil => simp [Rows.uptoBulk]
  | ptr d => simp [Rows.uptoBulk]
  | slice elems spare => simp [Rows.uptoBulk]
  | agg parts => simp [Rows.uptoBulk]
  | iface t d => simp [Rows.uptoBulk]
  | map entries => simp [Rows.uptoBulk]
  | held h => simp [Rows.uptoBulk]
theorem bulk_part {H : Type} {d : DataW H} {l : List (DataW H)} (h : d ∈ l) : Rows.uptoBulk d ≤ Rows.uptoBulkAll l := by
  induction l with
  | nil => cases h
  | cons x r ih =>
    simp only [Rows.uptoBulkAll]
    cases List.mem_cons.1 h with
    | inl e => subst e; omega
    | inr e => have := ih e; omega
theorem bulk_each {H : Type} {k : Nat} {l : List (DataW H)} (h : ∀ d ∈ l, k ≤ Rows.uptoBulk d) : k * l.length ≤ Rows.uptoBulkAll l := by
  induction l with
  | nil => simp [Rows.uptoBulkAll]
  | cons x r ih =>
    have h1 := ih (fun d hd => h d (by simp [hd]))
    have h2 := h x (by simp)
    simp only [Rows.uptoBulkAll, List.length_cons, Nat.mul_add]; omega
section
variable {H : Type} {enc : TypeId × Value → H} {w : World} {base : Nat} {sp : Nat → Bool} {held : Bool} {P : Program}
/-- A slice of things of c cells each that came in; each element's reading. -/
theorem open_rowsB {α : Type} [Inhabited α] {f : α → List Value} {Q : α → DataW H → Prop} {c : Nat} {e t : TypeId} {fuel : Nat} {cs : List Value} {x : DataW H × List MemPlace} (ht : P.underlying t = some (.slice e)) (hc : P.cellsOf e = c) (hc0 : 0 < c) (hf : ∀ a, (f a).length = c)
    (k : Nat) (hel : ∀ n cs x, DataW.trod enc P w base sp held n e cs = some x → ∃ a, cs = f a ∧ Q a x.1 ∧ k ≤ Rows.uptoBulk x.1) (h : DataW.trod enc P w base sp held fuel t cs = some x) :
    ∃ (v : Value) (l : List α), cs = [v] ∧ RowAt w c v l.length (l.flatMap f) ∧ k * l.length ≤ Rows.uptoBulk x.1 ∧ ∀ a ∈ l, ∃ d, Q a d ∧ Rows.uptoBulk d ≤ Rows.uptoBulk x.1 := by
  rcases open_slice ht h with ⟨rfl, rfl⟩ | ⟨a, len, cap, m, n, D, Pl, rfl, hb, hl, hm, hmm, rfl, hx⟩
  · exact ⟨_, [], rfl, RowAt.nil w c, Nat.zero_le _, by simp⟩
  rw [hc] at hx
  have hlm : len ≤ m := by rw [hmm]; split <;> omega
  obtain ⟨V, hV⟩ := choose_lt (α := α) (p := fun i v => w.cells? base (a.add (i * c)) c = some (f v) ∧ Q v (D i) ∧ k ≤ Rows.uptoBulk (D i)) (n := len) (fun i hi => by
    obtain ⟨cs', h1, h2⟩ := hx i (by omega)
    obtain ⟨v, rfl, hq⟩ := hel _ _ _ h2
    exact ⟨v, h1, hq⟩)
  refine ⟨_, (List.range len).map V, rfl, ⟨flat_len hf _, .inr ⟨a, cap, by simp, by simpa using hl, fun j u hu => ?_⟩⟩, ?_, fun v hv => ?_⟩
  · have hj : j < len * c := by
      have := (List.getElem?_eq_some_iff.1 hu).1
      rw [flat_len hf] at this; simpa using this
    have hjc : j / c < len := Nat.div_lt_of_lt_mul (by rw [Nat.mul_comm]; exact hj)
    have hjm : j % c < c := Nat.mod_lt _ hc0
    obtain ⟨_, _, hcell⟩ := World.cells?_some (hV (j / c) hjc).1
    have h1 := hcell (j % c) hjm
    have hd : j / c * c + j % c = j := by rw [Nat.mul_comm]; exact Nat.div_add_mod j c
    rw [add_add, hd] at h1
    rw [h1, ← hu, ← hd, flat_at hf _ (j / c) (j % c) (V (j / c)) (by simp [hjc]) hjm, hd]
  · have h1 := bulk_each (k := k) (l := (List.range len).map D) (fun d hd => by
      obtain ⟨i, hi, rfl⟩ := List.mem_map.1 hd
      exact (hV i (by simpa using hi)).2.2)
    simp only [Rows.uptoBulk, List.length_map, List.length_range] at h1 ⊢; omega
  · obtain ⟨i, hi, rfl⟩ := List.mem_map.1 hv
    have hi' : i < len := by simpa using hi
    refine ⟨D i, (hV i hi').2.1, ?_⟩
    have h1 := bulk_part (d := D i) (l := (List.range len).map D) (List.mem_map.2 ⟨i, hi, rfl⟩)
    simp only [Rows.uptoBulk]; omega
theorem struct_bulk {t : TypeId} {fs : Array Field} {fuel : Nat} {cs : List Value} {x : DataW H × List MemPlace} (ht : P.underlying t = some (.struct fs)) (h0 : 0 < fs.size) (h : DataW.trod enc P w base sp held fuel t cs = some x) : 2 ≤ Rows.uptoBulk x.1 := by
  obtain ⟨xs, n, _, rfl, _, hlen, _⟩ := DataW.trod_struct ht h
  cases xs with
  | nil => simp at hlen; omega
  | cons y ys =>
    have := bulk_one y.1
    simp only [List.map_cons, Rows.uptoBulk, Rows.uptoBulkAll]; omega
end
section
variable {H : Type} {enc : TypeId × Value → H} {w : World} {base : Nat} {sp : Nat → Bool} {held : Bool}
set_option maxRecDepth 100000 in
theorem trod_compB {fuel : Nat} {cs : List Value} {x : DataW H × List MemPlace} (h : DataW.trod enc Tryz.prog w base sp held fuel 46 cs = some x) : ∃ (k : Int) (vp vr vf : Value) (ps rs : List Vl) (fs : List Fl), cs = [.int .i64 k, vp, vr, vf] ∧ ValsAt w vp ps ∧ ValsAt w vr rs ∧ FlsAt w vf fs ∧ (∀ v ∈ ps, B64 v.n) ∧ (∀ v ∈ rs, B64 v.n) ∧ (∀ f ∈ fs, B64 f.v.n ∧ B64 f.p) ∧ 2 * (ps.length + (rs.length + fs.length)) ≤ Rows.uptoBulk x.1 := by
  obtain ⟨xs, n, _, rfl, hl, hlen, hf⟩ := DataW.trod_struct Tryz.underlying46 h
  match xs, hlen with
  | [y0, y1, y2, y3], _ =>
    have h0 := hf 0 _ rfl; have h1 := hf 1 _ rfl; have h2 := hf 2 _ rfl; have h3 := hf 3 _ rfl
    have hc : Tryz.prog.cellsOf 46 = 4 := by kernel_rfl
    rw [hc] at hl
    match cs, hl with
    | [c0, c1, c2, c3], _ =>
      have e0 : Tryz.prog.cellsOf 42 = 1 := by kernel_rfl
      have e1 : Tryz.prog.cellsOf 43 = 1 := by kernel_rfl
      have e2 : Tryz.prog.cellsOf 44 = 1 := by kernel_rfl
      simp [e0] at h0
      simp [e1] at h1 h2
      simp [e2] at h3
      obtain ⟨k, hk, _⟩ := DataW.trod_int Tryz.underlying42 h0
      obtain ⟨vp, ps, hp, rp, bp, qp⟩ := open_rowsB (f := cellsV) (Q := fun v _ => B64 v.n) (c := 4) Tryz.underlying43 (by kernel_rfl) (by decide) (fun _ => rfl) 2 (fun _ _ _ h => by obtain ⟨a, ha, hb⟩ := trod_val h; exact ⟨a, ha, hb, struct_bulk Tryz.underlying28 (by decide) h⟩) h1
      obtain ⟨vr, rs, hr, rr, br, qr⟩ := open_rowsB (f := cellsV) (Q := fun v _ => B64 v.n) (c := 4) Tryz.underlying43 (by kernel_rfl) (by decide) (fun _ => rfl) 2 (fun _ _ _ h => by obtain ⟨a, ha, hb⟩ := trod_val h; exact ⟨a, ha, hb, struct_bulk Tryz.underlying28 (by decide) h⟩) h2
      obtain ⟨vf, fs, hff, rf, bf, qf⟩ := open_rowsB (f := cellsF) (Q := fun f _ => B64 f.v.n ∧ B64 f.p) (c := 6) Tryz.underlying44 (by kernel_rfl) (by decide) (fun _ => rfl) 2 (fun _ _ _ h => by obtain ⟨a, ha, hb⟩ := trod_field h; exact ⟨a, ha, hb, struct_bulk Tryz.underlying107 (by decide) h⟩) h3
      simp at hk hp hr hff
      refine ⟨k, vp, vr, vf, ps, rs, fs, by rw [hk, hp, hr, hff], rp, rr, rf, fun v hv => (qp v hv).elim fun _ h => h.1, fun v hv => (qr v hv).elim fun _ h => h.1, fun v hv => (qf v hv).elim fun _ h => h.1, ?_⟩
      simp only [List.map_cons, List.map_nil, Rows.uptoBulk, Rows.uptoBulkAll]; omega
set_option maxRecDepth 100000 in
theorem trod_subB {fuel : Nat} {cs : List Value} {x : DataW H × List MemPlace} (h : DataW.trod enc Tryz.prog w base sp held fuel 48 cs = some x) : ∃ s : Sb, SubAt w cs s ∧ (Small s → Fits s) ∧ 2 * cnt s ≤ Rows.uptoBulk x.1 := by
  obtain ⟨xs, n, _, rfl, hl, hlen, hf⟩ := DataW.trod_struct Tryz.underlying48 h
  match xs, hlen with
  | [y0, y1, y2], _ =>
    have h0 := hf 0 _ rfl; have h1 := hf 1 _ rfl; have h2 := hf 2 _ rfl
    have hc : Tryz.prog.cellsOf 48 = 6 := by kernel_rfl
    rw [hc] at hl
    match cs, hl with
    | [c0, c1, c2, c3, c4, c5], _ =>
      have e0 : Tryz.prog.cellsOf 4 = 1 := by kernel_rfl
      have e1 : Tryz.prog.cellsOf 41 = 1 := by kernel_rfl
      have e2 : Tryz.prog.cellsOf 46 = 4 := by kernel_rfl
      simp [e0] at h0
      simp [e1] at h1
      simp [e2] at h2
      obtain ⟨b, hb, _⟩ := DataW.trod_bool Tryz.underlying4 h0
      obtain ⟨vs, ss, hs, rs, bs, qs⟩ := open_rowsB (f := cellsH) (Q := fun a _ => B64 a.n) (c := 2) Tryz.underlying41 (by kernel_rfl) (by decide) (fun _ => rfl) 2 (fun _ _ _ h => by obtain ⟨a, ha, hb⟩ := trod_heap h; exact ⟨a, ha, hb, struct_bulk Tryz.underlying26 (by decide) h⟩) h1
      obtain ⟨k, vp, vr, vf, lp, lr, lf, hcc, rp, rr, rf, bp, br, bf, bb⟩ := trod_compB h2
      simp at hb hs hcc
      obtain ⟨rfl, rfl, rfl, rfl⟩ := hcc
      subst hb hs
      refine ⟨⟨b, ss, k, lp, lr, lf⟩, ⟨⟨_, _, _, _, rfl, rs, rp, rr, rf⟩⟩, fun hm => ⟨fun v hv => (qs v hv).elim fun _ h => h.1, bp, br, bf, hm⟩, ?_⟩
      simp only [List.map_cons, List.map_nil, Rows.uptoBulk, Rows.uptoBulkAll, cnt]; omega
/-- A group's type, with the cells that it was read out of. -/
abbrev CS := {cs : List Value // cs.length = 6} × Sb
instance : Inhabited CS := ⟨⟨⟨List.replicate 6 undef, rfl⟩, ⟨false, [], 0, [], [], []⟩⟩⟩
theorem trod_group {fuel : Nat} {cs : List Value} {x : DataW H × List MemPlace} (h : DataW.trod enc Tryz.prog w base sp held fuel 38 cs = some x) : ∃ (v : Value) (g : List Sb), cs = [v] ∧ GrpAt w v g ∧ ∀ s ∈ g, (Small s → Fits s) ∧ 2 * cnt s ≤ Rows.uptoBulk x.1 := by
  obtain ⟨v, l, rfl, hr, _, hq⟩ := open_rowsB (α := CS) (f := fun a => a.1.1) (Q := fun a d => SubAt w a.1.1 a.2 ∧ (Small a.2 → Fits a.2) ∧ 2 * cnt a.2 ≤ Rows.uptoBulk d) (c := 6) Tryz.underlying38 (by kernel_rfl) (by decide) (fun a => a.1.2) 0 (fun _ cs _ h => by
    obtain ⟨s, h1, h2, h3⟩ := trod_subB h
    exact ⟨⟨⟨cs, (one_S h1).1⟩, s⟩, rfl, ⟨h1, h2, h3⟩, Nat.zero_le _⟩) h
  refine ⟨v, l.map (·.2), rfl, ⟨l.map (·.1.1), by simp, fun c hc => ?_, by rw [List.length_map, ← List.flatMap_def]; exact hr, fun i c y hc hy => ?_⟩, fun s hs => ?_⟩
  · obtain ⟨a, _, rfl⟩ := List.mem_map.1 hc
    exact a.1.2
  · rw [List.getElem?_map] at hc hy
    cases ha : l[i]? with
    | none => rw [ha] at hc; cases hc
    | some a =>
      rw [ha] at hc hy
      simp at hc hy
      subst hc hy
      obtain ⟨d, ⟨h1, _⟩, _⟩ := hq a (List.mem_of_getElem? ha)
      exact h1
  · obtain ⟨a, ha, rfl⟩ := List.mem_map.1 hs
    obtain ⟨d, ⟨_, h2, h3⟩, h4⟩ := hq a ha
    exact ⟨h2, Nat.le_trans h3 h4⟩
instance : Inhabited (Value × List Sb) := ⟨undef, []⟩
theorem trod_groups {fuel : Nat} {cs : List Value} {x : DataW H × List MemPlace} (h : DataW.trod enc Tryz.prog w base sp held fuel 33 cs = some x) : ∃ (v : Value) (l : List (List Sb)), cs = [v] ∧ GrpsAt w v l ∧ ∀ g ∈ l, ∀ s ∈ g, (Small s → Fits s) ∧ 2 * cnt s ≤ Rows.uptoBulk x.1 := by
  obtain ⟨v, l, rfl, hr, _, hq⟩ := open_rowsB (α := Value × List Sb) (f := fun a => [a.1]) (Q := fun a d => GrpAt w a.1 a.2 ∧ ∀ s ∈ a.2, (Small s → Fits s) ∧ 2 * cnt s ≤ Rows.uptoBulk d) (c := 1) Tryz.underlying33 (by kernel_rfl) (by decide) (fun _ => rfl) 0 (fun _ _ _ h => by
    obtain ⟨v, g, h1, h2, h3⟩ := trod_group h
    exact ⟨⟨v, g⟩, h1, ⟨h2, h3⟩, Nat.zero_le _⟩) h
  have hfm : ∀ l : List (Value × List Sb), l.flatMap (fun a => [a.1]) = l.map (·.1) := by
    intro l
    induction l with
    | nil => rfl
    | cons a l ih => rw [List.flatMap_cons, ih]; rfl
  rw [hfm] at hr
  refine ⟨v, l.map (·.2), rfl, ⟨⟨l.map (·.1), by simp, by rw [List.length_map]; exact hr, fun i y g hy hg => ?_⟩⟩, fun g hg s hs => ?_⟩
  · rw [List.getElem?_map] at hy hg
    cases ha : l[i]? with
    | none => rw [ha] at hy; cases hy
    | some a =>
      rw [ha] at hy hg
      simp at hy hg
      subst hy hg
      obtain ⟨d, ⟨h1, _⟩, _⟩ := hq a (List.mem_of_getElem? ha)
      exact h1
  · obtain ⟨a, ha, rfl⟩ := List.mem_map.1 hg
    obtain ⟨d, ⟨_, h2⟩, h4⟩ := hq a ha
    exact ⟨(h2 s hs).1, Nat.le_trans (h2 s hs).2 h4⟩
set_option maxRecDepth 100000 in
/-- The argument, where what is read is small. -/
theorem open_groups {r : Reach} {b0 : Nat} {v : Value} {d : DataW H} {ps : List MemPlace} (hval : Value.okWide Tryz.prog w r b0 33 v) (h : DataW.Trod enc Tryz.prog w base sp held 33 v d ps) (hb : Rows.uptoBulk d ≤ 1048576) : ∃ g : List (List Sb), GrpsAt w v g ∧ RawL g := by
  obtain ⟨fu, hm⟩ := h
  obtain ⟨v', g, hv, h1, h2⟩ := trod_groups hm
  obtain ⟨sa, sn, sc, rfl⟩ := okWide_slice Tryz.underlying33 hval
  have hy : Value.slice sa sn sc = v' := by simpa [Value.cells] using hv
  subst hy
  refine ⟨g, h1, fun x hx s hs => ?_⟩
  obtain ⟨k1, k2⟩ := h2 x hx s hs
  have hc : cnt s ≤ 1000000 := by
    have : 2 * cnt s ≤ 1048576 := Nat.le_trans k2 hb
    omega
  exact ⟨k1 (small_of_cnt hc), hc⟩
end
end Go.Proofs.YtoamhiaagaaaaaaGreatDoor
