import Derived.Test.YtpddbaijnjbfdaaGreatDoorQRoAddBd
namespace Go.Proofs.YtpddbaijnjbfdaaGreatDoor
open Lib (hid)
section
open Go.RowKit
theorem drewN_drewN (w : World) (a b : Nat) : (w.drewN a).drewN b = w.drewN (a + b) := by
  simp [World.drewN, Nat.add_assoc]
theorem RowAt.drewN {w : World} {c n : Nat} {v : Value} {xs : List Value} (h : RowAt w c v n xs) (k : Nat) : RowAt (w.drewN k) c v n xs := h.keep fun _ _ h => h
theorem retd {p : Prop} [Decidable p] {b : Bool} (h : decide p = b) : Ending.returned (.bool b) = .returned (.bool (decide p)) := by rw [h]
theorem get_ne {α : Type} {l m : List α} {i : Nat} {x y : α} (hx : l[i]? = some x) (hy : m[i]? = some y) (h : x ≠ y) : l ≠ m := fun e => h (by rw [e] at hx; rw [hx] at hy; exact Option.some.inj hy)
theorem take_eq {α : Type} {l m : List α} {i : Nat} {x : α} (hx : l[i]? = some x) (hy : m[i]? = some x) (h : l.take i = m.take i) : l.take (i + 1) = m.take (i + 1) := by
  rw [List.take_add_one, List.take_add_one, h, hx, hy]
end
section
open Go.RowKit Go.Maps Go.WideMaps
theorem addG_ok {gs : List (List Sb)} {ids : List Int} {g : List Sb} (hok : TabOk gs) (hl : ids.length ≤ 100000) (hr : RawG g) : TabOk (addG gs ids g).2.2 := by
  unfold addG
  split
  · exact hok
  · rename_i h1
    split
    · exact hok
    · rename_i h2
      split
      · exact hok
      · split
        · exact hok
        · refine enterG_ok hok (rollG_good (fun i hi => ?_) (by omega) hr (fun x hx => ?_))
          · have h := h2
            simp only [Decidable.not_not, List.all_eq_true] at h
            have := h i hi
            have ht := hok.total
            simp [inTab] at this; omega
          · have h := h1
            simp only [Decidable.not_not, List.all_eq_true] at h
            exact h x hx
structure TabN (w0 : World) (S R : Nat → Prop) (w : World) (t : Nat) (gs : List (List Sb)) : Prop where
  tab : TabAt S R w t gs
  ok : TabOk gs
  base : ∀ k, S k → w0.heap.size ≤ k
  be : Below w0.heap.size w0 w
theorem TabN.below {w0 w w' : World} {S R : Nat → Prop} {t : Nat} {gs : List (List Sb)} (h : TabN w0 S R w t gs) (hb : Below w.heap.size w w') : TabN w0 S R w' t gs :=
  ⟨h.tab.below hb, h.ok, h.base, h.be.trans (hb.mono h.be.size)⟩
def AddN2 (w0 : World) (S R : Nat → Prop) (w : World) (t : Nat) (A : List Int × Int × List (List Sb)) (e : Ending) (w' : World) : Prop :=
  ∃ u S' R', e = .returned (.tuple #[u, .int .i64 A.2.1]) ∧ TabN w0 S' R' w' t A.2.2 ∧ (∀ w'', Upd (fun b => S' b ∨ b < w.heap.size) w' w'' → IntsAt w'' u A.1) ∧ Upd S w w' ∧ Fresh S w S' ∧ Fresh R w R'
theorem add_n2 {w0 : World} {S R : Nat → Prop} {w : World} {t : Nat} {v1 v2 : Value} {gs : List (List Sb)} {ids : List Int} {g : List Sb} (ht : TabN w0 S R w t gs) (h1 : ∀ w', Upd S w w' → IntsAt w' v1 ids) (hl : ids.length ≤ 100000) (h2 : GrpAt w v2 g) (hr : RawG g) (htab : Tab w0) :
    Calls Tryz.prog 53 #[.pointer (some ⟨t, 0, none⟩), v1, v2] w (AddN2 w0 S R w t (addG gs ids g)) := by
  refine (add_any2 S R w t v1 v2 gs ids g ht.tab ht.ok h1 hl h2 hr (htab.on ht.be)).mono ?_
  rintro e w' ⟨u, S', R', he, h3, h4, h5, h6, h7⟩
  have hs := ht.be.size
  exact ⟨u, S', R', he, ⟨h3, addG_ok ht.ok hl hr, fun k hk => (h6 k hk).elim (ht.base k) (fun h => by omega), ht.be.trans (h5.below ht.base hs)⟩, h4, h5, h6, h7⟩
def bx (n : Int) : Sb := ⟨false, [], 2, [], [], [⟨0, ⟨3, true, 13, n⟩, false⟩]⟩
end
section
open Go.RowKit Go.Maps Go.WideMaps
theorem firstOf_add {gs : List (List Sb)} {i : Nat} {g : List Sb} (h : gs[i]? = some g) : firstOf gs i + g.length ≤ total gs := by
  have h1 := firstOf_le gs (i + 1)
  have h2 : firstOf gs (i + 1) = firstOf gs i + g.length := by
    unfold firstOf
    rw [List.take_add_one, h]
    exact total_snoc _ _
  omega
theorem enterG_fit {gs : List (List Sb)} {g : List Sb} (he : (enterG gs g).2.1 = 0) : (enterG gs g).1 + g.length ≤ total (enterG gs g).2.2 ∧ total gs ≤ total (enterG gs g).2.2 := by
  revert he
  unfold enterG
  cases hf : findG gs g with
  | some i =>
    intro _
    obtain ⟨hlt, hx, _⟩ := List.findIdx?_eq_some_iff_getElem.1 hf
    have hgi : gs[i]? = some g := by rw [List.getElem?_eq_getElem hlt]; simpa using hx
    have := firstOf_add hgi
    dsimp only; omega
  | none =>
    dsimp only
    split
    · intro h; cases h
    · split
      · rename_i h; intro _; subst h; simp
      · intro _; dsimp only; rw [total_snoc]; omega
structure AddOk (gs : List (List Sb)) (ids : List Int) (g : List Sb) (A : List Int × Int × List (List Sb)) : Prop where
  inn : ∀ i ∈ A.1, inTab A.2.2 i = true
  len : A.1.length = ids.length + g.length
theorem inTab_mono {gs gs' : List (List Sb)} (h : total gs ≤ total gs') {i : Int} (hi : inTab gs i = true) : inTab gs' i = true := by
  simp [inTab] at hi ⊢; omega
theorem addG_fact (gs : List (List Sb)) (ids : List Int) (g : List Sb) : ((addG gs ids g).2.1 ≠ 0 ∧ (addG gs ids g).1 = [] ∧ (addG gs ids g).2.2 = gs) ∨ ((addG gs ids g).2.1 = 0 ∧ AddOk gs ids g (addG gs ids g)) := by
  unfold addG
  split
  · exact .inl ⟨by simp, rfl, rfl⟩
  · split
    · exact .inl ⟨by simp, rfl, rfl⟩
    · rename_i h2
      split
      · exact .inl ⟨by simp, rfl, rfl⟩
      · split
        · rename_i h4
          exact .inl ⟨h4, rfl, rfl⟩
        · rename_i h4
          have h4 : (enterG gs (rollG ids g).1).2.1 = 0 := by simpa using h4
          obtain ⟨f1, f2⟩ := enterG_fit h4
          rw [rollG_len] at f1
          have f0 := enterG_first (gs := gs) (g := (rollG ids g).1)
          refine .inr ⟨rfl, ⟨fun i hi => ?_, by simp⟩⟩
          simp only [List.mem_append, List.mem_map, List.mem_range] at hi
          rcases hi with hi | ⟨k, hk, rfl⟩
          · have h := h2
            simp only [Decidable.not_not, List.all_eq_true] at h
            exact inTab_mono f2 (h i hi)
          · simp [inTab]; omega
structure GrpsAt (w : World) (v : Value) (l : List (List Sb)) : Prop where
  ex : ∃ vs : List Value, vs.length = l.length ∧ RowAt w 1 v l.length vs ∧ ∀ (i : Nat) x g, vs[i]? = some x → l[i]? = some g → GrpAt w x g
theorem GrpsAt.form {w : World} {v : Value} {l : List (List Sb)} (h : GrpsAt w v l) : ∃ ao cap, v = .slice ao l.length cap := by
  obtain ⟨_, _, h, _⟩ := h.ex; exact RowAt.form h
theorem GrpsAt.keep {w w' : World} {v : Value} {l : List (List Sb)} (h : GrpsAt w v l) (hk : ∀ p u, w.cell? p = some u → w'.cell? p = some u) : GrpsAt w' v l := by
  obtain ⟨vs, h1, h2, h3⟩ := h.ex
  exact ⟨vs, h1, h2.keep hk, fun i x g hx hg => (h3 i x g hx hg).keep hk⟩
theorem GrpsAt.below {w w' : World} {B : Nat} {v : Value} {l : List (List Sb)} (h : GrpsAt w v l) (hb : Below B w w') (hB : w.heap.size ≤ B) : GrpsAt w' v l :=
  h.keep fun p u hp => by rw [hb.cell (Nat.lt_of_lt_of_le (World.block_lt_of_cell? _ _ hp) hB)]; exact hp
theorem GrpsAt.at {w : World} {ao : Option Addr} {cap : Nat} {l : List (List Sb)} (h : GrpsAt w (.slice ao l.length cap) l) {i : Nat} {g : List Sb} (hi : l[i]? = some g) : ∃ b off a c, ao = some ⟨b, off, none⟩ ∧ w.cell? ⟨b, off + i, none⟩ = some (.slice a g.length c) ∧ GrpAt w (.slice a g.length c) g := by
  have hlt := (List.getElem?_eq_some_iff.1 hi).1
  obtain ⟨vs, h1, h2, h3⟩ := h.ex
  obtain ⟨b, off, rfl, _, _, hc⟩ := RowAt.at h2 (by decide) (by omega)
  obtain ⟨x, hx⟩ : ∃ x, vs[i]? = some x := ⟨vs[i]'(by omega), by simp⟩
  have hg := h3 i x g hx hi
  obtain ⟨a, c, rfl⟩ := hg.form
  exact ⟨b, off, a, c, rfl, by rw [hc i (by omega), hx], hg⟩
end
section
open Go.Deep Go.ChangeShapes Go.WideShapes Go.ChangeAt Go.RowKit Go.Joins
theorem add_add (a : Addr) (i j : Nat) : (a.add i).add j = a.add (i + j) := by
  unfold Addr.add
  by_cases h0 : i = 0
  · subst h0; simp
  · by_cases h1 : j = 0
    · subst h1; simp
    · simp [h0, h1, Nat.add_assoc]
section
variable {H : Type} {enc : TypeId × Value → H} {w : World} {base : Nat} {sp : Nat → Bool} {held : Bool} {P : Program}
theorem trod3 {t : TypeId} {f0 f1 f2 : Field} {fuel : Nat} {cs : List Value} {x : DataW H × List MemPlace} (ht : P.underlying t = some (.struct #[f0, f1, f2])) (h : DataW.trod enc P w base sp held fuel t cs = some x) :
    ∃ y0 y1 y2 n, cs.length = P.cellsOf t ∧ DataW.trod enc P w base sp held n f0.type ((cs.drop f0.offset).take (P.cellsOf f0.type)) = some y0 ∧
      DataW.trod enc P w base sp held n f1.type ((cs.drop f1.offset).take (P.cellsOf f1.type)) = some y1 ∧ DataW.trod enc P w base sp held n f2.type ((cs.drop f2.offset).take (P.cellsOf f2.type)) = some y2 := by
  obtain ⟨xs, n, _, rfl, hl, hlen, hf⟩ := DataW.trod_struct ht h
  match xs, hlen with
  | [y0, y1, y2], _ => exact ⟨y0, y1, y2, n, hl, by simpa using hf 0 f0 rfl, by simpa using hf 1 f1 rfl, by simpa using hf 2 f2 rfl⟩
end
section
variable {H : Type} {enc : TypeId × Value → H} {w : World} {base : Nat} {sp : Nat → Bool} {held : Bool}
instance : Inhabited Hp := ⟨⟨0, 0⟩⟩
instance : Inhabited Vl := ⟨⟨0, false, 0, 0⟩⟩
instance : Inhabited Fl := ⟨⟨0, default, false⟩⟩
set_option maxRecDepth 100000 in
theorem trod_heap {fuel : Nat} {cs : List Value} {x : DataW H × List MemPlace} (h : DataW.trod enc Tryz.prog w base sp held fuel 75 cs = some x) : ∃ a : Hp, cs = cellsH a ∧ B64 a.n := by
  obtain ⟨y0, y1, n, _, hl, h0, h1⟩ := trod_struct2 Tryz.underlying75 h
  have hc : Tryz.prog.cellsOf 75 = 2 := by kernel_rfl
  rw [hc] at hl
  match cs, hl with
  | [c0, c1], _ =>
    have e0 : Tryz.prog.cellsOf 73 = 1 := by kernel_rfl
    have e1 : Tryz.prog.cellsOf 3 = 1 := by kernel_rfl
    simp [e0] at h0
    simp [e1] at h1
    obtain ⟨a, ha, _⟩ := DataW.trod_int Tryz.underlying73 h0
    obtain ⟨b, hb, _, wb⟩ := DataW.trod_int Tryz.underlying3 h1
    simp at ha hb
    exact ⟨⟨a, b⟩, by rw [ha, hb]; rfl, bounds_i64 wb⟩
set_option maxRecDepth 100000 in
theorem trod_val {fuel : Nat} {cs : List Value} {x : DataW H × List MemPlace} (h : DataW.trod enc Tryz.prog w base sp held fuel 77 cs = some x) : ∃ v : Vl, cs = cellsV v ∧ B64 v.n := by
  obtain ⟨y0, y1, y2, n, hl, h0, h1, h2⟩ := trod3 Tryz.underlying77 h
  have hc : Tryz.prog.cellsOf 77 = 4 := by kernel_rfl
  rw [hc] at hl
  match cs, hl with
  | [c0, c1, c2, c3], _ =>
    have e0 : Tryz.prog.cellsOf 72 = 1 := by kernel_rfl
    have e1 : Tryz.prog.cellsOf 4 = 1 := by kernel_rfl
    have e2 : Tryz.prog.cellsOf 75 = 2 := by kernel_rfl
    simp [e0] at h0
    simp [e1] at h1
    simp [e2] at h2
    obtain ⟨a, ha, _⟩ := DataW.trod_int Tryz.underlying72 h0
    obtain ⟨b, hb, _⟩ := DataW.trod_bool Tryz.underlying4 h1
    obtain ⟨⟨c, d⟩, hcd, hB⟩ := trod_heap h2
    simp [cellsH] at ha hb hcd
    exact ⟨⟨a, b, c, d⟩, by rw [ha, hb, hcd.1, hcd.2]; rfl, hB⟩
set_option maxRecDepth 100000 in
theorem trod_store {fuel : Nat} {cs : List Value} {x : DataW H × List MemPlace} (h : DataW.trod enc Tryz.prog w base sp held fuel 113 cs = some x) : ∃ (p : Int) (v : Vl), cs = .int .i64 p :: cellsV v ∧ B64 v.n ∧ B64 p := by
  obtain ⟨y0, y1, n, _, hl, h0, h1⟩ := trod_struct2 Tryz.underlying113 h
  have hc : Tryz.prog.cellsOf 113 = 5 := by kernel_rfl
  rw [hc] at hl
  match cs, hl with
  | [c0, c1, c2, c3, c4], _ =>
    have e0 : Tryz.prog.cellsOf 3 = 1 := by kernel_rfl
    have e1 : Tryz.prog.cellsOf 77 = 4 := by kernel_rfl
    simp [e0] at h0
    simp [e1] at h1
    obtain ⟨p, hp, _, wp⟩ := DataW.trod_int Tryz.underlying3 h0
    obtain ⟨v, hv, hB⟩ := trod_val h1
    simp at hp
    exact ⟨p, v, by rw [hp, ← hv], hB, bounds_i64 wp⟩
set_option maxRecDepth 100000 in
theorem trod_field {fuel : Nat} {cs : List Value} {x : DataW H × List MemPlace} (h : DataW.trod enc Tryz.prog w base sp held fuel 115 cs = some x) : ∃ f : Fl, cs = cellsF f ∧ B64 f.v.n ∧ B64 f.p := by
  obtain ⟨y0, y1, n, _, hl, h0, h1⟩ := trod_struct2 Tryz.underlying115 h
  have hc : Tryz.prog.cellsOf 115 = 6 := by kernel_rfl
  rw [hc] at hl
  match cs, hl with
  | [c0, c1, c2, c3, c4, c5], _ =>
    have e0 : Tryz.prog.cellsOf 4 = 1 := by kernel_rfl
    have e1 : Tryz.prog.cellsOf 113 = 5 := by kernel_rfl
    simp [e0, e1] at h0 h1
    obtain ⟨p, v, hv, hB, hp⟩ := trod_store h0
    obtain ⟨m, hm, _⟩ := DataW.trod_bool Tryz.underlying4 h1
    simp [cellsV] at hv hm
    obtain ⟨rfl, rfl, rfl, rfl, rfl⟩ := hv
    exact ⟨⟨p, v, m⟩, by rw [hm]; rfl, hB, hp⟩
end
end
section
open Go.Deep Go.ChangeShapes Go.WideShapes Go.ChangeAt Go.RowKit Go.Joins
theorem bulk_one {H : Type} (d : DataW H) : 1 ≤ Rows.uptoBulk d := by
  cases d with
  | lit l => cases l <;> simp [Rows.uptoBulk]
  | nil => simp [Rows.uptoBulk]
  | ptr d => simp [Rows.uptoBulk]
  | slice elems spare => simp [Rows.uptoBulk]
  | agg parts => simp [Rows.uptoBulk]
  | iface t d => simp [Rows.uptoBulk]
  | map entries => simp [Rows.uptoBulk]
  | held h => simp [Rows.uptoBulk]
theorem bulk_part {H : Type} {d : DataW H} {l : List (DataW H)} (h : d ∈ l) : Rows.uptoBulk d ≤ Rows.uptoBulkAll l := by
  induction l with
  | nil => cases h
  | cons x r ih =>
    simp only [Rows.uptoBulkAll]
    cases List.mem_cons.1 h with
    | inl e => subst e; omega
    | inr e => have := ih e; omega
theorem bulk_each {H : Type} {k : Nat} {l : List (DataW H)} (h : ∀ d ∈ l, k ≤ Rows.uptoBulk d) : k * l.length ≤ Rows.uptoBulkAll l := by
  induction l with
  | nil => simp [Rows.uptoBulkAll]
  | cons x r ih =>
    have h1 := ih (fun d hd => h d (by simp [hd]))
    have h2 := h x (by simp)
    simp only [Rows.uptoBulkAll, List.length_cons, Nat.mul_add]; omega
section
variable {H : Type} {enc : TypeId × Value → H} {w : World} {base : Nat} {sp : Nat → Bool} {held : Bool} {P : Program}
theorem open_rowsB {α : Type} [Inhabited α] {f : α → List Value} {Q : α → DataW H → Prop} {c : Nat} {e t : TypeId} {fuel : Nat} {cs : List Value} {x : DataW H × List MemPlace} (ht : P.underlying t = some (.slice e)) (hc : P.cellsOf e = c) (hc0 : 0 < c) (hf : ∀ a, (f a).length = c)
    (k : Nat) (hel : ∀ n cs x, DataW.trod enc P w base sp held n e cs = some x → ∃ a, cs = f a ∧ Q a x.1 ∧ k ≤ Rows.uptoBulk x.1) (h : DataW.trod enc P w base sp held fuel t cs = some x) :
    ∃ (v : Value) (l : List α), cs = [v] ∧ RowAt w c v l.length (l.flatMap f) ∧ k * l.length ≤ Rows.uptoBulk x.1 ∧ ∀ a ∈ l, ∃ d, Q a d ∧ Rows.uptoBulk d ≤ Rows.uptoBulk x.1 := by
  rcases open_slice ht h with ⟨rfl, rfl⟩ | ⟨a, len, cap, m, n, D, Pl, rfl, hb, hl, hm, hmm, rfl, hx⟩
  · exact ⟨_, [], rfl, RowAt.nil w c, Nat.zero_le _, by simp⟩
  rw [hc] at hx
  have hlm : len ≤ m := by rw [hmm]; split <;> omega
  obtain ⟨V, hV⟩ := choose_lt (α := α) (p := fun i v => w.cells? base (a.add (i * c)) c = some (f v) ∧ Q v (D i) ∧ k ≤ Rows.uptoBulk (D i)) (n := len) (fun i hi => by
    obtain ⟨cs', h1, h2⟩ := hx i (by omega)
    obtain ⟨v, rfl, hq⟩ := hel _ _ _ h2
    exact ⟨v, h1, hq⟩)
  refine ⟨_, (List.range len).map V, rfl, ⟨flat_len hf _, .inr ⟨a, cap, by simp, by simpa using hl, fun j u hu => ?_⟩⟩, ?_, fun v hv => ?_⟩
  · have hj : j < len * c := by
      have := (List.getElem?_eq_some_iff.1 hu).1
      rw [flat_len hf] at this; simpa using this
    have hjc : j / c < len := Nat.div_lt_of_lt_mul (by rw [Nat.mul_comm]; exact hj)
    have hjm : j % c < c := Nat.mod_lt _ hc0
    obtain ⟨_, _, hcell⟩ := World.cells?_some (hV (j / c) hjc).1
    have h1 := hcell (j % c) hjm
    have hd : j / c * c + j % c = j := by rw [Nat.mul_comm]; exact Nat.div_add_mod j c
    rw [add_add, hd] at h1
    rw [h1, ← hu, ← hd, flat_at hf _ (j / c) (j % c) (V (j / c)) (by simp [hjc]) hjm, hd]
  · have h1 := bulk_each (k := k) (l := (List.range len).map D) (fun d hd => by
      obtain ⟨i, hi, rfl⟩ := List.mem_map.1 hd
      exact (hV i (by simpa using hi)).2.2)
    simp only [Rows.uptoBulk, List.length_map, List.length_range] at h1 ⊢; omega
  · obtain ⟨i, hi, rfl⟩ := List.mem_map.1 hv
    have hi' : i < len := by simpa using hi
    refine ⟨D i, (hV i hi').2.1, ?_⟩
    have h1 := bulk_part (d := D i) (l := (List.range len).map D) (List.mem_map.2 ⟨i, hi, rfl⟩)
    simp only [Rows.uptoBulk]; omega
theorem struct_bulk {t : TypeId} {fs : Array Field} {fuel : Nat} {cs : List Value} {x : DataW H × List MemPlace} (ht : P.underlying t = some (.struct fs)) (h0 : 0 < fs.size) (h : DataW.trod enc P w base sp held fuel t cs = some x) : 2 ≤ Rows.uptoBulk x.1 := by
  obtain ⟨xs, n, _, rfl, _, hlen, _⟩ := DataW.trod_struct ht h
  cases xs with
  | nil => simp at hlen; omega
  | cons y ys =>
    have := bulk_one y.1
    simp only [List.map_cons, Rows.uptoBulk, Rows.uptoBulkAll]; omega
end
section
variable {H : Type} {enc : TypeId × Value → H} {w : World} {base : Nat} {sp : Nat → Bool} {held : Bool}
set_option maxRecDepth 100000 in
theorem trod_compB {fuel : Nat} {cs : List Value} {x : DataW H × List MemPlace} (h : DataW.trod enc Tryz.prog w base sp held fuel 39 cs = some x) : ∃ (k : Int) (vp vr vf : Value) (ps rs : List Vl) (fs : List Fl), cs = [.int .i64 k, vp, vr, vf] ∧ ValsAt w vp ps ∧ ValsAt w vr rs ∧ FlsAt w vf fs ∧ (∀ v ∈ ps, B64 v.n) ∧ (∀ v ∈ rs, B64 v.n) ∧ (∀ f ∈ fs, B64 f.v.n ∧ B64 f.p) ∧ 2 * (ps.length + (rs.length + fs.length)) ≤ Rows.uptoBulk x.1 := by
  obtain ⟨xs, n, _, rfl, hl, hlen, hf⟩ := DataW.trod_struct Tryz.underlying39 h
  match xs, hlen with
  | [y0, y1, y2, y3], _ =>
    have h0 := hf 0 _ rfl; have h1 := hf 1 _ rfl; have h2 := hf 2 _ rfl; have h3 := hf 3 _ rfl
    have hc : Tryz.prog.cellsOf 39 = 4 := by kernel_rfl
    rw [hc] at hl
    match cs, hl with
    | [c0, c1, c2, c3], _ =>
      have e0 : Tryz.prog.cellsOf 24 = 1 := by kernel_rfl
      have e1 : Tryz.prog.cellsOf 36 = 1 := by kernel_rfl
      have e2 : Tryz.prog.cellsOf 37 = 1 := by kernel_rfl
      simp [e0] at h0
      simp [e1] at h1 h2
      simp [e2] at h3
      obtain ⟨k, hk, _⟩ := DataW.trod_int Tryz.underlying24 h0
      obtain ⟨vp, ps, hp, rp, bp, qp⟩ := open_rowsB (f := cellsV) (Q := fun v _ => B64 v.n) (c := 4) Tryz.underlying36 (by kernel_rfl) (by decide) (fun _ => rfl) 2 (fun _ _ _ h => by obtain ⟨a, ha, hb⟩ := trod_val h; exact ⟨a, ha, hb, struct_bulk Tryz.underlying77 (by decide) h⟩) h1
      obtain ⟨vr, rs, hr, rr, br, qr⟩ := open_rowsB (f := cellsV) (Q := fun v _ => B64 v.n) (c := 4) Tryz.underlying36 (by kernel_rfl) (by decide) (fun _ => rfl) 2 (fun _ _ _ h => by obtain ⟨a, ha, hb⟩ := trod_val h; exact ⟨a, ha, hb, struct_bulk Tryz.underlying77 (by decide) h⟩) h2
      obtain ⟨vf, fs, hff, rf, bf, qf⟩ := open_rowsB (f := cellsF) (Q := fun f _ => B64 f.v.n ∧ B64 f.p) (c := 6) Tryz.underlying37 (by kernel_rfl) (by decide) (fun _ => rfl) 2 (fun _ _ _ h => by obtain ⟨a, ha, hb⟩ := trod_field h; exact ⟨a, ha, hb, struct_bulk Tryz.underlying115 (by decide) h⟩) h3
      simp at hk hp hr hff
      refine ⟨k, vp, vr, vf, ps, rs, fs, by rw [hk, hp, hr, hff], rp, rr, rf, fun v hv => (qp v hv).elim fun _ h => h.1, fun v hv => (qr v hv).elim fun _ h => h.1, fun v hv => (qf v hv).elim fun _ h => h.1, ?_⟩
      simp only [List.map_cons, List.map_nil, Rows.uptoBulk, Rows.uptoBulkAll]; omega
set_option maxRecDepth 100000 in
theorem trod_subB {fuel : Nat} {cs : List Value} {x : DataW H × List MemPlace} (h : DataW.trod enc Tryz.prog w base sp held fuel 46 cs = some x) : ∃ s : Sb, SubAt w cs s ∧ (Small s → Fits s) ∧ 2 * cnt s ≤ Rows.uptoBulk x.1 := by
  obtain ⟨xs, n, _, rfl, hl, hlen, hf⟩ := DataW.trod_struct Tryz.underlying46 h
  match xs, hlen with
  | [y0, y1, y2], _ =>
    have h0 := hf 0 _ rfl; have h1 := hf 1 _ rfl; have h2 := hf 2 _ rfl
    have hc : Tryz.prog.cellsOf 46 = 6 := by kernel_rfl
    rw [hc] at hl
    match cs, hl with
    | [c0, c1, c2, c3, c4, c5], _ =>
      have e0 : Tryz.prog.cellsOf 4 = 1 := by kernel_rfl
      have e1 : Tryz.prog.cellsOf 44 = 1 := by kernel_rfl
      have e2 : Tryz.prog.cellsOf 39 = 4 := by kernel_rfl
      simp [e0] at h0
      simp [e1] at h1
      simp [e2] at h2
      obtain ⟨b, hb, _⟩ := DataW.trod_bool Tryz.underlying4 h0
      obtain ⟨vs, ss, hs, rs, bs, qs⟩ := open_rowsB (f := cellsH) (Q := fun a _ => B64 a.n) (c := 2) Tryz.underlying44 (by kernel_rfl) (by decide) (fun _ => rfl) 2 (fun _ _ _ h => by obtain ⟨a, ha, hb⟩ := trod_heap h; exact ⟨a, ha, hb, struct_bulk Tryz.underlying75 (by decide) h⟩) h1
      obtain ⟨k, vp, vr, vf, lp, lr, lf, hcc, rp, rr, rf, bp, br, bf, bb⟩ := trod_compB h2
      simp at hb hs hcc
      obtain ⟨rfl, rfl, rfl, rfl⟩ := hcc
      subst hb hs
      refine ⟨⟨b, ss, k, lp, lr, lf⟩, ⟨⟨_, _, _, _, rfl, rs, rp, rr, rf⟩⟩, fun hm => ⟨fun v hv => (qs v hv).elim fun _ h => h.1, bp, br, bf, hm⟩, ?_⟩
      simp only [List.map_cons, List.map_nil, Rows.uptoBulk, Rows.uptoBulkAll, cnt]; omega
abbrev CS := {cs : List Value // cs.length = 6} × Sb
instance : Inhabited CS := ⟨⟨⟨List.replicate 6 undef, rfl⟩, ⟨false, [], 0, [], [], []⟩⟩⟩
instance : Inhabited (Value × List Sb) := ⟨undef, []⟩
end
end
section
open Go.Deep Go.ChangeShapes Go.WideShapes Go.ChangeAt Go.RowKit Go.Joins
def CellsAt (w : World) (v : Value) (xs : List Value) : Prop :=
  (v = .slice none 0 0 ∧ xs = []) ∨ ∃ (a : Addr) (cap : Nat), v = .slice (some a) xs.length cap ∧ xs.length ≤ cap ∧ ∀ j u, xs[j]? = some u → w.cell? (a.add j) = some u
section
variable {H : Type} {enc : TypeId × Value → H} {P : Program} {w : World} {base : Nat} {sp : Nat → Bool} {held : Bool}
theorem open_cells {t e : TypeId} {fuel : Nat} {cs : List Value} {x : DataW H × List MemPlace} (ht : P.underlying t = some (.slice e)) (hc : P.cellsOf e = 1) (Q : Value → Prop) (hQ : ∀ fuel u x, DataW.trod enc P w base sp held fuel e [u] = some x → Q u) (h : DataW.trod enc P w base sp held fuel t cs = some x) :
    ∃ v xs, cs = [v] ∧ CellsAt w v xs ∧ xs.length ≤ maxLen ∧ ∀ u ∈ xs, Q u := by
  rcases open_slice1 ht hc h with ⟨rfl, _⟩ | ⟨a, len, cap, m, n, V, D, Pl, rfl, hb, hl, hm, hmm, rfl, hx⟩
  · exact ⟨_, [], rfl, .inl ⟨rfl, rfl⟩, Nat.zero_le _, fun _ h => by simp at h⟩
  have hlm : len ≤ m := by rw [hmm]; split <;> omega
  refine ⟨_, (List.range len).map V, rfl, .inr ⟨a, cap, by simp, by simpa using hl, fun j u hu => ?_⟩, by simp; omega, fun u hu => ?_⟩
  · have hj := (List.getElem?_eq_some_iff.1 hu).1
    simp at hj
    simp [hj] at hu
    subst hu
    exact (hx j (by omega)).1
  · obtain ⟨i, hi, rfl⟩ := List.mem_map.1 hu
    exact hQ _ _ _ (hx i (by have := List.mem_range.1 hi; omega)).2
theorem list_of_ints {k : IntKind} : ∀ (xs : List Value), (∀ u ∈ xs, ∃ n, u = .int k n ∧ (Lit.int k n).wf = true) → ∃ l : List Int, xs = l.map (.int k) ∧ ∀ n ∈ l, (Lit.int k n).wf = true
  | [], _ => ⟨[], rfl, fun _ h => by simp at h⟩
  | x :: xs, h => by
    obtain ⟨n, rfl, hn⟩ := h x (by simp)
    obtain ⟨l, rfl, hl⟩ := list_of_ints xs (fun u hu => h u (by simp [hu]))
    exact ⟨n :: l, rfl, fun m hm => by rcases List.mem_cons.1 hm with rfl | hm; exact hn; exact hl m hm⟩
theorem open_intcells {t e : TypeId} {k : IntKind} {fuel : Nat} {cs : List Value} {x : DataW H × List MemPlace} (ht : P.underlying t = some (.slice e)) (he : P.underlying e = some (.int k)) (hc : P.cellsOf e = 1) (h : DataW.trod enc P w base sp held fuel t cs = some x) :
    ∃ v l, cs = [v] ∧ CellsAt w v (List.map (.int k) l) ∧ l.length ≤ maxLen ∧ ∀ n ∈ l, (Lit.int k n).wf = true := by
  obtain ⟨v, xs, rfl, h1, h2, h3⟩ := open_cells ht hc (fun u => ∃ n, u = .int k n ∧ (Lit.int k n).wf = true) (fun fuel u x hx => by
    obtain ⟨n, hn, hw⟩ := DataW.trod_int he hx
    simp at hn
    exact ⟨n, hn, by first | exact hw.2 | exact hw.2.1⟩) h
  obtain ⟨l, rfl, hl⟩ := list_of_ints xs h3
  exact ⟨v, l, rfl, h1, by simpa using h2, hl⟩
end
end
section
open Go.ChangeShapes Go.WideShapes Go.ChangeAt Go.RowKit Go.Joins
theorem ints_of_cells {w : World} {v : Value} {l : List Int} (h : CellsAt w v (l.map (Value.int .i64))) : IntsAt w v l := by
  rcases h with ⟨rfl, e⟩ | ⟨a, cap, rfl, hc, hx⟩
  · obtain rfl : l = [] := by simpa using e
    exact RowAt.nil w 1
  · rw [List.length_map] at hc
    refine ⟨by simp, .inr ⟨a, cap, by rw [List.length_map], hc, hx⟩⟩
section
variable {H : Type} {enc : TypeId × Value → H} {w : World} {base : Nat} {sp : Nat → Bool} {held : Bool}
set_option maxRecDepth 100000 in
theorem open_intsv {r : Reach} {b0 : Nat} {v : Value} {d : DataW H} {ps : List MemPlace} (hval : Value.okWide Tryz.prog w r b0 23 v) (h : DataW.Trod enc Tryz.prog w base sp held 23 v d ps) : ∃ l : List Int, IntsAt w v l ∧ (∀ n ∈ l, (Lit.int .i64 n).wf = true) ∧ l.length ≤ maxLen := by
  obtain ⟨fu, hm⟩ := h
  obtain ⟨v', l, hv, h1, h2, h3⟩ := open_intcells Tryz.underlying23 Tryz.underlying3 (by kernel_rfl) hm
  obtain ⟨sa, sn, sc, rfl⟩ := okWide_slice Tryz.underlying23 hval
  have hy : Value.slice sa sn sc = v' := by simpa [Value.cells] using hv
  subst hy
  exact ⟨l, ints_of_cells h1, h3, h2⟩
end
end
section
open Go.RowKit Go.Maps Go.WideMaps
def LimD (x : Sb) : Prop := x.ps.length ≤ 20 ∧ x.rs.length ≤ 20 ∧ x.fs.length ≤ 20 ∧ x.sups.length ≤ 5
def sizeD (l : List (List Sb)) : Nat := (l.map fun g => 1 + g.length).sum
structure OkD (l : List (List Sb)) : Prop where
  size : sizeD l ≤ 150
  lim : ∀ g ∈ l, ∀ x ∈ g, LimD x
theorem sizeD_snoc (l : List (List Sb)) (g : List Sb) : sizeD (l ++ [g]) = sizeD l + (1 + g.length) := by simp [sizeD]
theorem sizeD_mem {l : List (List Sb)} {g : List Sb} (h : g ∈ l) : 1 + g.length ≤ sizeD l := by
  induction l with
  | nil => cases h
  | cons a l ih =>
    have e : sizeD (a :: l) = (1 + a.length) + sizeD l := by simp [sizeD]
    rcases List.mem_cons.1 h with rfl | h
    · omega
    · have := ih h; omega
theorem LimD.raw {x : Sb} (h : LimD x) (hf : Small x → Fits x) : Fits x ∧ cnt x ≤ 1000000 := by
  obtain ⟨a, b, c, d⟩ := h
  exact ⟨hf ⟨by omega, by omega, by omega, by omega⟩, by unfold cnt; omega⟩
theorem OkD.raw {l : List (List Sb)} (h : OkD l) (hf : ∀ g ∈ l, ∀ x ∈ g, Small x → Fits x) : ∀ g ∈ l, RawG g := fun g hg =>
  ⟨by have := sizeD_mem hg; have := h.size; omega, fun x hx => ((h.lim g hg x hx).raw (hf g hg x hx)).1, fun x hx => ((h.lim g hg x hx).raw (hf g hg x hx)).2⟩
section
open Go.Deep Go.ChangeShapes Go.WideShapes Go.ChangeAt Go.Joins
variable {H : Type} {enc : TypeId × Value → H} {w : World} {base : Nat} {sp : Nat → Bool} {held : Bool}
end
end
section
open Go.Deep Go.ChangeShapes Go.WideShapes Go.ChangeAt Go.RowKit Go.Joins
section
variable {H : Type} {enc : TypeId × Value → H} {w : World} {base : Nat} {sp : Nat → Bool} {held : Bool} {P : Program}
theorem open_rowsM {α : Type} [Inhabited α] {f : α → List Value} {Q : α → DataW H → Prop} {c : Nat} {e t : TypeId} {fuel : Nat} {cs : List Value} {x : DataW H × List MemPlace} (ht : P.underlying t = some (.slice e)) (hc : P.cellsOf e = c) (hc0 : 0 < c) (hf : ∀ a, (f a).length = c)
    (hel : ∀ n cs x, DataW.trod enc P w base sp held n e cs = some x → ∃ a, cs = f a ∧ Q a x.1) (h : DataW.trod enc P w base sp held fuel t cs = some x) :
    ∃ (v : Value) (l : List α), cs = [v] ∧ RowAt w c v l.length (l.flatMap f) ∧ (l = [] ∨ ∃ elems spare, x.1 = .slice elems spare ∧ elems.length = l.length) ∧ ∀ a ∈ l, ∃ d, Q a d ∧ ∃ elems spare, x.1 = .slice elems spare ∧ d ∈ elems := by
  rcases open_slice ht h with ⟨rfl, rfl⟩ | ⟨a, len, cap, m, n, D, Pl, rfl, hb, hl, hm, hmm, rfl, hx⟩
  · exact ⟨_, [], rfl, RowAt.nil w c, .inl rfl, by simp⟩
  rw [hc] at hx
  have hlm : len ≤ m := by rw [hmm]; split <;> omega
  obtain ⟨V, hV⟩ := choose_lt (α := α) (p := fun i v => w.cells? base (a.add (i * c)) c = some (f v) ∧ Q v (D i)) (n := len) (fun i hi => by
    obtain ⟨cs', h1, h2⟩ := hx i (by omega)
    obtain ⟨v, rfl, hq⟩ := hel _ _ _ h2
    exact ⟨v, h1, hq⟩)
  refine ⟨_, (List.range len).map V, rfl, ⟨flat_len hf _, .inr ⟨a, cap, by simp, by simpa using hl, fun j u hu => ?_⟩⟩, .inr ⟨_, _, rfl, by simp⟩, fun v hv => ?_⟩
  · have hj : j < len * c := by
      have := (List.getElem?_eq_some_iff.1 hu).1
      rw [flat_len hf] at this; simpa using this
    have hjc : j / c < len := Nat.div_lt_of_lt_mul (by rw [Nat.mul_comm]; exact hj)
    have hjm : j % c < c := Nat.mod_lt _ hc0
    obtain ⟨_, _, hcell⟩ := World.cells?_some (hV (j / c) hjc).1
    have h1 := hcell (j % c) hjm
    have hd : j / c * c + j % c = j := by rw [Nat.mul_comm]; exact Nat.div_add_mod j c
    rw [add_add, hd] at h1
    rw [h1, ← hu, ← hd, flat_at hf _ (j / c) (j % c) (V (j / c)) (by simp [hjc]) hjm, hd]
  · obtain ⟨i, hi, rfl⟩ := List.mem_map.1 hv
    have hi' : i < len := by simpa using hi
    exact ⟨D i, (hV i hi').2, _, _, rfl, List.mem_map.2 ⟨i, hi, rfl⟩⟩
theorem weightsAll_mem {e : TypeId} {d : DataW H} {l : List (DataW H)} (h : d ∈ l) : ∀ n ∈ d.weights P e, n ∈ DataW.weightsAll P e l := fun n hn => by
  induction l with
  | nil => cases h
  | cons a l ih =>
    rw [DataW.weightsAll, List.mem_append]
    rcases List.mem_cons.1 h with rfl | h
    · exact .inl hn
    · exact .inr (ih h)
theorem weights_slice {t e : TypeId} (ht : P.underlying t = some (.slice e)) {elems spare : List (DataW H)} (h : ∀ n ∈ (DataW.slice elems spare).weights P t, n ≤ reachBytes) : (elems.length + spare.length) * P.bytesOf e ≤ reachBytes ∧ ∀ d ∈ elems, ∀ n ∈ d.weights P e, n ≤ reachBytes := by
  rw [DataW.weights, ht] at h
  exact ⟨h _ (by simp), fun d hd n hn => h n (by simp [weightsAll_mem hd n hn])⟩
end
section
variable {H : Type} {enc : TypeId × Value → H} {w : World} {base : Nat} {sp : Nat → Bool} {held : Bool}
theorem trod_groupW {fuel : Nat} {cs : List Value} {x : DataW H × List MemPlace} (h : DataW.trod enc Tryz.prog w base sp held fuel 97 cs = some x) : ∃ (v : Value) (g : List Sb), cs = [v] ∧ GrpAt w v g ∧ (∀ s ∈ g, Small s → Fits s) ∧ (g = [] ∨ ∃ elems spare, x.1 = .slice elems spare ∧ elems.length = g.length) := by
  obtain ⟨v, l, rfl, hr, hl, hq⟩ := open_rowsM (α := CS) (f := fun a => a.1.1) (Q := fun a _ => SubAt w a.1.1 a.2 ∧ (Small a.2 → Fits a.2)) (c := 6) Tryz.underlying97 (by kernel_rfl) (by decide) (fun a => a.1.2) (fun _ cs _ h => by
    obtain ⟨s, h1, h2, h3⟩ := trod_subB h
    exact ⟨⟨⟨cs, (one_S h1).1⟩, s⟩, rfl, h1, h2⟩) h
  refine ⟨v, l.map (·.2), rfl, ⟨l.map (·.1.1), by simp, fun c hc => ?_, by rw [List.length_map, ← List.flatMap_def]; exact hr, fun i c y hc hy => ?_⟩, fun s hs => ?_, ?_⟩
  · obtain ⟨a, _, rfl⟩ := List.mem_map.1 hc
    exact a.1.2
  · rw [List.getElem?_map] at hc hy
    cases ha : l[i]? with
    | none => rw [ha] at hc; cases hc
    | some a =>
      rw [ha] at hc hy
      simp at hc hy
      subst hc hy
      obtain ⟨d, ⟨h1, _⟩, _⟩ := hq a (List.mem_of_getElem? ha)
      exact h1
  · obtain ⟨a, ha, rfl⟩ := List.mem_map.1 hs
    obtain ⟨d, ⟨_, h2⟩, _⟩ := hq a ha
    exact h2
  · rcases hl with rfl | ⟨e, s, h1, h2⟩
    · exact .inl rfl
    · exact .inr ⟨e, s, h1, by simpa using h2⟩
theorem trod_groupsW {fuel : Nat} {cs : List Value} {x : DataW H × List MemPlace} (h : DataW.trod enc Tryz.prog w base sp held fuel 22 cs = some x) (hw : ∀ n ∈ x.1.weights Tryz.prog 22, n ≤ reachBytes) : ∃ (v : Value) (l : List (List Sb)), cs = [v] ∧ GrpsAt w v l ∧ ∀ g ∈ l, g.length ≤ 2000000000000 ∧ ∀ s ∈ g, Small s → Fits s := by
  obtain ⟨v, l, rfl, hr, _, hq⟩ := open_rowsM (α := Value × List Sb) (f := fun a => [a.1]) (Q := fun a d => GrpAt w a.1 a.2 ∧ (∀ s ∈ a.2, Small s → Fits s) ∧ (a.2 = [] ∨ ∃ elems spare, d = .slice elems spare ∧ elems.length = a.2.length)) (c := 1) Tryz.underlying22 (by kernel_rfl) (by decide) (fun _ => rfl) (fun _ _ _ h => by
    obtain ⟨v, g, h1, h2, h3, h4⟩ := trod_groupW h
    exact ⟨⟨v, g⟩, h1, h2, h3, h4⟩) h
  have hfm : ∀ l : List (Value × List Sb), l.flatMap (fun a => [a.1]) = l.map (·.1) := by
    intro l
    induction l with
    | nil => rfl
    | cons a l ih => rw [List.flatMap_cons, ih]; rfl
  rw [hfm] at hr
  refine ⟨v, l.map (·.2), rfl, ⟨⟨l.map (·.1), by simp, by rw [List.length_map]; exact hr, fun i y g hy hg => ?_⟩⟩, fun g hg => ?_⟩
  · rw [List.getElem?_map] at hy hg
    cases ha : l[i]? with
    | none => rw [ha] at hy; cases hy
    | some a =>
      rw [ha] at hy hg
      simp at hy hg
      subst hy hg
      obtain ⟨d, ⟨h1, _⟩, _⟩ := hq a (List.mem_of_getElem? ha)
      exact h1
  · obtain ⟨a, ha, rfl⟩ := List.mem_map.1 hg
    obtain ⟨d, ⟨_, h2, h3⟩, el, sp', e1, hd⟩ := hq a ha
    refine ⟨?_, h2⟩
    rw [e1] at hw
    have hwd := (weights_slice Tryz.underlying22 hw).2 d hd
    rcases h3 with h3 | ⟨el2, sp2, e2, h4⟩
    · rw [h3]; exact Nat.zero_le _
    · rw [e2] at hwd
      have h5 := (weights_slice Tryz.underlying97 hwd).1
      have hb : Tryz.prog.bytesOf 46 = 112 := by kernel_rfl
      rw [hb] at h5
      unfold reachBytes at h5
      rw [← h4]; omega
set_option maxRecDepth 100000 in
theorem open_groupsW {r : Reach} {b0 : Nat} {v : Value} {d : DataW H} {ps : List MemPlace} (hval : Value.okWide Tryz.prog w r b0 22 v) (h : DataW.Trod enc Tryz.prog w base sp held 22 v d ps) (hw : ∀ n ∈ d.weights Tryz.prog 22, n ≤ reachBytes) : ∃ l : List (List Sb), GrpsAt w v l ∧ (∀ g ∈ l, g.length ≤ 2000000000000) ∧ ∀ g ∈ l, ∀ s ∈ g, Small s → Fits s := by
  obtain ⟨fu, hm⟩ := h
  obtain ⟨v', g, hv, h1, h2⟩ := trod_groupsW hm hw
  obtain ⟨sa, sn, sc, rfl⟩ := okWide_slice Tryz.underlying22 hval
  have hy : Value.slice sa sn sc = v' := by simpa [Value.cells] using hv
  subst hy
  exact ⟨g, h1, fun x hx => (h2 x hx).1, fun x hx => (h2 x hx).2⟩
end
end
section
open Go.RowKit Go.Maps Go.WideMaps
def unroll (first : Int) (h : Hp) : Hp := if h.k = 14 then ⟨15, first + h.n⟩ else h
def DRec (h : Hp) : Prop := h.k = 14 → 0 ≤ h.n ∧ h.n ≤ 4294967295
structure PureJ (W0 : World) (B : Nat) (u : Unit) (n : Nat) (T : Nat → Prop) (w : World) : Prop where
  be : Below B W0 w
  t : ∀ b, ¬ T b
  le : B ≤ w.heap.size
set_option maxRecDepth 100000 in
set_option maxHeartbeats 8000000 in
theorem unroll_ok (W0 : World) (B b : Nat) (first : Int) (vg : Value) (hf : 0 ≤ first ∧ first ≤ 10000) (hb : W0.heap[b]? = some (.cells #[.int .i64 first, vg] 159 (0, 0))) (hB : b < B) :
    FnOk Tryz.prog cellsH DRec 50 #[.pointer (some ⟨b, 0, none⟩)] (fun (s : Unit) h => (unroll first h, s)) (PureJ W0 B) B where
  enter := fun _ _ => rfl
  lt := fun h => ⟨fun b hb => (h.t b hb).elim, h.le⟩
  keep := fun h u => ⟨h.be.trans (u.below (fun k hk => hk.1) h.le), h.t, Nat.le_trans h.le u.size⟩
  less := fun h _ => ⟨h.be, h.t, h.le⟩
  call := by
    intro s n T w x hd hj
    obtain ⟨k, m⟩ := x
    rw [show cellsH ⟨k, m⟩ = [.int .i64 k, .int .i64 m] from rfl]
    show Calls Tryz.prog 50 #[.agg #[.int .i64 k, .int .i64 m], .pointer (some ⟨b, 0, none⟩)] w _
    have zb : w.heap[b]? = some (.cells #[.int .i64 first, vg] 159 (0, 0)) := by rw [hj.be.block b hB]; exact hb
    have cb0 := heap_cell zb 0
    simp at cb0
    have cb := cell_alloc (cell_alloc cb0 (.cells #[.int .i64 k, .int .i64 m] 75)) (.cells #[.int .i64 0, .int .i64 0] 75)
    have HJ := Lib.hid hj; have HD := Lib.hid hd
    clear zb hb hj hd cb0 hB
    have fin : ∀ W', Below w.heap.size w W' → ∃ T', PureJ W0 B () n T' W' ∧ Upd T w W' ∧ Fresh T w T' := fun W' h =>
      ⟨T, ⟨HJ.out.be.trans (h.mono HJ.out.le), HJ.out.t, Nat.le_trans HJ.out.le h.size⟩, Upd.of_below h, Fresh.refl _ _⟩
    have FIN := Lib.hid fin
    clear fin
    by_cases hk : k = 14
    · subst hk
      obtain ⟨hm0, hm1⟩ := HD.out rfl
      dsimp only at hm0 hm1
      have hu : unroll first ⟨14, m⟩ = ⟨15, first + m⟩ := rfl
      obtain ⟨hf0, hf1⟩ := hf
      go_enter Tryz.func50, Tryz.ntmps50
      go_wp2
      refine bodyPost_ret (v := .agg #[.int .i64 15, .int .i64 (first + m)]) (by simp [results, Tryz.results50, go_sem]) rfl ?_
      obtain ⟨T', h1, h2, h3⟩ := FIN.out _ (((Below.refl _ w).alloc (Nat.le_refl _) (.cells #[.int .i64 14, .int .i64 m] 75)).alloc (by simp) (.cells #[.int .i64 15, .int .i64 (first + m)] 75))
      exact ⟨T', rfl, h1, h2, h3⟩
    · have hk' : (k == 14) = false := by simpa using hk
      have hu : unroll first ⟨k, m⟩ = ⟨k, m⟩ := by unfold unroll; rw [if_neg hk]
      dsimp only
      rw [hu]
      clear hk
      go_enter Tryz.func50, Tryz.ntmps50
      go_wp2
      refine bodyPost_ret (v := .agg #[.int .i64 k, .int .i64 m]) (by simp [results, Tryz.results50, go_sem]) rfl ?_
      obtain ⟨T', h1, h2, h3⟩ := FIN.out _ (((Below.refl _ w).alloc (Nat.le_refl _) (.cells #[.int .i64 k, .int .i64 m] 75)).alloc (by simp) (.cells #[.int .i64 k, .int .i64 m] 75))
      exact ⟨T', rfl, h1, h2, h3⟩
theorem ofL_at (gs : List (List Sb)) (id : Nat) (h : id < total gs) : ∃ (j : Nat) (g : List Sb), gs[j]? = some g ∧ (ofL gs)[id]? = some (j : Int) ∧ firstOf gs j ≤ id ∧ id < firstOf gs j + g.length := by
  have key : ∀ (gs : List (List Sb)) (n id : Nat), id < total gs → ∃ (j : Nat) (g : List Sb), gs[j]? = some g ∧ ((gs.zipIdx n).flatMap fun p => List.replicate p.1.length (p.2 : Int))[id]? = some ((n + j : Nat) : Int) ∧ total (gs.take j) ≤ id ∧ id < total (gs.take j) + g.length := by
    intro gs
    induction gs with
    | nil => intro n id h; simp [total] at h
    | cons g gs ih =>
      intro n id h
      have ht : total (g :: gs) = g.length + total gs := by simp [total]
      rw [List.zipIdx_cons, List.flatMap_cons]
      by_cases hlt : id < g.length
      · refine ⟨0, g, rfl, ?_, by simp [total], by simp [total]; exact hlt⟩
        rw [List.getElem?_append_left (by simpa using hlt)]
        simp [hlt]
      · obtain ⟨j, g', h1, h2, h3, h4⟩ := ih (n + 1) (id - g.length) (by omega)
        have ht2 : total ((g :: gs).take (j + 1)) = g.length + total (gs.take j) := by simp [total]
        refine ⟨j + 1, g', by simpa using h1, ?_, by omega, by omega⟩
        rw [List.getElem?_append_right (by simp; omega), List.length_replicate, h2]
        congr 2; omega
  obtain ⟨j, g, h1, h2, h3, h4⟩ := key gs 0 id h
  exact ⟨j, g, h1, by simpa [ofL] using h2, h3, h4⟩
variable {S R : Nat → Prop} {w : World} {t : Nat} {gs : List (List Sb)}
structure Read (R : Nat → Prop) (w : World) (t id j : Nat) (g : List Sb) (gs : List (List Sb)) : Prop where
  ex : ∃ (be bo ce co cg : Nat) (ag : Option Addr) (_ : Option Nat), w.cell? ⟨t, 0, none⟩ = some (.slice (some ⟨be, 0, none⟩) gs.length ce) ∧ w.cell? ⟨t, 1, none⟩ = some (.slice (some ⟨bo, 0, none⟩) (total gs) co) ∧ w.cell? ⟨bo, id, none⟩ = some (.int .i64 j) ∧
    w.cell? ⟨be, j * 2, none⟩ = some (.int .i64 (firstOf gs j)) ∧ w.cell? ⟨be, j * 2 + 1, none⟩ = some (.slice ag g.length cg) ∧ ∀ w', Below w.heap.size w w' → GrpAt w' (.slice ag g.length cg) g
theorem read_of (ht : TabAt S R w t gs) {id j : Nat} {g : List Sb} (hj : gs[j]? = some g) (ho : (ofL gs)[id]? = some (j : Int)) (hid : id < total gs) : Read R w t id j g gs := by
  obtain ⟨ev, ov, M, h1, h2, h3, _⟩ := ht.ex
  obtain ⟨ae, ce, rfl⟩ : ∃ ae ce, ev = .slice ae gs.length ce := by
    obtain ⟨vs, e1, e2, e3⟩ := h2.ex
    obtain ⟨ae, ce, rfl, _⟩ := ownsRow_form e2
    exact ⟨ae, ce, rfl⟩
  obtain ⟨be, ag, cg, rfl, p0, p1, hgr⟩ := h2.at hj
  rw [ofL_len] at h3
  obtain ⟨bo, co, cur, rfl, _, _, _, hc⟩ := ownsRow_some h3 (by omega)
  have c0 := heap_cell h1 0; have c1 := heap_cell h1 1
  refine ⟨be, bo, ce, co, cg, ag, some M, by simpa using c0, by simpa using c1, ?_, p0, p1, fun w' hb => hgr w' ((Upd.of_below hb : Upd (fun _ => False) w w').mono fun _ _ h => h.elim)⟩
  rw [hc id (by omega), List.getElem?_map, ho]; rfl
def getG (gs : List (List Sb)) (j : Nat) (x : Sb) : Sb := (mapSub (fun (s : Unit) h => (unroll (firstOf gs j) h, s)) () x).1
set_option maxRecDepth 100000 in
set_option maxHeartbeats 8000000 in
theorem get_own (ht : TabAt S R w t gs) (hok : TabOk gs) {id j k : Nat} {g : List Sb} {x : Sb} (hj : gs[j]? = some g) (ho : (ofL gs)[id]? = some (j : Int)) (hid : id < total gs) (hk : id = firstOf gs j + k) (hx : g[k]? = some x) (hd : DS DRec x) :
    Calls Tryz.prog 22 #[.pointer (some ⟨t, 0, none⟩), .int .i64 id] w fun e w' => ∃ ds : List Value, e = .returned (.tuple #[.agg ds.toArray, .int .i64 0]) ∧ (∀ w'', Upd (fun b => b < w.heap.size) w' w'' → SubAt w'' ds (getG gs j x)) ∧ Below w.heap.size w w' := by
  obtain ⟨W1, hW1⟩ : ∃ W1, W1 = w.alloc (.cells #[.bool false, .slice none 0 0, .int .i64 0, .slice none 0 0, .slice none 0 0, .slice none 0 0] 46) := ⟨_, rfl⟩
  have hb1 : Below w.heap.size w W1 := by rw [hW1]; exact (Below.refl _ _).alloc (Nat.le_refl _) _
  have z4 : W1.heap[w.heap.size]? = some (.cells #[.bool false, .slice none 0 0, .int .i64 0, .slice none 0 0, .slice none 0 0, .slice none 0 0] 46 (0, 0)) := by rw [hW1]; exact heap_alloc_at _ _ rfl
  have ht1 := ht.below hb1
  have CM := Lib.hid (made_any ht1)
  have CH := has_any ht1 id hok.total
  rw [show (decide (0 ≤ (id : Int)) && decide ((id : Int) < total gs)) = true by simp; omega] at CH
  have HCH := Lib.hid CH
  obtain ⟨be, bo, ce, co, cg, ag, M, r0, r1, r2, r3, r4, hgr⟩ := (read_of ht1 hj ho hid).ex
  have hjl := (List.getElem?_eq_some_iff.1 hj).1
  have hkl := (List.getElem?_eq_some_iff.1 hx).1
  have hj2 : (j : Int) < gs.length := by omega
  have hid2 : (id : Int) < total gs := by omega
  have hfk : (id : Int) - (firstOf gs j : Nat) = k := by omega
  have hkl2 : (k : Int) < g.length := by omega
  have hgood := hok.good g (List.mem_of_getElem? hj)
  have hfl := firstOf_le gs j
  have htl := hok.total
  have R0 := Lib.hid r0; have R1 := Lib.hid r1; have R2 := Lib.hid r2; have R3 := Lib.hid r3; have R4 := Lib.hid r4; have HGR := Lib.hid hgr; have HX := Lib.hid hx; have HD := Lib.hid hd; have HGD := Lib.hid hgood; have HFK := Lib.hid hfk; have HFL := Lib.hid hfl; have HTL := Lib.hid htl; have HW1 := Lib.hid hW1; have HB1 := Lib.hid hb1; have Z4 := Lib.hid z4
  clear CH ht hok hj ho hid r0 r1 r2 r3 r4 hjl hgr hx hd hgood ht1 hfl htl hW1 hb1 z4 hkl hfk hk
  have hmf : ∀ (fn : Fn) (first cap : Array Value) (w : World), (Instr.makeFunc fn first cap).run Tryz.prog w = .ok (.func fn first cap) w := fun _ _ _ _ => rfl
  go_enter Tryz.func22, Tryz.ntmps22
  go_wp2_with fail
  rw [← HW1.out]
  refine CM.out.mono ?_
  rintro e x1 ⟨rfl, rfl⟩
  go_wp2_with fail
  refine HCH.out.mono ?_
  rintro e x1 ⟨rfl, rfl⟩
  go_wp2
  go_region_held_law (fun w' => w'.cell? ⟨t, 0, none⟩ = some (.slice (some ⟨be, 0, none⟩) gs.length ce) ∧ w'.cell? ⟨t, 1, none⟩ = some (.slice (some ⟨bo, 0, none⟩) (total gs) co) ∧ w'.cell? ⟨bo, id, none⟩ = some (.int .i64 j) ∧ w'.cell? ⟨be, j * 2, none⟩ = some (.int .i64 (firstOf gs j)) ∧ w'.cell? ⟨be, j * 2 + 1, none⟩ = some (.slice ag g.length cg)) (first | exact ⟨R0.out, R1.out, R2.out, R3.out, R4.out⟩ | exact ⟨cell_alloc R0.out _, cell_alloc R1.out _, cell_alloc R2.out _, cell_alloc R3.out _, cell_alloc R4.out _⟩) (fail)
  obtain ⟨W2, hW2⟩ : ∃ W2, W2 = (x1.alloc (.cells #[.int .i64 (firstOf gs j : Nat), .slice ag g.length cg] 159)).drew := ⟨_, rfl⟩
  rw [← hW2]
  have hb2 : Below x1.heap.size x1 W2 := by
    have h := (Below.refl x1.heap.size x1).alloc (Nat.le_refl _) (.cells #[.int .i64 (firstOf gs j : Nat), .slice ag g.length cg] 159)
    rw [hW2]; exact ⟨h.os, h.tape, h.output, h.size, h.block⟩
  have z6 : W2.heap[x1.heap.size]? = some (.cells #[.int .i64 (firstOf gs j : Nat), .slice ag g.length cg] 159 (0, 0)) := by
    rw [hW2]; exact heap_alloc_at x1 _ rfl
  have hbw : Below w.heap.size w W2 := HB1.out.trans (hb2.mono HB1.out.size)
  have y4 := (hb2.block _ (heap_lt Z4.out)).trans Z4.out
  obtain ⟨b2, o2, e2, hbl, d1, f1, d2, f2, d3, f3, d4, f4, sb, q0, q1, q2, q3, q4, q5⟩ := (HGR.out W2 hb2).at HX.out
  subst e2
  have c60 := heap_cell z6 0; have c61 := heap_cell z6 1
  simp at c60 c61
  have hfl := HFL.out; have htl := HTL.out
  have hmem := List.mem_of_getElem? HX.out
  have FN := unroll_ok W2 W2.heap.size x1.heap.size (firstOf gs j) _ (by omega) z6 (heap_lt z6)
  have hsm := HGD.out.sm x hmem
  have C := map_any FN _ x () 0 (fun _ => False) W2 (fun w' hu => sb.below (hu.toBelow (fun _ h => h)) (Nat.le_refl _)) hsm.small HD.out ⟨Below.refl _ _, fun _ h => h, Nat.le_refl _⟩
  have HC := Lib.hid C; have HBW := Lib.hid hbw; have Y4 := Lib.hid y4
  clear C FN hsm hmem hfl htl hbw y4 hb2 sb z6 hW2
  have hfk := HFK.out
  have hwk : wrap64 (k : Int) = k := by have := HGD.out.len; unfold wrap64; omega
  go_wp2_with fail
  refine HC.out.mono ?_
  rintro e w3 ⟨ds, rfl, T3, hsub, hj3, hu3, _⟩
  have hsub3 := hsub w3 (Upd.refl _ _)
  have hb3 : Below W2.heap.size W2 w3 := hu3.toBelow (fun _ h => h)
  have hT3 := hj3.t
  obtain ⟨vs, vp, vr, vf, rfl, k1, k2, k3, k4⟩ := hsub3.ex
  obtain ⟨a5, c5, rfl⟩ := RowAt.form k1
  obtain ⟨a6, c6, rfl⟩ := RowAt.form k2
  obtain ⟨a7, c7, rfl⟩ := RowAt.form k3
  obtain ⟨a8, c8, rfl⟩ := RowAt.form k4
  have y5 := (hb3.block _ (heap_lt Y4.out)).trans Y4.out
  have g0 := heap_cell y5 0; have g1 := heap_cell y5 1; have g2 := heap_cell y5 2; have g3 := heap_cell y5 3; have g4 := heap_cell y5 4; have g5 := heap_cell y5 5
  have fz := fun i => heap_frozen y5 i
  simp at g0 g1 g2 g3 g4 g5
  have HSUB := Lib.hid hsub; have HB3 := Lib.hid (HBW.out.trans (hb3.mono HBW.out.size)); have Y5 := Lib.hid y5; have HS4 := Lib.hid (heap_lt Y4.out)
  clear hsub hj3 hu3 hsub3 hb3 k1 k2 k3 k4 y5 hT3 q0 q1 q2 q3 q4 q5 c60 c61 hfk hwk
  go_wp2
  refine bodyPost_ret (v := .tuple #[.agg #[.bool (mapSub (fun (s : Unit) h => (unroll (firstOf gs j) h, s)) () x).1.fin, .slice a5 (mapSub (fun (s : Unit) h => (unroll (firstOf gs j) h, s)) () x).1.sups.length c5, .int .i64 (mapSub (fun (s : Unit) h => (unroll (firstOf gs j) h, s)) () x).1.k, .slice a6 (mapSub (fun (s : Unit) h => (unroll (firstOf gs j) h, s)) () x).1.ps.length c6, .slice a7 (mapSub (fun (s : Unit) h => (unroll (firstOf gs j) h, s)) () x).1.rs.length c7, .slice a8 (mapSub (fun (s : Unit) h => (unroll (firstOf gs j) h, s)) () x).1.fs.length c8], .int .i64 0]) (by simp [results, Tryz.results22, go_sem, g0, g1, g2, g3, g4, g5]) rfl ?_
  refine ⟨_, rfl, fun w'' hu => HSUB.out _ (Upd.trans' ((((((((Upd.refl _ w3).setCell (.inl (.inl HS4.out)) _).setCell (.inl (.inl HS4.out)) _).setCell (.inl (.inl HS4.out)) _).setCell (.inl (.inl HS4.out)) _).setCell (.inl (.inl HS4.out)) _).setCell (.inl (.inl HS4.out)) _)) (hu.mono (fun b _ hb => .inl (Nat.lt_trans hb HS4.out)))), ?_⟩
  exact (((((HB3.out.setCell (Nat.le_refl _) _).setCell (Nat.le_refl _) _).setCell (Nat.le_refl _) _).setCell (Nat.le_refl _) _).setCell (Nat.le_refl _) _).setCell (Nat.le_refl _) _
end
end Go.Proofs.YtpddbaijnjbfdaaGreatDoor
