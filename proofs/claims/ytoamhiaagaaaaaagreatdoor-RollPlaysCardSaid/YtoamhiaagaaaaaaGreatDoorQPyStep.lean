/- geodelaw09: steps that came in. -/
import Derived.Test.YtoamhiaagaaaaaaGreatDoorQRoOpen
import Derived.Test.YtoamhiaagaaaaaaGreatDoorQFnP
import Derived.Test.YtoamhiaagaaaaaaGreatDoorQMaTabP
namespace Go.Proofs.YtoamhiaagaaaaaaGreatDoor
open Go.Deep Go.ChangeShapes Go.WideShapes Go.ChangeAt Go.RowKit Go.Joins

/-- A step: its cells, and what its numbers and its group are. -/
structure StV where
  m : Int
  odd : Bool
  vi : Value
  ids : List Int
  vg : Value
  g : List Sb
instance : Inhabited StV := ⟨⟨0, false, .slice none 0 0, [], .slice none 0 0, []⟩⟩
def stC (a : StV) : List Value := [.int .i64 a.m, .bool a.odd, a.vi, a.vg]
structure StepsAt (w : World) (v : Value) (l : List StV) : Prop where
  row : RowAt w 4 v l.length (l.flatMap stC)
  ints : ∀ a ∈ l, IntsAt w a.vi a.ids
  grp : ∀ a ∈ l, GrpAt w a.vg a.g
theorem StepsAt.keep {w w' : World} {v : Value} {l : List StV} (h : StepsAt w v l) (hk : ∀ p u, w.cell? p = some u → w'.cell? p = some u) : StepsAt w' v l :=
  ⟨RowAt.keep h.row hk, fun a ha => RowAt.keep (h.ints a ha) hk, fun a ha => (h.grp a ha).keep hk⟩
theorem StepsAt.below {w w' : World} {B : Nat} {v : Value} {l : List StV} (h : StepsAt w v l) (hb : Below B w w') (hB : w.heap.size ≤ B) : StepsAt w' v l :=
  h.keep fun p u hp => by rw [hb.cell (Nat.lt_of_lt_of_le (World.block_lt_of_cell? _ _ hp) hB)]; exact hp
theorem StepsAt.form {w : World} {v : Value} {l : List StV} (h : StepsAt w v l) : ∃ ao cap, v = .slice ao l.length cap := RowAt.form h.row
theorem StepsAt.at {w : World} {ao : Option Addr} {cap : Nat} {l : List StV} (h : StepsAt w (.slice ao l.length cap) l) {i : Nat} {x : StV} (hi : l[i]? = some x) : ∃ b off a c a' c', ao = some ⟨b, off, none⟩ ∧ b < w.heap.size ∧ x.vi = .slice a x.ids.length c ∧ x.vg = .slice a' x.g.length c' ∧ IntsAt w (.slice a x.ids.length c) x.ids ∧ GrpAt w (.slice a' x.g.length c') x.g ∧
    w.cell? ⟨b, off + i * 4, none⟩ = some (.int .i64 x.m) ∧ w.cell? ⟨b, off + i * 4 + 1, none⟩ = some (.bool x.odd) ∧ w.cell? ⟨b, off + i * 4 + 2, none⟩ = some (.slice a x.ids.length c) ∧ w.cell? ⟨b, off + i * 4 + 3, none⟩ = some (.slice a' x.g.length c') := by
  have hlt := (List.getElem?_eq_some_iff.1 hi).1
  obtain ⟨b, off, rfl, hb, _, hc⟩ := RowAt.at h.row (by decide) (by omega)
  have at' : ∀ j, j < 4 → w.cell? ⟨b, off + i * 4 + j, none⟩ = (stC x)[j]? := fun j hj => by
    rw [Nat.add_assoc, hc (i * 4 + j) (by omega)]; exact flat_at (c := 4) (fun _ => rfl) l i j x hi hj
  have hx := h.ints x (List.mem_of_getElem? hi)
  have hg := h.grp x (List.mem_of_getElem? hi)
  obtain ⟨a, c, e⟩ := RowAt.form hx
  obtain ⟨a', c', e'⟩ := hg.form
  rw [e] at hx
  rw [e'] at hg
  exact ⟨b, off, a, c, a', c', rfl, hb, e, e', hx, hg, at' 0 (by omega), at' 1 (by omega), by rw [at' 2 (by omega), ← e]; rfl, by rw [at' 3 (by omega), ← e']; rfl⟩
theorem ints_of_cellsS {w : World} {v : Value} {l : List Int} (h : CellsAt w v (l.map (Value.int .i64))) : IntsAt w v l := by
  rcases h with ⟨rfl, e⟩ | ⟨a, cap, rfl, hc, hx⟩
  · obtain rfl : l = [] := by simpa using e
    exact RowAt.nil w 1
  · rw [List.length_map] at hc
    refine ⟨by simp, .inr ⟨a, cap, by rw [List.length_map], hc, hx⟩⟩
section
variable {H : Type} {enc : TypeId × Value → H} {w : World} {base : Nat} {sp : Nat → Bool} {held : Bool}
set_option maxRecDepth 100000 in
theorem trod_step {fuel : Nat} {cs : List Value} {x : DataW H × List MemPlace} (h : DataW.trod enc Tryz.prog w base sp held fuel 40 cs = some x) : ∃ a : StV, cs = stC a ∧ IntsAt w a.vi a.ids ∧ GrpAt w a.vg a.g ∧ B64 a.m ∧ ∀ s ∈ a.g, Small s → Fits s := by
  obtain ⟨y0, y1, y2, y3, n, hl, h0, h1, h2, h3⟩ := trod4 Tryz.underlying40 h
  have hc : Tryz.prog.cellsOf 40 = 4 := by kernel_rfl
  rw [hc] at hl
  match cs, hl with
  | [c0, c1, c2, c3], _ =>
    have e0 : Tryz.prog.cellsOf 3 = 1 := by kernel_rfl
    have e1 : Tryz.prog.cellsOf 4 = 1 := by kernel_rfl
    have e2 : Tryz.prog.cellsOf 36 = 1 := by kernel_rfl
    have e3 : Tryz.prog.cellsOf 38 = 1 := by kernel_rfl
    simp [e0] at h0
    simp [e1] at h1
    simp [e2] at h2
    simp [e3] at h3
    obtain ⟨a, ha, hb⟩ := DataW.trod_int Tryz.underlying3 h0
    obtain ⟨o, ho, _⟩ := DataW.trod_bool Tryz.underlying4 h1
    obtain ⟨v, l, hv, k1, _, _⟩ := open_intcells Tryz.underlying36 Tryz.underlying3 (by kernel_rfl) h2
    obtain ⟨v', g, hv', k2, k3⟩ := trod_group h3
    simp at ha ho hv hv'
    exact ⟨⟨a, o, v, l, v', g⟩, by rw [ha, ho, hv, hv']; rfl, ints_of_cellsS k1, k2, bounds_i64 (by first | exact hb.2 | exact hb.2.1), fun s hs => (k3 s hs).1⟩
set_option maxRecDepth 100000 in
theorem open_steps {r : Reach} {b0 : Nat} {v : Value} {d : DataW H} {ps : List MemPlace} (hval : Value.okWide Tryz.prog w r b0 22 v) (h : DataW.Trod enc Tryz.prog w base sp held 22 v d ps) : ∃ l : List StV, StepsAt w v l ∧ ∀ a ∈ l, B64 a.m ∧ ∀ s ∈ a.g, Small s → Fits s := by
  obtain ⟨fu, hm⟩ := h
  obtain ⟨v', l, hv, h1, h2, h3⟩ := open_rows (f := stC) (Q := fun a => IntsAt w a.vi a.ids ∧ GrpAt w a.vg a.g ∧ B64 a.m ∧ ∀ s ∈ a.g, Small s → Fits s) (c := 4) Tryz.underlying22 (by kernel_rfl) (by decide) (fun _ => rfl) (fun _ _ _ h => trod_step h) hm
  obtain ⟨sa, sn, sc, rfl⟩ := okWide_slice Tryz.underlying22 hval
  have hy : Value.slice sa sn sc = v' := by simpa [Value.cells] using hv
  subst hy
  exact ⟨l, ⟨h1, fun a ha => (h3 a ha).1, fun a ha => (h3 a ha).2.1⟩, fun a ha => ⟨(h3 a ha).2.2.1, (h3 a ha).2.2.2⟩⟩
end
end Go.Proofs.YtoamhiaagaaaaaaGreatDoor
