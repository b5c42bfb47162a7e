/- geodelaw11: nodes that came in. -/
import Derived.Test.YtoamhiaagaaaaaaGreatDoorQFnP
import Derived.Test.YtoamhiaagaaaaaaGreatDoorQMaTabP
namespace Go.Proofs.YtoamhiaagaaaaaaGreatDoor
open Go.Deep Go.ChangeShapes Go.WideShapes Go.ChangeAt Go.RowKit Go.Joins

/-- A node: its cells, and what its supers are. -/
structure NdV where
  n : Int
  v : Value
  sups : List Int
  g : Bool
instance : Inhabited NdV := ⟨⟨0, .slice none 0 0, [], false⟩⟩
def ndC (a : NdV) : List Value := [.int .i64 a.n, a.v, .bool a.g]
structure NodesAt (w : World) (v : Value) (l : List NdV) : Prop where
  row : RowAt w 3 v l.length (l.flatMap ndC)
  ints : ∀ a ∈ l, IntsAt w a.v a.sups
theorem NodesAt.keep {w w' : World} {v : Value} {l : List NdV} (h : NodesAt w v l) (hk : ∀ p u, w.cell? p = some u → w'.cell? p = some u) : NodesAt w' v l :=
  ⟨RowAt.keep h.row hk, fun a ha => RowAt.keep (h.ints a ha) hk⟩
theorem NodesAt.below {w w' : World} {B : Nat} {v : Value} {l : List NdV} (h : NodesAt w v l) (hb : Below B w w') (hB : w.heap.size ≤ B) : NodesAt w' v l :=
  h.keep fun p u hp => by rw [hb.cell (Nat.lt_of_lt_of_le (World.block_lt_of_cell? _ _ hp) hB)]; exact hp
theorem NodesAt.form {w : World} {v : Value} {l : List NdV} (h : NodesAt w v l) : ∃ ao cap, v = .slice ao l.length cap := RowAt.form h.row
theorem NodesAt.at {w : World} {ao : Option Addr} {cap : Nat} {l : List NdV} (h : NodesAt w (.slice ao l.length cap) l) {i : Nat} {x : NdV} (hi : l[i]? = some x) : ∃ b off a c, ao = some ⟨b, off, none⟩ ∧ x.v = .slice a x.sups.length c ∧ IntsAt w (.slice a x.sups.length c) x.sups ∧
    w.cell? ⟨b, off + i * 3, none⟩ = some (.int .i64 x.n) ∧ w.cell? ⟨b, off + i * 3 + 1, none⟩ = some (.slice a x.sups.length c) ∧ w.cell? ⟨b, off + i * 3 + 2, none⟩ = some (.bool x.g) := by
  have hlt := (List.getElem?_eq_some_iff.1 hi).1
  obtain ⟨b, off, rfl, hb, _, hc⟩ := RowAt.at h.row (by decide) (by omega)
  have at' : ∀ j, j < 3 → w.cell? ⟨b, off + i * 3 + j, none⟩ = (ndC x)[j]? := fun j hj => by
    rw [Nat.add_assoc, hc (i * 3 + j) (by omega)]; exact flat_at (c := 3) (fun _ => rfl) l i j x hi hj
  have hx := h.ints x (List.mem_of_getElem? hi)
  obtain ⟨a, c, e⟩ := RowAt.form hx
  rw [e] at hx
  exact ⟨b, off, a, c, rfl, e, hx, at' 0 (by omega), by rw [at' 1 (by omega), ← e]; rfl, at' 2 (by omega)⟩
theorem ints_of_cellsN {w : World} {v : Value} {l : List Int} (h : CellsAt w v (l.map (Value.int .i64))) : IntsAt w v l := by
  rcases h with ⟨rfl, e⟩ | ⟨a, cap, rfl, hc, hx⟩
  · obtain rfl : l = [] := by simpa using e
    exact RowAt.nil w 1
  · rw [List.length_map] at hc
    refine ⟨by simp, .inr ⟨a, cap, by rw [List.length_map], hc, hx⟩⟩
section
variable {H : Type} {enc : TypeId × Value → H} {w : World} {base : Nat} {sp : Nat → Bool} {held : Bool}
set_option maxRecDepth 100000 in
theorem trod_node {fuel : Nat} {cs : List Value} {x : DataW H × List MemPlace} (h : DataW.trod enc Tryz.prog w base sp held fuel 63 cs = some x) : ∃ a : NdV, cs = ndC a ∧ IntsAt w a.v a.sups ∧ ∀ k ∈ a.sups, B64 k := by
  obtain ⟨y0, y1, y2, n, hl, h0, h1, h2⟩ := trod3 Tryz.underlying63 h
  have hc : Tryz.prog.cellsOf 63 = 3 := by kernel_rfl
  rw [hc] at hl
  match cs, hl with
  | [c0, c1, c2], _ =>
    have e0 : Tryz.prog.cellsOf 3 = 1 := by kernel_rfl
    have e1 : Tryz.prog.cellsOf 36 = 1 := by kernel_rfl
    have e2 : Tryz.prog.cellsOf 4 = 1 := by kernel_rfl
    simp [e0] at h0
    simp [e1] at h1
    simp [e2] at h2
    obtain ⟨a, ha, _⟩ := DataW.trod_int Tryz.underlying3 h0
    obtain ⟨v, l, hv, h3, _, h4⟩ := open_intcells Tryz.underlying36 Tryz.underlying3 (by kernel_rfl) h1
    obtain ⟨g, hg, _⟩ := DataW.trod_bool Tryz.underlying4 h2
    simp at ha hv hg
    exact ⟨⟨a, v, l, g⟩, by rw [ha, hv, hg]; rfl, ints_of_cellsN h3, fun k hk => bounds_i64 (h4 k hk)⟩
set_option maxRecDepth 100000 in
theorem open_nodes {r : Reach} {b0 : Nat} {v : Value} {d : DataW H} {ps : List MemPlace} (hval : Value.okWide Tryz.prog w r b0 59 v) (h : DataW.Trod enc Tryz.prog w base sp held 59 v d ps) : ∃ l : List NdV, NodesAt w v l ∧ l.length ≤ maxLen ∧ ∀ a ∈ l, ∀ k ∈ a.sups, B64 k := by
  obtain ⟨fu, hm⟩ := h
  obtain ⟨v', l, hv, h1, h2, h3⟩ := open_rows (f := ndC) (Q := fun a => IntsAt w a.v a.sups ∧ ∀ k ∈ a.sups, B64 k) (c := 3) Tryz.underlying59 (by kernel_rfl) (by decide) (fun _ => rfl) (fun _ _ _ h => trod_node h) hm
  obtain ⟨sa, sn, sc, rfl⟩ := okWide_slice Tryz.underlying59 hval
  have hy : Value.slice sa sn sc = v' := by simpa [Value.cells] using hv
  subst hy
  exact ⟨l, ⟨h1, fun a ha => (h3 a ha).1⟩, h2, fun a ha => (h3 a ha).2⟩
end
end Go.Proofs.YtoamhiaagaaaaaaGreatDoor
