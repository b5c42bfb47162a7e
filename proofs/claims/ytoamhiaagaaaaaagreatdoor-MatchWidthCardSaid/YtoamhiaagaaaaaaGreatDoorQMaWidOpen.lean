/- geodelaw10: composite types and lists of fields that came in. -/
import Derived.Test.YtoamhiaagaaaaaaGreatDoorQMaValP
import Derived.Test.YtoamhiaagaaaaaaGreatDoorQMaWidL
namespace Go.Proofs.YtoamhiaagaaaaaaGreatDoor
open Go.Deep Go.ChangeShapes Go.WideShapes Go.ChangeAt Go.RowKit Go.Joins

set_option maxRecDepth 100000 in
theorem open_compa {H : Type} {enc : TypeId × Value → H} {W : World} {r : Reach} {b0 base : Nat} {sp : Nat → Bool} {held : Bool} {v : Value} {d : DataW H} {ps : List MemPlace} (hval : Value.okWide Tryz.prog W r b0 46 v) (h : DataW.Trod enc Tryz.prog W base sp held 46 v d ps) :
    ∃ (cs : List Value) (c : Sb), v = .agg cs.toArray ∧ CompA W cs c ∧ c.sups = [] := by
  obtain ⟨cs, rfl, hs⟩ := okWide_struct Tryz.underlying46 hval
  obtain ⟨fu, hm⟩ := h
  obtain ⟨l⟩ := cs
  obtain ⟨k, vp, vr, vf, lp, lr, lf, hcc, rp, rr, rf, _⟩ := trod_comp hm
  refine ⟨l, ⟨false, [], k, lp, lr, lf⟩, rfl, ⟨vp, vr, vf, ?_, rp, rr, rf⟩, rfl⟩
  simpa [Value.cells] using hcc
set_option maxRecDepth 100000 in
theorem open_flds {H : Type} {enc : TypeId × Value → H} {w : World} {base : Nat} {sp : Nat → Bool} {held : Bool} {r : Reach} {b0 : Nat} {v : Value} {d : DataW H} {ps : List MemPlace} (hval : Value.okWide Tryz.prog w r b0 44 v) (h : DataW.Trod enc Tryz.prog w base sp held 44 v d ps) : ∃ l : List Fl, FlsAt w v l := by
  obtain ⟨fu, hm⟩ := h
  obtain ⟨v', l, hv, h1, _, _⟩ := open_rows (f := cellsF) (Q := fun f => B64 f.v.n ∧ B64 f.p) (c := 6) Tryz.underlying44 (by kernel_rfl) (by decide) (fun _ => rfl) (fun _ _ _ h => trod_field h) hm
  obtain ⟨sa, sn, sc, rfl⟩ := okWide_slice Tryz.underlying44 hval
  have hy : Value.slice sa sn sc = v' := by simpa [Value.cells] using hv
  subst hy
  exact ⟨l, h1⟩
end Go.Proofs.YtoamhiaagaaaaaaGreatDoor
