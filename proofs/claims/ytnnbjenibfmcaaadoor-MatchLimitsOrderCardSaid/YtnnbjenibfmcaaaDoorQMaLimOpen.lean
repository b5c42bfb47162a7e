/- Limits that came in. -/
import Derived.Test.YtnnbjenibfmcaaaDoorQFnP
import Derived.Test.YtnnbjenibfmcaaaDoorQMaLimits
namespace Go.Proofs.YtnnbjenibfmcaaaDoor
open Go.Deep Go.ChangeShapes Go.WideShapes Go.ChangeAt Go.RowKit Go.Joins

set_option maxRecDepth 100000 in
theorem trod_limits {H : Type} {enc : TypeId × Value → H} {w : World} {base : Nat} {sp : Nat → Bool} {held : Bool} {fuel : Nat} {cs : List Value} {x : DataW H × List MemPlace} (h : DataW.trod enc Tryd.prog w base sp held fuel 24 cs = some x) : ∃ l : Lm, cs = cellsL l ∧ U64 l.min ∧ U64 l.max := by
  obtain ⟨y0, y1, y2, y3, n, hl, h0, h1, h2, h3⟩ := trod4 Tryd.underlying24 h
  have hc : Tryd.prog.cellsOf 24 = 4 := by kernel_rfl
  rw [hc] at hl
  match cs, hl with
  | [c0, c1, c2, c3], _ =>
    have e0 : Tryd.prog.cellsOf 4 = 1 := by kernel_rfl
    have e1 : Tryd.prog.cellsOf 22 = 1 := by kernel_rfl
    simp [e0] at h0 h3
    simp [e1] at h1 h2
    obtain ⟨a, ha, _⟩ := DataW.trod_bool Tryd.underlying4 h0
    obtain ⟨b, hb, _, wb⟩ := DataW.trod_int Tryd.underlying22 h1
    obtain ⟨c, hc, _, wc⟩ := DataW.trod_int Tryd.underlying22 h2
    obtain ⟨d, hd, _⟩ := DataW.trod_bool Tryd.underlying4 h3
    simp at ha hb hc hd
    have ub : ∀ z : Int, (Lit.int .u64 z).wf = true → U64 z := fun z hz => by
      unfold U64
      simp [Lit.wf, IntKind.min, IntKind.max, IntKind.bits, IntKind.signed] at hz; omega
    exact ⟨⟨a, b, c, d⟩, by rw [ha, hb, hc, hd]; rfl, ub b wb, ub c wc⟩
set_option maxRecDepth 100000 in
theorem open_limits {H : Type} {enc : TypeId × Value → H} {W : World} {r : Reach} {b0 base : Nat} {sp : Nat → Bool} {held : Bool} {v : Value} {d : DataW H} {ps : List MemPlace} (hval : Value.okWide Tryd.prog W r b0 24 v) (h : DataW.Trod enc Tryd.prog W base sp held 24 v d ps) :
    ∃ l : Lm, v = .agg (cellsL l).toArray ∧ U64 l.min ∧ U64 l.max := by
  obtain ⟨cs, rfl, hs⟩ := okWide_struct Tryd.underlying24 hval
  obtain ⟨fu, hm⟩ := h
  obtain ⟨l⟩ := cs
  obtain ⟨x, h1, h2, h3⟩ := trod_limits hm
  exact ⟨x, by rw [← h1]; simp [Value.cells], h2, h3⟩
end Go.Proofs.YtnnbjenibfmcaaaDoor
