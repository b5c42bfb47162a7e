/- Layer 14 (stack): StackLabels: labels count from the innermost frame; each frame that is closed takes its label with it. For every input the law returns true, and each argument reads afterwards as before: no condition. -/
import Derived.Test.YtjjhdbjbjgkijaaLabels
import Derived.Test.YtjjhdbjbjgkijaaOpen2
namespace Go.Proofs.Ytjjhdbjbjgkijaa
open Go.ChangeShapes Go.WideShapes Go.ChangeAt Go.RowKit Go.Joins

theorem labelsOwn : ownKnob Try.prog.godebug = none := by kernel_rfl
theorem labelsLaid : laidOutB Try.prog = true := by kernel_rfl

namespace stackLabels
set_option maxRecDepth 100000 in
theorem contract (H : Type) (enc : TypeId × Value → H) (W : World) (base : Nat) (args : Array Value) (ds gs : List (DataW H)) (before : List MemPlace)
    (hval : ∀ (j : Nat) t v, Try.f4.params[j]? = some t → args[j]? = some v → Value.okWide Try.prog W .any base t v)
    (hW : DataW.Whole enc Try.prog Try.f4.params.toList Rows.stackLabelsSpec.vars false W args.toList ds gs before) :
    Calls Try.prog 4 args W fun e W' => ∃ v, e = .returned v ∧ Rows.stackLabelsSpec.post enc Try.prog Try.f4 false true false false W args v W' := by
  have hW' := hW
  obtain ⟨p, q, hA0, hV, rfl, hfz, hnd⟩ := hW
  have hA : DataW.TrodAll enc Try.prog W 0 (fun _ => true) true Try.f4.params.toList args.toList ds p := hA0
  rw [Try.params4] at hA hval
  have hAll := hA
  obtain ⟨v0, vs0, d0, ds0, p0, q0, hargs, rfl, rfl, h0, r0⟩ := trodAll_cons hA
  obtain ⟨v1, vs1, d1, ds1, p1, q1, rfl, rfl, rfl, h1, r1⟩ := trodAll_cons r0
  obtain ⟨rfl, rfl, rfl⟩ := trodAll_nil r1
  obtain rfl : args = #[v0, v1] := by cases args; simp_all
  obtain ⟨rfl, rfl⟩ := trodVars_none hV
  obtain ⟨fu0, hm0⟩ := h0
  obtain ⟨x0, ops, hx0, hvops, hlops, _⟩ := open_intcells Try.underlying47 Try.underlying3 (by kernel_rfl) hm0
  obtain ⟨sa0, sn0, sc0, rfl⟩ := okWide_slice Try.underlying47 (hval 0 47 v0 rfl rfl)
  have hy0 : Value.slice sa0 sn0 sc0 = x0 := by simpa [Value.cells] using hx0
  subst hy0
  obtain ⟨fu1, hm1⟩ := h1
  obtain ⟨x1, xsresults, results, hx1, hvresults, hlresults⟩ := open_valss hm1
  obtain ⟨sa1, sn1, sc1, rfl⟩ := okWide_slice Try.underlying48 (hval 1 48 v1 rfl rfl)
  have hy1 : Value.slice sa1 sn1 sc1 = x1 := by simpa [Value.cells] using hx1
  subst hy1
  refine (labels_any ops _ _ xsresults results W hvops hvresults hlops hlresults).mono fun e W' ⟨he, bel⟩ => ?_
  subst he
  exact ⟨_, rfl, _, _, _, [], _, [], hW', trodAll_mk1 (shut_bool Try.underlying4 _), trodAll_below labelsLaid bel (by kernel_rfl) hAll, rfl, bel.frame _, fun h => by cases h⟩

set_option maxRecDepth 100000 in
theorem lifted (os : Os) (started : os.Started) (H : Type) (enc : TypeId × Value → H) :
    ReturnsInHanded {} Try.checked os 4 .any (Rows.stackLabelsSpec.pre6 enc Try.prog Try.f4 Rows.stackLabelsRow.domain false) (Rows.stackLabelsSpec.post enc Try.prog Try.f4 false true false false) := by
  refine returnsInHanded_of_change (C := Try.checked) labelsOwn started (by kernel_rfl) Try.func4
    (ChangeSpec.witness6 (enc := enc) (C := Try.checked) false ⟨#[], #[.slice none 0 0, .slice none 0 0], []⟩ 8 (by kernel_rfl) (by kernel_rfl) (by kernel_rfl) (by kernel_rfl)) ?_
  intro W base args ds gs before hval hW _ _
  exact contract H enc W base args ds gs before hval hW

theorem said : Rows.StackLabelsSaid :=
  OpenClaim.holds_of_wide 4 Try.f4 rfl rfl rfl rfl rfl rfl rfl ⟨rfl, rfl, rfl, rfl, rfl⟩ rfl rfl rfl rfl rfl (by kernel_rfl) Try.func4 (by kernel_rfl)
    (of_decide_eq_true (by kernel_rfl)) (by unfold Func.isWrapper; first | (rw [if_pos (by decide +kernel)]; kernel_rfl) | (rw [if_neg (by decide +kernel)]; exact ⟨rfl, rfl⟩))
    (fun os started H enc _ => lifted os started H enc)
end stackLabels
end Go.Proofs.Ytjjhdbjbjgkijaa
