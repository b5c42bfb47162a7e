/- Layer 14 (stack): StackBack: what is pushed is taken as types that it matches, and all is as it was. For every input the law returns true, and each argument reads afterwards as before: no condition. -/
import Derived.Test.YtjjhdbjbjgkijaaBack
import Derived.Test.YtjjhdbjbjgkijaaOpen
namespace Go.Proofs.Ytjjhdbjbjgkijaa
open Go.ChangeShapes Go.WideShapes Go.ChangeAt Go.RowKit Go.Joins

theorem backOwn : ownKnob Try.prog.godebug = none := by kernel_rfl
theorem backLaid : laidOutB Try.prog = true := by kernel_rfl

namespace stackBack
set_option maxRecDepth 100000 in
theorem contract (H : Type) (enc : TypeId × Value → H) (W : World) (base : Nat) (args : Array Value) (ds gs : List (DataW H)) (before : List MemPlace)
    (hval : ∀ (j : Nat) t v, Try.f6.params[j]? = some t → args[j]? = some v → Value.okWide Try.prog W .any base t v)
    (hW : DataW.Whole enc Try.prog Try.f6.params.toList Rows.stackBackSpec.vars false W args.toList ds gs before) :
    Calls Try.prog 6 args W fun e W' => ∃ v, e = .returned v ∧ Rows.stackBackSpec.post enc Try.prog Try.f6 false true false false W args v W' := by
  have hW' := hW
  obtain ⟨p, q, hA0, hV, rfl, hfz, hnd⟩ := hW
  have hA : DataW.TrodAll enc Try.prog W 0 (fun _ => true) true Try.f6.params.toList args.toList ds p := hA0
  rw [Try.params6] at hA hval
  have hAll := hA
  obtain ⟨v0, vs0, d0, ds0, p0, q0, hargs, rfl, rfl, h0, r0⟩ := trodAll_cons hA
  obtain ⟨v1, vs1, d1, ds1, p1, q1, rfl, rfl, rfl, h1, r1⟩ := trodAll_cons r0
  obtain ⟨v2, vs2, d2, ds2, p2, q2, rfl, rfl, rfl, h2, r2⟩ := trodAll_cons r1
  obtain ⟨v3, vs3, d3, ds3, p3, q3, rfl, rfl, rfl, h3, r3⟩ := trodAll_cons r2
  obtain ⟨rfl, rfl, rfl⟩ := trodAll_nil r3
  obtain rfl : args = #[v0, v1, v2, v3] := by cases args; simp_all
  obtain ⟨rfl, rfl⟩ := trodVars_none hV
  obtain ⟨fu0, hm0⟩ := h0
  obtain ⟨x0, below, hx0, hvbelow, hlbelow⟩ := open_vals hm0
  obtain ⟨sa0, sn0, sc0, rfl⟩ := okWide_slice Try.underlying22 (hval 0 22 v0 rfl rfl)
  have hy0 : Value.slice sa0 sn0 sc0 = x0 := by simpa [Value.cells] using hx0
  subst hy0
  obtain ⟨fu1, hm1⟩ := h1
  obtain ⟨x1, l, hx1, hvl, hll⟩ := open_vals hm1
  obtain ⟨sa1, sn1, sc1, rfl⟩ := okWide_slice Try.underlying22 (hval 1 22 v1 rfl rfl)
  have hy1 : Value.slice sa1 sn1 sc1 = x1 := by simpa [Value.cells] using hx1
  subst hy1
  obtain ⟨fu2, hm2⟩ := h2
  obtain ⟨x2, az, hx2, hvaz, hlaz⟩ := open_vals hm2
  obtain ⟨sa2, sn2, sc2, rfl⟩ := okWide_slice Try.underlying22 (hval 2 22 v2 rfl rfl)
  have hy2 : Value.slice sa2 sn2 sc2 = x2 := by simpa [Value.cells] using hx2
  subst hy2
  obtain ⟨fu3, hm3⟩ := h3
  obtain ⟨x3, dead, hx3, hvdead, hldead⟩ := open_vals hm3
  obtain ⟨sa3, sn3, sc3, rfl⟩ := okWide_slice Try.underlying22 (hval 3 22 v3 rfl rfl)
  have hy3 : Value.slice sa3 sn3 sc3 = x3 := by simpa [Value.cells] using hx3
  subst hy3
  refine (back_any below l az dead _ _ _ _ W hvbelow hvl hvaz hvdead hlbelow hll hlaz hldead).mono fun e W' ⟨he, bel⟩ => ?_
  subst he
  exact ⟨_, rfl, _, _, _, [], _, [], hW', trodAll_mk1 (shut_bool Try.underlying4 _), trodAll_below backLaid bel (by kernel_rfl) hAll, rfl, bel.frame _, fun h => by cases h⟩

set_option maxRecDepth 100000 in
theorem lifted (os : Os) (started : os.Started) (H : Type) (enc : TypeId × Value → H) :
    ReturnsInHanded {} Try.checked os 6 .any (Rows.stackBackSpec.pre6 enc Try.prog Try.f6 Rows.stackBackRow.domain false) (Rows.stackBackSpec.post enc Try.prog Try.f6 false true false false) := by
  refine returnsInHanded_of_change (C := Try.checked) backOwn started (by kernel_rfl) Try.func6
    (ChangeSpec.witness6 (enc := enc) (C := Try.checked) false ⟨#[], #[.slice none 0 0, .slice none 0 0, .slice none 0 0, .slice none 0 0], []⟩ 8 (by kernel_rfl) (by kernel_rfl) (by kernel_rfl) (by kernel_rfl)) ?_
  intro W base args ds gs before hval hW _ _
  exact contract H enc W base args ds gs before hval hW

theorem said : Rows.StackBackSaid :=
  OpenClaim.holds_of_wide 6 Try.f6 rfl rfl rfl rfl rfl rfl rfl ⟨rfl, rfl, rfl, rfl, rfl⟩ rfl rfl rfl rfl rfl (by kernel_rfl) Try.func6 (by kernel_rfl)
    (of_decide_eq_true (by kernel_rfl)) (by unfold Func.isWrapper; first | (rw [if_pos (by decide +kernel)]; kernel_rfl) | (rw [if_neg (by decide +kernel)]; exact ⟨rfl, rfl⟩))
    (fun os started H enc _ => lifted os started H enc)
end stackBack
end Go.Proofs.Ytjjhdbjbjgkijaa
