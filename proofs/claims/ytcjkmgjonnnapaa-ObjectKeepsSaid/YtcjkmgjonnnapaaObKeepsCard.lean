/- Layer 22 (object), ObjectKeeps: each item that is set is told again, whatever is set in other items of the thing, and of another one; the head stays. For every input the law returns true, and each argument reads afterwards as before: no condition. -/
import Derived.Test.YtcjkmgjonnnapaaObKeeps
namespace Go.Proofs.Ytcjkmgjonnnapaa
open Go.ChangeShapes Go.WideShapes Go.ChangeAt Go.RowKit Go.Joins

theorem obKeepsCardOwn : ownKnob Try.prog.godebug = none := by kernel_rfl
theorem obKeepsCardLaid : laidOutB Try.prog = true := by kernel_rfl

namespace objectKeeps
set_option maxRecDepth 100000 in
theorem contract (H : Type) (enc : TypeId × Value → H) (W : World) (base : Nat) (args : Array Value) (ds gs : List (DataW H)) (before : List MemPlace)
    (hval : ∀ (j : Nat) t v, Try.f7.params[j]? = some t → args[j]? = some v → Value.okWide Try.prog W .any base t v)
    (hW : DataW.Whole enc Try.prog Try.f7.params.toList Rows.objectKeepsSpec.vars false W args.toList ds gs before) :
    Calls Try.prog 7 args W fun e W' => ∃ v, e = .returned v ∧ Rows.objectKeepsSpec.post enc Try.prog Try.f7 false true false false W args v W' := by
  have hW' := hW
  obtain ⟨p, q, hA0, hV, rfl, hfz, hnd⟩ := hW
  have hA : DataW.TrodAll enc Try.prog W 0 (fun _ => true) true Try.f7.params.toList args.toList ds p := hA0
  rw [Try.params7] at hA hval
  have hAll := hA
  obtain ⟨v0, vs0, d0, ds0, p0, q0, hargs, rfl, rfl, h0, r0⟩ := trodAll_cons hA
  obtain ⟨v1, vs1, d1, ds1, p1, q1, rfl, rfl, rfl, h1, r1⟩ := trodAll_cons r0
  obtain ⟨v2, vs2, d2, ds2, p2, q2, rfl, rfl, rfl, h2, r2⟩ := trodAll_cons r1
  obtain ⟨v3, vs3, d3, ds3, p3, q3, rfl, rfl, rfl, h3, r3⟩ := trodAll_cons r2
  obtain ⟨rfl, rfl, rfl⟩ := trodAll_nil r3
  obtain rfl : args = #[v0, v1, v2, v3] := by cases args; simp_all
  obtain ⟨rfl, rfl⟩ := trodVars_none hV
  obtain ⟨xk, xi, xn, rfl⟩ := open_thing (hval 0 50 v0 rfl rfl) h0
  obtain ⟨sp, sa, sb, sc, se, rfl⟩ := open_store (hval 1 47 v1 rfl rfl) h1
  obtain ⟨fu2, hm2⟩ := h2
  obtain ⟨x2, ats, hx2, hvats, hlats, hwats⟩ := open_intcells Try.underlying33 Try.underlying3 (by kernel_rfl) hm2
  obtain ⟨sa2, sn2, sc2, rfl⟩ := okWide_slice Try.underlying33 (hval 2 33 v2 rfl rfl)
  have hy2 : Value.slice sa2 sn2 sc2 = x2 := by simpa [Value.cells] using hx2
  subst hy2
  obtain ⟨fu3, hm3⟩ := h3
  obtain ⟨x3, tos, hx3, hvtos, hltos, hwtos⟩ := open_intcells Try.underlying59 Try.underlying34 (by kernel_rfl) hm3
  obtain ⟨sa3, sn3, sc3, rfl⟩ := okWide_slice Try.underlying59 (hval 3 59 v3 rfl rfl)
  have hy3 : Value.slice sa3 sn3 sc3 = x3 := by simpa [Value.cells] using hx3
  subst hy3
  refine (okeeps_any xk xi xn sp sa sb sc se _ _ ats tos W hvats hlats hvtos hltos (fun u h => by have := bounds_i64 (hwats u h); omega) (fun u h => by have := bounds_u64 (hwtos u h); omega)).mono fun e W' ⟨he, bel⟩ => ?_
  subst he
  exact ⟨_, rfl, _, _, _, [], _, [], hW', trodAll_mk1 (shut_bool Try.underlying4 _), trodAll_below obKeepsCardLaid bel (by kernel_rfl) hAll, rfl, bel.frame _, fun h => by cases h⟩

set_option maxRecDepth 100000 in
theorem lifted (os : Os) (started : os.Started) (H : Type) (enc : TypeId × Value → H) :
    ReturnsInHanded {} Try.checked os 7 .any (Rows.objectKeepsSpec.pre6 enc Try.prog Try.f7 Rows.objectKeepsRow.domain false) (Rows.objectKeepsSpec.post enc Try.prog Try.f7 false true false false) := by
  refine returnsInHanded_of_change (C := Try.checked) obKeepsCardOwn started (by kernel_rfl) Try.func7
    (ChangeSpec.witness6 (enc := enc) (C := Try.checked) false ⟨#[], #[.agg #[.int .i64 0, .int .i64 0, .int .i64 0], .agg #[.int .i64 0, .int .i64 0, .bool false, .int .i64 0, .int .i64 0], .slice none 0 0, .slice none 0 0], []⟩ 8 (by kernel_rfl) (by kernel_rfl) (by kernel_rfl) (by kernel_rfl)) ?_
  intro W base args ds gs before hval hW _ _
  exact contract H enc W base args ds gs before hval hW

theorem said : Rows.ObjectKeepsSaid :=
  OpenClaim.holds_of_wide 7 Try.f7 rfl rfl rfl rfl rfl rfl rfl ⟨rfl, rfl, rfl, rfl, rfl⟩ rfl rfl rfl rfl rfl (by kernel_rfl) Try.func7 (by kernel_rfl)
    (of_decide_eq_true (by kernel_rfl)) (by unfold Func.isWrapper; first | (rw [if_pos (by decide +kernel)]; kernel_rfl) | (rw [if_neg (by decide +kernel)]; exact ⟨rfl, rfl⟩))
    (fun os started H enc _ => lifted os started H enc)
end objectKeeps
end Go.Proofs.Ytcjkmgjonnnapaa
