/- Layer 20 (arena), ArenaKeeps: what was set in a block stays until it is free, whatever becomes of others; blocks have no word in common; what is refused is refused only where no free block has room; behind a Sweep of what is all marked nothing is otherwise. For every input the law returns true, and each argument reads afterwards as before: no condition. -/
import Derived.Test.YtofoaheiblhpoaaArKeeps
import Derived.Test.YtofoaheiblhpoaaCells
namespace Go.Proofs.Ytofoaheiblhpoaa
open Go.ChangeShapes Go.WideShapes Go.ChangeAt Go.RowKit Go.Joins

set_option maxRecDepth 100000 in
set_option maxHeartbeats 4000000 in
theorem keeps_any (words : Int) (sv fv : Value) (sl fl : List Int) (w : World) (hs : CellsAt w sv (sl.map (.int .i64))) (hls : sl.length ≤ maxLen) (hf : CellsAt w fv (fl.map (.int .i64))) (hlf : fl.length ≤ maxLen) (hus : ∀ u ∈ sl, -9223372036854775808 ≤ u ∧ u < 9223372036854775808) (huf : ∀ u ∈ fl, -9223372036854775808 ≤ u ∧ u < 9223372036854775808) :
    Calls Try.prog 3 #[.int .i64 words, sv, fv] w fun e w' => e = .returned (.bool true) ∧ Below w.heap.size w w' := by
  by_cases h1 : words < 0
  · obtain ⟨sao, scap, rfl⟩ := hs.form
    clear hs hf hus huf hls hlf
    have d1 : decide (words < 0) = true := decide_eq_true h1
    go_enter Try.func3, Try.ntmps3
    go_wp2_with fail
    refine (known_any w).mono ?_
    rintro e w1 ⟨rfl, hb1⟩
    have HB1 := Lib.hid hb1
    clear hb1
    go_wp2
    go_ret
    exact ⟨rfl, HB1.out⟩
  by_cases h2 : 300 < words
  · obtain ⟨sao, scap, rfl⟩ := hs.form
    clear hs hf hus huf hls hlf
    have d1 : decide (words < 0) = false := decide_eq_false h1
    have d2 : decide (300 < words) = true := decide_eq_true h2
    go_enter Try.func3, Try.ntmps3
    go_wp2_with fail
    refine (known_any w).mono ?_
    rintro e w1 ⟨rfl, hb1⟩
    have HB1 := Lib.hid hb1
    clear hb1
    go_wp2
    go_ret
    exact ⟨rfl, HB1.out⟩
  by_cases h3 : 100 < sl.length
  · obtain ⟨sao, scap, hsv⟩ := hs.form
    obtain ⟨n, hn⟩ : ∃ n, sl.length = n := ⟨_, rfl⟩
    rw [List.length_map, hn] at hsv
    rw [hn] at h3
    subst hsv
    clear hs hf hus huf hls hlf hn
    have d1 : decide (words < 0) = false := decide_eq_false h1
    have d2 : decide (300 < words) = false := decide_eq_false h2
    have d3 : decide ((100 : Int) < (n : Int)) = true := decide_eq_true (by omega)
    have d4 : decide (100 < n) = true := decide_eq_true h3
    have d5 : (100 : Int) < (n : Int) := by omega
    go_enter Try.func3, Try.ntmps3
    go_wp2_with fail
    refine (known_any w).mono ?_
    rintro e w1 ⟨rfl, hb1⟩
    have HB1 := Lib.hid hb1
    clear hb1
    go_wp2
    go_ret
    exact ⟨rfl, HB1.out⟩
  obtain ⟨m, rfl⟩ : ∃ m : Nat, words = (m : Int) := ⟨words.toNat, by omega⟩
  exact keeps_main w m (by omega) sv fv sl fl hs (by omega) hf hlf hus huf

theorem own : ownKnob Try.prog.godebug = none := by kernel_rfl
theorem laidOut : laidOutB Try.prog = true := by kernel_rfl

namespace arenaKeeps
set_option maxRecDepth 100000 in
theorem contract (H : Type) (enc : TypeId × Value → H) (W : World) (base : Nat) (args : Array Value) (ds gs : List (DataW H)) (before : List MemPlace)
    (hval : ∀ (j : Nat) t v, Try.f3.params[j]? = some t → args[j]? = some v → Value.okWide Try.prog W .any base t v)
    (hW : DataW.Whole enc Try.prog Try.f3.params.toList Rows.arenaKeepsSpec.vars false W args.toList ds gs before) :
    Calls Try.prog 3 args W fun e W' => ∃ v, e = .returned v ∧ Rows.arenaKeepsSpec.post enc Try.prog Try.f3 false true false false W args v W' := by
  have hW' := hW
  obtain ⟨p, q, hA0, hV, rfl, hfz, hnd⟩ := hW
  have hA : DataW.TrodAll enc Try.prog W 0 (fun _ => true) true Try.f3.params.toList args.toList ds p := hA0
  rw [Try.params3] at hA hval
  have hAll := hA
  obtain ⟨v0, vs0, d0, ds0, p0, q0, hargs, rfl, rfl, h0, r0⟩ := trodAll_cons hA
  obtain ⟨v1, vs1, d1, ds1, p1, q1, rfl, rfl, rfl, h1, r1⟩ := trodAll_cons r0
  obtain ⟨v2, vs2, d2, ds2, p2, q2, rfl, rfl, rfl, h2, r2⟩ := trodAll_cons r1
  obtain ⟨rfl, rfl, rfl⟩ := trodAll_nil r2
  obtain rfl : args = #[v0, v1, v2] := by cases args; simp_all
  obtain ⟨rfl, rfl⟩ := trodVars_none hV
  obtain ⟨words, rfl, rfl, rfl, wwords⟩ := open_int Try.underlying3 (hval 0 3 v0 rfl rfl) h0
  obtain ⟨fu1, hm1⟩ := h1
  obtain ⟨x1, sz, hx1, hvsz, hlsz, hwsz⟩ := open_intcells Try.underlying22 Try.underlying3 (by kernel_rfl) hm1
  obtain ⟨sa1, sn1, sc1, rfl⟩ := okWide_slice Try.underlying22 (hval 1 22 v1 rfl rfl)
  have hy1 : Value.slice sa1 sn1 sc1 = x1 := by simpa [Value.cells] using hx1
  subst hy1
  obtain ⟨fu2, hm2⟩ := h2
  obtain ⟨x2, fr, hx2, hvfr, hlfr, hwfr⟩ := open_intcells Try.underlying22 Try.underlying3 (by kernel_rfl) hm2
  obtain ⟨sa2, sn2, sc2, rfl⟩ := okWide_slice Try.underlying22 (hval 2 22 v2 rfl rfl)
  have hy2 : Value.slice sa2 sn2 sc2 = x2 := by simpa [Value.cells] using hx2
  subst hy2
  refine (keeps_any words _ _ sz fr W hvsz hlsz hvfr hlfr (fun u h => by have := bounds_i64 (hwsz u h); omega) (fun u h => by have := bounds_i64 (hwfr u h); omega)).mono fun e W' ⟨he, bel⟩ => ?_
  subst he
  exact ⟨_, rfl, _, _, _, [], _, [], hW', trodAll_mk1 (shut_bool Try.underlying4 _), trodAll_below laidOut bel (by kernel_rfl) hAll, rfl, bel.frame _, fun h => by cases h⟩

set_option maxRecDepth 100000 in
theorem lifted (os : Os) (started : os.Started) (H : Type) (enc : TypeId × Value → H) :
    ReturnsInHanded {} Try.checked os 3 .any (Rows.arenaKeepsSpec.pre6 enc Try.prog Try.f3 Rows.arenaKeepsRow.domain false) (Rows.arenaKeepsSpec.post enc Try.prog Try.f3 false true false false) := by
  refine returnsInHanded_of_change (C := Try.checked) own started (by kernel_rfl) Try.func3
    (ChangeSpec.witness6 (enc := enc) (C := Try.checked) false ⟨#[], #[.int .i64 0, .slice none 0 0, .slice none 0 0], []⟩ 8 (by kernel_rfl) (by kernel_rfl) (by kernel_rfl) (by kernel_rfl)) ?_
  intro W base args ds gs before hval hW _ _
  exact contract H enc W base args ds gs before hval hW

theorem said : Rows.ArenaKeepsSaid :=
  OpenClaim.holds_of_wide 3 Try.f3 rfl rfl rfl rfl rfl rfl rfl ⟨rfl, rfl, rfl, rfl, rfl⟩ rfl rfl rfl rfl rfl (by kernel_rfl) Try.func3 (by kernel_rfl)
    (of_decide_eq_true (by kernel_rfl)) (by unfold Func.isWrapper; first | (rw [if_pos (by decide +kernel)]; kernel_rfl) | (rw [if_neg (by decide +kernel)]; exact ⟨rfl, rfl⟩))
    (fun os started H enc _ => lifted os started H enc)
end arenaKeeps
end Go.Proofs.Ytofoaheiblhpoaa
