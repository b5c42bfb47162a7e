/- chain: Copy; Line, of what has none. -/
import Derived.Test.YtoamhiaagaaaaaaGreatDoorQChRefB
import Derived.Test.YtoamhiaagaaaaaaGreatDoorQChGrow
import Derived.Test.YtoamhiaagaaaaaaGreatDoorQRfHeapsP
import Derived.Lib.Slices
namespace Go.Proofs.YtoamhiaagaaaaaaGreatDoor
open Go.RowKit

set_option maxRecDepth 100000 in
set_option maxHeartbeats 8000000 in
theorem chClone_any (v : Value) (L : List (List Nat)) (w : World) (hv : RowAt w 65 v L.length (linesC L)) (_ : ∀ p ∈ L, p.length ≤ 64) (hl : L.length ≤ 10000) :
    Calls Tryz.prog 62 #[v] w fun e w' => ∃ u, e = .returned u ∧ w'.ownsRow w.heap.size 119 65 u L.length (linesC L) ∧ Below w.heap.size w w' := by
  obtain ⟨i0, hi, hz0, hz1, hz2⟩ := info_parts Tryz.infoLine
  have Hi := Lib.hid hi; have Hz0 := Lib.hid hz0; have Hz1 := Lib.hid hz1; have Hz2 := Lib.hid hz2
  obtain ⟨ao, cap, rfl⟩ := RowAt.form hv
  obtain ⟨n, hn⟩ : ∃ n, L.length = n := ⟨_, rfl⟩
  have HN := Lib.hid hn
  rw [hn] at hv hl ⊢
  have HV := Lib.hid hv; have HL := Lib.hid hl
  have H1 := Lib.hid (show ∀ u ∈ linesC L, u.oneCell' = true from fun u hu => by
    obtain ⟨p, _, hq⟩ := List.mem_flatMap.1 hu
    exact lineC_one p u hq)
  clear hv hl hn hi hz0 hz1 hz2
  have e1 : ∀ (w : World) (a : Option Addr) (l c : Nat), (binOp .eql 113 (.slice a l c) (.slice none 0 0)).run Tryz.prog w = .ok (.bool a.isNone) w := fun w a l c => Lib.run_eql_slice_nil w _ _ a l c 0 0 Tryz.underlying113
  cases ao with
  | none =>
    have hn0 : n = 0 ∧ cap = 0 := by
      rcases HV.out.2 with ⟨h, _⟩ | ⟨a, c, h, _⟩
      · simp at h; exact h
      · simp at h
    obtain ⟨rfl, rfl⟩ := hn0
    go_enter Tryz.func62, Tryz.ntmps62
    go_wp2
    go_ret
    refine ⟨_, rfl, ?_, Below.refl _ _⟩
    rw [List.length_eq_zero_iff.1 HN.out]
    exact owns_zero _ _ _ _
  | some a =>
    go_enter Tryz.func62, Tryz.ntmps62
    go_wp2_with (at_builtin; refine wpList_append_row _ rfl _ _ 113 rfl w.heap.size 119 i0 _ 65 260 Tryz.underlying113 Hi.out Hz0.out Hz1.out Hz2.out rfl (by decide) _ 0 [] rfl (owns_e w (Nat.le_refl _) _ _ rfl) _ n (linesC L) rfl (RowAt.below HV.out ((Below.refl _ _).alloc (Nat.le_refl _) _) (Nat.le_refl _)) H1.out (by have := HL.out; unfold maxLen; omega) (by have := HL.out; omega) (by simp) ?_)
    intro v2 w2 o2 g2
    have hb2 : Below w.heap.size w w2 := ((Below.refl _ _).alloc (Nat.le_refl _) _).grown g2 (by simp) (fun k hk => by simp [Value.ownBlock] at hk; omega)
    have O2 := Lib.hid o2; have HB2 := Lib.hid hb2
    clear o2 g2 hb2
    go_wp2
    go_ret
    exact ⟨_, rfl, by simpa using O2.out, HB2.out⟩
set_option maxRecDepth 100000 in
set_option maxHeartbeats 8000000 in
theorem chCopy_any {S : Nat → Prop} {w : World} {t : Nat} {L : List (List Nat)} (h : LinesAt S w t L) :
    Calls Tryz.prog 26 #[.pointer (some ⟨t, 0, none⟩)] w fun e w' => ∃ t' S', e = .returned (.pointer (some ⟨t', 0, none⟩)) ∧ LinesAt S' w' t' L ∧ (∀ k, S' k → w.heap.size ≤ k) ∧ Below w.heap.size w w' := by
  obtain ⟨ov, h1, h2, h3⟩ := h.ex
  obtain ⟨ao, co, rfl, _⟩ := ownsRow_form h2
  have HM := Lib.hid (chMade_any h); have H := Lib.hid h; have H1 := Lib.hid h1; have H2 := Lib.hid h2
  clear h h1 h2 h3
  go_enter Tryz.func26, Tryz.ntmps26
  go_wp2_with fail
  refine HM.out.mono ?_
  rintro e w1 ⟨rfl, rfl⟩
  go_wp2_with fail
  refine (chNew_any _).mono ?_
  rintro e w2 ⟨t2, S2, rfl, hl2, hS2, hb2⟩
  obtain ⟨ov2, g1, _, _⟩ := hl2.ex
  have y1 := (hb2.block _ (heap_lt H1.out)).trans H1.out
  have c0 := heap_cell y1 0
  simp at c0
  have hrow : RowAt w2 65 (.slice ao L.length co) L.length (linesC L) := RowAt.below (RowAt.of_own H2.out) hb2 (Nat.le_refl _)
  have C := chClone_any _ L w2 hrow (fun p hp => (H.out.ok.1 p hp).1) H.out.ok.2.1
  have HC := Lib.hid C; have HL2 := Lib.hid hl2; have HS2 := Lib.hid hS2; have HB2 := Lib.hid hb2; have G1 := Lib.hid g1
  clear C hl2 hS2 hb2 g1 y1 hrow
  go_wp2_with fail
  refine HC.out.mono ?_
  rintro e w3 ⟨u, rfl, o3, hb3⟩
  obtain ⟨au, cu, rfl, _⟩ := ownsRow_form o3
  have z3 := (hb3.block _ (heap_lt G1.out)).trans G1.out
  have d0 := heap_cell z3 0
  have df := heap_frozen z3 0
  simp at d0
  have O3 := Lib.hid o3; have HB3 := Lib.hid hb3; have Z3 := Lib.hid z3
  clear o3 hb3 z3
  go_wp2
  go_ret
  have ht2 := HS2.out t2 HL2.out.st
  have hs2 := HB2.out.size
  have hlt2 := heap_lt G1.out
  refine ⟨t2, fun b => b = t2 ∨ (Value.slice au L.length cu).ownBlock = some b, rfl, ⟨⟨.slice au L.length cu, by have q := heap_set_at Z3.out 0 (.slice au L.length cu); simpa using q, ?_, fun b hb => .inr hb⟩, .inl rfl, fun k hk => ?_, H.out.ok⟩, fun k hk => ?_, ?_⟩
  · have h3 := O3.out
    have h4 := ownsRow_upd h3 ((Upd.refl (fun b => b = t2) w3).setCell (p := ⟨t2, 0, none⟩) (.inl rfl) (.slice au L.length cu)) (fun b hb e => by have := (h3.lt b hb).1; omega)
    obtain ⟨q1, q2⟩ := h4
    exact ⟨q1, q2.imp id (fun ⟨g, c, cur, e, _, r⟩ => ⟨g, c, cur, e, Nat.zero_le _, r⟩)⟩
  · have := HB3.out.size
    rcases hk with rfl | hk
    · simp [World.setCell]; omega
    · have := (O3.out.lt k hk).2; simp [World.setCell]; omega
  · rcases hk with rfl | hk
    · exact ht2
    · have := (O3.out.lt k hk).1; omega
  · exact (HB2.out.trans (HB3.out.mono HB2.out.size)).setCell ht2 _
theorem chLine_out {S : Nat → Prop} {w : World} {t : Nat} {L : List (List Nat)} (h : LinesAt S w t L) {id : Int} (hid : hasL L id = false) :
    Calls Tryz.prog 27 #[.pointer (some ⟨t, 0, none⟩), .int .i64 id] w fun e w' => e = .returned (.tuple #[.slice none 0 0, .int .i64 4]) ∧ Below w.heap.size w w' := by
  have HM := Lib.hid (chMade_any h)
  have C := chHas_any h id
  rw [hid] at C
  have HC := Lib.hid C
  clear h hid C
  go_enter Tryz.func27, Tryz.ntmps27
  go_wp2_with fail
  refine HM.out.mono ?_
  rintro e w1 ⟨rfl, rfl⟩
  go_wp2_with fail
  refine HC.out.mono ?_
  rintro e w2 ⟨rfl, rfl⟩
  go_wp2
  go_ret2
  exact ⟨rfl, Below.refl _ _⟩
end Go.Proofs.YtoamhiaagaaaaaaGreatDoor
