/- A machine of package stack: Label. -/
import Derived.Test.YtjjhdbjbjgkijaaStO
import Derived.Deep.RegionHeld3
namespace Go.Proofs.Ytjjhdbjbjgkijaa
open Go.RowKit Go.Maps Go.WideMaps

def LabelPost (w : World) (l : List Vl) (e : Ending) (w' : World) : Prop := ∃ v, e = .returned (.tuple #[v, .int .i64 0]) ∧ w'.ownsRow w.heap.size 41 4 v l.length (flatV l) ∧ Below w.heap.size w w'
theorem valsAt_below {w w' : World} {v : Value} {l : List Vl} (h : ValsAt w v l) (hb : Below w.heap.size w w') : ValsAt w' v l := h.below hb
def labL (f : Frm) : List Vl := if f.op = 3 then f.ps else f.rs
theorem label_out (S : Nat → Prop) (w : World) (M T : Nat) (vals : List Vl) (frs : List Frm) (gs : List Int) (h : MachAt S w M T vals frs gs) (n : Nat) (hn : frs.length ≤ n) (b2 : frs.length ≤ 1000000) (h2 : n ≤ 1000000) :
    Calls Try.prog 22 #[.pointer (some ⟨M, 0, none⟩), .int .i64 n] w fun e w' => e = .returned (.tuple #[.slice none 0 0, .int .i64 142]) ∧ w = w' := by
  have HM := Lib.hid h
  obtain ⟨vv, fv, G, k0, k1, k2, k3, k4, k5, k6, k7, k8⟩ := h
  obtain ⟨fao, fcap, rfl, _⟩ := k7.form
  have q2 := heap_cell k4 2
  simp at q2
  clear k0 k4 k5 k6 k7 k8
  have hlt : ¬ (n : Int) < frs.length := by omega
  go_enter Try.func22, Try.ntmps22
  go_wp2_with fail
  refine (absent_at S _ M T _ _ gs HM.out).mono ?_
  rintro e w' ⟨rfl, rfl⟩
  go_wp2
  go_ret2
  exact ⟨rfl, rfl⟩
set_option maxRecDepth 100000 in
set_option maxHeartbeats 1000000 in
theorem label_at (S : Nat → Prop) (w : World) (M T : Nat) (vals : List Vl) (frs : List Frm) (gs : List Int) (h : MachAt S w M T vals frs gs) (n i : Nat) (hn : n + i + 1 = frs.length) (f : Frm) (hf : frs[i]? = some f) (b2 : frs.length ≤ 1000000) (h2 : n ≤ 1000000) (h3 : i ≤ 1000000) (bp : f.ps.length ≤ 1000000) (br : f.rs.length ≤ 1000000) :
    Calls Try.prog 22 #[.pointer (some ⟨M, 0, none⟩), .int .i64 n] w (LabelPost w (labL f)) := by
  have HM := Lib.hid h
  obtain ⟨vv, fv, G, k0, k1, k2, k3, k4, k5, k6, k7, k8⟩ := h
  obtain ⟨fb, fcap, fcur, rfl, fc1, fc2, fS, fh, fpv, frv, fgv, f0, f1, f2, f3, f4, f5, f6, f7, f8⟩ := k7.at i f hf
  rw [← hn] at fc1 k4
  have q2 := heap_cell k4 2
  simp at q2
  have hbl := heap_lt fh
  have hvp := Lib.hid (ValsAt.of_own f6.1); have hvr := Lib.hid (ValsAt.of_own f7.1)
  obtain ⟨pao, pcap, rfl, _⟩ := ownsRow_form f6.1
  obtain ⟨rao, rcap, rfl, _⟩ := ownsRow_form f7.1
  obtain ⟨gao, glen, gcap, rfl⟩ := f8.2
  obtain ⟨fop, fps, frs', fht, fdead, fg⟩ := f
  dsimp only at f0 f1 f2 f3 f4 f5 hvp hvr bp br ⊢
  clear k0 k4 k5 k6 k7 k8 f6 f7 f8 fh
  unfold maxLen at fc2
  have HN := Lib.hid hn
  clear hn
  obtain ⟨L, hL⟩ : ∃ L, labL ⟨fop, fps, frs', fht, fdead, fg⟩ = L := ⟨_, rfl⟩
  rw [hL]
  have HL := Lib.hid hL
  clear hL
  have w1 : IntKind.i64.wrap ((n : Int) + i + 1 - 1) = n + i := by rw [IntWalk.i64_in _ ⟨by omega, by omega⟩]; omega
  have w2 : IntKind.i64.wrap ((n : Int) + i) = n + i := IntWalk.i64_in _ ⟨by omega, by omega⟩
  have w3 : IntKind.i64.wrap ((n : Int) + i - n) = i := by rw [IntWalk.i64_in _ ⟨by omega, by omega⟩]; omega
  have w4 : IntKind.i64.wrap (i : Int) = i := IntWalk.i64_in _ ⟨by omega, by omega⟩
  have w5 : (0 : Int) ≤ i := by omega
  have w6 : (i : Int) < n + i + 1 := by omega
  go_enter Try.func22, Try.ntmps22
  go_wp2_with fail
  refine (absent_at S _ M T _ _ gs HM.out).mono ?_
  rintro e w' ⟨rfl, rfl⟩
  go_wp2
  go_region_held3 (fun w' => w'.cell? ⟨M, 2, none⟩ = some (.slice (some ⟨fb, 0, none⟩) (n + i + 1) fcap) ∧ w'.cell? ⟨fb, i * 6, none⟩ = some (.int .i64 fop) ∧ w'.cell? ⟨fb, i * 6 + 1, none⟩ = some (.slice pao fps.length pcap) ∧ w'.cell? ⟨fb, i * 6 + 2, none⟩ = some (.slice rao frs'.length rcap) ∧ w'.cell? ⟨fb, i * 6 + 3, none⟩ = some (.int .i64 fht) ∧ w'.cell? ⟨fb, i * 6 + 4, none⟩ = some (.bool fdead) ∧ w'.cell? ⟨fb, i * 6 + 5, none⟩ = some (.slice gao glen gcap)) (go_keep) (fail)
  have hw : Below w.heap.size w ((w.alloc (.cells #[.int .i64 fop, .slice pao fps.length pcap, .slice rao frs'.length rcap, .int .i64 fht, .bool fdead, .slice gao glen gcap] 78)).drew) := ((Below.refl _ _).alloc (Nat.le_refl _) _).drew
  have HW := Lib.hid hw
  clear hw w1 w2 w3 w4 w5 w6
  by_cases hop : fop = 3
  · subst hop
    go_wp2_with fail
    refine (clone_any _ fps _ (valsAt_below hvp.out HW.out) bp).mono ?_
    rintro e w2 ⟨v, rfl, r1, r2⟩
    have hw2 := HW.out
    have R1 := Lib.hid r1; have R2 := Lib.hid (hw2.trans (r2.mono hw2.size)); have HB := Lib.hid hw2
    obtain ⟨ao2, cap2, hf2, _⟩ := ownsRow_form r1
    subst hf2
    clear r1 r2 hw2
    go_wp2
    go_ret2
    have := HL.out
    simp [labL] at this
    subst this
    exact ⟨_, rfl, ownsRow_low R1.out HB.out.size, R2.out⟩
  · have hop2 : (fop == 3) = false := by simpa using hop
    have HO := Lib.hid hop
    clear hop
    go_wp2_with fail
    refine (clone_any _ frs' _ (valsAt_below hvr.out HW.out) br).mono ?_
    rintro e w2 ⟨v, rfl, r1, r2⟩
    have hw2 := HW.out
    have R1 := Lib.hid r1; have R2 := Lib.hid (hw2.trans (r2.mono hw2.size)); have HB := Lib.hid hw2
    obtain ⟨ao2, cap2, hf2, _⟩ := ownsRow_form r1
    subst hf2
    clear r1 r2 hw2
    go_wp2
    go_ret2
    have := HL.out
    simp [labL, HO.out] at this
    subst this
    exact ⟨_, rfl, ownsRow_low R1.out HB.out.size, R2.out⟩
end Go.Proofs.Ytjjhdbjbjgkijaa
