/- A machine of package stack: Top, Label, Open. -/
import Derived.Test.YtjjhdbjbjgkijaaStD
import Derived.Deep.RegionHeldLaw
import Derived.Deep.AppendLies
namespace Go.Proofs.Ytjjhdbjbjgkijaa
open Go.RowKit Go.Maps Go.WideMaps

theorem valsAt_drop {w : World} {g n cap : Nat} {l : List Vl} (h : ValsAt w (.slice (some ⟨g, 0, none⟩) n cap) l) (hn : n = l.length) (k : Nat) (hk : k ≤ n) (c2 : Nat) (hc : n - k ≤ c2) : ValsAt w (.slice (some ⟨g, k * 4, none⟩) (n - k) c2) (l.drop k) := by
  subst hn
  rcases h with ⟨h, _⟩ | ⟨a, cap', e, h1, h2⟩
  · simp at h
  · simp at e
    obtain ⟨rfl, rfl⟩ := e
    refine .inr ⟨⟨g, k * 4, none⟩, c2, by rw [List.length_drop], by rw [List.length_drop]; exact hc, fun j u hu => ?_⟩
    have e : flatV l = flatV (l.take k) ++ flatV (l.drop k) := by rw [← flatV_append, List.take_append_drop]
    have h3 := h2 (k * 4 + j) u (by rw [e, List.getElem?_append_right (by rw [flatV_len, List.length_take]; omega), flatV_len, List.length_take, Nat.min_eq_left hk, show k * 4 + j - 4 * k = j by omega]; exact hu)
    rw [Addr.add_lit] at h3 ⊢
    simpa using h3
def TopPost (w : World) (l : List Vl) (e : Ending) (w' : World) : Prop := ∃ v, e = .returned v ∧ w'.ownsRow w.heap.size 41 4 v l.length (flatV l) ∧ Below w.heap.size w w'
set_option maxRecDepth 100000 in
set_option maxHeartbeats 1000000 in
theorem top_at (S : Nat → Prop) (w : World) (M T : Nat) (vals : List Vl) (frs : List Frm) (gs : List Int) (h : MachAt S w M T vals frs gs) (n : Nat) (h1 : 1 ≤ n) (h2 : n ≤ 1000000) (b1 : vals.length ≤ 1000000) :
    Calls Try.prog 16 #[.pointer (some ⟨M, 0, none⟩), .int .i64 n] w (TopPost w (vals.drop (vals.length - n))) := by
  have HM := Lib.hid h
  obtain ⟨vv, fv, G, k0, k1, k2, k3, k4, k5, k6, k7, k8⟩ := h
  have q1 := heap_cell k4 1
  simp at q1
  have HV := Lib.hid (ValsAt.of_own k5)
  rcases k5.2 with ⟨rfl, e0⟩ | ⟨g, cap, cur, rfl, _, hh, c1, c2, c3, c4⟩
  · have c2 := Ext.cells q1
    clear k0 k4 k5 k6 k7 k8 q1
    go_enter Try.func16, Try.ntmps16
    go_wp2_with fail
    refine (absent_at S _ M T _ _ gs HM.out).mono ?_
    rintro e w' ⟨rfl, rfl⟩
    go_wp2
    refine wp_region_calm_tail 13 (by kernel_rfl) (by kernel_rfl) ?_
    simp only [List.take_succ_cons, List.take_zero, List.drop_succ_cons, List.drop_zero]
    repeat (go_big_quiet_step (fail))
    refine wpQuiet_nil ?_
    rintro w1 hb
    go_wp2_with fail
    refine (clone_any (.slice none 0 0) [] _ (.inl ⟨rfl, rfl⟩) (by simp)).mono ?_
    rintro e w2 ⟨v, rfl, r1, r2⟩
    have R1 := Lib.hid r1; have R2 := Lib.hid (hb.trans (r2.mono hb.size)); have HB := Lib.hid hb
    clear r1 r2 hb
    go_wp2
    go_ret
    have hv : vals = [] := by simpa using e0
    subst hv
    exact ⟨v, rfl, by simpa using ownsRow_low R1.out HB.out.size, R2.out⟩
  · have c2 := Ext.cells q1
    have hgl := heap_lt hh
    have HVD := Lib.hid (valsAt_drop HV.out rfl (vals.length - n) (by omega) (cap - (vals.length - n)) (by omega))
    unfold maxLen at c2
    clear k0 k4 k5 k6 k7 k8 q1 hh c4 c3
    by_cases hn : n < vals.length
    · have hlt : (n : Int) < vals.length := by omega
      go_enter Try.func16, Try.ntmps16
      go_wp2_with fail
      refine (absent_at S _ M T _ _ gs HM.out).mono ?_
      rintro e w' ⟨rfl, rfl⟩
      go_wp2
      refine wp_region_calm_tail 13 (by kernel_rfl) (by kernel_rfl) ?_
      simp only [List.take_succ_cons, List.take_zero, List.drop_succ_cons, List.drop_zero]
      repeat (go_big_quiet_step (fail))
      refine wpQuiet_nil ?_
      rintro w1 hb
      go_wp2_with fail
      refine (clone_any _ (vals.drop (vals.length - n)) _ (HVD.out.below hb) (by rw [List.length_drop]; omega)).mono ?_
      rintro e w2 ⟨v, rfl, r1, r2⟩
      have R1 := Lib.hid r1; have R2 := Lib.hid (hb.trans (r2.mono hb.size)); have HB := Lib.hid hb
      clear r1 r2 hb
      go_wp2
      go_ret
      exact ⟨v, rfl, ownsRow_low R1.out HB.out.size, R2.out⟩
    · have hlt : ¬ (n : Int) < vals.length := by omega
      have hk0 : vals.length - n = 0 := by omega
      rw [hk0]
      have HK := Lib.hid hk0
      clear hk0
      go_enter Try.func16, Try.ntmps16
      go_wp2_with fail
      refine (absent_at S _ M T _ _ gs HM.out).mono ?_
      rintro e w' ⟨rfl, rfl⟩
      go_wp2
      refine wp_region_calm_tail 13 (by kernel_rfl) (by kernel_rfl) ?_
      simp only [List.take_succ_cons, List.take_zero, List.drop_succ_cons, List.drop_zero]
      repeat (go_big_quiet_step (fail))
      refine wpQuiet_nil ?_
      rintro w1 hb
      go_wp2_with fail
      refine (clone_any _ vals _ (HV.out.below hb) b1).mono ?_
      rintro e w2 ⟨v, rfl, r1, r2⟩
      have R1 := Lib.hid r1; have R2 := Lib.hid (hb.trans (r2.mono hb.size)); have HB := Lib.hid hb
      clear r1 r2 hb
      go_wp2
      go_ret
      exact ⟨v, rfl, ownsRow_low R1.out HB.out.size, R2.out⟩
end Go.Proofs.Ytjjhdbjbjgkijaa
