/- The statements' bound on a type's lists. -/
import Derived.Test.YtnaepekpgmalaaaDoorKdSub
namespace Go.Proofs.YtnaepekpgmalaaaDoor
open Go.RowKit

def greatB (s : Sb) : Bool := decide (20 < s.sups.length) || decide (60 < s.ps.length) || decide (60 < s.rs.length) || decide (60 < s.fs.length)
theorem great_small {s : Sb} (h : greatB s = false) : Small s := by
  simp [greatB] at h
  exact ⟨by omega, by omega, by omega, by omega⟩
set_option maxRecDepth 100000 in
set_option maxHeartbeats 4000000 in
theorem great_any (cs : List Value) (s : Sb) (w : World) (hs : SubAt w cs s) : Calls Tryd.prog 5 #[.agg cs.toArray] w fun e w' => e = .returned (.bool (greatB s)) ∧ Below w.heap.size w w' := by
  obtain ⟨vs, vp, vr, vf, rfl, h1, h2, h3, h4⟩ := hs.ex
  obtain ⟨a1, c1, rfl⟩ := RowAt.form h1
  obtain ⟨a2, c2, rfl⟩ := RowAt.form h2
  obtain ⟨a3, c3, rfl⟩ := RowAt.form h3
  obtain ⟨a4, c4, rfl⟩ := RowAt.form h4
  unfold greatB
  obtain ⟨n1, e1⟩ : ∃ n, s.sups.length = n := ⟨_, rfl⟩
  obtain ⟨n2, e2⟩ : ∃ n, s.ps.length = n := ⟨_, rfl⟩
  obtain ⟨n3, e3⟩ : ∃ n, s.rs.length = n := ⟨_, rfl⟩
  obtain ⟨n4, e4⟩ : ∃ n, s.fs.length = n := ⟨_, rfl⟩
  rw [e1, e2, e3, e4]
  clear e1 e2 e3 e4 hs h1 h2 h3 h4
  go_enter Tryd.func5, Tryd.ntmps5
  go_wp2
  all_goals
    go_ret
    exact ⟨retb (by first | (simp_all; done) | (simp_all; omega) | (rw [Bool.eq_iff_iff]; simp_all; done) | (rw [Bool.eq_iff_iff]; simp_all; omega)), (Below.refl _ _).alloc (Nat.le_refl _) _⟩
end Go.Proofs.YtnaepekpgmalaaaDoor
