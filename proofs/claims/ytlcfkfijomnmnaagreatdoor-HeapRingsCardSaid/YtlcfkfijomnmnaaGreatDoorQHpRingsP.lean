import Derived.Test.YtlcfkfijomnmnaaGreatDoorQHpHeadBd
namespace Go.Proofs.YtlcfkfijomnmnaaGreatDoor
variable {N A : Nat} {bs' : List Blk} {r : List Nat}
def ringL (N i j : Nat) : Nat := if j < i then (1 + 3 * ((j + 1) % N)) * 8 + 2 else 0
theorem mod_lt {N j : Nat} (h : 1 ≤ N) : (j + 1) % N < N := Nat.mod_lt _ h
theorem ringL_lt {i j : Nat} (h1 : 1 ≤ N) (hn : N ≤ 300000) : ringL N i j < 18446744073709551616 := by
  unfold ringL
  have := mod_lt (j := j) h1
  split <;> omega
theorem ringL_zero : ringL N 0 = fun _ => 0 := by funext j; unfold ringL; rw [if_neg (by omega)]
theorem rg_set {i : Nat} (hi : i < N) (h2 : N ≤ 40) : setF (lineB 300 N (ringL N i)) ((1 + 3 * i : Nat) : Int) 1 ((1 + 3 * ((i + 1) % N)) * 8 + 2) = (0, lineB 300 N (ringL N (i + 1))) := by
  rw [line_set (by omega) hi]
  congr 2
  funext j
  unfold ringL
  by_cases e : j = i
  · subst e; rw [if_pos rfl, if_pos (by omega)]
  · rw [if_neg e]
    by_cases q : j < i
    · rw [if_pos q, if_pos (by omega)]
    · rw [if_neg q, if_neg (by omega)]
theorem rg_rch (hA : A < N) (h2 : N ≤ 40) {i : Nat} (hi : i < N) : Rch (UsedC (content (lineB 300 N (ringL N N)))) (EF (edF (lineB 300 N (ringL N N)))) (fun y => y ∈ [(1 + 3 * A) * 8 + 2].filterMap toF) (1 + 3 * i) ↔ i < N :=
  ⟨fun _ => hi, fun _ => ring_rch (by omega) (by omega) hA (fun j hj => by unfold ringL; rw [if_pos hj]) hi⟩
theorem rg_sweep (hA : A < N) (h2 : N ≤ 40) (hco : CollOf (lineB 300 N (ringL N N)) [(1 + 3 * A) * 8 + 2] bs') : sweepF bs' = lineB 300 N (ringL N N) :=
  line_sweep (by omega) (Nat.le_refl _) hco (fun _ hi => rg_rch hA h2 hi)
theorem rg_live (hA : A < N) (h2 : N ≤ 40) (hs : r.Pairwise (· < ·)) (hm : ∀ a, a ∈ r ↔ Rch (UsedC (content (lineB 300 N (ringL N N)))) (EF (edF (lineB 300 N (ringL N N)))) (fun y => y ∈ [(1 + 3 * A) * 8 + 2].filterMap toF) a) : liveN (lineB 300 N (ringL N N)) r = 3 * N :=
  line_live (by omega) (Nat.le_refl _) hs hm (fun _ hi => rg_rch hA h2 hi)
theorem rg_none : ([0, 41, 3] : List Nat).filterMap toF = [] := by decide +kernel
theorem rg_sweep0 (h2 : N ≤ 40) {l : Nat → Nat} (hco : CollOf (lineB 300 N l) [0, 41, 3] bs') : sweepF bs' = lineB 300 0 l :=
  line_sweep (by omega) (Nat.zero_le _) hco (fun _ _ => ⟨fun q => (rch_naught (fun a k => by rw [rg_none] at k; simp at k) q).elim, fun q => absurd q (Nat.not_lt_zero _)⟩)
theorem rg_lk {i : Nat} (hi : i < N) (h2 : N ≤ 40) : lkF (lineB 300 N (ringL N N)) (1 + 3 * i) = (1 + 3 * ((i + 1) % N)) * 8 + 2 := by
  rw [line_lk (by omega) hi]; unfold ringL; rw [if_pos hi]
end Go.Proofs.YtlcfkfijomnmnaaGreatDoor
