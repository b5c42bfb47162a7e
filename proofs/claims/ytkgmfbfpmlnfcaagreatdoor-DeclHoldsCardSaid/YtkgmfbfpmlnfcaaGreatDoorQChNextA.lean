/- package chain: next, in one. -/
import Derived.Test.YtkgmfbfpmlnfcaaGreatDoorQChNext
namespace Go.Proofs.YtkgmfbfpmlnfcaaGreatDoor
open Go.RowKit
set_option maxRecDepth 100000 in
set_option maxHeartbeats 4000000 in
theorem next_many (t id n : Nat) (a : Option Addr) (c : Nat) (hn : 2 ≤ n) (w : World) :
    Calls Tryz.prog 21 #[.pointer (some ⟨t, 0, none⟩), .int .i64 id, .slice a n c] w fun e w' => e = .returned (.tuple #[.agg zL.toArray, .int .i64 110]) ∧ Below w.heap.size w w' := by
  obtain ⟨Z, hZ⟩ : ∃ Z, Tryz.zeroCells69 = Z := ⟨_, rfl⟩
  have zL1 : Z = zL.toArray := by rw [← hZ, zL_eq]
  have zs : Z.size = 65 := by rw [zL1]; rfl
  have zo : Z.all (·.oneCell') = true := by rw [zL1]; exact all_oneCell_toArray fun v hv => by simp [zL] at hv; rcases hv with rfl | rfl <;> rfl
  have hbd : ∀ w, (Instr.build 69 #[]).run Tryz.prog w = .ok (.agg Z) w := fun w => run_build w _ _ _ (by rw [← hZ]; kernel_rfl)
  have g6 : ((w.alloc (.cells Z 69)).alloc (.cells Z 69)).heap[w.heap.size]? = some (.cells Z 69 (0, 0)) := heap_alloc_keep (heap_alloc_at _ _ rfl) _
  have HBD := Lib.hid hbd; have G6 := Lib.hid g6; have HZS := Lib.hid zs; have HZO := Lib.hid zo; have HZL := Lib.hid zL1
  have h0 : ¬ (n : Int) = 0 := by omega
  have h1 : ¬ (n : Int) = 1 := by omega
  have h0b : ((n : Int) == 0) = false := by simpa using h0
  have h1b : ((n : Int) == 1) = false := by simpa using h1
  have h0n : ¬ n = 0 := by omega
  have h1n : ¬ n = 1 := by omega
  clear g6 zs zo zL1
  go_enter Tryz.func21, Tryz.ntmps21
  go_wp2_with (first | (refine wpList_store_row rfl 69 _ _ rfl w.heap.size Z rfl rfl 69 Z G6.out (by rw [HZS.out]; exact Tryz.sizeLine) rfl HZO.out ?_) | fail)
  have hr : (loadVar 69 ⟨w.heap.size, 0, none⟩).run Tryz.prog (((w.alloc (.cells Z 69)).alloc (.cells Z 69)).setRow w.heap.size Z) = .ok (.agg Z) (((w.alloc (.cells Z 69)).alloc (.cells Z 69)).setRow w.heap.size Z) :=
    run_loadVar_row _ _ 69 69 Z (0, 0) _ (setRow_heap _ _ Z Z _ _ G6.out) Tryz.underlying69 rfl (by rw [HZS.out]; exact Tryz.sizeLine)
  refine bodyPost_ret (v := .tuple #[.agg Z, .int .i64 110]) (by simp [results, Tryz.results21, asAddr, hr]) rfl ⟨by rw [HZL.out], ?_⟩
  exact Below.setRow (((Below.refl _ _).alloc (Nat.le_refl _) _).alloc (by simp) _) (Nat.le_refl _) _
theorem next_any {S : Nat → Prop} {t : Nat} {L : List (List Nat)} (w : World) (h : LinesAt S w t L) (v : Value) (sups : List Hp) (hs : HpsAt w v sups) :
    Calls Tryz.prog 21 #[.pointer (some ⟨t, 0, none⟩), .int .i64 L.length, v] w fun e w' => ∃ C : List Value, e = .returned (.tuple #[.agg C.toArray, .int .i64 (nextL L L.length sups).1]) ∧ C.length = 65 ∧ (∀ v ∈ C, v.oneCell' = true) ∧ ((nextL L L.length sups).1 = 0 → C = lineC (nextL L L.length sups).2) ∧ Below w.heap.size w w' := by
  obtain ⟨a, c, rfl⟩ := RowAt.form hs
  have hL := h.ok.2.1
  have zl : zL.length = 65 ∧ ∀ v ∈ zL, v.oneCell' = true := ⟨rfl, fun v hv => by simp [zL] at hv; rcases hv with rfl | rfl <;> rfl⟩
  rcases sups with _ | ⟨s, _ | ⟨s2, r⟩⟩
  · refine (next_nil t L.length a c hL w).mono ?_
    rintro e w' ⟨rfl, hb⟩
    exact ⟨_, rfl, lineC_len (by simp), lineC_one _, fun _ => rfl, hb⟩
  · obtain ⟨b, off, rfl, _, c1, c2⟩ := hps_at hs (i := 0) (x := s) rfl
    rw [Nat.zero_mul, Nat.add_zero] at c1 c2
    obtain ⟨k, n⟩ := s
    dsimp only at c1 c2
    have fin : ∀ (er : Int) (h1 : (nextL L L.length [⟨k, n⟩]).1 = er) (h0 : er ≠ 0), ∀ (e : Ending) (w' : World), (e = .returned (.tuple #[.agg zL.toArray, .int .i64 er]) ∧ Below w.heap.size w w') → ∃ C : List Value, e = .returned (.tuple #[.agg C.toArray, .int .i64 (nextL L L.length [⟨k, n⟩]).1]) ∧ C.length = 65 ∧ (∀ v ∈ C, v.oneCell' = true) ∧ ((nextL L L.length [⟨k, n⟩]).1 = 0 → C = lineC (nextL L L.length [⟨k, n⟩]).2) ∧ Below w.heap.size w w' := fun er h1 h0 e w' ⟨he, hb⟩ => by
      rw [h1]; exact ⟨zL, he, zl.1, zl.2, fun h => absurd h h0, hb⟩
    by_cases hk : k = 15
    · by_cases hn : (L.length : Int) ≤ n
      · have e1 : (nextL L L.length [⟨k, n⟩]).1 = 110 := by unfold nextL; dsimp only; rw [if_pos (.inr (.inl hn))]
        exact (next_late w h L.length b off c k n hL c1 c2 hk hn 1 rfl).mono fun e w' => fin 110 e1 (by decide) e w'
      · by_cases h0 : 0 ≤ n
        · obtain ⟨m, rfl⟩ : ∃ m : Nat, n = m := ⟨n.toNat, by omega⟩
          obtain ⟨p, hp⟩ : ∃ p, L[m]? = some p := ⟨L[m]'(by omega), by simp⟩
          have hg : L.getD m [] = p := getD_some hp
          have hc : ¬ (k ≠ 15 ∨ (L.length : Int) ≤ (m : Int) ∨ (m : Int) < 0 ∨ (L.length : Int) ≤ (m : Int)) := by omega
          subst hk
          by_cases hd : 64 ≤ p.length
          · have e1 : (nextL L L.length [⟨15, m⟩]).1 = 111 := by unfold nextL; dsimp only; rw [if_neg hc, Int.toNat_natCast, hg, if_pos hd]
            exact (chNext_deep w h L.length b off c m p hL c1 c2 (by omega) hp hd 1 rfl).mono fun e w' => fin 111 e1 (by decide) e w'
          · have e1 : nextL L L.length [⟨15, m⟩] = (0, p ++ [L.length]) := by unfold nextL; dsimp only; rw [if_neg hc, Int.toNat_natCast, hg, if_neg hd]
            refine (chNext_ok w h L.length b off c m p hL c1 c2 (by omega) hp hd 1 rfl).mono ?_
            rintro e w' ⟨rfl, hb⟩
            rw [e1]
            exact ⟨_, rfl, lineC_len (by simp; omega), lineC_one _, fun _ => rfl, hb⟩
        · have e1 : (nextL L L.length [⟨k, n⟩]).1 = 110 := by unfold nextL; dsimp only; rw [if_pos (by omega)]
          exact (next_out w h L.length b off c k n hL c1 c2 hk hn (by simp [hasL, h0]) 1 rfl).mono fun e w' => fin 110 e1 (by decide) e w'
    · have e1 : (nextL L L.length [⟨k, n⟩]).1 = 110 := by unfold nextL; dsimp only; rw [if_pos (.inl hk)]
      exact (next_kind w h L.length b off c k n hL c1 c2 hk 1 rfl).mono fun e w' => fin 110 e1 (by decide) e w'
  · refine (next_many t L.length _ a c (by simp) w).mono ?_
    rintro e w' ⟨rfl, hb⟩
    exact ⟨zL, rfl, zl.1, zl.2, fun h => by simp [nextL] at h, hb⟩
end Go.Proofs.YtkgmfbfpmlnfcaaGreatDoor
