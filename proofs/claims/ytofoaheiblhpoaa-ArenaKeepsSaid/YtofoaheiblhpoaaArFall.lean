/- package arena: fall. -/
import Derived.Test.YtofoaheiblhpoaaArMem
import Derived.BigQuiet
namespace Go.Proofs.Ytofoaheiblhpoaa
open Go.RowKit

theorem HV.drewN {w : World} {p wb hb m mc n nc : Nat} {h ws : List Nat} (k : HV w p wb hb m mc n nc h ws) (q : Nat) : HV (w.drewN q) p wb hb m mc n nc h ws := ⟨k.fld, k.wrow, k.hrow, k.pw, k.ph, k.wh, k.small, k.w64⟩
set_option maxHeartbeats 2000000 in
theorem fall_at (w : World) (p wb hb m mc n nc : Nat) (h ws : List Nat) (k : HV w p wb hb m mc n nc h ws) (i : Nat) (hi : i < n) (hn : n ≤ 2000000) (hall : ∀ j, j < n → h.getD j 0 < m) :
    Calls Try.prog 38 #[.pointer (some ⟨p, 0, none⟩), .slice (some ⟨hb, 0, none⟩) n nc, .int .i64 i] w (RisePost w p wb hb m mc n nc (fallP (h.getD i 0) i h ws)) := by
  obtain ⟨R, hR⟩ : ∃ R, fallP (h.getD i 0) i h ws = R := ⟨_, rfl⟩
  rw [hR]
  obtain ⟨x, hx⟩ : ∃ x, h.getD i 0 = x := ⟨_, rfl⟩
  have hxm := hall i hi
  rw [hx] at hR hxm
  obtain ⟨e1, e2⟩ := k.m_eq
  have c0 := k.hrow.cellAt i (by omega)
  rw [ints_at (by omega), hx] at c0
  have K := Lib.hid k; have HR := Lib.hid hR; have HA := Lib.hid hall
  clear k hR hall hx e1 e2
  go_enter Try.func38, Try.ntmps38
  go_wp2
  go_loopw [2, 7] (fun t2 t7 wr => ∃ (i' : Nat) (h' ws' : List Nat), i' < n ∧ t2 = .int .i64 i' ∧ fallP x i' h' ws' = R ∧ (∀ j, j < n → h'.getD j 0 < m) ∧ HV wr p wb hb m mc n nc h' ws' ∧ Upd (fun b => b = hb ∨ b = wb) w wr) (fun t2 t7 _ => n - (intOf t2).toNat)
  case atStart => exact ⟨i, h, ws, hi, rfl, HR.out, HA.out, K.out, Upd.refl _ _⟩
  case round =>
    obtain ⟨i', h', ws', hi', rfl, hr, ha, hv, hu⟩ := hrel
    have hlen : h'.length = n := hv.m_eq.2
    have HR1 := Lib.hid hr; have HA1 := Lib.hid ha; have HV1 := Lib.hid hv; have HU := Lib.hid hu; have HL := Lib.hid hlen
    have hfold : fallP x i' h' ws' = if leastP i' h' < n ∧ h'.getD (leastP i' h') 0 ≤ x then fallP x (leastP i' h') (h'.set i' (h'.getD (leastP i' h') 0)) (stamp ws' (h'.getD (leastP i' h') 0) i') else (h'.set i' x, stamp ws' x i') := by
      rw [fallP, hlen]; split <;> rfl
    have HF := Lib.hid hfold
    have q3 : IntKind.i64.wrap (2 * (i' : Int) + 1 + 1) = 2 * (i' : Int) + 2 := by rw [IntWalk.i64_in _ ⟨by omega, by omega⟩]; omega
    clear hr ha hv hu hfold hlen
    by_cases h2 : 2 * i' + 2 < n
    · obtain ⟨y1, hy1⟩ : ∃ y, h'.getD (2 * i' + 1) 0 = y := ⟨_, rfl⟩
      have c1 := HV1.out.hrow.cellAt (2 * i' + 1) (by omega)
      rw [ints_at (by have := HL.out; omega), hy1] at c1
      have m1 := HA1.out (2 * i' + 1) (by omega)
      rw [hy1] at m1
      have HY1 := Lib.hid hy1
      clear hy1
      obtain ⟨y2, hy2⟩ : ∃ y, h'.getD (2 * i' + 2) 0 = y := ⟨_, rfl⟩
      have c2 := HV1.out.hrow.cellAt (2 * i' + 2) (by omega)
      rw [ints_at (by have := HL.out; omega), hy2] at c2
      have m2 := HA1.out (2 * i' + 2) (by omega)
      rw [hy2] at m2
      have HY2 := Lib.hid hy2
      clear hy2
      have d1 : decide (2 * (i' : Int) + 2 < (n : Int)) = true := decide_eq_true (by omega)
      by_cases h12 : y2 < y1
      · have d2 : decide ((y2 : Int) < (y1 : Int)) = true := by simpa using h12
        have hlp : leastP i' h' = 2 * i' + 2 := by unfold leastP; rw [if_pos ⟨by have := HL.out; omega, by rw [HY1.out, HY2.out]; exact h12⟩]
        have HLP := Lib.hid hlp
        clear hlp
        have d5 : ¬ (n : Int) ≤ 2 * (i' : Int) + 2 := by omega
        by_cases hg : x < y2
        · have d3 : (x : Int) < y2 := by omega
          have hstop : fallP x i' h' ws' = (h'.set i' x, stamp ws' x i') := by
            rw [HF.out, HLP.out, if_neg (fun q => by have := q.2; rw [HY2.out] at this; omega)]
          have HST := Lib.hid hstop
          clear hstop
          go_wp2
          go_quiet (fail)
          go_wp2_with fail
          refine (put_at _ p wb hb m mc n nc h' ws' (HV1.out.drewN _) i' x hi' hxm hn).mono ?_
          rintro e w2 ⟨rfl, hv2, hu2⟩
          have HV2 := Lib.hid hv2; have HU2 := Lib.hid ((HU.out.drewN _).trans' hu2)
          clear hv2 hu2
          go_wp2
          refine bodyPost_end (v := .tuple #[]) (results_none rfl _ _ _) rfl ⟨rfl, ?_, HU2.out⟩
          rw [← HR1.out, HST.out]; exact HV2.out
        · have d3 : ¬ (x : Int) < y2 := by omega
          have hgo : fallP x i' h' ws' = fallP x (2 * i' + 2) (h'.set i' y2) (stamp ws' y2 i') := by
            rw [HF.out, HLP.out, HY2.out, if_pos ⟨by omega, by omega⟩]
          have HG := Lib.hid hgo
          clear hgo
          go_wp2
          go_quiet (fail)
          go_wp2_with fail
          refine (put_at _ p wb hb m mc n nc h' ws' (HV1.out.drewN _) i' y2 hi' m2 hn).mono ?_
          rintro e w2 ⟨rfl, hv2, hu2⟩
          have HV2 := Lib.hid hv2; have HU2 := Lib.hid ((HU.out.drewN _).trans' hu2)
          clear hv2 hu2
          go_wp2
          go_roundw
          case rel => exact ⟨2 * i' + 2, _, _, by omega, rfl, by rw [← HG.out]; exact HR1.out, fun j hj => by rw [getD_set _ _ _ _ (by have := HL.out; omega)]; split; exact m2; exact HA1.out j hj, HV2.out, HU2.out⟩
          case measure => simp [intOf]; omega
      · have d2 : decide ((y2 : Int) < (y1 : Int)) = false := by simpa using h12
        have hlp : leastP i' h' = 2 * i' + 1 := by unfold leastP; rw [if_neg (fun q => h12 (by have := q.2; rwa [HY1.out, HY2.out] at this))]
        have HLP := Lib.hid hlp
        clear hlp
        have d5 : ¬ (n : Int) ≤ 2 * (i' : Int) + 1 := by omega
        by_cases hg : x < y1
        · have d3 : (x : Int) < y1 := by omega
          have hstop : fallP x i' h' ws' = (h'.set i' x, stamp ws' x i') := by
            rw [HF.out, HLP.out, if_neg (fun q => by have := q.2; rw [HY1.out] at this; omega)]
          have HST := Lib.hid hstop
          clear hstop
          go_wp2
          go_quiet (fail)
          go_wp2_with fail
          refine (put_at _ p wb hb m mc n nc h' ws' (HV1.out.drewN _) i' x hi' hxm hn).mono ?_
          rintro e w2 ⟨rfl, hv2, hu2⟩
          have HV2 := Lib.hid hv2; have HU2 := Lib.hid ((HU.out.drewN _).trans' hu2)
          clear hv2 hu2
          go_wp2
          refine bodyPost_end (v := .tuple #[]) (results_none rfl _ _ _) rfl ⟨rfl, ?_, HU2.out⟩
          rw [← HR1.out, HST.out]; exact HV2.out
        · have d3 : ¬ (x : Int) < y1 := by omega
          have hgo : fallP x i' h' ws' = fallP x (2 * i' + 1) (h'.set i' y1) (stamp ws' y1 i') := by
            rw [HF.out, HLP.out, HY1.out, if_pos ⟨by omega, by omega⟩]
          have HG := Lib.hid hgo
          clear hgo
          go_wp2
          go_quiet (fail)
          go_wp2_with fail
          refine (put_at _ p wb hb m mc n nc h' ws' (HV1.out.drewN _) i' y1 hi' m1 hn).mono ?_
          rintro e w2 ⟨rfl, hv2, hu2⟩
          have HV2 := Lib.hid hv2; have HU2 := Lib.hid ((HU.out.drewN _).trans' hu2)
          clear hv2 hu2
          go_wp2
          go_roundw
          case rel => exact ⟨2 * i' + 1, _, _, by omega, rfl, by rw [← HG.out]; exact HR1.out, fun j hj => by rw [getD_set _ _ _ _ (by have := HL.out; omega)]; split; exact m1; exact HA1.out j hj, HV2.out, HU2.out⟩
          case measure => simp [intOf]; omega
    · have d1 : decide (2 * (i' : Int) + 2 < (n : Int)) = false := decide_eq_false (by omega)
      have hlp : leastP i' h' = 2 * i' + 1 := by unfold leastP; rw [if_neg (fun q => h2 (by have := HL.out; omega))]
      have HLP := Lib.hid hlp
      clear hlp
      by_cases h1 : 2 * i' + 1 < n
      · obtain ⟨y1, hy1⟩ : ∃ y, h'.getD (2 * i' + 1) 0 = y := ⟨_, rfl⟩
        have c1 := HV1.out.hrow.cellAt (2 * i' + 1) (by omega)
        rw [ints_at (by have := HL.out; omega), hy1] at c1
        have m1 := HA1.out (2 * i' + 1) (by omega)
        rw [hy1] at m1
        have HY1 := Lib.hid hy1
        clear hy1
        have d5 : ¬ (n : Int) ≤ 2 * (i' : Int) + 1 := by omega
        by_cases hg : x < y1
        · have d3 : (x : Int) < y1 := by omega
          have hstop : fallP x i' h' ws' = (h'.set i' x, stamp ws' x i') := by
            rw [HF.out, HLP.out, if_neg (fun q => by have := q.2; rw [HY1.out] at this; omega)]
          have HST := Lib.hid hstop
          clear hstop
          go_wp2
          go_quiet (fail)
          go_wp2_with fail
          refine (put_at _ p wb hb m mc n nc h' ws' (HV1.out.drewN _) i' x hi' hxm hn).mono ?_
          rintro e w2 ⟨rfl, hv2, hu2⟩
          have HV2 := Lib.hid hv2; have HU2 := Lib.hid ((HU.out.drewN _).trans' hu2)
          clear hv2 hu2
          go_wp2
          refine bodyPost_end (v := .tuple #[]) (results_none rfl _ _ _) rfl ⟨rfl, ?_, HU2.out⟩
          rw [← HR1.out, HST.out]; exact HV2.out
        · have d3 : ¬ (x : Int) < y1 := by omega
          have hgo : fallP x i' h' ws' = fallP x (2 * i' + 1) (h'.set i' y1) (stamp ws' y1 i') := by
            rw [HF.out, HLP.out, HY1.out, if_pos ⟨by omega, by omega⟩]
          have HG := Lib.hid hgo
          clear hgo
          go_wp2
          go_quiet (fail)
          go_wp2_with fail
          refine (put_at _ p wb hb m mc n nc h' ws' (HV1.out.drewN _) i' y1 hi' m1 hn).mono ?_
          rintro e w2 ⟨rfl, hv2, hu2⟩
          have HV2 := Lib.hid hv2; have HU2 := Lib.hid ((HU.out.drewN _).trans' hu2)
          clear hv2 hu2
          go_wp2
          go_roundw
          case rel => exact ⟨2 * i' + 1, _, _, by omega, rfl, by rw [← HG.out]; exact HR1.out, fun j hj => by rw [getD_set _ _ _ _ (by have := HL.out; omega)]; split; exact m1; exact HA1.out j hj, HV2.out, HU2.out⟩
          case measure => simp [intOf]; omega
      · have d5 : (n : Int) ≤ 2 * (i' : Int) + 1 := by omega
        have hstop : fallP x i' h' ws' = (h'.set i' x, stamp ws' x i') := by
          rw [HF.out, HLP.out, if_neg (fun q => by omega)]
        have HST := Lib.hid hstop
        clear hstop
        go_wp2
        go_quiet (fail)
        go_wp2_with fail
        refine (put_at _ p wb hb m mc n nc h' ws' (HV1.out.drewN _) i' x hi' hxm hn).mono ?_
        rintro e w2 ⟨rfl, hv2, hu2⟩
        have HV2 := Lib.hid hv2; have HU2 := Lib.hid ((HU.out.drewN _).trans' hu2)
        clear hv2 hu2
        go_wp2
        refine bodyPost_end (v := .tuple #[]) (results_none rfl _ _ _) rfl ⟨rfl, ?_, HU2.out⟩
        rw [← HR1.out, HST.out]; exact HV2.out
end Go.Proofs.Ytofoaheiblhpoaa
