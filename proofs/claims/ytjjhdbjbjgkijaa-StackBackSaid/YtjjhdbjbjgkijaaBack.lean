/- Layer 14 (stack): StackBack, the ways through. -/
import Derived.Test.YtjjhdbjbjgkijaaBackA
namespace Go.Proofs.Ytjjhdbjbjgkijaa
open Go.RowKit Go.Maps Go.WideMaps
set_option maxRecDepth 100000 in
set_option maxHeartbeats 16000000 in
theorem back_fits (below l az dead : List Vl) (a b c d : Value) (w : World) (ha : ValsAt w a below) (hb : ValsAt w b l) (hc : ValsAt w c az) (hd : ValsAt w d dead) (la : below.length ≤ 20) (lb : l.length ≤ 20) (lc : az.length ≤ 20) (ld : dead.length ≤ 20) (hl : l.length = az.length) (hf : valsB l az = true) :
    Calls Try.prog 6 #[a, b, c, d] w (LawPost w) := by
  obtain ⟨ao, ca, rfl⟩ := ha.form
  obtain ⟨bo, cb, rfl⟩ := hb.form
  obtain ⟨co, cc, rfl⟩ := hc.form
  obtain ⟨dq, cd, rfl⟩ := hd.form
  have HA := Lib.hid ha; have HB := Lib.hid hb; have HC := Lib.hid hc; have HD := Lib.hid hd
  clear ha hb hc hd
  have i1 : ¬ (20 : Int) < below.length := by omega
  have i2 : ¬ (20 : Int) < l.length := by omega
  have i3 : ¬ (20 : Int) < az.length := by omega
  have i4 : ¬ (20 : Int) < dead.length := by omega
  have bm : below.length ≤ 1000000 := by omega
  have lm : l.length ≤ 1000000 := by omega
  have am : az.length ≤ 1000000 := by omega
  have dm : dead.length ≤ 1000000 := by omega
  obtain ⟨erd, hdr1, hdr2⟩ := takeR_dead2 (Nat.le_refl below.length) dead.reverse
  have HDR := Lib.hid (show takeR (topF [(⟨2, [], dead, below.length, true, false⟩ : Frm)]).1 (topF [(⟨2, [], dead, below.length, true, false⟩ : Frm)]).2 dead.reverse below = (erd, below) ∧ (erd = 0 ∨ erd = 141 ∧ ∃ x ∈ dead, properB x = false) from ⟨hdr1, hdr2.imp id fun ⟨p, x, hx, q⟩ => ⟨p, x, by simpa using hx, q⟩⟩)
  clear hdr1 hdr2
  have ie : ((l.length : Int) == (az.length : Int)) = true := by simp [hl]
  have ie2 : ((l.length : Int) != (az.length : Int)) = false := by simp [hl]
  have HF := Lib.hid hf; have HL := Lib.hid hl
  have HTK := Lib.hid (show takeR (topF []).1 (topF []).2 az.reverse (below ++ l) = (0, below) from take_fits 0 false below l az (Nat.zero_le _) hf)
  have HPR := Lib.hid (valsB_self (fun y hy => takeR_proper 0 az.reverse (below ++ l) below HTK.out y (by simpa using hy)))
  clear hf hl
  go_enter Try.func6, Try.ntmps6
  go_wp2_with fail
  refine (known_any _).mono ?_
  rintro e w1 ⟨rfl, hb1⟩
  go_wp2_with fail
  refine (rollNew_any _).mono ?_
  rintro e w2 ⟨T, rfl, _, ht, hb2⟩
  have hb12 := hb1.trans (hb2.mono hb1.size)
  go_wp2_with fail
  refine (new_sys w w2 T ht hb12).mono ?_
  rintro e w3 ⟨M, S3, rfl, h3⟩
  go_wp2_with fail
  refine (push_sys h3 _ below (h3.old HA.out).1 (by simp) bm).mono ?_
  rintro e w4 ⟨rfl, S4, h4, _, _⟩
  rw [List.nil_append] at h4
  go_wp2_with fail
  refine (vals_tab T _ _ l az _ (h4.old HB.out).1 (h4.old HC.out).1 lm am h4.tab).mono ?_
  rintro e w5 ⟨rfl, hb5⟩
  rw [HF.out]
  have h5 := h4.ext hb5
  go_wp2_with fail
  refine (push_sys h5 _ l (h5.old HB.out).1 bm lm).mono ?_
  rintro e w6 ⟨rfl, S6, h6, _, _⟩
  go_wp2_with fail
  refine (take_sys h6 _ az (h6.old HC.out).1 (h6.old HC.out).2 am (by simp; omega) (by simp) (by simp) 0 below HTK.out).mono ?_
  rintro e w7 ⟨rfl, S7, h7, _, _⟩
  go_wp2_with fail
  refine (height_at _ _ M T below [] [] h7.mach).mono ?_
  rintro e w' ⟨rfl, rfl⟩
  go_wp2_with fail
  refine (topH_sys h7 bm).mono ?_
  rintro e w8 ⟨tao, tcap, rfl, tv, hb8⟩
  have h8 := h7.ext hb8
  go_wp2_with fail
  refine (same_below _ _ below _ tv (h8.old HA.out).1 bm).mono ?_
  rintro e w9 ⟨rfl, hb9'⟩
  have hq := h8.ext hb9'
  obtain ⟨vs1, hvs⟩ : ∃ v, v = below := ⟨_, rfl⟩
  have HTK2 := Lib.hid (show takeR (topF []).1 (topF []).2 az.reverse (below ++ l) = (0, vs1) by rw [hvs]; exact HTK.out)
  clear HTK
  have HTK := HTK2
  clear HTK2
  have bv1 : vs1.length ≤ 20 := by rw [hvs]; exact la
  clear hvs tv h3 h4 h5 h6 h7 h8 hb8 hb9' hb5
  go_wp2_with fail
  refine (new_sys w _ T hq.tab hq.below).mono ?_
  rintro e y3 ⟨M2, R3, rfl, q0⟩
  go_wp2_with fail
  refine (push_sys q0 _ below (q0.old HA.out).1 (by simp) bm).mono ?_
  rintro e y4 ⟨rfl, R4, q1, _, _⟩
  rw [List.nil_append] at q1
  go_wp2_with fail
  refine (push_sys q1 _ l (q1.old HB.out).1 bm lm).mono ?_
  rintro e y5 ⟨rfl, R5, q2, _, _⟩
  go_wp2_with fail
  refine (open_sys q2 3 _ _ az l (q2.old HC.out).1 (q2.old HB.out).1 (q2.old HC.out).2 (q2.old HB.out).2 am lm (by simp; omega) (by simp) (by simp) vs1 HTK.out).mono ?_
  rintro e y6 ⟨rfl, R6, q3, _, _⟩
  go_wp2_with fail
  refine (height_at _ _ M2 T _ _ [] q3.mach).mono ?_
  rintro e w' ⟨rfl, rfl⟩
  rw [List.length_append]
  go_wp2_with fail
  refine (take_sys q3 _ az (q3.old HC.out).1 (q3.old HC.out).2 am (by simp; omega) (by simp) (by simp; omega) 0 vs1 (take_fits vs1.length false vs1 az az (Nat.le_refl _) HPR.out)).mono ?_
  rintro e y7 ⟨rfl, R7, q4, _, _⟩
  go_wp2_with fail
  refine (push_sys q4 _ l (q4.old HB.out).1 (by omega) lm).mono ?_
  rintro e y8 ⟨rfl, R8, q5, _, _⟩
  go_wp2_with fail
  refine (vals_tab T _ _ l l _ (q5.old HB.out).1 (q5.old HB.out).1 lm lm q5.tab).mono ?_
  rintro e y9 ⟨rfl, hb9⟩
  have q6 := q5.ext hb9
  rcases hcb : valsB l l with _ | _
  · obtain ⟨vs3, ht3⟩ := take_unfit vs1.length false vs1 l l (Nat.le_refl _) rfl hcb
    have HT3 := Lib.hid ht3
    clear ht3 hcb
    go_wp2_with fail
    refine (closeerr_sys (fs := []) (f := ⟨3, az, l, vs1.length, false, false⟩) q6 rfl lm (by simp; omega) (by simp) (by simp; omega) vs3 141 HT3.out (by decide)).mono ?_
    rintro e y10 ⟨rfl, R10, q7, _, _⟩
    have hz := q7
    clear q0 q1 q2 q3 q4 q5 q6 q7 hb9
    go_wp2_with fail
    refine (new_sys w _ T hz.tab hz.below).mono ?_
    rintro e v3 ⟨M3, S3, rfl, m0⟩
    go_wp2_with fail
    refine (push_sys m0 _ below (m0.old HA.out).1 (by simp) bm).mono ?_
    rintro e v4 ⟨rfl, S4, m1, _, _⟩
    rw [List.nil_append] at m1
    go_wp2_with fail
    refine (open_sys m1 2 (.slice none 0 0) _ [] dead (.inl ⟨rfl, rfl⟩) (m1.old HD.out).1 (fun h => by simp at h) (m1.old HD.out).2 (by simp) dm bm (by simp) (by simp) below rfl).mono ?_
    rintro e v5 ⟨rfl, S5, m2, _, _⟩
    rw [List.append_nil] at m2
    go_wp2_with fail
    refine (die_sys (fs := []) (f := ⟨2, [], dead, below.length, false, false⟩) m2 (Nat.le_refl _) bm (by simp)).mono ?_
    rintro e v6 ⟨rfl, S6, m3, _, _⟩
    rw [List.take_of_length_le (Nat.le_refl _)] at m3
    have HTD := Lib.hid HDR.out.1
    have M6 := Lib.hid m3
    clear m0 m1 m2 m3
    rcases HDR.out.2 with rfl | ⟨rfl, hun⟩
    · go_wp2
      go_loopw [20] (fun t20 wr => ∃ i : Nat, i ≤ 3 ∧ t20 = .int .i64 i ∧ ∃ S, Sys S w wr M3 T below ([] ++ [⟨2, [], dead, below.length, true, false⟩]) []) (fun t20 _ => 3 - (intOf t20).toNat)
      case atStart => exact ⟨0, by omega, rfl, S6, M6.out⟩
      case round =>
        obtain ⟨i, hi, rfl, SR, hr⟩ := hrel
        have HR := Lib.hid hr
        clear hr
        by_cases hlt : i < 3
        · have hlti : (i : Int) < 3 := by omega
          go_wp2_with fail
          refine (take_sys HR.out _ dead (HR.out.old HD.out).1 (HR.out.old HD.out).2 dm bm (by simp) (by simp; omega) 0 below HTD.out).mono ?_
          rintro e wt ⟨rfl, St, ht, _, _⟩
          have HT2 := Lib.hid ht
          clear ht
          go_wp2
          go_roundw
          case rel => exact ⟨i + 1, by omega, by go_num, St, HT2.out⟩
          case measure => simp [intOf]; omega
        · have hlti : ¬ (i : Int) < 3 := by omega
          go_wp2_with fail
          refine (close_sys (fs := []) (f := ⟨2, [], dead, below.length, true, false⟩) HR.out rfl dm bm (by simp) (by simp; omega) below HTD.out (Nat.le_refl _)).mono ?_
          rintro e wc ⟨pv, rv, rfl, hpv, hrv, Sc, hcl, _, _⟩
          obtain ⟨pao, pcap, rfl⟩ := hpv.form
          obtain ⟨rao, rcap, rfl⟩ := hrv.form
          clear hpv hrv
          go_wp2_with fail
          refine (height_at _ _ M3 T below [] [] hcl.mach).mono ?_
          rintro e w' ⟨rfl, rfl⟩
          go_wp2_with fail
          refine (topH_sys hcl bm).mono ?_
          rintro e wt ⟨tao, tcap, rfl, tv, hbt⟩
          have hct := hcl.ext hbt
          go_wp2_with fail
          refine (same_below _ _ below _ tv (hct.old HA.out).1 bm).mono ?_
          rintro e wu ⟨rfl, hbu⟩
          have hcu := hct.ext hbu
          go_wp2
          go_ret
          exact ⟨rfl, hcu.below⟩
    · have HUN := Lib.hid (valsB_unself hun)
      clear hun
      have m6 := M6.out
      go_wp2
      refine wp_loop_rounds 1 ?_
      rw [rounds_succ]
      go_wp2_with fail
      refine (take_sys m6 _ dead (m6.old HD.out).1 (m6.old HD.out).2 dm bm (by simp) (by simp; omega) 141 below HTD.out).mono ?_
      rintro e wt ⟨rfl, St, ht, _, _⟩
      go_wp2_with fail
      refine (vals_tab T _ _ dead dead _ (ht.old HD.out).1 (ht.old HD.out).1 dm dm ht.tab).mono ?_
      rintro e wu ⟨rfl, hbu⟩
      rw [HUN.out]
      have hu := ht.ext hbu
      go_wp2
      go_ret
      exact ⟨rfl, hu.below⟩
  · have HCB := Lib.hid hcb
    clear hcb
    go_wp2_with fail
    refine (close_sys (fs := []) (f := ⟨3, az, l, vs1.length, false, false⟩) q6 rfl lm (by simp; omega) (by simp) (by simp; omega) vs1 (take_fits vs1.length false vs1 l l (Nat.le_refl _) HCB.out) (Nat.le_refl _)).mono ?_
    rintro e y10 ⟨pv, rv, rfl, hpv, hrv, R10, q7, _, _⟩
    obtain ⟨pao, pcap, rfl⟩ := hpv.form
    obtain ⟨rao, rcap, rfl⟩ := hrv.form
    have HPV := Lib.hid hpv; have HRV := Lib.hid hrv
    clear hpv hrv q0 q1 q2 q3 q4 q5 q6
    go_wp2_with fail
    refine (same_below _ _ az _ HPV.out (q7.old HC.out).1 am).mono ?_
    rintro e y11 ⟨rfl, hb11⟩
    have q8 := q7.ext hb11
    have HRV2 := Lib.hid (HRV.out.below hb11)
    go_wp2_with fail
    refine (same_below _ _ l _ HRV2.out (q8.old HB.out).1 lm).mono ?_
    rintro e y12 ⟨rfl, hb12⟩
    have q9 := q8.ext hb12
    go_wp2_with fail
    refine (height_at _ _ M2 T _ _ [] q9.mach).mono ?_
    rintro e w' ⟨rfl, rfl⟩
    go_wp2_with fail
    refine (frames_at _ _ M2 T _ _ [] q9.mach).mono ?_
    rintro e w' ⟨rfl, rfl⟩
    have hz := q9
    clear q7 q8 q9 hb9 hb11 hb12
    go_wp2_with fail
    refine (new_sys w _ T hz.tab hz.below).mono ?_
    rintro e v3 ⟨M3, S3, rfl, m0⟩
    go_wp2_with fail
    refine (push_sys m0 _ below (m0.old HA.out).1 (by simp) bm).mono ?_
    rintro e v4 ⟨rfl, S4, m1, _, _⟩
    rw [List.nil_append] at m1
    go_wp2_with fail
    refine (open_sys m1 2 (.slice none 0 0) _ [] dead (.inl ⟨rfl, rfl⟩) (m1.old HD.out).1 (fun h => by simp at h) (m1.old HD.out).2 (by simp) dm bm (by simp) (by simp) below rfl).mono ?_
    rintro e v5 ⟨rfl, S5, m2, _, _⟩
    rw [List.append_nil] at m2
    go_wp2_with fail
    refine (die_sys (fs := []) (f := ⟨2, [], dead, below.length, false, false⟩) m2 (Nat.le_refl _) bm (by simp)).mono ?_
    rintro e v6 ⟨rfl, S6, m3, _, _⟩
    rw [List.take_of_length_le (Nat.le_refl _)] at m3
    have HTD := Lib.hid HDR.out.1
    have M6 := Lib.hid m3
    clear m0 m1 m2 m3
    rcases HDR.out.2 with rfl | ⟨rfl, hun⟩
    · go_wp2
      go_loopw [20] (fun t20 wr => ∃ i : Nat, i ≤ 3 ∧ t20 = .int .i64 i ∧ ∃ S, Sys S w wr M3 T below ([] ++ [⟨2, [], dead, below.length, true, false⟩]) []) (fun t20 _ => 3 - (intOf t20).toNat)
      case atStart => exact ⟨0, by omega, rfl, S6, M6.out⟩
      case round =>
        obtain ⟨i, hi, rfl, SR, hr⟩ := hrel
        have HR := Lib.hid hr
        clear hr
        by_cases hlt : i < 3
        · have hlti : (i : Int) < 3 := by omega
          go_wp2_with fail
          refine (take_sys HR.out _ dead (HR.out.old HD.out).1 (HR.out.old HD.out).2 dm bm (by simp) (by simp; omega) 0 below HTD.out).mono ?_
          rintro e wt ⟨rfl, St, ht, _, _⟩
          have HT2 := Lib.hid ht
          clear ht
          go_wp2
          go_roundw
          case rel => exact ⟨i + 1, by omega, by go_num, St, HT2.out⟩
          case measure => simp [intOf]; omega
        · have hlti : ¬ (i : Int) < 3 := by omega
          go_wp2_with fail
          refine (close_sys (fs := []) (f := ⟨2, [], dead, below.length, true, false⟩) HR.out rfl dm bm (by simp) (by simp; omega) below HTD.out (Nat.le_refl _)).mono ?_
          rintro e wc ⟨pv, rv, rfl, hpv, hrv, Sc, hcl, _, _⟩
          obtain ⟨pao, pcap, rfl⟩ := hpv.form
          obtain ⟨rao, rcap, rfl⟩ := hrv.form
          clear hpv hrv
          go_wp2_with fail
          refine (height_at _ _ M3 T below [] [] hcl.mach).mono ?_
          rintro e w' ⟨rfl, rfl⟩
          go_wp2_with fail
          refine (topH_sys hcl bm).mono ?_
          rintro e wt ⟨tao, tcap, rfl, tv, hbt⟩
          have hct := hcl.ext hbt
          go_wp2_with fail
          refine (same_below _ _ below _ tv (hct.old HA.out).1 bm).mono ?_
          rintro e wu ⟨rfl, hbu⟩
          have hcu := hct.ext hbu
          go_wp2
          go_ret
          exact ⟨rfl, hcu.below⟩
    · have HUN := Lib.hid (valsB_unself hun)
      clear hun
      have m6 := M6.out
      go_wp2
      refine wp_loop_rounds 1 ?_
      rw [rounds_succ]
      go_wp2_with fail
      refine (take_sys m6 _ dead (m6.old HD.out).1 (m6.old HD.out).2 dm bm (by simp) (by simp; omega) 141 below HTD.out).mono ?_
      rintro e wt ⟨rfl, St, ht, _, _⟩
      go_wp2_with fail
      refine (vals_tab T _ _ dead dead _ (ht.old HD.out).1 (ht.old HD.out).1 dm dm ht.tab).mono ?_
      rintro e wu ⟨rfl, hbu⟩
      rw [HUN.out]
      have hu := ht.ext hbu
      go_wp2
      go_ret
      exact ⟨rfl, hu.below⟩
set_option maxRecDepth 100000 in
set_option maxHeartbeats 16000000 in
theorem back_neq0 (below l az dead : List Vl) (a b c d : Value) (w : World) (ha : ValsAt w a below) (hb : ValsAt w b l) (hc : ValsAt w c az) (hd : ValsAt w d dead) (la : below.length ≤ 20) (lb : l.length ≤ 20) (lc : az.length ≤ 20) (ld : dead.length ≤ 20) (hl : l.length ≠ az.length) (vs1 : List Vl) (htk : takeR 0 false az.reverse (below ++ l) = (0, vs1)) :
    Calls Try.prog 6 #[a, b, c, d] w (LawPost w) := by
  obtain ⟨ao, ca, rfl⟩ := ha.form
  obtain ⟨bo, cb, rfl⟩ := hb.form
  obtain ⟨co, cc, rfl⟩ := hc.form
  obtain ⟨dq, cd, rfl⟩ := hd.form
  have HA := Lib.hid ha; have HB := Lib.hid hb; have HC := Lib.hid hc; have HD := Lib.hid hd
  clear ha hb hc hd
  have i1 : ¬ (20 : Int) < below.length := by omega
  have i2 : ¬ (20 : Int) < l.length := by omega
  have i3 : ¬ (20 : Int) < az.length := by omega
  have i4 : ¬ (20 : Int) < dead.length := by omega
  have bm : below.length ≤ 1000000 := by omega
  have lm : l.length ≤ 1000000 := by omega
  have am : az.length ≤ 1000000 := by omega
  have dm : dead.length ≤ 1000000 := by omega
  obtain ⟨erd, hdr1, hdr2⟩ := takeR_dead2 (Nat.le_refl below.length) dead.reverse
  have HDR := Lib.hid (show takeR (topF [(⟨2, [], dead, below.length, true, false⟩ : Frm)]).1 (topF [(⟨2, [], dead, below.length, true, false⟩ : Frm)]).2 dead.reverse below = (erd, below) ∧ (erd = 0 ∨ erd = 141 ∧ ∃ x ∈ dead, properB x = false) from ⟨hdr1, hdr2.imp id fun ⟨p, x, hx, q⟩ => ⟨p, x, by simpa using hx, q⟩⟩)
  clear hdr1 hdr2
  have ie : ((l.length : Int) == (az.length : Int)) = false := by simp; omega
  have ie2 : ((l.length : Int) != (az.length : Int)) = true := by simp; omega
  have HTK := Lib.hid (show takeR (topF []).1 (topF []).2 az.reverse (below ++ l) = (0, vs1) from htk)
  have bv1 : vs1.length ≤ 40 := by have := takeR_len 0 false az.reverse (below ++ l); rw [htk] at this; simp at this; omega
  have HPR := Lib.hid (valsB_self (fun y hy => takeR_proper 0 az.reverse (below ++ l) vs1 htk y (by simpa using hy)))
  clear htk hl
  go_enter Try.func6, Try.ntmps6
  go_wp2_with fail
  refine (known_any _).mono ?_
  rintro e w1 ⟨rfl, hb1⟩
  go_wp2_with fail
  refine (rollNew_any _).mono ?_
  rintro e w2 ⟨T, rfl, _, ht, hb2⟩
  have hb12 := hb1.trans (hb2.mono hb1.size)
  go_wp2_with fail
  refine (new_sys w w2 T ht hb12).mono ?_
  rintro e w3 ⟨M, S3, rfl, h3⟩
  go_wp2_with fail
  refine (push_sys h3 _ below (h3.old HA.out).1 (by simp) bm).mono ?_
  rintro e w4 ⟨rfl, S4, h4, _, _⟩
  rw [List.nil_append] at h4
  go_wp2_with fail
  refine (push_sys h4 _ l (h4.old HB.out).1 bm lm).mono ?_
  rintro e w6 ⟨rfl, S6, h6, _, _⟩
  go_wp2_with fail
  refine (take_sys h6 _ az (h6.old HC.out).1 (h6.old HC.out).2 am (by simp; omega) (by simp) (by simp) 0 vs1 HTK.out).mono ?_
  rintro e w7 ⟨rfl, S7, hq, _, _⟩
  clear h3 h4 h6
  go_wp2_with fail
  refine (new_sys w _ T hq.tab hq.below).mono ?_
  rintro e y3 ⟨M2, R3, rfl, q0⟩
  go_wp2_with fail
  refine (push_sys q0 _ below (q0.old HA.out).1 (by simp) bm).mono ?_
  rintro e y4 ⟨rfl, R4, q1, _, _⟩
  rw [List.nil_append] at q1
  go_wp2_with fail
  refine (push_sys q1 _ l (q1.old HB.out).1 bm lm).mono ?_
  rintro e y5 ⟨rfl, R5, q2, _, _⟩
  go_wp2_with fail
  refine (open_sys q2 3 _ _ az l (q2.old HC.out).1 (q2.old HB.out).1 (q2.old HC.out).2 (q2.old HB.out).2 am lm (by simp; omega) (by simp) (by simp) vs1 HTK.out).mono ?_
  rintro e y6 ⟨rfl, R6, q3, _, _⟩
  go_wp2_with fail
  refine (height_at _ _ M2 T _ _ [] q3.mach).mono ?_
  rintro e w' ⟨rfl, rfl⟩
  rw [List.length_append]
  go_wp2_with fail
  refine (take_sys q3 _ az (q3.old HC.out).1 (q3.old HC.out).2 am (by simp; omega) (by simp) (by simp; omega) 0 vs1 (take_fits vs1.length false vs1 az az (Nat.le_refl _) HPR.out)).mono ?_
  rintro e y7 ⟨rfl, R7, q4, _, _⟩
  go_wp2_with fail
  refine (push_sys q4 _ l (q4.old HB.out).1 (by omega) lm).mono ?_
  rintro e y8 ⟨rfl, R8, q5, _, _⟩
  go_wp2_with fail
  refine (vals_tab T _ _ l l _ (q5.old HB.out).1 (q5.old HB.out).1 lm lm q5.tab).mono ?_
  rintro e y9 ⟨rfl, hb9⟩
  have q6 := q5.ext hb9
  rcases hcb : valsB l l with _ | _
  · obtain ⟨vs3, ht3⟩ := take_unfit vs1.length false vs1 l l (Nat.le_refl _) rfl hcb
    have HT3 := Lib.hid ht3
    clear ht3 hcb
    go_wp2_with fail
    refine (closeerr_sys (fs := []) (f := ⟨3, az, l, vs1.length, false, false⟩) q6 rfl lm (by simp; omega) (by simp) (by simp; omega) vs3 141 HT3.out (by decide)).mono ?_
    rintro e y10 ⟨rfl, R10, q7, _, _⟩
    have hz := q7
    clear q0 q1 q2 q3 q4 q5 q6 q7 hb9
    go_wp2_with fail
    refine (new_sys w _ T hz.tab hz.below).mono ?_
    rintro e v3 ⟨M3, S3, rfl, m0⟩
    go_wp2_with fail
    refine (push_sys m0 _ below (m0.old HA.out).1 (by simp) bm).mono ?_
    rintro e v4 ⟨rfl, S4, m1, _, _⟩
    rw [List.nil_append] at m1
    go_wp2_with fail
    refine (open_sys m1 2 (.slice none 0 0) _ [] dead (.inl ⟨rfl, rfl⟩) (m1.old HD.out).1 (fun h => by simp at h) (m1.old HD.out).2 (by simp) dm bm (by simp) (by simp) below rfl).mono ?_
    rintro e v5 ⟨rfl, S5, m2, _, _⟩
    rw [List.append_nil] at m2
    go_wp2_with fail
    refine (die_sys (fs := []) (f := ⟨2, [], dead, below.length, false, false⟩) m2 (Nat.le_refl _) bm (by simp)).mono ?_
    rintro e v6 ⟨rfl, S6, m3, _, _⟩
    rw [List.take_of_length_le (Nat.le_refl _)] at m3
    have HTD := Lib.hid HDR.out.1
    have M6 := Lib.hid m3
    clear m0 m1 m2 m3
    rcases HDR.out.2 with rfl | ⟨rfl, hun⟩
    · go_wp2
      go_loopw [20] (fun t20 wr => ∃ i : Nat, i ≤ 3 ∧ t20 = .int .i64 i ∧ ∃ S, Sys S w wr M3 T below ([] ++ [⟨2, [], dead, below.length, true, false⟩]) []) (fun t20 _ => 3 - (intOf t20).toNat)
      case atStart => exact ⟨0, by omega, rfl, S6, M6.out⟩
      case round =>
        obtain ⟨i, hi, rfl, SR, hr⟩ := hrel
        have HR := Lib.hid hr
        clear hr
        by_cases hlt : i < 3
        · have hlti : (i : Int) < 3 := by omega
          go_wp2_with fail
          refine (take_sys HR.out _ dead (HR.out.old HD.out).1 (HR.out.old HD.out).2 dm bm (by simp) (by simp; omega) 0 below HTD.out).mono ?_
          rintro e wt ⟨rfl, St, ht, _, _⟩
          have HT2 := Lib.hid ht
          clear ht
          go_wp2
          go_roundw
          case rel => exact ⟨i + 1, by omega, by go_num, St, HT2.out⟩
          case measure => simp [intOf]; omega
        · have hlti : ¬ (i : Int) < 3 := by omega
          go_wp2_with fail
          refine (close_sys (fs := []) (f := ⟨2, [], dead, below.length, true, false⟩) HR.out rfl dm bm (by simp) (by simp; omega) below HTD.out (Nat.le_refl _)).mono ?_
          rintro e wc ⟨pv, rv, rfl, hpv, hrv, Sc, hcl, _, _⟩
          obtain ⟨pao, pcap, rfl⟩ := hpv.form
          obtain ⟨rao, rcap, rfl⟩ := hrv.form
          clear hpv hrv
          go_wp2_with fail
          refine (height_at _ _ M3 T below [] [] hcl.mach).mono ?_
          rintro e w' ⟨rfl, rfl⟩
          go_wp2_with fail
          refine (topH_sys hcl bm).mono ?_
          rintro e wt ⟨tao, tcap, rfl, tv, hbt⟩
          have hct := hcl.ext hbt
          go_wp2_with fail
          refine (same_below _ _ below _ tv (hct.old HA.out).1 bm).mono ?_
          rintro e wu ⟨rfl, hbu⟩
          have hcu := hct.ext hbu
          go_wp2
          go_ret
          exact ⟨rfl, hcu.below⟩
    · have HUN := Lib.hid (valsB_unself hun)
      clear hun
      have m6 := M6.out
      go_wp2
      refine wp_loop_rounds 1 ?_
      rw [rounds_succ]
      go_wp2_with fail
      refine (take_sys m6 _ dead (m6.old HD.out).1 (m6.old HD.out).2 dm bm (by simp) (by simp; omega) 141 below HTD.out).mono ?_
      rintro e wt ⟨rfl, St, ht, _, _⟩
      go_wp2_with fail
      refine (vals_tab T _ _ dead dead _ (ht.old HD.out).1 (ht.old HD.out).1 dm dm ht.tab).mono ?_
      rintro e wu ⟨rfl, hbu⟩
      rw [HUN.out]
      have hu := ht.ext hbu
      go_wp2
      go_ret
      exact ⟨rfl, hu.below⟩
  · have HCB := Lib.hid hcb
    clear hcb
    go_wp2_with fail
    refine (close_sys (fs := []) (f := ⟨3, az, l, vs1.length, false, false⟩) q6 rfl lm (by simp; omega) (by simp) (by simp; omega) vs1 (take_fits vs1.length false vs1 l l (Nat.le_refl _) HCB.out) (Nat.le_refl _)).mono ?_
    rintro e y10 ⟨pv, rv, rfl, hpv, hrv, R10, q7, _, _⟩
    obtain ⟨pao, pcap, rfl⟩ := hpv.form
    obtain ⟨rao, rcap, rfl⟩ := hrv.form
    have HPV := Lib.hid hpv; have HRV := Lib.hid hrv
    clear hpv hrv q0 q1 q2 q3 q4 q5 q6
    go_wp2_with fail
    refine (same_below _ _ az _ HPV.out (q7.old HC.out).1 am).mono ?_
    rintro e y11 ⟨rfl, hb11⟩
    have q8 := q7.ext hb11
    have HRV2 := Lib.hid (HRV.out.below hb11)
    go_wp2_with fail
    refine (same_below _ _ l _ HRV2.out (q8.old HB.out).1 lm).mono ?_
    rintro e y12 ⟨rfl, hb12⟩
    have q9 := q8.ext hb12
    go_wp2_with fail
    refine (height_at _ _ M2 T _ _ [] q9.mach).mono ?_
    rintro e w' ⟨rfl, rfl⟩
    go_wp2_with fail
    refine (frames_at _ _ M2 T _ _ [] q9.mach).mono ?_
    rintro e w' ⟨rfl, rfl⟩
    have hz := q9
    clear q7 q8 q9 hb9 hb11 hb12
    go_wp2_with fail
    refine (new_sys w _ T hz.tab hz.below).mono ?_
    rintro e v3 ⟨M3, S3, rfl, m0⟩
    go_wp2_with fail
    refine (push_sys m0 _ below (m0.old HA.out).1 (by simp) bm).mono ?_
    rintro e v4 ⟨rfl, S4, m1, _, _⟩
    rw [List.nil_append] at m1
    go_wp2_with fail
    refine (open_sys m1 2 (.slice none 0 0) _ [] dead (.inl ⟨rfl, rfl⟩) (m1.old HD.out).1 (fun h => by simp at h) (m1.old HD.out).2 (by simp) dm bm (by simp) (by simp) below rfl).mono ?_
    rintro e v5 ⟨rfl, S5, m2, _, _⟩
    rw [List.append_nil] at m2
    go_wp2_with fail
    refine (die_sys (fs := []) (f := ⟨2, [], dead, below.length, false, false⟩) m2 (Nat.le_refl _) bm (by simp)).mono ?_
    rintro e v6 ⟨rfl, S6, m3, _, _⟩
    rw [List.take_of_length_le (Nat.le_refl _)] at m3
    have HTD := Lib.hid HDR.out.1
    have M6 := Lib.hid m3
    clear m0 m1 m2 m3
    rcases HDR.out.2 with rfl | ⟨rfl, hun⟩
    · go_wp2
      go_loopw [20] (fun t20 wr => ∃ i : Nat, i ≤ 3 ∧ t20 = .int .i64 i ∧ ∃ S, Sys S w wr M3 T below ([] ++ [⟨2, [], dead, below.length, true, false⟩]) []) (fun t20 _ => 3 - (intOf t20).toNat)
      case atStart => exact ⟨0, by omega, rfl, S6, M6.out⟩
      case round =>
        obtain ⟨i, hi, rfl, SR, hr⟩ := hrel
        have HR := Lib.hid hr
        clear hr
        by_cases hlt : i < 3
        · have hlti : (i : Int) < 3 := by omega
          go_wp2_with fail
          refine (take_sys HR.out _ dead (HR.out.old HD.out).1 (HR.out.old HD.out).2 dm bm (by simp) (by simp; omega) 0 below HTD.out).mono ?_
          rintro e wt ⟨rfl, St, ht, _, _⟩
          have HT2 := Lib.hid ht
          clear ht
          go_wp2
          go_roundw
          case rel => exact ⟨i + 1, by omega, by go_num, St, HT2.out⟩
          case measure => simp [intOf]; omega
        · have hlti : ¬ (i : Int) < 3 := by omega
          go_wp2_with fail
          refine (close_sys (fs := []) (f := ⟨2, [], dead, below.length, true, false⟩) HR.out rfl dm bm (by simp) (by simp; omega) below HTD.out (Nat.le_refl _)).mono ?_
          rintro e wc ⟨pv, rv, rfl, hpv, hrv, Sc, hcl, _, _⟩
          obtain ⟨pao, pcap, rfl⟩ := hpv.form
          obtain ⟨rao, rcap, rfl⟩ := hrv.form
          clear hpv hrv
          go_wp2_with fail
          refine (height_at _ _ M3 T below [] [] hcl.mach).mono ?_
          rintro e w' ⟨rfl, rfl⟩
          go_wp2_with fail
          refine (topH_sys hcl bm).mono ?_
          rintro e wt ⟨tao, tcap, rfl, tv, hbt⟩
          have hct := hcl.ext hbt
          go_wp2_with fail
          refine (same_below _ _ below _ tv (hct.old HA.out).1 bm).mono ?_
          rintro e wu ⟨rfl, hbu⟩
          have hcu := hct.ext hbu
          go_wp2
          go_ret
          exact ⟨rfl, hcu.below⟩
    · have HUN := Lib.hid (valsB_unself hun)
      clear hun
      have m6 := M6.out
      go_wp2
      refine wp_loop_rounds 1 ?_
      rw [rounds_succ]
      go_wp2_with fail
      refine (take_sys m6 _ dead (m6.old HD.out).1 (m6.old HD.out).2 dm bm (by simp) (by simp; omega) 141 below HTD.out).mono ?_
      rintro e wt ⟨rfl, St, ht, _, _⟩
      go_wp2_with fail
      refine (vals_tab T _ _ dead dead _ (ht.old HD.out).1 (ht.old HD.out).1 dm dm ht.tab).mono ?_
      rintro e wu ⟨rfl, hbu⟩
      rw [HUN.out]
      have hu := ht.ext hbu
      go_wp2
      go_ret
      exact ⟨rfl, hu.below⟩
theorem back_any (below l az dead : List Vl) (a b c d : Value) (w : World) (ha : ValsAt w a below) (hb : ValsAt w b l) (hc : ValsAt w c az) (hd : ValsAt w d dead) (la : below.length ≤ maxLen) (lb : l.length ≤ maxLen) (lc : az.length ≤ maxLen) (ld : dead.length ≤ maxLen) :
    Calls Try.prog 6 #[a, b, c, d] w (LawPost w) := by
  by_cases h : 20 < below.length ∨ 20 < l.length ∨ 20 < az.length ∨ 20 < dead.length
  · exact back_long below l az dead a b c d w ha hb hc hd la lb lc ld h
  · have l1 : below.length ≤ 20 := by omega
    have l2 : l.length ≤ 20 := by omega
    have l3 : az.length ≤ 20 := by omega
    have l4 : dead.length ≤ 20 := by omega
    by_cases hl : l.length = az.length
    · cases hf : valsB l az with
      | true => exact back_fits below l az dead a b c d w ha hb hc hd l1 l2 l3 l4 hl hf
      | false => exact back_unfit below l az dead a b c d w ha hb hc hd l1 l2 l3 l4 hl hf
    · obtain ⟨⟨er1, vs1⟩, htk⟩ : ∃ r, takeR 0 false az.reverse (below ++ l) = r := ⟨_, rfl⟩
      by_cases he : er1 = 0
      · subst he
        exact back_neq0 below l az dead a b c d w ha hb hc hd l1 l2 l3 l4 hl vs1 htk
      · exact back_neq below l az dead a b c d w ha hb hc hd l1 l2 l3 l4 hl vs1 er1 he htk
end Go.Proofs.Ytjjhdbjbjgkijaa
