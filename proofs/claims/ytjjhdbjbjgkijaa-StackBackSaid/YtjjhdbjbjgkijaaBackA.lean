/- Layer 14 (stack): StackBack: what is pushed is taken as types that it matches. For all lists. -/
import Derived.Test.YtjjhdbjbjgkijaaBackL
namespace Go.Proofs.Ytjjhdbjbjgkijaa
open Go.RowKit Go.Maps Go.WideMaps

theorem topH_sys {S : Nat → Prop} {w0 w : World} {M T : Nat} {vals : List Vl} {frs : List Frm} {gs : List Int} (h : Sys S w0 w M T vals frs gs) (b1 : vals.length ≤ 1000000) :
    Calls Try.prog 16 #[.pointer (some ⟨M, 0, none⟩), .int .i64 vals.length] w fun e w' => ∃ ao cap, e = .returned (.slice ao vals.length cap) ∧ ValsAt w' (.slice ao vals.length cap) vals ∧ Below w.heap.size w w' := by
  by_cases h0 : vals = []
  · subst h0
    have HM := Lib.hid h.mach
    have hz : Calls Try.prog 16 #[.pointer (some ⟨M, 0, none⟩), .int .i64 0] w fun e w' => e = .returned (.slice none 0 0) ∧ w = w' := by
      go_enter Try.func16, Try.ntmps16
      go_wp2_with fail
      refine (absent_at S _ M T _ _ gs HM.out).mono ?_
      rintro e w' ⟨rfl, rfl⟩
      go_wp2
      go_ret
      exact ⟨rfl, rfl⟩
    exact hz.mono fun e w' ⟨he, hw⟩ => ⟨none, 0, he, .inl ⟨rfl, rfl⟩, by subst hw; exact Below.refl _ _⟩
  · exact top_sys h vals.length (List.length_pos_iff.2 h0) b1 (Nat.le_refl _)
set_option maxRecDepth 100000 in
theorem back_long (below l az dead : List Vl) (a b c d : Value) (w : World) (ha : ValsAt w a below) (hb : ValsAt w b l) (hc : ValsAt w c az) (hd : ValsAt w d dead) (la : below.length ≤ maxLen) (lb : l.length ≤ maxLen) (lc : az.length ≤ maxLen) (ld : dead.length ≤ maxLen) (h : 20 < below.length ∨ 20 < l.length ∨ 20 < az.length ∨ 20 < dead.length) :
    Calls Try.prog 6 #[a, b, c, d] w (LawPost w) := by
  obtain ⟨ao, ca, rfl⟩ := ha.form
  obtain ⟨bo, cb, rfl⟩ := hb.form
  obtain ⟨co, cc, rfl⟩ := hc.form
  obtain ⟨dq, cd, rfl⟩ := hd.form
  unfold maxLen at la lb lc ld
  clear ha hb hc hd
  by_cases h1 : 20 < below.length
  · have i1 : (20 : Int) < below.length := by omega
    go_enter Try.func6, Try.ntmps6
    go_wp2_with fail
    refine (known_any _).mono ?_
    rintro e w1 ⟨rfl, hb⟩
    go_wp2
    go_ret
    exact ⟨rfl, hb⟩
  · have i1 : ¬ (20 : Int) < below.length := by omega
    by_cases h2 : 20 < l.length
    · have i2 : (20 : Int) < l.length := by omega
      go_enter Try.func6, Try.ntmps6
      go_wp2_with fail
      refine (known_any _).mono ?_
      rintro e w1 ⟨rfl, hb⟩
      go_wp2
      go_ret
      exact ⟨rfl, hb⟩
    · have i2 : ¬ (20 : Int) < l.length := by omega
      by_cases h3 : 20 < az.length
      · have i3 : (20 : Int) < az.length := by omega
        go_enter Try.func6, Try.ntmps6
        go_wp2_with fail
        refine (known_any _).mono ?_
        rintro e w1 ⟨rfl, hb⟩
        go_wp2
        go_ret
        exact ⟨rfl, hb⟩
      · have i3 : ¬ (20 : Int) < az.length := by omega
        have i4 : (20 : Int) < dead.length := by omega
        go_enter Try.func6, Try.ntmps6
        go_wp2_with fail
        refine (known_any _).mono ?_
        rintro e w1 ⟨rfl, hb⟩
        go_wp2
        go_ret
        exact ⟨rfl, hb⟩
set_option maxRecDepth 100000 in
set_option maxHeartbeats 16000000 in
theorem back_unfit (below l az dead : List Vl) (a b c d : Value) (w : World) (ha : ValsAt w a below) (hb : ValsAt w b l) (hc : ValsAt w c az) (hd : ValsAt w d dead) (la : below.length ≤ 20) (lb : l.length ≤ 20) (lc : az.length ≤ 20) (ld : dead.length ≤ 20) (hl : l.length = az.length) (hf : valsB l az = false) :
    Calls Try.prog 6 #[a, b, c, d] w (LawPost w) := by
  obtain ⟨ao, ca, rfl⟩ := ha.form
  obtain ⟨bo, cb, rfl⟩ := hb.form
  obtain ⟨co, cc, rfl⟩ := hc.form
  obtain ⟨dq, cd, rfl⟩ := hd.form
  have HA := Lib.hid ha; have HB := Lib.hid hb; have HC := Lib.hid hc; have HD := Lib.hid hd
  clear ha hb hc hd
  have i1 : ¬ (20 : Int) < below.length := by omega
  have i2 : ¬ (20 : Int) < l.length := by omega
  have i3 : ¬ (20 : Int) < az.length := by omega
  have i4 : ¬ (20 : Int) < dead.length := by omega
  have bm : below.length ≤ 1000000 := by omega
  have lm : l.length ≤ 1000000 := by omega
  have am : az.length ≤ 1000000 := by omega
  have dm : dead.length ≤ 1000000 := by omega
  obtain ⟨erd, hdr1, hdr2⟩ := takeR_dead2 (Nat.le_refl below.length) dead.reverse
  have HDR := Lib.hid (show takeR (topF [(⟨2, [], dead, below.length, true, false⟩ : Frm)]).1 (topF [(⟨2, [], dead, below.length, true, false⟩ : Frm)]).2 dead.reverse below = (erd, below) ∧ (erd = 0 ∨ erd = 141 ∧ ∃ x ∈ dead, properB x = false) from ⟨hdr1, hdr2.imp id fun ⟨p, x, hx, q⟩ => ⟨p, x, by simpa using hx, q⟩⟩)
  clear hdr1 hdr2
  have ie : ((l.length : Int) == (az.length : Int)) = true := by simp [hl]
  have ie2 : ((l.length : Int) != (az.length : Int)) = false := by simp [hl]
  have HF := Lib.hid hf; have HL := Lib.hid hl
  obtain ⟨vs1, htk⟩ := take_unfit 0 false below l az (Nat.zero_le _) hl hf
  have HTK := Lib.hid (show takeR (topF []).1 (topF []).2 az.reverse (below ++ l) = (141, vs1) from htk)
  clear htk
  clear hf hl
  go_enter Try.func6, Try.ntmps6
  go_wp2_with fail
  refine (known_any _).mono ?_
  rintro e w1 ⟨rfl, hb1⟩
  go_wp2_with fail
  refine (rollNew_any _).mono ?_
  rintro e w2 ⟨T, rfl, _, ht, hb2⟩
  have hb12 := hb1.trans (hb2.mono hb1.size)
  go_wp2_with fail
  refine (new_sys w w2 T ht hb12).mono ?_
  rintro e w3 ⟨M, S3, rfl, h3⟩
  go_wp2_with fail
  refine (push_sys h3 _ below (h3.old HA.out).1 (by simp) bm).mono ?_
  rintro e w4 ⟨rfl, S4, h4, _, _⟩
  rw [List.nil_append] at h4
  go_wp2_with fail
  refine (vals_tab T _ _ l az _ (h4.old HB.out).1 (h4.old HC.out).1 lm am h4.tab).mono ?_
  rintro e w5 ⟨rfl, hb5⟩
  rw [HF.out]
  have h5 := h4.ext hb5
  go_wp2_with fail
  refine (push_sys h5 _ l (h5.old HB.out).1 bm lm).mono ?_
  rintro e w6 ⟨rfl, S6, h6, _, _⟩
  go_wp2_with fail
  refine (take_sys h6 _ az (h6.old HC.out).1 (h6.old HC.out).2 am (by simp; omega) (by simp) (by simp) 141 vs1 HTK.out).mono ?_
  rintro e w7 ⟨rfl, S7, hq, _, _⟩
  go_wp2_with fail
  refine (new_sys w _ T hq.tab hq.below).mono ?_
  rintro e y3 ⟨M2, R3, rfl, q0⟩
  go_wp2_with fail
  refine (push_sys q0 _ below (q0.old HA.out).1 (by simp) bm).mono ?_
  rintro e y4 ⟨rfl, R4, q1, _, _⟩
  rw [List.nil_append] at q1
  go_wp2_with fail
  refine (push_sys q1 _ l (q1.old HB.out).1 bm lm).mono ?_
  rintro e y5 ⟨rfl, R5, q2, _, _⟩
  go_wp2_with fail
  refine (openerr_sys q2 3 _ _ az (q2.old HC.out).1 (q2.old HC.out).2 am (by simp; omega) (by simp) (by simp) 141 vs1 HTK.out (by decide)).mono ?_
  rintro e y6 ⟨rfl, R6, q3, _, _⟩
  go_wp2
  go_ret
  exact ⟨rfl, q3.below⟩
set_option maxRecDepth 100000 in
set_option maxHeartbeats 16000000 in
theorem back_neq (below l az dead : List Vl) (a b c d : Value) (w : World) (ha : ValsAt w a below) (hb : ValsAt w b l) (hc : ValsAt w c az) (hd : ValsAt w d dead) (la : below.length ≤ 20) (lb : l.length ≤ 20) (lc : az.length ≤ 20) (ld : dead.length ≤ 20) (hl : l.length ≠ az.length) (vs1 : List Vl) (er1 : Int) (her : er1 ≠ 0) (htk : takeR 0 false az.reverse (below ++ l) = (er1, vs1)) :
    Calls Try.prog 6 #[a, b, c, d] w (LawPost w) := by
  obtain ⟨ao, ca, rfl⟩ := ha.form
  obtain ⟨bo, cb, rfl⟩ := hb.form
  obtain ⟨co, cc, rfl⟩ := hc.form
  obtain ⟨dq, cd, rfl⟩ := hd.form
  have HA := Lib.hid ha; have HB := Lib.hid hb; have HC := Lib.hid hc; have HD := Lib.hid hd
  clear ha hb hc hd
  have i1 : ¬ (20 : Int) < below.length := by omega
  have i2 : ¬ (20 : Int) < l.length := by omega
  have i3 : ¬ (20 : Int) < az.length := by omega
  have i4 : ¬ (20 : Int) < dead.length := by omega
  have bm : below.length ≤ 1000000 := by omega
  have lm : l.length ≤ 1000000 := by omega
  have am : az.length ≤ 1000000 := by omega
  have dm : dead.length ≤ 1000000 := by omega
  obtain ⟨erd, hdr1, hdr2⟩ := takeR_dead2 (Nat.le_refl below.length) dead.reverse
  have HDR := Lib.hid (show takeR (topF [(⟨2, [], dead, below.length, true, false⟩ : Frm)]).1 (topF [(⟨2, [], dead, below.length, true, false⟩ : Frm)]).2 dead.reverse below = (erd, below) ∧ (erd = 0 ∨ erd = 141 ∧ ∃ x ∈ dead, properB x = false) from ⟨hdr1, hdr2.imp id fun ⟨p, x, hx, q⟩ => ⟨p, x, by simpa using hx, q⟩⟩)
  clear hdr1 hdr2
  have ie : ((l.length : Int) == (az.length : Int)) = false := by simp; omega
  have ie2 : ((l.length : Int) != (az.length : Int)) = true := by simp; omega
  have HTK := Lib.hid (show takeR (topF []).1 (topF []).2 az.reverse (below ++ l) = (er1, vs1) from htk)
  have bv1 : vs1.length ≤ 40 := by have := takeR_len 0 false az.reverse (below ++ l); rw [htk] at this; simp at this; omega
  have hz2 : (er1 != 0) = true := by simpa using her
  have HER := Lib.hid her
  clear her
  clear htk hl
  go_enter Try.func6, Try.ntmps6
  go_wp2_with fail
  refine (known_any _).mono ?_
  rintro e w1 ⟨rfl, hb1⟩
  go_wp2_with fail
  refine (rollNew_any _).mono ?_
  rintro e w2 ⟨T, rfl, _, ht, hb2⟩
  have hb12 := hb1.trans (hb2.mono hb1.size)
  go_wp2_with fail
  refine (new_sys w w2 T ht hb12).mono ?_
  rintro e w3 ⟨M, S3, rfl, h3⟩
  go_wp2_with fail
  refine (push_sys h3 _ below (h3.old HA.out).1 (by simp) bm).mono ?_
  rintro e w4 ⟨rfl, S4, h4, _, _⟩
  rw [List.nil_append] at h4
  go_wp2_with fail
  refine (push_sys h4 _ l (h4.old HB.out).1 bm lm).mono ?_
  rintro e w6 ⟨rfl, S6, h6, _, _⟩
  go_wp2_with fail
  refine (take_sys h6 _ az (h6.old HC.out).1 (h6.old HC.out).2 am (by simp; omega) (by simp) (by simp) er1 vs1 HTK.out).mono ?_
  rintro e w7 ⟨rfl, S7, hq, _, _⟩
  go_wp2_with fail
  refine (new_sys w _ T hq.tab hq.below).mono ?_
  rintro e y3 ⟨M2, R3, rfl, q0⟩
  go_wp2_with fail
  refine (push_sys q0 _ below (q0.old HA.out).1 (by simp) bm).mono ?_
  rintro e y4 ⟨rfl, R4, q1, _, _⟩
  rw [List.nil_append] at q1
  go_wp2_with fail
  refine (push_sys q1 _ l (q1.old HB.out).1 bm lm).mono ?_
  rintro e y5 ⟨rfl, R5, q2, _, _⟩
  go_wp2_with fail
  refine (openerr_sys q2 3 _ _ az (q2.old HC.out).1 (q2.old HC.out).2 am (by simp; omega) (by simp) (by simp) er1 vs1 HTK.out HER.out).mono ?_
  rintro e y6 ⟨rfl, R6, q3, _, _⟩
  go_wp2
  go_ret
  exact ⟨rfl, q3.below⟩
end Go.Proofs.Ytjjhdbjbjgkijaa
