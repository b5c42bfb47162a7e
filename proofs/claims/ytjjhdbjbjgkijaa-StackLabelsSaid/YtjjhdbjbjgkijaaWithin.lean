/- Layer 14 (stack): StackWithin: what stands below a frame is not reached from in it. For all lists and either bool. -/
import Derived.Test.YtjjhdbjbjgkijaaKnown
namespace Go.Proofs.Ytjjhdbjbjgkijaa
open Go.RowKit Go.Maps Go.WideMaps

theorem popR_live {n : Nat} {vals : List Vl} (h : vals.length ≤ n) : popR n false vals = (zV, 140, vals) := by simp [popR, h]
theorem popR_dead {n : Nat} {vals : List Vl} (h : vals.length ≤ n) : popR n true vals = (⟨4, false, 0, 0⟩, 0, vals) := by simp [popR, h]
theorem takeR_live {n : Nat} {vals : List Vl} (h : vals.length ≤ n) (x : Vl) (l : List Vl) : takeR n false (x :: l) vals = (140, vals) := by
  simp [takeR, oneR, popR_live h]
theorem takeR_dead {n : Nat} {vals : List Vl} (h : vals.length ≤ n) : ∀ l : List Vl, ∃ er, takeR n true l vals = (er, vals) ∧ (er = 0 ∨ er = 141)
  | [] => ⟨0, rfl, .inl rfl⟩
  | x :: l => by
    unfold takeR
    simp only [oneR, popR_dead h]
    by_cases hv : valB ⟨4, false, 0, 0⟩ x = true
    · simp only [hv, if_true]
      exact takeR_dead h l
    · exact ⟨141, by simp [hv], .inr rfl⟩
theorem dead_sys {S : Nat → Prop} {w0 w : World} {M T : Nat} {vals : List Vl} {fs : List Frm} {f : Frm} {gs : List Int} (h : Sys S w0 w M T vals (fs ++ [f]) gs) (b2 : fs.length ≤ 1000000) :
    Calls Try.prog 13 #[.pointer (some ⟨M, 0, none⟩)] w fun e w' => e = .returned (.bool f.dead) ∧ Below w.heap.size w w' := dead_snoc S w M T vals fs f gs h.mach b2
theorem same_below (a b : Value) (l : List Vl) (w : World) (ha : ValsAt w a l) (hb : ValsAt w b l) (hl : l.length ≤ 1000000) :
    Calls Try.prog 15 #[a, b] w fun e w' => e = .returned (.bool true) ∧ Below w.heap.size w w' :=
  (sameVals_any a b l l w ha hb hl hl).mono fun e w' ⟨he, n, hn⟩ => ⟨by rw [he]; simp, by subst hn; exact ⟨rfl, rfl, rfl, Nat.le_refl _, fun _ _ => rfl⟩⟩
theorem top_sys {S : Nat → Prop} {w0 w : World} {M T : Nat} {vals : List Vl} {frs : List Frm} {gs : List Int} (h : Sys S w0 w M T vals frs gs) (n : Nat) (h1 : 1 ≤ n) (h2 : n ≤ 1000000) (b1 : vals.length ≤ n) :
    Calls Try.prog 16 #[.pointer (some ⟨M, 0, none⟩), .int .i64 n] w fun e w' => ∃ ao cap, e = .returned (.slice ao vals.length cap) ∧ ValsAt w' (.slice ao vals.length cap) vals ∧ Below w.heap.size w w' :=
  (top_at S w M T vals frs gs h.mach n h1 h2 (by omega)).mono fun e w' ⟨v, he, ho, hb⟩ => by
    rw [show vals.length - n = 0 by omega, List.drop_zero] at ho
    obtain ⟨ao, cap, rfl, _⟩ := ownsRow_form ho
    exact ⟨ao, cap, he, ValsAt.of_own ho, hb⟩
def LawPost (w : World) (e : Ending) (w' : World) : Prop := e = .returned (.bool true) ∧ Below w.heap.size w w'
theorem within_long (below take : List Vl) (a b : Value) (dead : Bool) (w : World) (ha : ValsAt w a below) (hb : ValsAt w b take) (ba : below.length ≤ maxLen) (bb : take.length ≤ maxLen) (h : 20 < below.length ∨ 20 < take.length) :
    Calls Try.prog 3 #[a, b, .bool dead] w (LawPost w) := by
  obtain ⟨ao, ca, rfl⟩ := ha.form
  obtain ⟨bo, cb, rfl⟩ := hb.form
  unfold maxLen at ba bb
  clear ha hb
  by_cases h1 : 20 < below.length
  · have h2 : (20 : Int) < below.length := by omega
    go_enter Try.func3, Try.ntmps3
    go_wp2_with fail
    refine (known_any _).mono ?_
    rintro e w1 ⟨rfl, hb⟩
    go_wp2
    go_ret
    exact ⟨rfl, hb⟩
  · have h2 : ¬ (20 : Int) < below.length := by omega
    have h3 : (20 : Int) < take.length := by omega
    go_enter Try.func3, Try.ntmps3
    go_wp2_with fail
    refine (known_any _).mono ?_
    rintro e w1 ⟨rfl, hb⟩
    go_wp2
    go_ret
    exact ⟨rfl, hb⟩
set_option maxRecDepth 100000 in
set_option maxHeartbeats 4000000 in
theorem within_dead (below take : List Vl) (a b : Value) (w : World) (ha : ValsAt w a below) (hb : ValsAt w b take) (ba : below.length ≤ 20) (bb : take.length ≤ 20)  :
    Calls Try.prog 3 #[a, b, .bool true] w (LawPost w) := by
  obtain ⟨ao, ca, rfl⟩ := ha.form
  obtain ⟨bo, cb, rfl⟩ := hb.form
  have HA := Lib.hid ha; have HBB := Lib.hid hb
  clear ha hb
  obtain ⟨er, htk, her⟩ := takeR_dead (Nat.le_refl below.length) take.reverse
  have HTK := Lib.hid (show takeR (topF [(⟨2, [], [], below.length, true, false⟩ : Frm)]).1 (topF [(⟨2, [], [], below.length, true, false⟩ : Frm)]).2 take.reverse below = (er, below) from htk)
  have HE := Lib.hid her
  clear htk her
  have i1 : ¬ (20 : Int) < below.length := by omega
  have i2 : ¬ (20 : Int) < take.length := by omega
  have bm : below.length ≤ 1000000 := by omega
  have tm : take.length ≤ 1000000 := by omega
  go_enter Try.func3, Try.ntmps3
  go_wp2_with fail
  refine (known_any _).mono ?_
  rintro e w1 ⟨rfl, hb1⟩
  go_wp2_with fail
  refine (rollNew_any _).mono ?_
  rintro e w2 ⟨T, rfl, _, ht, hb2⟩
  have hb12 := hb1.trans (hb2.mono hb1.size)
  go_wp2_with fail
  refine (new_sys w w2 T ht hb12).mono ?_
  rintro e w3 ⟨M, S3, rfl, h3⟩
  go_wp2_with fail
  refine (push_sys h3 _ below (h3.old HA.out).1 (by simp) bm).mono ?_
  rintro e w4 ⟨rfl, S4, h4, _, _⟩
  rw [List.nil_append] at h4
  go_wp2_with fail
  refine (open_sys h4 2 (.slice none 0 0) (.slice none 0 0) [] [] (.inl ⟨rfl, rfl⟩) (.inl ⟨rfl, rfl⟩) (fun h => by simp at h) (fun h => by simp at h) (by simp) (by simp) bm (by simp) (by simp) below rfl).mono ?_
  rintro e w5 ⟨rfl, S5, h5, _, _⟩
  rw [List.append_nil] at h5
  go_wp2_with fail
  refine (die_sys (fs := []) (f := ⟨2, [], [], below.length, false, false⟩) h5 (Nat.le_refl _) bm (by simp)).mono ?_
  rintro e w6 ⟨rfl, S6, h6, _, _⟩
  rw [List.take_of_length_le (Nat.le_refl _)] at h6
  go_wp2_with fail
  refine (dead_sys (fs := []) (f := ⟨2, [], [], below.length, true, false⟩) h6 (by simp)).mono ?_
  rintro e w7 ⟨rfl, hb7⟩
  have h7 := h6.ext hb7
  go_wp2_with fail
  refine (height_at _ _ M T below [⟨2, [], [], below.length, true, false⟩] [] h7.mach).mono ?_
  rintro e w' ⟨rfl, rfl⟩
  have h8 := h7
  go_wp2_with fail
  refine (top_sys h8 100 (by omega) (by omega) (by omega)).mono ?_
  rintro e w9 ⟨tao, tcap, rfl, tv, hb9⟩
  have h9 := h8.ext hb9
  go_wp2_with fail
  refine (same_below _ _ below _ tv (h9.old HA.out).1 bm).mono ?_
  rintro e w10 ⟨rfl, hb10⟩
  have h10 := h9.ext hb10
  go_wp2_with fail
  refine (take_sys h10 _ take (h10.old HBB.out).1 (h10.old HBB.out).2 tm bm (by simp) (by simp; omega) er below HTK.out).mono ?_
  rintro e w11 ⟨rfl, S11, h11, _, _⟩
  go_wp2_with fail
  refine (height_at _ _ M T below [⟨2, [], [], below.length, true, false⟩] [] h11.mach).mono ?_
  rintro e w' ⟨rfl, rfl⟩
  have h12 := h11
  go_wp2_with fail
  refine (pop_sys h12 bm (by simp) (by simp; omega) ⟨4, false, 0, 0⟩ 0 below (popR_dead (Nat.le_refl _))).mono ?_
  rintro e w13 ⟨rfl, S13, h13, _, _⟩
  simp only [cellsV, zV]
  go_wp2_with fail
  have hx := h13.ext ((Below.refl _ _).alloc (Nat.le_refl _) (.cells #[.int .i64 4, .bool false, .int .i64 0, .int .i64 0] 41))
  refine (close_sys (fs := []) (f := ⟨2, [], [], below.length, true, false⟩) hx rfl (by simp) bm (by simp) (by simp; omega) below rfl (Nat.le_refl _)).mono ?_
  rintro e wz ⟨pv, rv, rfl, hpv, hrv, Sz, hz, _, _⟩
  obtain ⟨pao, pcap, rfl⟩ := hpv.form
  obtain ⟨rao, rcap, rfl⟩ := hrv.form
  clear hpv hrv
  go_wp2_with fail
  refine (frames_at _ _ M T below [] [] hz.mach).mono ?_
  rintro e w' ⟨rfl, rfl⟩
  go_wp2_with fail
  refine (top_sys hz 100 (by omega) (by omega) (by omega)).mono ?_
  rintro e wt ⟨uao, ucap, rfl, uv, hbt⟩
  have hzt := hz.ext hbt
  go_wp2_with fail
  refine (same_below _ _ below _ uv (hzt.old HA.out).1 bm).mono ?_
  rintro e wu ⟨rfl, hbu⟩
  have hzu := hzt.ext hbu
  go_wp2
  go_ret
  exact ⟨rfl, hzu.below⟩
set_option maxRecDepth 100000 in
set_option maxHeartbeats 4000000 in
theorem within_nil (below take : List Vl) (a b : Value) (w : World) (ha : ValsAt w a below) (hb : ValsAt w b take) (ba : below.length ≤ 20) (bb : take.length ≤ 20) (h0 : take = []) :
    Calls Try.prog 3 #[a, b, .bool false] w (LawPost w) := by
  obtain ⟨ao, ca, rfl⟩ := ha.form
  obtain ⟨bo, cb, rfl⟩ := hb.form
  have HA := Lib.hid ha; have HBB := Lib.hid hb
  clear ha hb
  have HTK := Lib.hid (show takeR (topF [(⟨2, [], [], below.length, false, false⟩ : Frm)]).1 (topF [(⟨2, [], [], below.length, false, false⟩ : Frm)]).2 take.reverse below = (0, below) from by rw [h0]; rfl)
  have hz0 : ¬ (0 : Int) < take.length := by rw [h0]; simp
  have hz1 : decide ((0 : Int) < take.length) = false := by rw [h0]; simp
  have hz2 : decide (0 < take.length) = false := by rw [h0]; simp
  have hz3 : ¬ 0 < take.length := by rw [h0]; simp
  clear h0
  have i1 : ¬ (20 : Int) < below.length := by omega
  have i2 : ¬ (20 : Int) < take.length := by omega
  have bm : below.length ≤ 1000000 := by omega
  have tm : take.length ≤ 1000000 := by omega
  go_enter Try.func3, Try.ntmps3
  go_wp2_with fail
  refine (known_any _).mono ?_
  rintro e w1 ⟨rfl, hb1⟩
  go_wp2_with fail
  refine (rollNew_any _).mono ?_
  rintro e w2 ⟨T, rfl, _, ht, hb2⟩
  have hb12 := hb1.trans (hb2.mono hb1.size)
  go_wp2_with fail
  refine (new_sys w w2 T ht hb12).mono ?_
  rintro e w3 ⟨M, S3, rfl, h3⟩
  go_wp2_with fail
  refine (push_sys h3 _ below (h3.old HA.out).1 (by simp) bm).mono ?_
  rintro e w4 ⟨rfl, S4, h4, _, _⟩
  rw [List.nil_append] at h4
  go_wp2_with fail
  refine (open_sys h4 2 (.slice none 0 0) (.slice none 0 0) [] [] (.inl ⟨rfl, rfl⟩) (.inl ⟨rfl, rfl⟩) (fun h => by simp at h) (fun h => by simp at h) (by simp) (by simp) bm (by simp) (by simp) below rfl).mono ?_
  rintro e w5 ⟨rfl, S5, h5, _, _⟩
  rw [List.append_nil] at h5
  go_wp2_with fail
  refine (dead_sys (fs := []) (f := ⟨2, [], [], below.length, false, false⟩) h5 (by simp)).mono ?_
  rintro e w6 ⟨rfl, hb6⟩
  have h6 := h5.ext hb6
  go_wp2_with fail
  refine (height_at _ _ M T below [⟨2, [], [], below.length, false, false⟩] [] h6.mach).mono ?_
  rintro e w' ⟨rfl, rfl⟩
  have h7 := h6
  go_wp2_with fail
  refine (top_sys h7 100 (by omega) (by omega) (by omega)).mono ?_
  rintro e w8 ⟨tao, tcap, rfl, tv, hb8⟩
  have h8 := h7.ext hb8
  go_wp2_with fail
  refine (same_below _ _ below _ tv (h8.old HA.out).1 bm).mono ?_
  rintro e w9 ⟨rfl, hb9⟩
  have h9 := h8.ext hb9
  go_wp2_with fail
  refine (take_sys h9 _ take (h9.old HBB.out).1 (h9.old HBB.out).2 tm bm (by simp) (by simp; omega) 0 below HTK.out).mono ?_
  rintro e w10 ⟨rfl, S10, h10, _, _⟩
  go_wp2_with fail
  refine (height_at _ _ M T below [⟨2, [], [], below.length, false, false⟩] [] h10.mach).mono ?_
  rintro e w' ⟨rfl, rfl⟩
  have h11 := h10
  go_wp2_with fail
  refine (pop_sys h11 bm (by simp) (by simp; omega) zV 140 below (popR_live (Nat.le_refl _))).mono ?_
  rintro e w12 ⟨rfl, S12, h12, _, _⟩
  simp only [cellsV, zV]
  go_wp2_with fail
  have hx := h12.ext ((Below.refl _ _).alloc (Nat.le_refl _) (.cells #[.int .i64 0, .bool false, .int .i64 0, .int .i64 0] 41))
  refine (close_sys (fs := []) (f := ⟨2, [], [], below.length, false, false⟩) hx rfl (by simp) bm (by simp) (by simp; omega) below rfl (Nat.le_refl _)).mono ?_
  rintro e wz ⟨pv, rv, rfl, hpv, hrv, Sz, hz, _, _⟩
  obtain ⟨pao, pcap, rfl⟩ := hpv.form
  obtain ⟨rao, rcap, rfl⟩ := hrv.form
  clear hpv hrv
  go_wp2_with fail
  refine (frames_at _ _ M T below [] [] hz.mach).mono ?_
  rintro e w' ⟨rfl, rfl⟩
  go_wp2_with fail
  refine (top_sys hz 100 (by omega) (by omega) (by omega)).mono ?_
  rintro e wt ⟨uao, ucap, rfl, uv, hbt⟩
  have hzt := hz.ext hbt
  go_wp2_with fail
  refine (same_below _ _ below _ uv (hzt.old HA.out).1 bm).mono ?_
  rintro e wu ⟨rfl, hbu⟩
  have hzu := hzt.ext hbu
  go_wp2
  go_ret
  exact ⟨rfl, hzu.below⟩
set_option maxRecDepth 100000 in
set_option maxHeartbeats 4000000 in
theorem within_live (below take : List Vl) (a b : Value) (w : World) (ha : ValsAt w a below) (hb : ValsAt w b take) (ba : below.length ≤ 20) (bb : take.length ≤ 20) (h0 : take ≠ []) :
    Calls Try.prog 3 #[a, b, .bool false] w (LawPost w) := by
  obtain ⟨ao, ca, rfl⟩ := ha.form
  obtain ⟨bo, cb, rfl⟩ := hb.form
  have HA := Lib.hid ha; have HBB := Lib.hid hb
  clear ha hb
  have hpos : 0 < take.length := List.length_pos_iff.2 h0
  have htk : takeR below.length false take.reverse below = (140, below) := by
    obtain ⟨x, l, hx⟩ := List.exists_cons_of_ne_nil (show take.reverse ≠ [] by simpa using h0)
    rw [hx]; exact takeR_live (Nat.le_refl _) x l
  have HTK := Lib.hid (show takeR (topF [(⟨2, [], [], below.length, false, false⟩ : Frm)]).1 (topF [(⟨2, [], [], below.length, false, false⟩ : Frm)]).2 take.reverse below = (140, below) from htk)
  have hpi : (0 : Int) < take.length := by omega
  clear htk h0
  have i1 : ¬ (20 : Int) < below.length := by omega
  have i2 : ¬ (20 : Int) < take.length := by omega
  have bm : below.length ≤ 1000000 := by omega
  have tm : take.length ≤ 1000000 := by omega
  go_enter Try.func3, Try.ntmps3
  go_wp2_with fail
  refine (known_any _).mono ?_
  rintro e w1 ⟨rfl, hb1⟩
  go_wp2_with fail
  refine (rollNew_any _).mono ?_
  rintro e w2 ⟨T, rfl, _, ht, hb2⟩
  have hb12 := hb1.trans (hb2.mono hb1.size)
  go_wp2_with fail
  refine (new_sys w w2 T ht hb12).mono ?_
  rintro e w3 ⟨M, S3, rfl, h3⟩
  go_wp2_with fail
  refine (push_sys h3 _ below (h3.old HA.out).1 (by simp) bm).mono ?_
  rintro e w4 ⟨rfl, S4, h4, _, _⟩
  rw [List.nil_append] at h4
  go_wp2_with fail
  refine (open_sys h4 2 (.slice none 0 0) (.slice none 0 0) [] [] (.inl ⟨rfl, rfl⟩) (.inl ⟨rfl, rfl⟩) (fun h => by simp at h) (fun h => by simp at h) (by simp) (by simp) bm (by simp) (by simp) below rfl).mono ?_
  rintro e w5 ⟨rfl, S5, h5, _, _⟩
  rw [List.append_nil] at h5
  go_wp2_with fail
  refine (dead_sys (fs := []) (f := ⟨2, [], [], below.length, false, false⟩) h5 (by simp)).mono ?_
  rintro e w6 ⟨rfl, hb6⟩
  have h6 := h5.ext hb6
  go_wp2_with fail
  refine (height_at _ _ M T below [⟨2, [], [], below.length, false, false⟩] [] h6.mach).mono ?_
  rintro e w' ⟨rfl, rfl⟩
  have h7 := h6
  go_wp2_with fail
  refine (top_sys h7 100 (by omega) (by omega) (by omega)).mono ?_
  rintro e w8 ⟨tao, tcap, rfl, tv, hb8⟩
  have h8 := h7.ext hb8
  go_wp2_with fail
  refine (same_below _ _ below _ tv (h8.old HA.out).1 bm).mono ?_
  rintro e w9 ⟨rfl, hb9⟩
  have h9 := h8.ext hb9
  go_wp2_with fail
  refine (take_sys h9 _ take (h9.old HBB.out).1 (h9.old HBB.out).2 tm bm (by simp) (by simp; omega) 140 below HTK.out).mono ?_
  rintro e w10 ⟨rfl, S10, h10, _, _⟩
  go_wp2_with fail
  refine (height_at _ _ M T below [⟨2, [], [], below.length, false, false⟩] [] h10.mach).mono ?_
  rintro e w' ⟨rfl, rfl⟩
  have h11 := h10
  go_wp2_with fail
  refine (pop_sys h11 bm (by simp) (by simp; omega) zV 140 below (popR_live (Nat.le_refl _))).mono ?_
  rintro e w12 ⟨rfl, S12, h12, _, _⟩
  simp only [cellsV, zV]
  go_wp2_with fail
  have hx := h12.ext ((Below.refl _ _).alloc (Nat.le_refl _) (.cells #[.int .i64 0, .bool false, .int .i64 0, .int .i64 0] 41))
  refine (close_sys (fs := []) (f := ⟨2, [], [], below.length, false, false⟩) hx rfl (by simp) bm (by simp) (by simp; omega) below rfl (Nat.le_refl _)).mono ?_
  rintro e wz ⟨pv, rv, rfl, hpv, hrv, Sz, hz, _, _⟩
  obtain ⟨pao, pcap, rfl⟩ := hpv.form
  obtain ⟨rao, rcap, rfl⟩ := hrv.form
  clear hpv hrv
  go_wp2_with fail
  refine (frames_at _ _ M T below [] [] hz.mach).mono ?_
  rintro e w' ⟨rfl, rfl⟩
  go_wp2_with fail
  refine (top_sys hz 100 (by omega) (by omega) (by omega)).mono ?_
  rintro e wt ⟨uao, ucap, rfl, uv, hbt⟩
  have hzt := hz.ext hbt
  go_wp2_with fail
  refine (same_below _ _ below _ uv (hzt.old HA.out).1 bm).mono ?_
  rintro e wu ⟨rfl, hbu⟩
  have hzu := hzt.ext hbu
  go_wp2
  go_ret
  exact ⟨rfl, hzu.below⟩
theorem within_any (below take : List Vl) (a b : Value) (dead : Bool) (w : World) (ha : ValsAt w a below) (hb : ValsAt w b take) (ba : below.length ≤ maxLen) (bb : take.length ≤ maxLen) :
    Calls Try.prog 3 #[a, b, .bool dead] w (LawPost w) := by
  by_cases h : 20 < below.length ∨ 20 < take.length
  · exact within_long below take a b dead w ha hb ba bb h
  · cases dead
    · by_cases h0 : take = []
      · exact within_nil below take a b w ha hb (by omega) (by omega) h0
      · exact within_live below take a b w ha hb (by omega) (by omega) h0
    · exact within_dead below take a b w ha hb (by omega) (by omega)
end Go.Proofs.Ytjjhdbjbjgkijaa
