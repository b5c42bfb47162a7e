/- package arena: ArenaFresh walked. -/
import Derived.Test.YtcjkmgjonnnapaaArKnown
import Derived.Test.YtcjkmgjonnnapaaArFreshP
namespace Go.Proofs.Ytcjkmgjonnnapaa
open Go.RowKit

theorem FrS.le {m n many : Nat} {bs : List Blk} (h : FrS m n many bs) : many * (n + 1) ≤ m ∧ many ≤ m := by
  have h1 : many * (n + 1) ≤ m := by
    rcases h with ⟨r, _, h, _⟩ | ⟨k, e, rfl, _, h, _⟩
    · omega
    · rw [Nat.succ_mul]; omega
  exact ⟨h1, Nat.le_trans (Nat.le_mul_of_pos_right many (by omega)) h1⟩
theorem wfs {w0 w : World} {p m : Nat} {bs : List Blk} (A : ArN w0 w p m bs) (h : 2 ≤ m) : Span 1 bs (m + 1) := by
  have := A.wf.span
  rwa [show endOf m = m + 1 from if_pos h] at this
set_option maxRecDepth 100000 in
set_option maxHeartbeats 8000000 in
theorem fresh_main (w : World) (m k : Nat) (odd : Bool) (hm1 : 2 ≤ m) (hm2 : m ≤ 300) (hk1 : 1 ≤ k) (hk2 : k ≤ 40) :
    Calls Try.prog 3 #[.int .i64 (m : Nat), .int .i64 (k : Nat), .bool odd] w fun e w' => e = .returned (.bool true) ∧ Below w.heap.size w w' := by
  have g1 : decide ((m : Int) < 2) = false := decide_eq_false (by omega)
  have g2 : decide ((m : Int) > 300) = false := decide_eq_false (by omega)
  have g3 : decide ((k : Int) < 1) = false := decide_eq_false (by omega)
  have g4 : decide ((k : Int) > 40) = false := decide_eq_false (by omega)
  have f1 : ¬ (m : Int) < 2 := by omega
  have f2 : ¬ (300 : Int) < m := by omega
  have f3 : ¬ (k : Int) < 1 := by omega
  have f4 : ¬ (40 : Int) < k := by omega
  go_enter Try.func3, Try.ntmps3
  go_wp2_with fail
  refine (known_any w).mono ?_
  rintro e w1 ⟨rfl, hb1⟩
  have HB1 := Lib.hid hb1
  clear hb1
  go_wp2_with fail
  refine (New_n w1 m m (by omega) (by omega)).mono ?_
  rintro e w2 ⟨p, rfl, A⟩
  have HA := Lib.hid A
  have HM := Lib.hid (And.intro hm1 hm2)
  obtain ⟨k1, hk1'⟩ : ∃ k1, k + 1 = k1 := ⟨_, rfl⟩
  have HK := Lib.hid hk1'
  have ek : IntKind.i64.wrap ((k : Int) + 1) = (k1 : Int) := by rw [IntWalk.i64_in _ ⟨by omega, by omega⟩]; omega
  have hk10 : ¬ (k1 : Int) = 0 := by omega
  have hk10' : ¬ k1 = 0 := by omega
  have hk1k : ¬ (k1 : Int) = k := by omega
  have hk1k' : ¬ k1 = k := by omega
  have hk1m : (k1 : Int) ≤ 41 := by omega
  clear A g1 g2 g3 g4 f1 f2 f3 f4 hk1'
  go_wp2
  go_loopw [8] (fun t8 wr => ∃ (many : Nat) (bs : List Blk), t8 = .int .i64 (many : Nat) ∧ ArN w1 wr p m bs ∧ FrS m k many bs) (fun t8 _ => m + 1 - (intOf t8).toNat)
  case atStart => exact ⟨0, _, rfl, HA.out, FrS.start hm1⟩
  case round =>
    clear HA
    obtain ⟨many, bs, rfl, A, FR⟩ := hrel
    have hle := FR.le
    have hlm := hle.2
    have hstep := FR.step hk1 (wfs A hm1)
    have HA := Lib.hid A; have HFR := Lib.hid FR; have HLE := Lib.hid hle
    have HKR := Lib.hid (show -9223372036854775808 ≤ (k : Int) ∧ (k : Int) < 9223372036854775808 by omega)
    clear A FR hle
    rcases hstep with ⟨htake, hmany, hu1, hu2⟩ | ⟨bs', b, htake, hfr', hbm, hbu, hba, hbn⟩
    · have HT := Lib.hid htake; have HMANY := Lib.hid hmany
      clear htake hmany
      go_wp2_with fail
      refine (Take_k HA.out HT.out 0 rfl HKR.out.1 HKR.out.2).mono ?_
      clear HA
      rintro e w3 ⟨rfl, A⟩
      have HA := Lib.hid A
      clear A
      have ed : (m : Int).tdiv (k1 : Int) = (many : Int) := by
        rw [Int.tdiv_eq_ediv_of_nonneg (by omega)]
        have := HMANY.out
        rw [HK.out] at this
        rw [this]; simp
      have ew : IntKind.i64.wrap (many : Int) = (many : Int) := IntWalk.i64_in _ ⟨by omega, by omega⟩
      obtain ⟨us, hus⟩ : ∃ us, usedSum bs = us := ⟨_, rfl⟩
      rw [hus] at hu1 hu2
      have eu : IntKind.i64.wrap ((m : Int) - us) = (m : Int) - us := IntWalk.i64_in _ ⟨by omega, by omega⟩
      have t1 : ¬ (m : Int) < us := by omega
      have t2 : ¬ (k1 : Int) < (m : Int) - us := by have := HK.out; omega
      have t3 : ¬ m < us := by omega
      have t5 : decide (m < us) = false := decide_eq_false t3
      have t4 : decide ((m : Int) - us > k1) = false := decide_eq_false (by have := HK.out; omega)
      have HU := Lib.hid (show UsedIs k many (frP odd 0 0) bs from (HFR.out.used).congr (fun i _ => (frP_zero odd i).symm))
      have HUS := Lib.hid hus
      clear hu1 hu2 hus
      go_wp2_with fail
      refine (Used_k HA.out HUS.out us rfl).mono ?_
      rintro e w4 ⟨rfl, rfl⟩
      go_wp2_with fail
      refine (Used_k HA.out HUS.out us rfl).mono ?_
      rintro e w4 ⟨rfl, rfl⟩
      clear ed ew HUS
      go_wp2
      go_loopw [11] (fun t11 wr => ∃ (kk : Nat) (bs : List Blk), t11 = .int .i64 (kk : Nat) ∧ kk ≤ 2 ∧ ArN w1 wr p m bs ∧ UsedIs k many (frP odd kk 0) bs) (fun t11 _ => 2 - (intOf t11).toNat)
      case atStart => exact ⟨0, bs, rfl, by omega, HA.out, HU.out⟩
      case round =>
        clear HA HU
        obtain ⟨kk, bs, rfl, hkk, A, U⟩ := hrel
        have HA := Lib.hid A; have HU := Lib.hid U
        clear A U
        by_cases hk2 : kk < 2
        · have hk2' : (kk : Int) < 2 := by omega
          have ekk : IntKind.i64.wrap ((kk : Int) + 1) = ((kk + 1 : Nat) : Int) := by rw [IntWalk.i64_in _ ⟨by omega, by omega⟩]; omega
          go_wp2
          go_loopw [12] (fun t12 wr => ∃ (i : Nat) (bs : List Blk), t12 = .int .i64 (i : Nat) ∧ i ≤ many ∧ ArN w1 wr p m bs ∧ UsedIs k many (frP odd kk i) bs) (fun t12 _ => many - (intOf t12).toNat)
          case atStart => exact ⟨0, bs, rfl, by omega, HA.out, HU.out⟩
          case round =>
            clear HA HU
            obtain ⟨i, bs, rfl, hi, A, U⟩ := hrel
            have HA := Lib.hid A; have HU := Lib.hid U
            clear A U
            by_cases him : i < many
            · have him' : (i : Int) < many := by omega
              have ei : IntKind.i64.wrap ((i : Int) + 1) = ((i + 1 : Nat) : Int) := by rw [IntWalk.i64_in _ ⟨by omega, by omega⟩]; omega
              have er : (i : Int).tmod 2 = (i : Int) % 2 := Int.tmod_eq_emod_of_nonneg (by omega)
              have er2 : IntKind.i64.wrap ((i : Int) % 2) = (i : Int) % 2 := IntWalk.i64_in _ ⟨by omega, by omega⟩
              obtain ⟨mm, hmm⟩ : ∃ mm, i * (k + 1) = mm := ⟨_, rfl⟩
              have hmm2 : mm ≤ m := by rw [← hmm]; exact Nat.le_trans (Nat.mul_le_mul_right _ (by omega)) HLE.out.1
              have ec2 : IntKind.i64.wrap ((i : Int) * k1) = (mm : Int) := by
                have : (i : Int) * k1 = (mm : Int) := by rw [← hmm, ← HK.out]; simp
                rw [this, IntWalk.i64_in _ ⟨by omega, by omega⟩]
              obtain ⟨x, hx⟩ : ∃ x, 1 + mm = x := ⟨_, rfl⟩
              have ec3 : IntKind.i64.wrap (1 + (mm : Int)) = (x : Int) := by rw [IntWalk.i64_in _ ⟨by omega, by omega⟩]; omega
              have HX := Lib.hid (show x = 1 + i * (k + 1) by omega)
              obtain ⟨c, hc⟩ : ∃ c : Bool, (i % 2 == kk) = c := ⟨_, rfl⟩
              have hci : ((i : Int) % 2 == (kk : Int)) = c := by
                rw [← hc, Bool.eq_iff_iff]; simp; omega
              have HC := Lib.hid (show ((i % 2 == kk) == odd) = (c == odd) by rw [hc])
              have HXB := Lib.hid (show -9223372036854775808 ≤ (x : Int) ∧ (x : Int) < 9223372036854775808 by omega)
              clear hmm hmm2 hx hc
              cases c
              · cases odd
                · have hfree := frP_not false hk2 HC.out
                  have huse : usedAt bs (x : Int) = true := (HU.out x).2 ⟨i, him, hfree, HX.out⟩
                  have hfg : freeG bs (x : Int) = (0, freeF bs x) := by unfold freeG; rw [if_pos huse]; simp
                  have U2 : UsedIs k many (frP false kk (i + 1)) (freeF bs x) := by
                    rw [HX.out]
                    exact HU.out.free.congr (fun j _ => by rw [frP_step, HC.out]; simp)
                  have HU2 := Lib.hid U2; have HFG := Lib.hid hfg
                  clear U2 hfg huse hfree
                  go_wp2_with fail
                  refine (Free_k HA.out HFG.out HXB.out.1 HXB.out.2).mono ?_
                  rintro e w5 ⟨rfl, A⟩
                  have HA5 := Lib.hid A
                  clear A
                  go_wp2
                  go_roundw
                  case rel => exact ⟨i + 1, _, rfl, him, HA5.out, HU2.out⟩
                  case measure => simp only [intOf]; omega
                · have U2 : UsedIs k many (frP true kk (i + 1)) bs := HU.out.congr (fun j _ => by rw [frP_step, HC.out]; simp)
                  have HU2 := Lib.hid U2
                  clear U2
                  go_wp2
                  go_roundw
                  case rel => exact ⟨i + 1, bs, rfl, him, HA.out, HU2.out⟩
                  case measure => simp only [intOf]; omega
              · cases odd
                · have U2 : UsedIs k many (frP false kk (i + 1)) bs := HU.out.congr (fun j _ => by rw [frP_step, HC.out]; simp)
                  have HU2 := Lib.hid U2
                  clear U2
                  go_wp2
                  go_roundw
                  case rel => exact ⟨i + 1, bs, rfl, him, HA.out, HU2.out⟩
                  case measure => simp only [intOf]; omega
                · have hfree := frP_not true hk2 HC.out
                  have huse : usedAt bs (x : Int) = true := (HU.out x).2 ⟨i, him, hfree, HX.out⟩
                  have hfg : freeG bs (x : Int) = (0, freeF bs x) := by unfold freeG; rw [if_pos huse]; simp
                  have U2 : UsedIs k many (frP true kk (i + 1)) (freeF bs x) := by
                    rw [HX.out]
                    exact HU.out.free.congr (fun j _ => by rw [frP_step, HC.out]; simp)
                  have HU2 := Lib.hid U2; have HFG := Lib.hid hfg
                  clear U2 hfg huse hfree
                  go_wp2_with fail
                  refine (Free_k HA.out HFG.out HXB.out.1 HXB.out.2).mono ?_
                  rintro e w5 ⟨rfl, A⟩
                  have HA5 := Lib.hid A
                  clear A
                  go_wp2
                  go_roundw
                  case rel => exact ⟨i + 1, _, rfl, him, HA5.out, HU2.out⟩
                  case measure => simp only [intOf]; omega
            · have him' : ¬ (i : Int) < many := by omega
              go_wp2
              go_roundw
              case rel => exact ⟨kk + 1, bs, rfl, by omega, HA.out, HU.out.congr (fun j hj => frP_next odd hk2 (by omega) hj)⟩
              case measure => simp only [intOf]; omega
        · obtain rfl : kk = 2 := by omega
          have hf := HU.out.none (fun i _ => frP_all odd i)
          obtain ⟨hz, hr⟩ := all_free (wfs HA.out HM.out.1) HA.out.wf.two hf HM.out.1
          obtain ⟨m1, hm1'⟩ : ∃ m1, m - 1 = m1 := ⟨_, rfl⟩
          rw [hm1'] at hr
          have em1 : IntKind.i64.wrap ((m : Int) - 1) = (m1 : Int) := by rw [IntWalk.i64_in _ ⟨by omega, by omega⟩]; omega
          have HZ := Lib.hid hz; have HR := Lib.hid hr
          clear hf hz hr hm1'
          go_wp2_with fail
          refine (Used_k HA.out HZ.out 0 rfl).mono ?_
          rintro e w5 ⟨rfl, rfl⟩
          go_wp2_with fail
          refine (Room_k HA.out HR.out m1 rfl).mono ?_
          rintro e w5 ⟨rfl, A⟩
          have HA5 := Lib.hid A
          clear A
          go_wp2
          go_ret
          exact ⟨rfl, HB1.out.trans (HA5.out.below.mono HB1.out.size)⟩
    · obtain ⟨mm, hmm⟩ : ∃ mm, many * (k + 1) = mm := ⟨_, rfl⟩
      rw [hmm] at htake hba
      have hmm2 : mm ≤ m := by rw [← hmm]; exact HLE.out.1
      have ec2 : IntKind.i64.wrap ((many : Int) * k1) = (mm : Int) := by
        have : (many : Int) * k1 = (mm : Int) := by rw [← hmm, ← HK.out]; simp
        rw [this, IntWalk.i64_in _ ⟨by omega, by omega⟩]
      obtain ⟨x, hx⟩ : ∃ x, 1 + mm = x := ⟨_, rfl⟩
      rw [hx] at htake hba
      have ec3 : IntKind.i64.wrap (1 + (mm : Int)) = (x : Int) := by rw [IntWalk.i64_in _ ⟨by omega, by omega⟩]; omega
      have emany : IntKind.i64.wrap ((many : Int) + 1) = ((many + 1 : Nat) : Int) := by rw [IntWalk.i64_in _ ⟨by omega, by omega⟩]; omega
      have HXB := Lib.hid (show -9223372036854775808 ≤ (x : Int) ∧ (x : Int) < 9223372036854775808 by omega)
      have HT := Lib.hid htake; have HFR' := Lib.hid hfr'; have HBM := Lib.hid hbm; have HBU := Lib.hid hbu; have HBA := Lib.hid hba
      have hle' := hfr'.le
      have HLE' := Lib.hid hle'
      clear htake hfr' hbm hbu hba hmm hmm2 hx hle'
      go_wp2_with fail
      refine (Take_k HA.out HT.out x rfl HKR.out.1 HKR.out.2).mono ?_
      clear HA
      rintro e w3 ⟨rfl, A⟩
      have hsz : sizeF bs' (x : Int) = b.n := by unfold sizeF; rw [← HBA.out, blkAt_some (wfs A hm1) HBM.out HBU.out]
      have HA := Lib.hid A
      clear A
      rcases hbn with hbn | hbn
      · rw [hbn] at hsz
        have HS := Lib.hid hsz
        clear hsz hbn
        go_wp2_with fail
        refine (Size_n HA.out x HXB.out.1 HXB.out.2).mono ?_
        rintro e w4 ⟨rfl, rfl⟩
        rw [HS.out]
        go_wp2
        go_roundw
        case rel => exact ⟨many + 1, bs', rfl, HA.out, HFR'.out⟩
        case measure => simp only [intOf]; have := HLE'.out; omega
      · rw [hbn, HK.out] at hsz
        have HS := Lib.hid hsz
        clear hsz hbn
        go_wp2_with fail
        refine (Size_n HA.out x HXB.out.1 HXB.out.2).mono ?_
        rintro e w4 ⟨rfl, rfl⟩
        rw [HS.out]
        go_wp2_with fail
        refine (Size_n HA.out x HXB.out.1 HXB.out.2).mono ?_
        rintro e w4 ⟨rfl, rfl⟩
        rw [HS.out]
        go_wp2
        go_roundw
        case rel => exact ⟨many + 1, bs', rfl, HA.out, HFR'.out⟩
        case measure => simp only [intOf]; have := HLE'.out; omega
set_option maxRecDepth 100000 in
set_option maxHeartbeats 2000000 in
theorem fresh_any (words n : Int) (odd : Bool) (w : World) :
    Calls Try.prog 3 #[.int .i64 words, .int .i64 n, .bool odd] w fun e w' => e = .returned (.bool true) ∧ Below w.heap.size w w' := by
  by_cases h1 : words < 2
  · go_enter Try.func3, Try.ntmps3
    go_wp2_with fail
    refine (known_any w).mono ?_
    rintro e w1 ⟨rfl, hb1⟩
    have HB1 := Lib.hid hb1
    clear hb1
    go_wp2
    go_ret
    exact ⟨rfl, HB1.out⟩
  by_cases h2 : 300 < words
  · go_enter Try.func3, Try.ntmps3
    go_wp2_with fail
    refine (known_any w).mono ?_
    rintro e w1 ⟨rfl, hb1⟩
    have HB1 := Lib.hid hb1
    clear hb1
    go_wp2
    go_ret
    exact ⟨rfl, HB1.out⟩
  by_cases h3 : n < 1
  · go_enter Try.func3, Try.ntmps3
    go_wp2_with fail
    refine (known_any w).mono ?_
    rintro e w1 ⟨rfl, hb1⟩
    have HB1 := Lib.hid hb1
    clear hb1
    go_wp2
    go_ret
    exact ⟨rfl, HB1.out⟩
  by_cases h4 : 40 < n
  · go_enter Try.func3, Try.ntmps3
    go_wp2_with fail
    refine (known_any w).mono ?_
    rintro e w1 ⟨rfl, hb1⟩
    have HB1 := Lib.hid hb1
    clear hb1
    go_wp2
    go_ret
    exact ⟨rfl, HB1.out⟩
  obtain ⟨m, rfl⟩ : ∃ m : Nat, words = (m : Int) := ⟨words.toNat, by omega⟩
  obtain ⟨k, rfl⟩ : ∃ k : Nat, n = (k : Int) := ⟨n.toNat, by omega⟩
  exact fresh_main w m k odd (by omega) (by omega) (by omega) (by omega)
end Go.Proofs.Ytcjkmgjonnnapaa
