/- The calls of an arena and of the document's one, one behind the other. -/
import Derived.Test.YtelohkppbmahnaaDoorQRaSweepBd
import Derived.Test.YtelohkppbmahnaaDoorQArFreshPBd
import Derived.Test.YtelohkppbmahnaaDoorQArRowBd
import Derived.Shelf.Spec.TrailingZeros
namespace Go.Proofs.YtelohkppbmahnaaDoor
open Go.RowKit

theorem canon_free (bs : List Blk) (q : Int) : canonL (freeG bs q).2 = (freeG (canonL bs) q).2 ∧ (freeG bs q).1 = (freeG (canonL bs) q).1 := by
  unfold freeG
  rw [usedAt_canon]
  split
  · refine ⟨?_, rfl⟩
    show canonL (freeF bs q.toNat) = freeF (canonL bs) q.toNat
    rw [free_canon]
    unfold freeF
    rw [norm_canon]
    congr 1
    unfold canonL
    rw [List.map_map, List.map_map]
    refine List.map_congr_left fun c _ => ?_
    simp only [Function.comp]
    split
    · simp [canon, Blk.n, zeros]
    · rfl
  · exact ⟨rfl, rfl⟩
theorem canon_sweep {bs : List Blk} (hm : ∀ b ∈ bs, b.u = false → b.m = false) : canonL (sweepF bs) = sweepF (canonL bs) := by
  rw [sweep_canon hm]
  unfold sweepF
  rw [norm_canon]
  congr 1
  unfold canonL
  rw [List.map_map, List.map_map]
  refine List.map_congr_left fun c hc => ?_
  simp only [Function.comp]
  have := hm c hc
  cases hu : c.u
  · simp [this hu, canon, Blk.n, zeros]
  · cases hmm : c.m <;> simp [canon, Blk.n, zeros]
variable {w0 W : World} {p q m : Nat} {bs bA : List Blk}
theorem Pr.setA (H : Pr w0 p q m bs bs W) {at' i : Int} {v : Nat} (V : Int) (hV : (v : Int) = V) (h1 : -9223372036854775808 ≤ at') (h2 : at' < 9223372036854775808) (hv : v < 18446744073709551616) :
    Calls Tryd.prog 12 #[.pointer (some ⟨p, 0, none⟩), .int .i64 at', .int .i64 i, .int .u64 V] W fun e W' => e = .returned (.int .i64 (setF bs at' i v).1) ∧ Pr w0 p q m (setF bs at' i v).2 bs W' :=
  H.callA fun _ A hR => Set_r A hR rfl V hV h1 h2 hv
theorem Pr.setR (H : Pr w0 p q m bA bs W) {at' i : Int} {v : Nat} (V : Int) (hV : (v : Int) = V) (hv : v < 18446744073709551616) :
    Calls Tryd.prog 13 #[.pointer (some ⟨q, 0, none⟩), .int .i64 at', .int .i64 i, .int .u64 V] W fun e W' => e = .returned (.int .i64 (setF bs at' i v).1) ∧ Pr w0 p q m bA (setF bs at' i v).2 W' :=
  (H.callR (Q := fun b => b = (setF bs at' i v).2) fun S2 rs hr hb => by
    subst hV
    refine (rSet_at hr at' i v hv).mono ?_
    rintro e W' ⟨he, h3, h4⟩
    rw [hb] at he h3
    exact ⟨he, S2, _, rfl, h3, h4, Fresh.refl _ _⟩).mono fun e W' ⟨he, b, hb, h⟩ => ⟨he, hb ▸ h⟩
theorem Pr.markA (H : Pr w0 p q m bs bs W) {at' : Int} (h1 : -9223372036854775808 ≤ at') (h2 : at' < 9223372036854775808) :
    Calls Tryd.prog 14 #[.pointer (some ⟨p, 0, none⟩), .int .i64 at'] W fun e W' => e = .returned (.bool (markG bs at').1) ∧ Pr w0 p q m (markG bs at').2 bs W' :=
  H.callA fun _ A hR => Mark_r A hR at' h1 h2
theorem Pr.markR (H : Pr w0 p q m bA bs W) {at' : Int} :
    Calls Tryd.prog 15 #[.pointer (some ⟨q, 0, none⟩), .int .i64 at'] W fun e W' => e = .returned (.bool (markG bs at').1) ∧ Pr w0 p q m bA (markG bs at').2 W' :=
  (H.callR (Q := fun b => b = (markG bs at').2) fun S2 rs hr hb => by
    refine (rMark_at hr at').mono ?_
    rintro e W' ⟨he, h3, h4⟩
    rw [hb] at he h3
    exact ⟨he, S2, _, rfl, h3, h4, Fresh.refl _ _⟩).mono fun e W' ⟨he, b, hb, h⟩ => ⟨he, hb ▸ h⟩
theorem Pr.freeA (H : Pr w0 p q m bs bs W) {at' : Int} (h1 : -9223372036854775808 ≤ at') (h2 : at' < 9223372036854775808) :
    Calls Tryd.prog 10 #[.pointer (some ⟨p, 0, none⟩), .int .i64 at'] W fun e W' => e = .returned (.int .i64 (freeG bs at').1) ∧ Pr w0 p q m (freeG bs at').2 bs W' :=
  H.callA fun _ A hR => Free_r A hR rfl h1 h2
theorem Pr.freeR {at' : Int} (H : Pr w0 p q m (freeG bs at').2 bs W) :
    Calls Tryd.prog 11 #[.pointer (some ⟨q, 0, none⟩), .int .i64 at'] W fun e W' => e = .returned (.int .i64 (freeG bs at').1) ∧ ∃ bs', Pr w0 p q m bs' bs' W' :=
  (H.callR (Q := fun b => canonL b = canonL (freeG bs at').2) fun S2 rs hr hb => by
    refine (rFree_at hr at').mono ?_
    rintro e W' ⟨he, S', bs', h3, h4, h5, h6⟩
    rw [hb] at he h4
    rw [← (canon_free bs at').2] at he
    exact ⟨he, S', bs', by rw [h4, (canon_free bs at').1], h3, h5, h6⟩).mono fun e W' ⟨he, b, hb, h⟩ => ⟨he, b, h.canon hb.symm⟩
theorem Pr.sweepA (H : Pr w0 p q m bs bs W) :
    Calls Tryd.prog 16 #[.pointer (some ⟨p, 0, none⟩)] W fun e W' => e = .returned (.int .i64 ((usedSum bs : Int) - (usedSum (sweepF bs) : Int))) ∧ Pr w0 p q m (sweepF bs) bs W' :=
  H.callA fun _ A hR => Sweep_r A hR
theorem Pr.sweepR (H : Pr w0 p q m (sweepF bs) bs W) :
    Calls Tryd.prog 17 #[.pointer (some ⟨q, 0, none⟩)] W fun e W' => e = .returned (.int .i64 ((usedSum bs : Int) - (usedSum (sweepF bs) : Int))) ∧ ∃ bs', Pr w0 p q m bs' bs' W' :=
  (H.callR (Q := fun b => canonL b = canonL (sweepF bs)) fun S2 rs hr hb => by
    have hun : ∀ b ∈ bs, b.u = false → b.m = false := by rw [← hb]; exact hr.wf.unm
    refine (rSweep_at hr).mono ?_
    rintro e W' ⟨he, S', bs', h3, h4, h5, h6⟩
    rw [hb] at he h4
    have hc := canon_sweep hun
    have hu : usedSum (sweepF (canonL bs)) = usedSum (sweepF bs) := by rw [← hc, used_canon]
    rw [hu] at he
    exact ⟨he, S', bs', by rw [h4, hc], h3, h5, h6⟩).mono fun e W' ⟨he, b, hb, h⟩ => ⟨he, b, h.canon hb.symm⟩
theorem Pr.getA (H : Pr w0 p q m bs bs W) {at' i : Int} (h1 : -9223372036854775808 ≤ at') (h2 : at' < 9223372036854775808) :
    Calls Tryd.prog 18 #[.pointer (some ⟨p, 0, none⟩), .int .i64 at', .int .i64 i] W fun e w' => e = .returned (.tuple #[.int .u64 ((getF bs at' i).1 : Nat), .int .i64 (getF bs at' i).2]) ∧ W = w' :=
  Get_n H.arn at' i h1 h2
theorem Pr.getR (H : Pr w0 p q m bs bs W) {at' i : Int} :
    Calls Tryd.prog 19 #[.pointer (some ⟨q, 0, none⟩), .int .i64 at', .int .i64 i] W fun e w' => e = .returned (.tuple #[.int .u64 ((getF bs at' i).1 : Nat), .int .i64 (getF bs at' i).2]) ∧ W = w' := by
  obtain ⟨S2, rs, h, e⟩ := H.ra
  have := rGet_at h at' i
  rw [e] at this; exact this
end Go.Proofs.YtelohkppbmahnaaDoor

/- package arena: Marked, of a block that is there. -/
namespace Go.Proofs.YtelohkppbmahnaaDoor
open Go.RowKit

/-- Is the block marked that lies there? -/
def markedAt (bs : List Blk) (x : Nat) : Bool := bs.any fun b => b.m && b.a == x
theorem markedAt_iff {bs : List Blk} {x : Nat} : markedAt bs x = true ↔ ∃ b ∈ bs, b.m = true ∧ b.a = x := by simp [markedAt, List.any_eq_true]
theorem usedAt_of {bs : List Blk} {b : Blk} (hb : b ∈ bs) (hu : b.u = true) : usedAt bs (b.a : Int) = true := (usedAt_iff bs _).2 ⟨b, hb, hu, rfl⟩
theorem Marked_s {S : Nat → Prop} {w : World} {p m : Nat} {bs : List Blk} (A0 : ArV S w p m bs) (x : Nat) (hx : usedAt bs (x : Int) = true) :
    Calls Tryd.prog 43 #[.pointer (some ⟨p, 0, none⟩), .int .i64 x] w fun e w' => e = .returned (.bool (markedAt bs x)) ∧ w = w' := by
  obtain ⟨SL, wb, tb, kb, mc, lv, ws, L, T, K, used, tk, mk, tbs, kbs, A, I, O⟩ := A0
  obtain ⟨b, hb, hbu, hq⟩ := usedAt_mem hx
  have hend := I.end_le b hb
  have hsm := I.small
  have hlen := A.core.len
  have e : b.a = x := by omega
  have hmk : mk x = markedAt bs x := by rw [Bool.eq_iff_iff, I.marked, markedAt_iff]
  have HA := Lib.hid A; have HMK := Lib.hid hmk
  have HH := Lib.hid (has_at A I (x : Int) (by omega) (by omega)); have HU := Lib.hid hx
  have HX := Lib.hid (show x < 64 * (m / 64 + 1) by omega); have HM := Lib.hid (show m / 64 + 1 ≤ 1048576 by omega)
  have c2 := heap_cell A.core.blk 2
  simp at c2
  clear A I O hb hbu hend hsm hlen e hmk hx hq
  go_enter Tryd.func43, Tryd.ntmps43
  go_wp2_with fail
  refine (absent_at p w).mono ?_
  rintro e w1 ⟨rfl, rfl⟩
  go_wp2_with fail
  refine HH.out.mono ?_
  rintro e w1 ⟨rfl, rfl⟩
  rw [HU.out]
  go_wp2_with fail
  refine (bhas_at w kb _ _ mk kbs HA.out.brk x HX.out HM.out).mono ?_
  rintro e w1 ⟨rfl, rfl⟩
  rw [HMK.out]
  go_wp2
  go_ret
  exact ⟨rfl, rfl⟩
end Go.Proofs.YtelohkppbmahnaaDoor

/- math/bits.TrailingZeros64, by hand; package arena: next, over a row of bits. -/
namespace Go.Proofs.YtelohkppbmahnaaDoor
open Go.RowKit

/-- The table of math/bits, in its variable. -/
def TzTab (w : World) : Prop := ∀ j, j < Lib.deBruijn64tab.length → w.cell? ⟨0, j, none⟩ = some (.int .u8 (Lib.deBruijn64tab.getD j 0))
theorem TzTab.on {w w' : World} (h : TzTab w) (hb : Below w.heap.size w w') : TzTab w' := fun j hj => by
  have h1 := h j hj
  rw [hb.cell (World.block_lt_of_cell? _ _ h1)]; exact h1
theorem tz64_any (x : Nat) (hx : x < 18446744073709551616) (h0 : x ≠ 0) (w : World) (ht : TzTab w) :
    Calls Tryd.prog 61 #[.int .u64 x] w fun e w' => e = .returned (.int .i64 (Lib.ctz 64 x)) ∧ w = w' := by
  obtain ⟨hlow, hk⟩ := Lib.lowest_bit 64 x h0 hx
  obtain ⟨hi, htab⟩ := Lib.deBruijn64_at _ hk
  have hcell := ht _ (by rw [show Lib.deBruijn64tab.length = 64 by decide]; exact hi)
  rw [htab] at hcell
  have key := tz64_key x _ hx h0 hlow
  obtain ⟨k, hkk⟩ : ∃ k, Lib.ctz 64 x = k := ⟨_, rfl⟩
  rw [hkk] at hk hcell key hi ⊢
  obtain ⟨idx, hidx⟩ : ∃ idx, 2 ^ k * 285870213051353865 % 18446744073709551616 / 288230376151711744 = idx := ⟨_, rfl⟩
  rw [hidx] at hcell key hi
  have hx0 : ((x : Int) == 0) = false := by simp; omega
  have hx1 : ¬ (x : Int) = 0 := by omega
  have hw : IntKind.u8.wrap (k : Int) = k := by rw [IntKind.wrap_u8]; omega
  have hi' : (idx : Int) < 64 := by omega
  clear hlow htab ht h0 hx hkk hidx
  go_enter Tryd.func61, Tryd.ntmps61
  go_wp2
  go_ret
  exact ⟨rfl, rfl⟩
theorem tz_bits {x : Nat} (h0 : x ≠ 0) (hx : x < 18446744073709551616) : Lib.ctz 64 x < 64 ∧ x.testBit (Lib.ctz 64 x) = true ∧ ∀ t, t < Lib.ctz 64 x → x.testBit t = false := by
  obtain ⟨m, hm, hk⟩ := Lib.ctzFrom_spec 64 x (by omega) (by simpa using hx)
  have e : Lib.ctz 64 x = Lib.ctzFrom 64 x := by simp [Lib.ctz, h0]
  rw [e]
  obtain ⟨c, hc⟩ : ∃ c, Lib.ctzFrom 64 x = c := ⟨_, rfl⟩
  rw [hc] at hm hk ⊢
  subst hm
  refine ⟨hk, ?_, fun t ht => ?_⟩
  · rw [Nat.testBit_two_pow_mul]
    simp
  · rw [Nat.testBit_two_pow_mul]
    simp; omega
theorem cut_bits (y s t : Nat) : (y / 2 ^ s * 2 ^ s).testBit t = (decide (s ≤ t) && y.testBit t) := by
  rw [Nat.mul_comm, Nat.testBit_two_pow_mul, Nat.testBit_div_two_pow]
  by_cases h : s ≤ t
  · simp [h, Nat.sub_add_cancel h]
  · simp [h]
/-- What next tells. -/
def NextP (f : Nat → Bool) (n i : Nat) (r : Int) : Prop := (r = -1 ∧ ∀ j, i ≤ j → j < 64 * n → f j = false) ∨ ∃ j : Nat, r = j ∧ i ≤ j ∧ j < 64 * n ∧ f j = true ∧ ∀ j', i ≤ j' → j' < j → f j' = false
def NextQ (f : Nat → Bool) (n i : Nat) (w : World) (e : Ending) (w' : World) : Prop := ∃ r : Int, e = .returned (.int .i64 r) ∧ NextP f n i r ∧ w = w'
theorem next_word {f : Nat → Bool} {n i k : Nat} {y : Nat} (hn : ∀ j, i ≤ j → j < 64 * k → f j = false) (hk : k < n) (hb : ∀ t, t < 64 → y.testBit t = (decide (i ≤ 64 * k + t) && f (64 * k + t))) (hy : y < 18446744073709551616) :
    (y = 0 → ∀ j, i ≤ j → j < 64 * (k + 1) → f j = false) ∧ (y ≠ 0 → Lib.ctz 64 y < 64 ∧ NextP f n i ((64 * k + Lib.ctz 64 y : Nat) : Int)) := by
  refine ⟨fun h j h1 h2 => ?_, fun h => ?_⟩
  · by_cases h3 : j < 64 * k
    · exact hn j h1 h3
    · have h4 := hb (j - 64 * k) (by omega)
      rw [h, Nat.zero_testBit, show 64 * k + (j - 64 * k) = j by omega] at h4
      simpa [h1] using h4.symm
  · obtain ⟨h1, h2, h3⟩ := tz_bits h hy
    refine ⟨h1, .inr ⟨_, rfl, ?_, by omega, ?_, fun j' h4 h5 => ?_⟩⟩
    · have h4 := hb _ h1
      rw [h2] at h4
      simp at h4
      exact h4.1
    · have h4 := hb _ h1
      rw [h2] at h4
      simp at h4
      exact h4.2
    · by_cases h6 : j' < 64 * k
      · exact hn j' h4 h6
      · have h7 := hb (j' - 64 * k) (by omega)
        rw [h3 _ (by omega), show 64 * k + (j' - 64 * k) = j' by omega] at h7
        simpa [h4] using h7.symm
set_option maxRecDepth 100000 in
theorem next_at (w : World) (g n cap : Nat) (f : Nat → Bool) (bs : List Nat) (k : BRow w g n cap f bs) (i : Nat) (hi : i ≤ 64 * n) (hn : n ≤ 1048576) (ht : TzTab w) :
    Calls Tryd.prog 48 #[.slice (some ⟨g, 0, none⟩) n cap, .int .i64 i] w (NextQ f n i w) := by
  have K := Lib.hid k; have HT := Lib.hid ht
  have hi6 : (i : Int) ≤ 67108864 := by omega
  have hn6 : (n : Int) ≤ 1048576 := by omega
  have HI := Lib.hid hi
  clear k ht hi
  go_enter Tryd.func48, Tryd.ntmps48
  go_wp2_with fail
  go_loopw [5] (fun t5 wr => ∃ kk : Nat, t5 = .int .i64 kk ∧ i / 64 ≤ kk ∧ kk ≤ n ∧ (∀ j, i ≤ j → j < 64 * kk → f j = false) ∧ w = wr) (fun t5 _ => n - (intOf t5).toNat)
  case atStart => exact ⟨i / 64, congrArg _ (by omega), Nat.le_refl _, by have := HI.out; omega, fun j h1 h2 => by omega, rfl⟩
  case round =>
    obtain ⟨kk, rfl, hk1, hk2, hno, rfl⟩ := hrel
    have hkk6 : (kk : Int) ≤ 1048576 := by omega
    have HNO := Lib.hid hno; have HK1 := Lib.hid hk1
    clear hno
    by_cases hlt : kk < n
    · obtain ⟨y, hy⟩ : ∃ y, bs.getD kk 0 = y := ⟨_, rfl⟩
      have c0 := K.out.row.cellAt kk (by omega)
      rw [u64s_at (by rw [K.out.len]; omega), hy] at c0
      have h64 := K.out.w64 kk
      rw [hy] at h64
      have hbit : ∀ t, t < 64 → y.testBit t = f (64 * kk + t) := fun t h => by
        have := K.out.bit (64 * kk + t) (by omega)
        rw [show (64 * kk + t) / 64 = kk by omega, show (64 * kk + t) % 64 = t by omega, hy] at this
        exact this
      have hlt' : (kk : Int) < n := by omega
      have HBIT := Lib.hid hbit; have HLT := Lib.hid hlt; have H64 := Lib.hid h64
      have hy6 : (y : Int) < 18446744073709551616 := by omega
      clear hy hbit hlt hk1 hk2
      by_cases he : kk = i / 64
      · have he1 : ((kk : Int) == (i : Int) / 64) = true := by simp; omega
        obtain ⟨z, hz⟩ : ∃ z, y / 2 ^ (i % 64) * 2 ^ (i % 64) = z := ⟨_, rfl⟩
        have hzy : z ≤ y := by rw [← hz]; exact Nat.div_mul_le_self _ _
        have hz64 : z < 18446744073709551616 := Nat.lt_of_le_of_lt hzy H64.out
        have key : IntKind.u64.wrap ((y : Int) / 2 ^ (i % 64) * 2 ^ (i % 64)) = (z : Int) := by
          have e : (y : Int) / 2 ^ (i % 64) * 2 ^ (i % 64) = (z : Int) := by rw [← hz, Int.natCast_mul, Int.natCast_ediv]; simp
          rw [e]; exact wrap_u64_in (Int.natCast_nonneg _) (by omega)
        have hw := next_word (f := f) (i := i) (y := z) HNO.out HLT.out (fun t h => by
          rw [← hz, cut_bits, HBIT.out t h]
          have e : decide (i % 64 ≤ t) = decide (i ≤ 64 * kk + t) := by
            rw [decide_eq_decide]; omega
          rw [e]) hz64
        have HW := Lib.hid hw; have HE := Lib.hid he; have HZ64 := Lib.hid hz64
        clear he hw hz hzy hz64
        by_cases h0 : z = 0
        · subst h0
          have hnx := HW.out.1 rfl
          have HNX := Lib.hid hnx
          clear hnx
          go_wp2_with (simp only [key])
          go_roundw
          case rel => exact ⟨kk + 1, by go_num, by have := HK1.out; omega, HLT.out, HNX.out, by first | rfl | trivial⟩
          case measure => have := HLT.out; simp [intOf]; omega
        · have h01 : ((z : Int) != 0) = true := by simp; omega
          have h02 : ¬ (z : Int) = 0 := by omega
          have hnx := HW.out.2 h0
          have C := Lib.hid (tz64_any z HZ64.out h0 w HT.out)
          obtain ⟨c, hc⟩ : ∃ c, Lib.ctz 64 z = c := ⟨_, rfl⟩
          rw [hc] at hnx C
          have hc6 : (c : Int) < 64 := by have := hnx.1; omega
          have HNX := Lib.hid hnx.2
          clear h0 hnx hc
          go_wp2_with (first | (simp only [key]) | fail)
          refine C.out.mono ?_
          rintro e w1 ⟨rfl, rfl⟩
          go_wp2
          go_ret
          refine ⟨_, rfl, ?_, rfl⟩
          have h := HNX.out
          have e1 : ((64 * kk + c : Nat) : Int) = (kk : Int) * 64 + c := by omega
          rw [e1] at h
          exact h
      · have he1 : ((kk : Int) == (i : Int) / 64) = false := by simp; omega
        have hw := next_word (f := f) (i := i) (y := y) HNO.out HLT.out (fun t h => by rw [HBIT.out t h]; have := HK1.out; rw [decide_eq_true (by omega), Bool.true_and]) H64.out
        have HW := Lib.hid hw
        have HE := Lib.hid he
        clear he hw
        by_cases h0 : y = 0
        · subst h0
          have hnx := HW.out.1 rfl
          have HNX := Lib.hid hnx
          clear hnx
          go_wp2
          go_roundw
          case rel => exact ⟨kk + 1, by go_num, by have := HK1.out; omega, HLT.out, HNX.out, by first | rfl | trivial⟩
          case measure => have := HLT.out; simp [intOf]; omega
        · have h01 : ((y : Int) != 0) = true := by simp; omega
          have h02 : ¬ (y : Int) = 0 := by omega
          have hnx := HW.out.2 h0
          have C := Lib.hid (tz64_any y H64.out h0 w HT.out)
          obtain ⟨c, hc⟩ : ∃ c, Lib.ctz 64 y = c := ⟨_, rfl⟩
          rw [hc] at hnx C
          have hc6 : (c : Int) < 64 := by have := hnx.1; omega
          have HNX := Lib.hid hnx.2
          clear h0 hnx hc
          go_wp2_with fail
          refine C.out.mono ?_
          rintro e w1 ⟨rfl, rfl⟩
          go_wp2
          go_ret
          refine ⟨_, rfl, ?_, rfl⟩
          have h := HNX.out
          have e1 : ((64 * kk + c : Nat) : Int) = (kk : Int) * 64 + c := by omega
          rw [e1] at h
          exact h
    · obtain rfl : kk = n := by omega
      have hlt' : ¬ (kk : Int) < kk := by omega
      clear hlt hk1 hk2
      go_wp2
      go_ret
      exact ⟨-1, rfl, .inl ⟨rfl, HNO.out⟩, rfl⟩
end Go.Proofs.YtelohkppbmahnaaDoor
