import Derived.Test.YtlcfkfijomnmnaaGreatDoorQArLists
import Derived.Test.YtlcfkfijomnmnaaGreatDoorQKdRowsBd
import Derived.Shelf.Abstract
import Derived.Lib.Slices
import Derived.Lib.Small
import Derived.Lib.Walk
import Derived.Deep.RegionHeld3
import Derived.Laws.CopyOwn
import Derived.Lib.AppendZerosOnto
namespace Go.Proofs.YtlcfkfijomnmnaaGreatDoor
open Lib (hid)
section
theorem wrap_u64_in {n : Int} (h0 : 0 ≤ n) (h1 : n < 18446744073709551616) : IntKind.u64.wrap n = n := by rw [IntKind.wrap_u64]; omega
theorem wraps64 (n : Int) (h0 : 0 ≤ n) (h1 : n < 2 ^ 64) : IntKind.u64.wrap n = n := wrap_u64_in h0 (by simpa using h1)
theorem bits_or64 (a b : Nat) (ha : a < 18446744073709551616) (hb : b < 18446744073709551616) : bits .or .u64 (a : Int) (b : Int) = ((a ||| b : Nat) : Int) :=
  (bits_nat .u64 64 (by decide) wraps64 a b (by simpa using ha) (by simpa using hb)).2
theorem bits_and64 (a b : Nat) (ha : a < 18446744073709551616) (hb : b < 18446744073709551616) : bits .and .u64 (a : Int) (b : Int) = ((a &&& b : Nat) : Int) :=
  (bits_nat .u64 64 (by decide) wraps64 a b (by simpa using ha) (by simpa using hb)).1
theorem bits_andNot64 (a b : Nat) (ha : a < 18446744073709551616) (_ : b < 18446744073709551616) : ∃ r : Nat, r < 18446744073709551616 ∧ bits .andNot .u64 (a : Int) (b : Int) = (r : Int) ∧ ∀ i, r.testBit i = (a.testBit i && !b.testBit i) := by
  refine ⟨(BitVec.ofNat 64 a &&& ~~~ BitVec.ofNat 64 b).toNat, (BitVec.isLt _), ?_, fun i => ?_⟩
  · have h : bits .andNot .u64 (a : Int) (b : Int) = IntKind.u64.wrap (BitVec.ofNat 64 a &&& ~~~ BitVec.ofNat 64 b).toNat := by
      simp only [bits, BitVec.ofInt_natCast]
      rfl
    rw [h, wrap_u64_in (Int.natCast_nonneg _)]
    have := (BitVec.ofNat 64 a &&& ~~~ BitVec.ofNat 64 b).isLt
    omega
  · rw [BitVec.testBit_toNat, BitVec.getLsbD_and, BitVec.getLsbD_not]
    simp only [BitVec.getLsbD_ofNat]
    by_cases hi : i < 64
    · simp [hi]
    · have : a.testBit i = false := Nat.testBit_lt_two_pow (Nat.lt_of_lt_of_le ha (by have : 2 ^ 64 ≤ 2 ^ i := Nat.pow_le_pow_right (by decide) (by omega); simpa using this))
      simp [hi, this]
theorem or_stamp (y i : Nat) (hy : y < 18446744073709551616) (hi : i < 4294967296) : bits .or .u64 (IntKind.u64.wrap ((y : Int) / 4294967296 * 4294967296)) (i : Int) = ((y / 4294967296 * 4294967296 + i : Nat) : Int) := by
  have h1 : IntKind.u64.wrap ((y : Int) / 4294967296 * 4294967296) = ((y / 4294967296 * 4294967296 : Nat) : Int) := by rw [wrap_u64_in (by omega) (by omega)]; omega
  rw [h1, bits_join .u64 64 (by decide) wraps64 32 _ _ (by omega) (by omega) (by omega) (by omega) (by omega) (by omega)]
  omega
theorem or_stamp' (y i : Nat) (hy : y < 18446744073709551616) (hi : i < 4294967296) : bits .or .u64 ((y : Int) / 4294967296 * 4294967296) (i : Int) = ((y / 4294967296 * 4294967296 + i : Nat) : Int) := by
  have := or_stamp y i hy hi
  rwa [wrap_u64_in (by omega) (by omega)] at this
theorem or_tail (s y : Nat) (hs : s < 4294967296) : bits .or .u64 (IntKind.u64.wrap ((s : Int) * 4294967296)) ((y % 4294967296 : Nat) : Int) = ((s * 4294967296 + y % 4294967296 : Nat) : Int) := by
  have h1 : IntKind.u64.wrap ((s : Int) * 4294967296) = ((s * 4294967296 : Nat) : Int) := by rw [wrap_u64_in (by omega) (by omega)]; omega
  rw [h1, bits_join .u64 64 (by decide) wraps64 32 _ _ (by omega) (by omega) (by omega) (by omega) (by omega) (by omega)]
  omega
theorem and_low (y : Nat) (hy : y < 18446744073709551616) : bits .and .u64 (y : Int) 4294967295 = ((y % 4294967296 : Nat) : Int) := by
  have := bits_mask .u64 64 (by decide) wraps64 32 (by decide) (y : Int) (by omega) (by omega)
  simpa using this
theorem and_one (y : Nat) (hy : y < 18446744073709551616) : bits .and .u64 (y : Int) 1 = ((y % 2 : Nat) : Int) := by
  have := bits_mask .u64 64 (by decide) wraps64 1 (by decide) (y : Int) (by omega) (by omega)
  simpa using this
theorem andNot_one (y : Nat) (hy : y < 18446744073709551616) : bits .andNot .u64 (y : Int) 1 = ((y / 2 * 2 : Nat) : Int) := by
  obtain ⟨r, h1, h2, h3⟩ := bits_andNot64 y 1 hy (by decide)
  rw [show (1 : Int) = ((1 : Nat) : Int) from rfl, h2]
  congr 1
  apply Nat.eq_of_testBit_eq
  intro i
  rw [h3]
  cases i with
  | zero => simp [Nat.testBit_zero]
  | succ i =>
    rw [Nat.testBit_succ, Nat.testBit_succ, Nat.testBit_succ, Nat.mul_div_cancel _ (by decide)]
    simp
theorem or_one (y : Nat) (hy : y < 18446744073709551616) : bits .or .u64 ((y / 2 * 2 : Nat) : Int) 1 = ((y / 2 * 2 + 1 : Nat) : Int) := by
  rw [bits_join .u64 64 (by decide) wraps64 1 _ _ (by omega) (by omega) (by omega) (by omega) (by omega) (by omega)]
  omega
end
section
open Go.RowKit
def ints (l : List Nat) : List Value := l.map fun (x : Nat) => .int .i64 (x : Int)
def u64s (l : List Nat) : List Value := l.map fun (x : Nat) => .int .u64 (x : Int)
theorem ints_len (l : List Nat) : (ints l).length = l.length := by simp [ints]
theorem u64s_len (l : List Nat) : (u64s l).length = l.length := by simp [u64s]
theorem ints_at {l : List Nat} {i : Nat} (hi : i < l.length) : (ints l)[i]? = some (.int .i64 (l.getD i 0 : Nat)) := by simp [ints, hi]
theorem u64s_at {l : List Nat} {i : Nat} (hi : i < l.length) : (u64s l)[i]? = some (.int .u64 (l.getD i 0 : Nat)) := by simp [u64s, hi]
theorem ints_set (l : List Nat) (i x : Nat) : ints (l.set i x) = (ints l).set i (.int .i64 (x : Int)) := by simp [ints, List.map_set]
theorem u64s_set (l : List Nat) (i x : Nat) : u64s (l.set i x) = (u64s l).set i (.int .u64 (x : Int)) := by simp [u64s, List.map_set]
structure HV (w : World) (p wb hb m mc n nc : Nat) (h ws : List Nat) : Prop where
  fld : w.cell? ⟨p, 0, none⟩ = some (.slice (some ⟨wb, 0, none⟩) m mc)
  wrow : w.ownsRow 0 56 1 (.slice (some ⟨wb, 0, none⟩) m mc) m (u64s ws)
  hrow : w.ownsRow 0 3 1 (.slice (some ⟨hb, 0, none⟩) n nc) n (ints h)
  pw : p ≠ wb
  ph : p ≠ hb
  wh : wb ≠ hb
  small : ws.length ≤ 1048576
  w64 : ∀ k, ws.getD k 0 < 18446744073709551616
theorem HV.m_eq {w : World} {p wb hb m mc n nc : Nat} {h ws : List Nat} (k : HV w p wb hb m mc n nc h ws) : ws.length = m ∧ h.length = n := by
  have a := k.wrow.1; have b := k.hrow.1
  rw [u64s_len] at a; rw [ints_len] at b
  omega
theorem cell_far {w : World} {a p : Addr} {u v : Value} (h : w.cell? p = some v) (hne : p.block ≠ a.block) : (w.setCell a u).cell? p = some v := by
  rw [World.cell?_setCell_far w a p u (fun e => hne e.symm)]; exact h
theorem upd_set (w : World) (b i : Nat) (v : Value) : Upd (fun k => k = b) w (w.setCell ⟨b, i, none⟩ v) := (Upd.refl (fun k => k = b) w).setCell (p := ⟨b, i, none⟩) (.inl rfl) v
theorem put_at (w : World) (p wb hb m mc n nc : Nat) (h ws : List Nat) (k : HV w p wb hb m mc n nc h ws) (i x : Nat) (hi : i < n) (hx : x < m) (hn : n ≤ 2000000) :
    Calls Tryz.prog 147 #[.pointer (some ⟨p, 0, none⟩), .slice (some ⟨hb, 0, none⟩) n nc, .int .i64 i, .int .i64 x] w fun e w' => e = .returned (.tuple #[]) ∧ HV w' p wb hb m mc n nc (h.set i x) (stamp ws x i) ∧ Upd (fun b => b = hb ∨ b = wb) w w' := by
  obtain ⟨e1, e2⟩ := k.m_eq
  have c0 := k.fld
  have c1 := k.wrow.cellAt x (by omega)
  rw [u64s_at (by omega)] at c1
  have hy64 := k.w64 x
  obtain ⟨y, hy⟩ : ∃ y, ws.getD x 0 = y := ⟨_, rfl⟩
  rw [hy] at c1 hy64
  have HY := hid hy
  clear hy
  have hos := or_stamp' y i hy64 (by omega)
  have f1 := k.wrow.frozenAt x
  have f2 := k.hrow.frozenAt i
  have c2 := k.hrow.cellAt i (by omega)
  rw [ints_at (by omega)] at c2
  have K := hid k
  clear k
  go_enter Tryz.func147, Tryz.ntmps147
  go_wp2
  obtain ⟨w0, hw0⟩ : ∃ w0, w0 = w.setCell ⟨hb, i, none⟩ (.int .i64 x) := ⟨_, rfl⟩
  rw [← hw0]
  have hne : (⟨p, 0, none⟩ : Addr).block ≠ hb := K.out.ph
  have d0 := Ext.cells (w0 := w0) (p := ⟨p, 0, none⟩) (by rw [hw0]; exact cell_far c0 K.out.ph)
  have d1 := Ext.cells (w0 := w0) (p := ⟨wb, x, none⟩) (by rw [hw0]; exact cell_far c1 K.out.wh)
  refine wp_region_calm_tail 18 (by kernel_rfl) (by kernel_rfl) ?_
  simp only [List.take_succ_cons, List.take_zero, List.drop_succ_cons, List.drop_zero]
  repeat (go_big_quiet_step (fail))
  refine wpQuiet_nil ?_
  rintro w1 hb1
  have f1' : w1.frozen? ⟨wb, x, none⟩ = false := by
    rw [World.frozen?_of_block (w := w) (by rw [hb1.block wb (by rw [hw0]; simpa [World.setCell] using World.block_lt_of_cell? _ _ c1), hw0]; exact Below.heap_setCell _ _ _ _ K.out.wh)]; exact f1
  have c1' : w1.cell? ⟨wb, x, none⟩ = some (.int .u64 y) := Ext.cell ⟨w1, hb1⟩ (by rw [hw0]; exact cell_far c1 K.out.wh)
  have HB1 := hid hb1
  clear hb1 d0 d1 c0 c1 f1 c2 f2
  go_wp2
  have hos2 : (y : Int) / 4294967296 * 4294967296 + i = ((y / 4294967296 * 4294967296 + i : Nat) : Int) := by omega
  rw [hos2]
  have k := K.out
  have r0 := (k.hrow.stored i (.int .i64 x)).1
  have r1 : w1.ownsRow 0 3 1 (.slice (some ⟨hb, 0, none⟩) n nc) n (ints (h.set i x)) := by
    rw [ints_set]; rw [← hw0] at r0
    exact ownsRow_upd (S := fun _ => False) r0 (Upd.of_below HB1.out) (fun _ _ h => h)
  have u0 : Upd (fun b => b = hb) w w1 := by
    have a : Upd (fun b => b = hb) w w0 := by rw [hw0]; exact upd_set _ _ _ _
    exact a.trans' (Upd.of_below HB1.out)
  have r2 := ownsRow_upd k.wrow u0 (fun b hb' e => k.wh (by simp [Value.ownBlock] at hb'; rw [hb', e]))
  have r3 := (r2.stored x (.int .u64 ((y / 4294967296 * 4294967296 + i : Nat) : Int))).1
  have u1 : Upd (fun b => b = wb) w1 (w1.setCell ⟨wb, x, none⟩ (.int .u64 ((y / 4294967296 * 4294967296 + i : Nat) : Int))) := upd_set _ _ _ _
  refine bodyPost_end (v := .tuple #[]) (results_none rfl _ _ _) rfl ⟨rfl, ⟨?_, ?_, ?_, k.pw, k.ph, k.wh, ?_, ?_⟩, ?_⟩
  · exact cell_far (u0.cell_some k.fld k.ph) k.pw
  · rw [stamp, HY.out, u64s_set]; exact r3
  · exact ownsRow_upd r1 u1 (fun b hb' e => k.wh (by simp [Value.ownBlock] at hb'; rw [hb', ← e]))
  · rw [stamp_len]; exact k.small
  · intro j
    by_cases e : j = x
    · subst e
      rw [stamp, getD_set _ _ _ _ (by omega), if_pos rfl, HY.out]; omega
    · rw [stamp_ne _ _ _ _ e]; exact k.w64 j
  · exact (u0.mono (fun b _ h => .inl h)).trans' (u1.mono (fun b _ h => .inr h))
def RisePost (w : World) (p wb hb m mc n nc : Nat) (R : List Nat × List Nat) (e : Ending) (w' : World) : Prop := e = .returned (.tuple #[]) ∧ HV w' p wb hb m mc n nc R.1 R.2 ∧ Upd (fun b => b = hb ∨ b = wb) w w'
theorem rise_at (w : World) (p wb hb m mc n nc : Nat) (h ws : List Nat) (k : HV w p wb hb m mc n nc h ws) (i : Nat) (hi : i < n) (hn : n ≤ 2000000) (hall : ∀ j, j < n → h.getD j 0 < m) :
    Calls Tryz.prog 121 #[.pointer (some ⟨p, 0, none⟩), .slice (some ⟨hb, 0, none⟩) n nc, .int .i64 i] w (RisePost w p wb hb m mc n nc (riseP (h.getD i 0) i h ws)) := by
  obtain ⟨R, hR⟩ : ∃ R, riseP (h.getD i 0) i h ws = R := ⟨_, rfl⟩
  rw [hR]
  obtain ⟨x, hx⟩ : ∃ x, h.getD i 0 = x := ⟨_, rfl⟩
  have hxm := hall i hi
  rw [hx] at hR hxm
  obtain ⟨e1, e2⟩ := k.m_eq
  have c0 := k.hrow.cellAt i (by omega)
  rw [ints_at (by omega), hx] at c0
  have K := hid k; have HR := hid hR; have HA := hid hall
  clear k hR hall hx e1 e2
  go_enter Tryz.func121, Tryz.ntmps121
  go_wp2
  go_loopw [2] (fun t2 wr => ∃ (i' : Nat) (h' ws' : List Nat), i' < n ∧ t2 = .int .i64 i' ∧ riseP x i' h' ws' = R ∧ (∀ j, j < n → h'.getD j 0 < m) ∧ HV wr p wb hb m mc n nc h' ws' ∧ Upd (fun b => b = hb ∨ b = wb) w wr) (fun t2 _ => (intOf t2).toNat)
  case atStart => exact ⟨i, h, ws, hi, rfl, HR.out, HA.out, K.out, Upd.refl _ _⟩
  case round =>
    obtain ⟨i', h', ws', hi', rfl, hr, ha, hv, hu⟩ := hrel
    have HR1 := hid hr; have HA1 := hid ha; have HV1 := hid hv; have HU := hid hu
    clear hr ha hv hu
    cases i' with
    | zero =>
      have hstop : riseP x 0 h' ws' = (h'.set 0 x, stamp ws' x 0) := by rw [riseP, dif_neg (fun q => by omega)]
      have HST := hid hstop
      clear hstop
      go_wp2_with fail
      refine (put_at _ p wb hb m mc n nc h' ws' HV1.out 0 x (by omega) hxm hn).mono ?_
      rintro e w2 ⟨rfl, hv2, hu2⟩
      have HV2 := hid hv2; have HU2 := hid (HU.out.trans' hu2)
      clear hv2 hu2
      go_wp2
      refine bodyPost_end (v := .tuple #[]) (results_none rfl _ _ _) rfl ⟨rfl, ?_, HU2.out⟩
      rw [← HR1.out, HST.out]; exact HV2.out
    | succ k =>
      obtain ⟨y, hy⟩ : ∃ y, h'.getD (k / 2) 0 = y := ⟨_, rfl⟩
      have c1 := HV1.out.hrow.cellAt (k / 2) (by omega)
      rw [ints_at (by have := HV1.out.m_eq.2; omega), hy] at c1
      have hym := HA1.out (k / 2) (by omega)
      rw [hy] at hym
      have k1 : IntKind.i64.wrap (((k + 1 : Nat) : Int) - 1) = (k : Int) := by rw [IntWalk.i64_in _ ⟨by omega, by omega⟩]; omega
      by_cases hlt : x < y
      · have hgo : riseP x (k + 1) h' ws' = riseP x (k / 2) (h'.set (k + 1) y) (stamp ws' y (k + 1)) := by
          rw [riseP, dif_pos ⟨by omega, by rw [show (k + 1 - 1) / 2 = k / 2 by omega, hy]; exact hlt⟩, show (k + 1 - 1) / 2 = k / 2 by omega, hy]
        have HG := hid hgo
        clear hgo
        go_wp2_with fail
        refine (put_at _ p wb hb m mc n nc h' ws' HV1.out (k + 1) y hi' hym hn).mono ?_
        rintro e w2 ⟨rfl, hv2, hu2⟩
        have HV2 := hid hv2; have HU2 := hid (HU.out.trans' hu2)
        clear hv2 hu2
        go_wp2
        go_roundw
        case rel => exact ⟨k / 2, _, _, by omega, rfl, by rw [← HG.out]; exact HR1.out, fun j hj => by rw [getD_set _ _ _ _ (by have := HV1.out.m_eq.2; omega)]; split; exact hym; exact HA1.out j hj, HV2.out, HU2.out⟩
        case measure => simp [intOf]; omega
      · have hstop : riseP x (k + 1) h' ws' = (h'.set (k + 1) x, stamp ws' x (k + 1)) := by
          rw [riseP, dif_neg (fun q => hlt (by have := q.2; rwa [show (k + 1 - 1) / 2 = k / 2 by omega, hy] at this))]
        have HST := hid hstop
        clear hstop
        go_wp2_with fail
        refine (put_at _ p wb hb m mc n nc h' ws' HV1.out (k + 1) x hi' hxm hn).mono ?_
        rintro e w2 ⟨rfl, hv2, hu2⟩
        have HV2 := hid hv2; have HU2 := hid (HU.out.trans' hu2)
        clear hv2 hu2
        go_wp2
        refine bodyPost_end (v := .tuple #[]) (results_none rfl _ _ _) rfl ⟨rfl, ?_, HU2.out⟩
        rw [← HR1.out, HST.out]; exact HV2.out
end
section
open Go.RowKit
def blen (x : Nat) : Nat := if x = 0 then 0 else Nat.log2 x + 1
theorem blenAux (f : Nat) : ∀ x, x < 2 ^ f → Lib.bitLenAux f x = blen x := by
  induction f with
  | zero => intro x h; obtain rfl : x = 0 := by simpa using h
            rfl
  | succ f ih =>
    intro x h
    unfold Lib.bitLenAux blen
    split
    · rfl
    · rename_i h0
      rw [ih (x / 2) (by rw [Nat.pow_succ] at h; omega)]
      unfold blen
      rw [Nat.log2_def x]
      by_cases h2 : 2 ≤ x
      · rw [if_pos h2, if_neg (by omega)]; omega
      · rw [if_neg h2, if_pos (by omega)]
theorem blen_eq (x : Nat) (h : x < 16777216) : Lib.bitLen x = blen x := by
  unfold Lib.bitLen
  exact blenAux 64 x (Nat.lt_trans h (by decide))
set_option maxRecDepth 100000 in
theorem fold_tree : ({ data := (([0, 1, 2, 2, 3, 3, 3, 3, 4, 4, 4, 4, 4, 4, 4, 4, 5, 5, 5, 5, 5, 5, 5, 5, 5, 5, 5, 5, 5, 5, 5, 5, 6, 6, 6, 6, 6, 6, 6, 6, 6, 6, 6, 6, 6, 6, 6, 6, 6, 6, 6, 6, 6, 6, 6, 6, 6, 6, 6, 6, 6, 6, 6, 6].append [7, 7, 7, 7, 7, 7, 7, 7, 7, 7, 7, 7, 7, 7, 7, 7, 7, 7, 7, 7, 7, 7, 7, 7, 7, 7, 7, 7, 7, 7, 7, 7, 7, 7, 7, 7, 7, 7, 7, 7, 7, 7, 7, 7, 7, 7, 7, 7, 7, 7, 7, 7, 7, 7, 7, 7, 7, 7, 7, 7, 7, 7, 7, 7]).append ([8, 8, 8, 8, 8, 8, 8, 8, 8, 8, 8, 8, 8, 8, 8, 8, 8, 8, 8, 8, 8, 8, 8, 8, 8, 8, 8, 8, 8, 8, 8, 8, 8, 8, 8, 8, 8, 8, 8, 8, 8, 8, 8, 8, 8, 8, 8, 8, 8, 8, 8, 8, 8, 8, 8, 8, 8, 8, 8, 8, 8, 8, 8, 8].append [8, 8, 8, 8, 8, 8, 8, 8, 8, 8, 8, 8, 8, 8, 8, 8, 8, 8, 8, 8, 8, 8, 8, 8, 8, 8, 8, 8, 8, 8, 8, 8, 8, 8, 8, 8, 8, 8, 8, 8, 8, 8, 8, 8, 8, 8, 8, 8, 8, 8, 8, 8, 8, 8, 8, 8, 8, 8, 8, 8, 8, 8, 8, 8])).toArray } : ByteArray) = Lib.len8tab := by kernel_rfl
set_option maxHeartbeats 4000000 in
set_option maxRecDepth 100000 in
theorem len64_int (x : Int) (w : World) (h0 : 0 ≤ x) (h1 : x < 16777216) :
    Calls Tryz.prog 83 #[.int .u64 x] w fun e w' => e = .returned (.int .i64 (Lib.bitLen x.toNat)) ∧ w = w' := by
  have n1 : ¬ 4294967296 ≤ x := by omega
  go_enter Tryz.func83, Tryz.ntmps83
  rw [fold_tree]
  by_cases h2 : 65536 ≤ x
  · have n2 : ¬ 256 ≤ x / 65536 := by omega
    have hI : ∀ w, (Instr.index 9 (.string Lib.len8tab) (.int .u8 (x / 65536))).run Tryz.prog w = .ok (.int .u8 (Lib.len8 (x / 65536))) w := fun w => Lib.run_index_len8tab w _ _ _ Tryz.underlying9 (by omega) (by omega)
    rw [Lib.len8_of (x / 65536) (by omega) (by omega), show (x / 65536).toNat = x.toNat / 65536 by omega] at hI
    have l := Lib.bitLen_le8' (x / 65536) (by omega) (by omega)
    rw [show (x / 65536).toNat = x.toNat / 65536 by omega] at l
    have s := Lib.bitLen_shift16 x.toNat (by omega) (by omega)
    go_wp2
    go_ret
    refine ⟨congrArg Ending.returned (congrArg (Value.int IntKind.i64) ?_), rfl⟩
    try rw [s]
    simp only
    try omega
  by_cases h3 : 256 ≤ x
  · have n2 : ¬ 65536 ≤ x := by omega
    have hI : ∀ w, (Instr.index 9 (.string Lib.len8tab) (.int .u8 (x / 256))).run Tryz.prog w = .ok (.int .u8 (Lib.len8 (x / 256))) w := fun w => Lib.run_index_len8tab w _ _ _ Tryz.underlying9 (by omega) (by omega)
    rw [Lib.len8_of (x / 256) (by omega) (by omega), show (x / 256).toNat = x.toNat / 256 by omega] at hI
    have l := Lib.bitLen_le8' (x / 256) (by omega) (by omega)
    rw [show (x / 256).toNat = x.toNat / 256 by omega] at l
    have s := Lib.bitLen_shift8 x.toNat (by omega) (by omega)
    go_wp2
    go_ret
    refine ⟨congrArg Ending.returned (congrArg (Value.int IntKind.i64) ?_), rfl⟩
    try rw [s]
    simp only
    try omega
  · have n2 : ¬ 65536 ≤ x := by omega
    have hI : ∀ w, (Instr.index 9 (.string Lib.len8tab) (.int .u8 (x))).run Tryz.prog w = .ok (.int .u8 (Lib.len8 (x))) w := fun w => Lib.run_index_len8tab w _ _ _ Tryz.underlying9 (by omega) (by omega)
    rw [Lib.len8_of (x) (by omega) (by omega), show (x).toNat = x.toNat by omega] at hI
    have l := Lib.bitLen_le8' (x) (by omega) (by omega)
    rw [show (x).toNat = x.toNat by omega] at l
    go_wp2
    go_ret
    refine ⟨congrArg Ending.returned (congrArg (Value.int IntKind.i64) ?_), rfl⟩
    try rw [s]
    simp only
    try omega
theorem len64_at (x : Nat) (w : World) (h : x < 16777216) :
    Calls Tryz.prog 83 #[.int .u64 x] w fun e w' => e = .returned (.int .i64 (blen x)) ∧ w = w' := by
  rw [← blen_eq x h]
  have := len64_int x w (by omega) (by omega)
  simpa using this
theorem len_at (x : Nat) (w : World) (h : x < 16777216) :
    Calls Tryz.prog 45 #[.int .u64 x] w fun e w' => e = .returned (.int .i64 (blen x)) ∧ w = w' := by
  go_enter Tryz.func45, Tryz.ntmps45
  go_wp2_with fail
  refine (len64_at x _ h).mono ?_
  rintro e w' ⟨rfl, rfl⟩
  go_wp2
  go_ret
  exact ⟨rfl, rfl⟩
theorem list_at (x : Nat) (w : World) (h0 : 0 < x) (h : x < 16777216) :
    Calls Tryz.prog 120 #[.int .i64 x] w fun e w' => e = .returned (.int .i64 (Nat.log2 x)) ∧ w = w' := by
  have hb : blen x = Nat.log2 x + 1 := if_neg (by omega)
  have hl : Nat.log2 x < 24 := (Nat.log2_lt (by omega)).2 h
  obtain ⟨l, hl2⟩ : ∃ l, Nat.log2 x = l := ⟨_, rfl⟩
  rw [hl2] at hb hl ⊢
  clear hl2
  go_enter Tryz.func120, Tryz.ntmps120
  go_wp2_with fail
  refine (len_at x _ h).mono ?_
  rw [hb]
  rintro e w' ⟨rfl, rfl⟩
  go_wp2
  go_ret
  exact ⟨rfl, rfl⟩
set_option maxHeartbeats 2000000 in
theorem search_at (g : FuncId) (cb : Array Value) (n k : Nat) (w : World) (eg : ∀ args w, (callFunc g args).run Tryz.prog w = .ok (.enter g args) w) (hk : k ≤ n) (hn : n ≤ 1048576)
    (hf : ∀ (x : Ext w) (i : Nat), i < n → Calls Tryz.prog g (#[.int .i64 i] ++ cb) x.val fun e w' => e = .returned (.bool (decide (k ≤ i))) ∧ Below x.val.heap.size x.val w') :
    Calls Tryz.prog 123 #[.int .i64 n, .func (.func g) #[] cb] w fun e w' => e = .returned (.int .i64 k) ∧ Below w.heap.size w w' := by
  have HF := hid hf
  clear hf
  go_enter Tryz.func123, Tryz.ntmps123
  go_wp2
  go_loopw [5, 6] (fun s5 s6 wr => ∃ (lo hi : Nat) (x : Ext w), s5 = .int .i64 lo ∧ s6 = .int .i64 hi ∧ lo ≤ k ∧ k ≤ hi ∧ hi ≤ n ∧ wr = x.val) (fun s5 s6 _ => (intOf s6).toNat - (intOf s5).toNat)
  case atStart => exact ⟨0, n, ⟨w, Below.refl _ _⟩, rfl, rfl, Nat.zero_le _, hk, Nat.le_refl _, rfl⟩
  case round =>
    obtain ⟨lo, hi, x, rfl, rfl, h1, h2, h3, rfl⟩ := hrel
    by_cases hlt : lo < hi
    · have hc := HF.out x ((lo + hi) / 2) (by omega)
      rw [show (((lo + hi) / 2 : Nat) : Int) = ((lo : Int) + (hi : Int)) / 2 by omega] at hc
      by_cases hp : k ≤ (lo + hi) / 2
      · rw [decide_eq_true hp] at hc
        go_wp2_with (go_at_fn g; refine hc.mono ?_; rintro e w' ⟨rfl, hb⟩)
        have HB := hid (x.2.trans (hb.mono x.2.size))
        clear hb hc
        go_wp2
        go_roundw
        case rel => exact ⟨lo, (lo + hi) / 2, ⟨_, HB.out⟩, rfl, by rw [show ((lo : Int) + (hi : Int)) / 2 = (((lo + hi) / 2 : Nat) : Int) by omega], h1, hp, by omega, rfl⟩
        case measure => simp [intOf]; omega
      · rw [decide_eq_false hp] at hc
        go_wp2_with (go_at_fn g; refine hc.mono ?_; rintro e w' ⟨rfl, hb⟩)
        have HB := hid (x.2.trans (hb.mono x.2.size))
        clear hb hc
        go_wp2
        go_roundw
        case rel => exact ⟨(lo + hi) / 2 + 1, hi, ⟨_, HB.out⟩, by rw [show ((lo : Int) + (hi : Int)) / 2 + 1 = (((lo + hi) / 2 + 1 : Nat) : Int) by omega], rfl, by omega, h2, h3, rfl⟩
        case measure => simp [intOf]; omega
    · obtain rfl : hi = lo := by omega
      obtain rfl : k = hi := by omega
      go_wp2
      go_ret
      exact ⟨rfl, x.2⟩
end
section
open Go.RowKit
structure BRow (w : World) (g n cap : Nat) (f : Nat → Bool) (bs : List Nat) : Prop where
  row : w.ownsRow 0 56 1 (.slice (some ⟨g, 0, none⟩) n cap) n (u64s bs)
  w64 : ∀ k, bs.getD k 0 < 18446744073709551616
  bit : ∀ i, i < 64 * n → (bs.getD (i / 64) 0).testBit (i % 64) = f i
theorem BRow.len {w : World} {g n cap : Nat} {f : Nat → Bool} {bs : List Nat} (k : BRow w g n cap f bs) : bs.length = n := by
  have a := k.row.1
  rw [u64s_len] at a; omega
theorem bhas_at (w : World) (g n cap : Nat) (f : Nat → Bool) (bs : List Nat) (k : BRow w g n cap f bs) (i : Nat) (hi : i < 64 * n) (hn : n ≤ 1048576) :
    Calls Tryz.prog 97 #[.slice (some ⟨g, 0, none⟩) n cap, .int .i64 i] w fun e w' => e = .returned (.bool (f i)) ∧ w = w' := by
  obtain ⟨y, hy⟩ : ∃ y, bs.getD (i / 64) 0 = y := ⟨_, rfl⟩
  have c0 := k.row.cellAt (i / 64) (by omega)
  rw [u64s_at (by rw [k.len]; omega), hy] at c0
  have h64 := k.w64 (i / 64)
  have hb := k.bit i hi
  rw [hy] at h64 hb
  obtain ⟨b, hfb⟩ : ∃ b, f i = b := ⟨_, rfl⟩
  rw [hfb] at hb ⊢
  have HB := hid hb
  clear hb hy k hfb
  go_enter Tryz.func97, Tryz.ntmps97
  go_wp2
  go_ret
  refine ⟨?_, rfl⟩
  have e : (y : Int) / 2 ^ (i % 64) = ((y / 2 ^ (i % 64) : Nat) : Int) := by
    rw [Int.natCast_ediv]; simp
  rw [e, and_one _ (Nat.lt_of_le_of_lt (Nat.div_le_self _ _) h64)]
  have h := HB.out
  rw [Nat.testBit_eq_decide_div_mod_eq] at h
  rw [← h]
  show Ending.returned (Value.bool (((y / 2 ^ (i % 64) % 2 : Nat) : Int) == 1)) = _
  congr 2
  rw [Bool.eq_iff_iff]
  simp
  omega
def turned (f : Nat → Bool) (i : Nat) (b : Bool) : Nat → Bool := fun j => if j = i then b else f j
theorem BRow.turn {w w' : World} {g n cap : Nat} {f : Nat → Bool} {bs : List Nat} (k : BRow w g n cap f bs) (i r : Nat) (b : Bool) (hi : i < 64 * n) (hr : r < 18446744073709551616)
    (hb : ∀ j, j < 64 → r.testBit j = if j = i % 64 then b else (bs.getD (i / 64) 0).testBit j)
    (row : w'.ownsRow 0 56 1 (.slice (some ⟨g, 0, none⟩) n cap) n ((u64s bs).set (i / 64) (.int .u64 (r : Int)))) : BRow w' g n cap (turned f i b) (bs.set (i / 64) r) := by
  have hl := k.len
  refine ⟨by rw [u64s_set]; exact row, fun j => ?_, fun j hj => ?_⟩
  · rw [getD_set _ _ _ _ (by omega)]
    split
    · exact hr
    · exact k.w64 j
  · rw [getD_set _ _ _ _ (by omega)]
    unfold turned
    split
    · rename_i e
      rw [hb _ (Nat.mod_lt _ (by decide)), ← k.bit j hj, e]
      by_cases e2 : j % 64 = i % 64
      · rw [if_pos e2, if_pos (by omega)]
      · rw [if_neg e2, if_neg (fun q => e2 (by rw [q]))]
    · rename_i e
      rw [if_neg (fun q => e (by rw [q]))]
      exact k.bit j hj
theorem below_cell {w w' : World} (h : Below w.heap.size w w') {p : Addr} {v : Value} (hc : w.cell? p = some v) : w'.cell? p = some v := by
  rw [h.cell (World.block_lt_of_cell? _ _ hc)]; exact hc
theorem pow_wrap (j : Nat) (hj : j < 64) : IntKind.u64.wrap ((2 : Int) ^ j) = ((2 ^ j : Nat) : Int) ∧ 2 ^ j < 18446744073709551616 := by
  have h : 2 ^ j < 2 ^ 64 := Nat.pow_lt_pow_right (by decide) hj
  have h2 : (2 : Int) ^ j = ((2 ^ j : Nat) : Int) := by simp
  refine ⟨?_, by simpa using h⟩
  rw [h2]
  exact wrap_u64_in (Int.natCast_nonneg _) (by have : 2 ^ j < 18446744073709551616 := by simpa using h
                                               omega)
theorem bset_at (w : World) (g n cap : Nat) (f : Nat → Bool) (bs : List Nat) (k : BRow w g n cap f bs) (i : Nat) (hi : i < 64 * n) (hn : n ≤ 1048576) :
    Calls Tryz.prog 89 #[.slice (some ⟨g, 0, none⟩) n cap, .int .i64 i] w fun e w' => e = .returned (.tuple #[]) ∧ (∃ bs', BRow w' g n cap (turned f i true) bs') ∧ Upd (fun b => b = g) w w' := by
  obtain ⟨y, hy⟩ : ∃ y, bs.getD (i / 64) 0 = y := ⟨_, rfl⟩
  have c0 := k.row.cellAt (i / 64) (by omega)
  rw [u64s_at (by rw [k.len]; omega), hy] at c0
  have h64 := k.w64 (i / 64)
  rw [hy] at h64
  have d0 := Ext.cells (w0 := w) c0
  have HY := hid hy; have K := hid k; have C0 := hid c0
  clear hy k c0
  go_enter Tryz.func89, Tryz.ntmps89
  refine wp_region_calm_tail 10 (by kernel_rfl) (by kernel_rfl) ?_
  simp only [List.take_succ_cons, List.take_zero, List.drop_succ_cons, List.drop_zero]
  repeat (go_big_quiet_step (fail))
  refine wpQuiet_nil ?_
  rintro w1 hb1
  have r1 := ownsRow_upd (S := fun _ => False) K.out.row (Upd.of_below hb1) (fun _ _ h => h)
  have f1 := r1.frozenAt (i / 64)
  have c1 := below_cell hb1 C0.out
  have R1 := hid r1; have HB1 := hid hb1
  clear d0 r1 hb1
  go_wp2
  have hp := pow_wrap (i % 64) (Nat.mod_lt _ (by decide))
  rw [hp.1, bits_or64 y _ h64 hp.2]
  refine bodyPost_end (v := .tuple #[]) (results_none rfl _ _ _) rfl ⟨rfl, ⟨_, K.out.turn i (y ||| 2 ^ (i % 64)) true hi (by have := Nat.or_lt_two_pow (n := 64) (by simpa using h64) (by simpa using hp.2) (x := y) (y := 2 ^ (i % 64)); simpa using this) (fun j hj => ?_) (R1.out.stored _ _).1⟩, (Upd.of_below HB1.out).trans' (upd_set _ _ _ _)⟩
  rw [Nat.testBit_or, Nat.testBit_two_pow, HY.out]
  by_cases e : i % 64 = j
  · rw [if_pos e.symm]; simp [e]
  · rw [if_neg (fun q => e q.symm)]; simp [e]
theorem bunset_at (w : World) (g n cap : Nat) (f : Nat → Bool) (bs : List Nat) (k : BRow w g n cap f bs) (i : Nat) (hi : i < 64 * n) (hn : n ≤ 1048576) :
    Calls Tryz.prog 98 #[.slice (some ⟨g, 0, none⟩) n cap, .int .i64 i] w fun e w' => e = .returned (.tuple #[]) ∧ (∃ bs', BRow w' g n cap (turned f i false) bs') ∧ Upd (fun b => b = g) w w' := by
  obtain ⟨y, hy⟩ : ∃ y, bs.getD (i / 64) 0 = y := ⟨_, rfl⟩
  have c0 := k.row.cellAt (i / 64) (by omega)
  rw [u64s_at (by rw [k.len]; omega), hy] at c0
  have h64 := k.w64 (i / 64)
  rw [hy] at h64
  have d0 := Ext.cells (w0 := w) c0
  have HY := hid hy; have K := hid k; have C0 := hid c0
  clear hy k c0
  go_enter Tryz.func98, Tryz.ntmps98
  refine wp_region_calm_tail 10 (by kernel_rfl) (by kernel_rfl) ?_
  simp only [List.take_succ_cons, List.take_zero, List.drop_succ_cons, List.drop_zero]
  repeat (go_big_quiet_step (fail))
  refine wpQuiet_nil ?_
  rintro w1 hb1
  have r1 := ownsRow_upd (S := fun _ => False) K.out.row (Upd.of_below hb1) (fun _ _ h => h)
  have f1 := r1.frozenAt (i / 64)
  have c1 := below_cell hb1 C0.out
  have R1 := hid r1; have HB1 := hid hb1
  clear d0 r1 hb1
  go_wp2
  have hp := pow_wrap (i % 64) (Nat.mod_lt _ (by decide))
  obtain ⟨r, r0, r2, r3⟩ := bits_andNot64 y _ h64 hp.2
  rw [hp.1, r2]
  refine bodyPost_end (v := .tuple #[]) (results_none rfl _ _ _) rfl ⟨rfl, ⟨_, K.out.turn i r false hi r0 (fun j hj => ?_) (R1.out.stored _ _).1⟩, (Upd.of_below HB1.out).trans' (upd_set _ _ _ _)⟩
  rw [r3, Nat.testBit_two_pow, HY.out]
  by_cases e : i % 64 = j
  · rw [if_pos e.symm]; simp [e]
  · rw [if_neg (fun q => e q.symm)]; simp [e]
end
section
open Go.RowKit
def flatE (l : List (Ent Value)) : List Value := l.flatMap fun e => [.int .i64 (e.s : Nat), e.v]
theorem flatE_len (l : List (Ent Value)) : (flatE l).length = 2 * l.length := by
  induction l with
  | nil => rfl
  | cons e l ih =>
    unfold flatE at ih ⊢
    rw [List.flatMap_cons, List.length_append, ih]
    simp; omega
theorem flatE_append (a b : List (Ent Value)) : flatE (a ++ b) = flatE a ++ flatE b := List.flatMap_append
theorem flatE_at (l : List (Ent Value)) (i : Nat) (e : Ent Value) (hi : l[i]? = some e) : (flatE l)[i * 2]? = some (.int .i64 (e.s : Nat)) ∧ (flatE l)[i * 2 + 1]? = some e.v := by
  induction l generalizing i with
  | nil => simp at hi
  | cons a l ih =>
    have h : flatE (a :: l) = [.int .i64 (a.s : Nat), a.v] ++ flatE l := List.flatMap_cons
    cases i with
    | zero => simp at hi; subst hi; rw [h]; exact ⟨rfl, rfl⟩
    | succ i =>
      have hi' : l[i]? = some e := by simpa using hi
      obtain ⟨h1, h2⟩ := ih i hi'
      rw [h]
      refine ⟨?_, ?_⟩
      · rw [List.getElem?_append_right (by simp; omega), show (i + 1) * 2 - [Value.int .i64 (a.s : Nat), a.v].length = i * 2 by simp; omega]; exact h1
      · rw [List.getElem?_append_right (by simp; omega), show (i + 1) * 2 + 1 - [Value.int .i64 (a.s : Nat), a.v].length = i * 2 + 1 by simp; omega]; exact h2
structure LsAt (S : Nat → Prop) (w : World) (lv : Value) (L : List (Value × List (Ent Value))) (T K : Nat → Nat) : Prop where
  row : w.ownsRow 0 182 1 lv L.length (L.map (·.1))
  own : ∀ b, lv.ownBlock = some b → S b
  mrow : ∀ (k : Nat) (p : Value × List (Ent Value)), L[k]? = some p → w.ownsRow 0 187 2 p.1 p.2.length (flatE p.2)
  mown : ∀ (k : Nat) (p : Value × List (Ent Value)), L[k]? = some p → ∀ b, p.1.ownBlock = some b → S b ∧ K b = k
  hrow : ∀ (k : Nat) (p : Value × List (Ent Value)), L[k]? = some p → ∀ e ∈ p.2, w.ownsRow 0 3 1 e.v e.h.length (ints e.h)
  hown : ∀ (k : Nat) (p : Value × List (Ent Value)), L[k]? = some p → ∀ e ∈ p.2, ∀ b, e.v.ownBlock = some b → S b ∧ T b = e.s
theorem below_drewN' {B : Nat} {a b : World} (h : Below B a b) (n : Nat) : Below B a (b.drewN n) := ⟨h.os, h.tape, h.output, h.size, h.block⟩
theorem list_below (x : Nat) (w : World) (h0 : 0 < x) (h : x < 16777216) :
    Calls Tryz.prog 120 #[.int .i64 x] w fun e w' => e = .returned (.int .i64 (Nat.log2 x)) ∧ Below w.heap.size w w' :=
  (list_at x w h0 h).mono fun _ _ ⟨he, hw⟩ => ⟨he, by subst hw; exact Below.refl _ _⟩
theorem place1_at (w : World) (lb sb mb n c i s y : Nat) (h1 : w.cell? ⟨lb, 0, none⟩ = some (.slice (some ⟨mb, 0, none⟩) n c)) (h2 : w.cell? ⟨sb, 0, none⟩ = some (.int .i64 s)) (h3 : w.cell? ⟨mb, i * 2, none⟩ = some (.int .i64 y)) (hi : i < n) (_ : n ≤ 1048576) :
    Calls Tryz.prog 144 (#[.int .i64 i] ++ #[.pointer (some ⟨lb, 0, none⟩), .pointer (some ⟨sb, 0, none⟩)]) w fun e w' => e = .returned (.bool (decide (s ≤ y))) ∧ Below w.heap.size w w' := by
  go_enter Tryz.func144, Tryz.ntmps144
  go_wp2
  go_quiet (fail)
  go_wp2
  go_ret
  exact ⟨by simp, below_drewN' (Below.refl _ _) _⟩
def thereB (l2 : List (Ent Value)) (s : Nat) : Bool := match l2 with
  | [] => false
  | e :: _ => e.s == s
set_option maxHeartbeats 4000000 in
theorem place_at (w : World) (p s _ : Nat) (gb ln lc : Nat) (l1 l2 : List (Ent Value)) (mv : Value)
    (c4 : w.cell? ⟨p, 4, none⟩ = some (.slice (some ⟨gb, 0, none⟩) ln lc)) (hk : Nat.log2 s < ln) (_ : ln ≤ 64) (cg : w.cell? ⟨gb, Nat.log2 s, none⟩ = some mv)
    (mrow : w.ownsRow 0 187 2 mv (l1 ++ l2).length (flatE (l1 ++ l2))) (p1 : ∀ e ∈ l1, e.s < s) (p2 : ∀ e ∈ l2, s ≤ e.s) (h0 : 0 < s) (hs : s < 1048577) (hl : (l1 ++ l2).length ≤ 1048576) :
    Calls Tryz.prog 118 #[.pointer (some ⟨p, 0, none⟩), .int .i64 s] w fun e w' => e = .returned (.tuple #[mv, .int .i64 l1.length, .bool (thereB l2 s)]) ∧ Below w.heap.size w w' := by
  obtain ⟨mao, mcap, rfl, hmc, hmm, _⟩ := ownsRow_form mrow
  obtain ⟨n, hn⟩ : ∃ n, (l1 ++ l2).length = n := ⟨_, rfl⟩
  obtain ⟨k1, hk1⟩ : ∃ k1, l1.length = k1 := ⟨_, rfl⟩
  have hk1n : k1 ≤ n := by rw [← hn, ← hk1]; simp
  rw [hn] at mrow cg hmc hl
  rw [hn, hk1]
  obtain ⟨tb, htb⟩ : ∃ tb, thereB l2 s = tb := ⟨_, rfl⟩
  rw [htb]
  have HN := hid hn; have HK1 := hid hk1; have HTB := hid htb
  clear hn hk1 htb
  obtain ⟨W1, hW1⟩ : ∃ W1, W1 = (w.alloc (.cells #[.int .i64 s] 3)).alloc (.cells #[.slice none 0 0] 182) := ⟨_, rfl⟩
  have hb1 : Below w.heap.size w W1 := by rw [hW1]; exact ((Below.refl _ _).alloc (Nat.le_refl _) _).alloc (by simp) _
  have hsz : W1.heap.size = w.heap.size + 2 := by rw [hW1]; simp
  have b0 := heap_alloc_keep (heap_alloc_at w (.cells #[.int .i64 s] 3) (b := w.heap.size) rfl) (.cells #[.slice none 0 0] 182)
  have b1 := heap_alloc_at (w.alloc (.cells #[.int .i64 s] 3)) (.cells #[.slice none 0 0] 182) (b := w.heap.size + 1) (by simp)
  rw [← hW1] at b0 b1
  have e0 := Ext.cells (w0 := W1) (heap_cell b0 0)
  have e1 := Ext.cells (w0 := W1) (heap_cell b1 0)
  have e2 := Ext.cells (w0 := W1) (below_cell hb1 c4)
  have e3 := Ext.cells (w0 := W1) (below_cell hb1 cg)
  simp at e0 e1
  have B1 := hid b1; have HB1 := hid hb1; have HW := hid hW1; have B0 := hid b0
  have P1 := hid p1; have P2 := hid p2; have MR := hid mrow
  clear b0 b1 hb1 p1 p2 mrow
  go_enter Tryz.func118, Tryz.ntmps118
  go_wp2
  rw [← HW.out]
  refine wp_region_calm_tail 8 (by kernel_rfl) (by kernel_rfl) ?_
  simp only [List.take_succ_cons, List.take_zero, List.drop_succ_cons, List.drop_zero]
  repeat (go_big_quiet_step ((exact Ext.call _ (list_below s _ h0 (by omega)))))
  refine wpQuiet_nil ?_
  rintro w2 hb2
  obtain ⟨W2, hW2⟩ : ∃ W2, W2 = w2.setCell ⟨w.heap.size + 1, 0, none⟩ (.slice mao n mcap) := ⟨_, rfl⟩
  have z1 : w2.heap[w.heap.size + 1]? = some (.cells #[.slice none 0 0] 182 (0, 0)) := by rw [hb2.block _ (heap_lt B1.out)]; exact B1.out
  have z0 : w2.heap[w.heap.size]? = some (.cells #[.int .i64 s] 3 (0, 0)) := by rw [hb2.block _ (heap_lt B0.out)]; exact B0.out
  have q1 := heap_cell z1 0
  have qf := heap_frozen z1 0
  have y1 := heap_set_at z1 0 (.slice mao n mcap)
  have y0 := heap_set_off z0 (a := ⟨w.heap.size + 1, 0, none⟩) (by simp) (.slice mao n mcap)
  rw [← hW2] at y1 y0
  have g1 := Ext.cells (w0 := W2) (heap_cell y1 0)
  have g0 := Ext.cells (w0 := W2) (heap_cell y0 0)
  simp at q1 g0 g1
  have hbW2 : Below w.heap.size w W2 := by
    rw [hW2]; exact (HB1.out.trans (hb2.mono HB1.out.size)).setCell (p := ⟨w.heap.size + 1, 0, none⟩) (by simp) _
  have HB2 := hid hbW2; have HW2 := hid hW2; have Y1 := hid y1; have Y0 := hid y0
  clear e0 e1 e2 e3 z0 z1 hb2 y1 y0 hbW2
  go_wp2_with fail
  rw [← HW2.out]
  refine (search_at 144 _ n k1 W2 (fun _ _ => by kernel_rfl) hk1n hl (fun x i hi => ?_)).mono ?_
  · have hmr := ownsRow_upd (S := fun _ => False) MR.out (Upd.of_below (HB2.out.trans (x.2.mono HB2.out.size))) (fun _ _ h => h)
    obtain ⟨e, he⟩ : ∃ e, (l1 ++ l2)[i]? = some e := ⟨_, List.getElem?_eq_getElem (by rw [HN.out]; exact hi)⟩
    obtain ⟨g, cap, cur, hv, _, _, _, hcell⟩ := ownsRow_some hmr (by omega)
    simp only [Value.slice.injEq] at hv
    obtain ⟨rfl, _, rfl⟩ := hv
    have hc := hcell (i * 2) (by omega)
    rw [(flatE_at _ i e he).1] at hc
    refine (place1_at x.val _ _ g n mcap i s e.s (g1 x) (g0 x) hc hi hl).mono ?_
    rintro e' w' ⟨rfl, hb⟩
    refine ⟨?_, hb⟩
    rw [split_tells s P1.out P2.out i e he, HK1.out]
  rintro e w3 ⟨rfl, hb3⟩
  have HB3 := hid hb3
  have f1 : w3.cell? ⟨w.heap.size + 1, 0, none⟩ = some (.slice mao n mcap) := by have := g1 ⟨w3, hb3⟩; exact this
  have f0 : w3.cell? ⟨w.heap.size, 0, none⟩ = some (.int .i64 s) := by have := g0 ⟨w3, hb3⟩; exact this
  have ff : w3.frozen? ⟨w.heap.size + 1, 0, none⟩ = false := by
    have z1 : w3.heap[w.heap.size + 1]? = some (.cells #[.slice mao n mcap] 182 (0, 0)) := by rw [hb3.block _ (heap_lt Y1.out)]; exact Y1.out
    exact heap_frozen z1 0
  have hsne : ¬ w.heap.size = w.heap.size + 1 := by omega
  have hsne2 : ¬ w.heap.size + 1 = w.heap.size := by omega
  clear hb3
  cases l2 with
  | nil =>
    have htb := HTB.out
    simp only [thereB] at htb
    subst htb
    have hkn : k1 = n := by have a := HN.out; have b := HK1.out; simp at a; omega
    have hd : decide (k1 < n) = false := decide_eq_false (by omega)
    clear hkn
    clear g0 g1
    go_wp2
    go_region
    go_wp2
    have r1 : (w3.setCell ⟨w.heap.size + 1, 0, none⟩ (.slice mao n mcap)).cell? ⟨w.heap.size + 1, 0, none⟩ = some (.slice mao n mcap) := World.cell?_setCell_same' _ _ _ (by rw [f1]; rfl)
    have HB4 := ((HB2.out.trans (HB3.out.mono HB2.out.size)).setCell (p := ⟨w.heap.size + 1, 0, none⟩) (by simp) (.slice mao n mcap)).drew
    exact bodyPost_ret (v := .tuple #[.slice mao n mcap, .int .i64 k1, .bool false]) (by simp [results, Tryz.results118, go_sem, r1]) rfl ⟨rfl, HB4⟩
  | cons e r =>
    have hkn : k1 < n := by have a := HN.out; have b := HK1.out; simp at a; omega
    have hd : decide (k1 < n) = true := decide_eq_true (by omega)
    have he : (l1 ++ e :: r)[k1]? = some e := by rw [← HK1.out]; simp
    obtain ⟨g, cap, cur, hv, _, _, _, hcell⟩ := ownsRow_some (ownsRow_upd (S := fun _ => False) MR.out (Upd.of_below (HB2.out.trans (HB3.out.mono HB2.out.size))) (fun _ _ h => h)) (by omega)
    simp only [Value.slice.injEq] at hv
    obtain ⟨rfl, _, rfl⟩ := hv
    have hc := hcell (k1 * 2) (by omega)
    rw [(flatE_at _ k1 e he).1] at hc
    have hgl : g < w.heap.size := by have := (MR.out.lt g rfl).2; exact this
    have hgne : ¬ g = w.heap.size + 1 := by omega
    have hgne2 : ¬ w.heap.size + 1 = g := by omega
    obtain ⟨y, hy⟩ : ∃ y, e.s = y := ⟨_, rfl⟩
    have htb := HTB.out
    simp only [thereB] at htb
    rw [hy] at hc htb
    have htb2 : ((y : Int) == (s : Int)) = tb := by rw [← htb]; rw [Bool.eq_iff_iff]; simp; omega
    clear he hcell htb hy
    clear g0 g1
    go_wp2
    go_region_held3 (fun w' => w'.cell? ⟨w.heap.size + 1, 0, none⟩ = some (.slice (some ⟨g, 0, none⟩) n mcap) ∧ w'.frozen? ⟨w.heap.size + 1, 0, none⟩ = false ∧ w'.cell? ⟨w.heap.size, 0, none⟩ = some (.int .i64 s) ∧ w'.cell? ⟨g, k1 * 2, none⟩ = some (.int .i64 y)) (simp [*, World.cell?_setCell_same', World.cell?_setCell_far, World.frozen?_setCell]) (fail)
    go_wp2
    have r1 : (w3.setCell ⟨w.heap.size + 1, 0, none⟩ (.slice (some ⟨g, 0, none⟩) n mcap)).cell? ⟨w.heap.size + 1, 0, none⟩ = some (.slice (some ⟨g, 0, none⟩) n mcap) := World.cell?_setCell_same' _ _ _ (by rw [f1]; rfl)
    have HB4 := ((HB2.out.trans (HB3.out.mono HB2.out.size)).setCell (p := ⟨w.heap.size + 1, 0, none⟩) (by simp) (.slice (some ⟨g, 0, none⟩) n mcap)).drew
    exact bodyPost_ret (v := .tuple #[.slice (some ⟨g, 0, none⟩) n mcap, .int .i64 k1, .bool tb]) (by simp [results, Tryz.results118, go_sem, r1]) rfl ⟨rfl, HB4⟩
end
section
open Go.RowKit
theorem upd_setRow (w : World) (g : Nat) (cs : Array Value) : Upd (fun k => k = g) w (w.setRow g cs) :=
  ⟨rfl, rfl, rfl, by simp [World.setRow], fun k _ hs => setRow_other w g k cs hs⟩
theorem heap_setRow {w : World} {g : Nat} {cur : Array Value} {t : TypeId} {fr : Nat × Nat} (h : w.heap[g]? = some (.cells cur t fr)) (cs : Array Value) : (w.setRow g cs).heap[g]? = some (.cells cs t fr) := by
  simp [World.setRow, Array.getElem?_modify, h]
theorem run_copy_sized {P : Program} (w : World) (dT sT ty elem : TypeId) (size : Nat) (g o dLen dCap : Nat) (a : Addr) (sLen sCap : Nat) (cur : Array Value) (t : TypeId) (n : Nat) (cs : List Value)
    (hu : P.underlying dT = some (.slice elem)) (hs : (P.info? elem).map (·.size) = some size)
    (hg : w.heap[g]? = some (.cells cur t (0, 0))) (hn : n = Nat.min sLen dLen) (hl : cs.length = n * size)
    (hsrc : ∀ j v, cs[j]? = some v → w.cell? (a.add j) = some v) (hfit : o + cs.length ≤ cur.size) (h1 : ∀ v ∈ cs, v.oneCell' = true) :
    (Builtin.copy_ #[dT, sT] ty #[.slice (some ⟨g, o, none⟩) dLen dCap, .slice (some a) sLen sCap]).run P w =
      .ok (goInt n) (w.setRow g (cur.toList.take o ++ cs ++ cur.toList.drop (o + cs.length)).toArray) := by
  have hl2 := run_loadCells_list (P := P) w a cs hsrc
  have hst := run_storeCells_at P g o t cs 0 cur w hg (by simpa using hfit) h1
  cases hq : P.info? elem with
  | none => simp [hq] at hs
  | some i =>
    have hi : i.size = size := by simpa [hq] using hs
    rw [hl] at hl2
    simp [Builtin.copy_, run_underlying hu, Builtin.lenOf, Builtin.firstCells, sizeOf, typeInfo, hq, hi, ← hn, hl2, hst]
section
variable {P : Program} {w : World} {ops : Array Oper} {rest : List Oper} {o : Oper} {a : Act} {Q : Exit → Act → World → Prop}
theorem wpList_copy_sized (hgd : o.guard = none) (d s : Operand) (dT sT : TypeId)
    (ho : o.op = .call { callee := .builtin .copy, args := #[d, s], argTypes := #[dT, sT] }) (elem : TypeId) (size : Nat) (hu : P.underlying dT = some (.slice elem)) (hsz : (P.info? elem).map (·.size) = some size)
    (g off dLen dCap : Nat) (ad : Addr) (sLen sCap : Nat) (hd : a.eval d = .slice (some ⟨g, off, none⟩) dLen dCap) (hs : a.eval s = .slice (some ad) sLen sCap)
    (cur : List Value) (t : TypeId) (hg : w.heap[g]? = some (.cells cur.toArray t (0, 0))) (n : Nat) (cs : List Value) (hn : n = Nat.min sLen dLen) (hl : cs.length = n * size)
    (hsrc : ∀ j v, cs[j]? = some v → w.cell? (ad.add j) = some v) (hfit : off + cs.length ≤ cur.length) (h1 : ∀ v ∈ cs, v.oneCell' = true)
    (h : ∀ w', Hid (w'.heap[g]? = some (.cells (splice cur off cs).toArray t (0, 0))) → Hid (Upd (fun k => k = g) w w') → wpList P ops Q rest (a.put o.dst (goInt n)) w') : wpList P ops Q (o :: rest) a w := by
  refine wpList_plain hgd fun K hK => ?_
  have hrun := run_copy_sized (P := P) w dT sT o.type elem size g off dLen dCap ad sLen sCap cur.toArray t n cs hu hsz hg hn hl hsrc (by simpa using hfit) h1
  unfold Oper.wp
  simp [execOp, ho, resolve, invoke, builtin, hd, hs, hrun, Result.andThen]
  refine hK _ _ (h _ ?_ ?_)
  · show _ = _
    have := heap_setRow hg (cur.take off ++ (cs ++ cur.drop (off + cs.length))).toArray
    simpa [splice] using this
  · exact upd_setRow _ _ _
theorem wpList_clear_row (hgd : o.guard = none) (x : Operand) (t : TypeId)
    (ho : o.op = .call { callee := .builtin .clear, args := #[x], argTypes := #[t] }) (elem : TypeId) (z : Value) (hu : P.underlying t = some (.slice elem)) (hz : ∀ w, (zeroValue elem).run P w = .ok z w)
    (g off n c : Nat) (hx : a.eval x = .slice (some ⟨g, off, none⟩) n c) (cur : List Value) (te : TypeId) (hg : w.heap[g]? = some (.cells cur.toArray te (0, 0))) (zs : List Value) (hzs : (Builtin.zeroCells z.cells n).toList = zs)
    (hfit : off + zs.length ≤ cur.length) (h1 : ∀ v ∈ zs, v.oneCell' = true) (h0 : n = 0 → zs = [])
    (h : ∀ w', Hid (w'.heap[g]? = some (.cells (splice cur off zs).toArray te (0, 0))) → Hid (Upd (fun k => k = g) w w') → wpList P ops Q rest (a.put o.dst (.tuple #[])) w') : wpList P ops Q (o :: rest) a w := by
  refine wpList_plain hgd fun K hK => ?_
  have hst := run_storeCells_at P g off te zs 0 cur.toArray w hg (by simpa using hfit) h1
  have hrun : (Builtin.clear_ #[t] o.type #[.slice (some ⟨g, off, none⟩) n c]).run P w = .ok (.tuple #[]) (w.setRow g (cur.take off ++ zs ++ cur.drop (off + zs.length)).toArray) := by
    by_cases hn : n = 0
    · obtain rfl := h0 hn
      subst hn
      have e : w.setRow g (cur.take off ++ [] ++ cur.drop (off + ([] : List Value).length)).toArray = w := by
        have : (cur.take off ++ [] ++ cur.drop (off + ([] : List Value).length)).toArray = cur.toArray := by simp
        rw [this]; exact setRow_self w g _ te _ hg
      rw [e]
      simp [Builtin.clear_, run_underlying hu]
    · have : n ≠ 0 := hn
      obtain ⟨n', rfl⟩ := Nat.exists_eq_succ_of_ne_zero hn
      simp [Builtin.clear_, run_underlying hu, hz, hzs, hst]
  unfold Oper.wp
  simp [execOp, ho, resolve, invoke, builtin, hx, hrun, Result.andThen]
  refine hK _ _ (h _ ?_ ?_)
  · show _ = _
    have := heap_setRow hg (cur.take off ++ (zs ++ cur.drop (off + zs.length))).toArray
    simpa [splice] using this
  · exact upd_setRow _ _ _
theorem wpList_append_make (hgd : o.guard = none) (s x : Operand) (t tn : TypeId)
    (ho : o.op = .call { callee := .builtin .append, args := #[s, x], argTypes := #[t, tn] }) (e : TypeId) (i : TypeInfo) (z : Value) (size bytes : Nat) (kq kn : IntKind) (ht : P.underlying t = some (.slice e)) (htn : P.underlying tn = some (.int kn)) (hi : P.info? e = some i) (hz : i.zero = some z)
    (hsize : i.size = size) (hby : i.bytes = bytes) (hzs : z.cells.size = size) (hsz : 0 < size)
    (ad : Addr) (n cap : Nat) (olds : List Value) (hs : a.eval s = .slice (some ad) n cap) (hlo : olds.length = n * size) (holds : ∀ j u, olds[j]? = some u → w.cell? (ad.add j) = some u)
    (k : Nat) (hx : a.eval x = .int kq k) (h0 : 0 < k) (hg : cap < n + k) (h63 : n + k ≤ maxLen) (hbytes : (n + k) * bytes ≤ 140737488355328)
    (h : ∀ v' w', w'.ownsRow w.heap.size e size v' (n + k) (olds ++ (Builtin.zeroCells z.cells k).toList) → Below w.heap.size w w' → wpList P ops Q rest (a.put o.dst v') w') : wpList P ops Q (o :: rest) a w := by
  refine wpList_plain hgd fun K hK => ?_
  subst hsize
  subst hby
  have hlen : (olds ++ (Builtin.zeroCells z.cells k).toList).length = (n + k) * i.size := by rw [List.length_append, hlo, Array.length_toList, size_zeroCells, hzs, Nat.add_mul]
  have hge := grownCap_ge w (n + k) cap e
  have hcm : grownCap w (n + k) cap e ≤ maxLen := grownCap_le_maxLen w (n + k) cap e h63
  have hl2 := run_loadCells_list (P := P) w.drew ad olds (fun j u hj => holds j u hj)
  have hkb : k * i.bytes ≤ 281474976710656 := by
    have : k * i.bytes ≤ (n + k) * i.bytes := Nat.mul_le_mul_right _ (by omega)
    omega
  have hold : (Builtin.firstCells i.size n (.slice (some ad) n cap)).run P w.drew = .ok olds.toArray w.drew := by
    rw [hlo] at hl2
    simpa [Builtin.firstCells] using hl2
  have hrun := Lib.run_append_grow_zeros (P := P) w t tn o.type e i z kq kn ht htn hi hz (some ad) n cap olds hold k h0 hsz hg (by simp only [maxLen] at h63; omega) hkb (growslice_fits hg hbytes)
  unfold Oper.wp
  simp [execOp, ho, resolve, invoke, builtin, hs, hx, hrun, Result.andThen]
  refine hK _ _ (h _ _ ⟨hlen, .inr ⟨w.heap.size, _, _, rfl, Nat.le_refl _, heap_alloc_new w.drew _, hge, hcm, ?_, ?_⟩⟩ (((Below.refl _ _).drew).alloc (Nat.le_refl _) _))
  · simp only [Array.size_append, List.size_toArray, size_zeroCells, hzs, hlo, ← Nat.add_mul]
    congr 1
    omega
  · rw [Array.toList_append, Array.toList_append, ← hlen]
    rw [← List.append_assoc]
    exact List.take_left
end
end
end Go.Proofs.YtlcfkfijomnmnaaGreatDoor
