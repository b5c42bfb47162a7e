/- An arena's rows in memory: words, heaps of addresses. -/
import Derived.Test.YtofoaheiblhpoaaArLists
import Derived.Test.YtofoaheiblhpoaaUpd
import Derived.Test.YtofoaheiblhpoaaCalm
import Derived.Test.YtofoaheiblhpoaaArBits
import Derived.Deep.RegionHeld
import Derived.WalkLawsBesides
import Derived.WalkSpells
import Derived.RegionTactic
import Derived.Handy
namespace Go.Proofs.Ytofoaheiblhpoaa
open Go.RowKit

def ints (l : List Nat) : List Value := l.map fun (x : Nat) => .int .i64 (x : Int)
def u64s (l : List Nat) : List Value := l.map fun (x : Nat) => .int .u64 (x : Int)
theorem ints_len (l : List Nat) : (ints l).length = l.length := by simp [ints]
theorem u64s_len (l : List Nat) : (u64s l).length = l.length := by simp [u64s]
theorem ints_at {l : List Nat} {i : Nat} (hi : i < l.length) : (ints l)[i]? = some (.int .i64 (l.getD i 0 : Nat)) := by simp [ints, hi]
theorem u64s_at {l : List Nat} {i : Nat} (hi : i < l.length) : (u64s l)[i]? = some (.int .u64 (l.getD i 0 : Nat)) := by simp [u64s, hi]
theorem ints_set (l : List Nat) (i x : Nat) : ints (l.set i x) = (ints l).set i (.int .i64 (x : Int)) := by simp [ints, List.map_set]
theorem u64s_set (l : List Nat) (i x : Nat) : u64s (l.set i x) = (u64s l).set i (.int .u64 (x : Int)) := by simp [u64s, List.map_set]
/-- The rows that put looks at: a heap of addresses, and the arena's words. -/
structure HV (w : World) (p wb hb m mc n nc : Nat) (h ws : List Nat) : Prop where
  fld : w.cell? ⟨p, 0, none⟩ = some (.slice (some ⟨wb, 0, none⟩) m mc)
  wrow : w.ownsRow 0 30 1 (.slice (some ⟨wb, 0, none⟩) m mc) m (u64s ws)
  hrow : w.ownsRow 0 3 1 (.slice (some ⟨hb, 0, none⟩) n nc) n (ints h)
  pw : p ≠ wb
  ph : p ≠ hb
  wh : wb ≠ hb
  small : ws.length ≤ 1048576
  w64 : ∀ k, ws.getD k 0 < 18446744073709551616
theorem HV.m_eq {w : World} {p wb hb m mc n nc : Nat} {h ws : List Nat} (k : HV w p wb hb m mc n nc h ws) : ws.length = m ∧ h.length = n := by
  have a := k.wrow.1; have b := k.hrow.1
  rw [u64s_len] at a; rw [ints_len] at b
  omega
theorem cell_far {w : World} {a p : Addr} {u v : Value} (h : w.cell? p = some v) (hne : p.block ≠ a.block) : (w.setCell a u).cell? p = some v := by
  rw [World.cell?_setCell_far w a p u (fun e => hne e.symm)]; exact h
theorem upd_set (w : World) (b i : Nat) (v : Value) : Upd (fun k => k = b) w (w.setCell ⟨b, i, none⟩ v) := (Upd.refl (fun k => k = b) w).setCell (p := ⟨b, i, none⟩) (.inl rfl) v
theorem put_at (w : World) (p wb hb m mc n nc : Nat) (h ws : List Nat) (k : HV w p wb hb m mc n nc h ws) (i x : Nat) (hi : i < n) (hx : x < m) (hn : n ≤ 2000000) :
    Calls Try.prog 42 #[.pointer (some ⟨p, 0, none⟩), .slice (some ⟨hb, 0, none⟩) n nc, .int .i64 i, .int .i64 x] w fun e w' => e = .returned (.tuple #[]) ∧ HV w' p wb hb m mc n nc (h.set i x) (stamp ws x i) ∧ Upd (fun b => b = hb ∨ b = wb) w w' := by
  obtain ⟨e1, e2⟩ := k.m_eq
  have c0 := k.fld
  have c1 := k.wrow.cellAt x (by omega)
  rw [u64s_at (by omega)] at c1
  have hy64 := k.w64 x
  obtain ⟨y, hy⟩ : ∃ y, ws.getD x 0 = y := ⟨_, rfl⟩
  rw [hy] at c1 hy64
  have HY := Lib.hid hy
  clear hy
  have hos := or_stamp' y i hy64 (by omega)
  have f1 := k.wrow.frozenAt x
  have f2 := k.hrow.frozenAt i
  have c2 := k.hrow.cellAt i (by omega)
  rw [ints_at (by omega)] at c2
  have K := Lib.hid k
  clear k
  go_enter Try.func42, Try.ntmps42
  go_wp2
  obtain ⟨w0, hw0⟩ : ∃ w0, w0 = w.setCell ⟨hb, i, none⟩ (.int .i64 x) := ⟨_, rfl⟩
  rw [← hw0]
  have hne : (⟨p, 0, none⟩ : Addr).block ≠ hb := K.out.ph
  have d0 := Ext.cells (w0 := w0) (p := ⟨p, 0, none⟩) (by rw [hw0]; exact cell_far c0 K.out.ph)
  have d1 := Ext.cells (w0 := w0) (p := ⟨wb, x, none⟩) (by rw [hw0]; exact cell_far c1 K.out.wh)
  refine wp_region_calm_tail 18 (by kernel_rfl) (by kernel_rfl) ?_
  simp only [List.take_succ_cons, List.take_zero, List.drop_succ_cons, List.drop_zero]
  repeat (go_big_quiet_step (fail))
  refine wpQuiet_nil ?_
  rintro w1 hb1
  have f1' : w1.frozen? ⟨wb, x, none⟩ = false := by
    rw [World.frozen?_of_block (w := w) (by rw [hb1.block wb (by rw [hw0]; simpa [World.setCell] using World.block_lt_of_cell? _ _ c1), hw0]; exact Below.heap_setCell _ _ _ _ K.out.wh)]; exact f1
  have c1' : w1.cell? ⟨wb, x, none⟩ = some (.int .u64 y) := Ext.cell ⟨w1, hb1⟩ (by rw [hw0]; exact cell_far c1 K.out.wh)
  have HB1 := Lib.hid hb1
  clear hb1 d0 d1 c0 c1 f1 c2 f2
  go_wp2
  have hos2 : (y : Int) / 4294967296 * 4294967296 + i = ((y / 4294967296 * 4294967296 + i : Nat) : Int) := by omega
  rw [hos2]
  have k := K.out
  have r0 := (k.hrow.stored i (.int .i64 x)).1
  have r1 : w1.ownsRow 0 3 1 (.slice (some ⟨hb, 0, none⟩) n nc) n (ints (h.set i x)) := by
    rw [ints_set]; rw [← hw0] at r0
    exact ownsRow_upd (S := fun _ => False) r0 (Upd.of_below HB1.out) (fun _ _ h => h)
  have u0 : Upd (fun b => b = hb) w w1 := by
    have a : Upd (fun b => b = hb) w w0 := by rw [hw0]; exact upd_set _ _ _ _
    exact a.trans' (Upd.of_below HB1.out)
  have r2 := ownsRow_upd k.wrow u0 (fun b hb' e => k.wh (by simp [Value.ownBlock] at hb'; rw [hb', e]))
  have r3 := (r2.stored x (.int .u64 ((y / 4294967296 * 4294967296 + i : Nat) : Int))).1
  have u1 : Upd (fun b => b = wb) w1 (w1.setCell ⟨wb, x, none⟩ (.int .u64 ((y / 4294967296 * 4294967296 + i : Nat) : Int))) := upd_set _ _ _ _
  refine bodyPost_end (v := .tuple #[]) (results_none rfl _ _ _) rfl ⟨rfl, ⟨?_, ?_, ?_, k.pw, k.ph, k.wh, ?_, ?_⟩, ?_⟩
  · exact cell_far (u0.cell_some k.fld k.ph) k.pw
  · rw [stamp, HY.out, u64s_set]; exact r3
  · exact ownsRow_upd r1 u1 (fun b hb' e => k.wh (by simp [Value.ownBlock] at hb'; rw [hb', ← e]))
  · rw [stamp_len]; exact k.small
  · intro j
    by_cases e : j = x
    · subst e
      rw [stamp, getD_set _ _ _ _ (by omega), if_pos rfl, HY.out]; omega
    · rw [stamp_ne _ _ _ _ e]; exact k.w64 j
  · exact (u0.mono (fun b _ h => .inl h)).trans' (u1.mono (fun b _ h => .inr h))
def RisePost (w : World) (p wb hb m mc n nc : Nat) (R : List Nat × List Nat) (e : Ending) (w' : World) : Prop := e = .returned (.tuple #[]) ∧ HV w' p wb hb m mc n nc R.1 R.2 ∧ Upd (fun b => b = hb ∨ b = wb) w w'
theorem rise_at (w : World) (p wb hb m mc n nc : Nat) (h ws : List Nat) (k : HV w p wb hb m mc n nc h ws) (i : Nat) (hi : i < n) (hn : n ≤ 2000000) (hall : ∀ j, j < n → h.getD j 0 < m) :
    Calls Try.prog 39 #[.pointer (some ⟨p, 0, none⟩), .slice (some ⟨hb, 0, none⟩) n nc, .int .i64 i] w (RisePost w p wb hb m mc n nc (riseP (h.getD i 0) i h ws)) := by
  obtain ⟨R, hR⟩ : ∃ R, riseP (h.getD i 0) i h ws = R := ⟨_, rfl⟩
  rw [hR]
  obtain ⟨x, hx⟩ : ∃ x, h.getD i 0 = x := ⟨_, rfl⟩
  have hxm := hall i hi
  rw [hx] at hR hxm
  obtain ⟨e1, e2⟩ := k.m_eq
  have c0 := k.hrow.cellAt i (by omega)
  rw [ints_at (by omega), hx] at c0
  have K := Lib.hid k; have HR := Lib.hid hR; have HA := Lib.hid hall
  clear k hR hall hx e1 e2
  go_enter Try.func39, Try.ntmps39
  go_wp2
  go_loopw [2] (fun t2 wr => ∃ (i' : Nat) (h' ws' : List Nat), i' < n ∧ t2 = .int .i64 i' ∧ riseP x i' h' ws' = R ∧ (∀ j, j < n → h'.getD j 0 < m) ∧ HV wr p wb hb m mc n nc h' ws' ∧ Upd (fun b => b = hb ∨ b = wb) w wr) (fun t2 _ => (intOf t2).toNat)
  case atStart => exact ⟨i, h, ws, hi, rfl, HR.out, HA.out, K.out, Upd.refl _ _⟩
  case round =>
    obtain ⟨i', h', ws', hi', rfl, hr, ha, hv, hu⟩ := hrel
    have HR1 := Lib.hid hr; have HA1 := Lib.hid ha; have HV1 := Lib.hid hv; have HU := Lib.hid hu
    clear hr ha hv hu
    cases i' with
    | zero =>
      have hstop : riseP x 0 h' ws' = (h'.set 0 x, stamp ws' x 0) := by rw [riseP, dif_neg (fun q => by omega)]
      have HST := Lib.hid hstop
      clear hstop
      go_wp2_with fail
      refine (put_at _ p wb hb m mc n nc h' ws' HV1.out 0 x (by omega) hxm hn).mono ?_
      rintro e w2 ⟨rfl, hv2, hu2⟩
      have HV2 := Lib.hid hv2; have HU2 := Lib.hid (HU.out.trans' hu2)
      clear hv2 hu2
      go_wp2
      refine bodyPost_end (v := .tuple #[]) (results_none rfl _ _ _) rfl ⟨rfl, ?_, HU2.out⟩
      rw [← HR1.out, HST.out]; exact HV2.out
    | succ k =>
      obtain ⟨y, hy⟩ : ∃ y, h'.getD (k / 2) 0 = y := ⟨_, rfl⟩
      have c1 := HV1.out.hrow.cellAt (k / 2) (by omega)
      rw [ints_at (by have := HV1.out.m_eq.2; omega), hy] at c1
      have hym := HA1.out (k / 2) (by omega)
      rw [hy] at hym
      have k1 : IntKind.i64.wrap (((k + 1 : Nat) : Int) - 1) = (k : Int) := by rw [IntWalk.i64_in _ ⟨by omega, by omega⟩]; omega
      by_cases hlt : x < y
      · have hgo : riseP x (k + 1) h' ws' = riseP x (k / 2) (h'.set (k + 1) y) (stamp ws' y (k + 1)) := by
          rw [riseP, dif_pos ⟨by omega, by rw [show (k + 1 - 1) / 2 = k / 2 by omega, hy]; exact hlt⟩, show (k + 1 - 1) / 2 = k / 2 by omega, hy]
        have HG := Lib.hid hgo
        clear hgo
        go_wp2_with fail
        refine (put_at _ p wb hb m mc n nc h' ws' HV1.out (k + 1) y hi' hym hn).mono ?_
        rintro e w2 ⟨rfl, hv2, hu2⟩
        have HV2 := Lib.hid hv2; have HU2 := Lib.hid (HU.out.trans' hu2)
        clear hv2 hu2
        go_wp2
        go_roundw
        case rel => exact ⟨k / 2, _, _, by omega, rfl, by rw [← HG.out]; exact HR1.out, fun j hj => by rw [getD_set _ _ _ _ (by have := HV1.out.m_eq.2; omega)]; split; exact hym; exact HA1.out j hj, HV2.out, HU2.out⟩
        case measure => simp [intOf]; omega
      · have hstop : riseP x (k + 1) h' ws' = (h'.set (k + 1) x, stamp ws' x (k + 1)) := by
          rw [riseP, dif_neg (fun q => hlt (by have := q.2; rwa [show (k + 1 - 1) / 2 = k / 2 by omega, hy] at this))]
        have HST := Lib.hid hstop
        clear hstop
        go_wp2_with fail
        refine (put_at _ p wb hb m mc n nc h' ws' HV1.out (k + 1) x hi' hxm hn).mono ?_
        rintro e w2 ⟨rfl, hv2, hu2⟩
        have HV2 := Lib.hid hv2; have HU2 := Lib.hid (HU.out.trans' hu2)
        clear hv2 hu2
        go_wp2
        refine bodyPost_end (v := .tuple #[]) (results_none rfl _ _ _) rfl ⟨rfl, ?_, HU2.out⟩
        rw [← HR1.out, HST.out]; exact HV2.out
end Go.Proofs.Ytofoaheiblhpoaa
