/- match.Vals over a table without types. -/
import Derived.Test.YtjjhdbjbjgkijaaMat
namespace Go.Proofs.Ytjjhdbjbjgkijaa
open Go.RowKit

def zV : Vl := ⟨0, false, 0, 0⟩
def valsB (l m : List Vl) : Bool := decide (l.length = m.length) && (List.range l.length).all fun i => valB (l.getD i zV) (m.getD i zV)
theorem ValsAt.below {w w' : World} {v : Value} {l : List Vl} (h : ValsAt w v l) (hb : Below w.heap.size w w') : ValsAt w' v l := by
  rcases h with h | ⟨a, cap, rfl, hc, h⟩
  · exact .inl h
  · refine .inr ⟨a, cap, rfl, hc, fun j u hu => ?_⟩
    have h1 := h j u hu
    rw [hb.cell (World.block_lt_of_cell? _ _ h1)]
    exact h1
set_option maxHeartbeats 2000000 in
theorem equalFunc_tab (T p : Nat) (a b : Value) (l m : List Vl) (w : World) (ha : ValsAt w a l) (hb : ValsAt w b m) (hl : l.length ≤ 1000000) (hm : m.length ≤ 1000000) (ht : TabAt w T) (hp : w.cell? ⟨p, 0, none⟩ = some (.pointer (some ⟨T, 0, none⟩))) :
    Calls Try.prog 40 #[a, b, .func (.func 41) #[] #[.pointer (some ⟨p, 0, none⟩)]] w fun e w' => e = .returned (.bool (valsB l m)) ∧ Below w.heap.size w w' := by
  obtain ⟨ao, ca, rfl⟩ := ha.form
  obtain ⟨bo, cb, rfl⟩ := hb.form
  by_cases hlen : l.length = m.length
  · have HA := Lib.hid ha
    have HB := Lib.hid hb
    have HT := Lib.hid ht
    have HP := Lib.hid hp
    clear ha hb ht hp
    rw [← hlen] at HB ⊢
    have HL := Lib.hid hlen
    clear hlen hm
    go_enter Try.func40, Try.ntmps40
    go_wp2
    go_loopw [17] (fun t17 wr => ∃ i : Nat, i ≤ l.length ∧ t17 = .int .i64 i ∧ (∀ j, j < i → valB (l.getD j zV) (m.getD j zV) = true) ∧ ∃ x : Ext w, wr = x.val) (fun t17 _ => l.length - (intOf t17).toNat)
    case atStart => exact ⟨0, by omega, rfl, fun j hj => by omega, ⟨_, Below.refl _ _⟩, rfl⟩
    case round =>
      obtain ⟨i, hi, rfl, hall, x, rfl⟩ := hrel
      have HALL := Lib.hid hall
      clear hall
      by_cases hlt : i < l.length
      · have hlt2 : i < m.length := by rw [← HL.out]; exact hlt
        obtain ⟨b1, o1, rfl, hc1⟩ := (HA.out.below x.2).some (by omega)
        obtain ⟨b2, o2, rfl, hc2⟩ := ValsAt.some (l := m) (by have := HB.out.below x.2; rw [HL.out] at this; exact this) (by omega)
        obtain ⟨⟨k1, n1, h1, m1⟩, hx⟩ : ∃ x, l[i] = x := ⟨_, rfl⟩
        obtain ⟨⟨k2, n2, h2, m2⟩, hy⟩ : ∃ y, m[i] = y := ⟨_, rfl⟩
        have c1 := hc1 i hlt
        have c2 := hc2 i hlt2
        rw [hx] at c1; rw [hy] at c2
        obtain ⟨p0, p1, p2, p3⟩ := c1
        obtain ⟨q0, q1, q2, q3⟩ := c2
        dsimp only at p0 p1 p2 p3 q0 q1 q2 q3
        have nq : b2 < x.val.heap.size := World.block_lt_of_cell? _ _ q0
        have hx' : l.getD i zV = ⟨k1, n1, h1, m1⟩ := by rw [List.getD_eq_getElem?_getD, List.getElem?_eq_getElem hlt]; exact hx
        have hy' : m.getD i zV = ⟨k2, n2, h2, m2⟩ := by rw [List.getD_eq_getElem?_getD, List.getElem?_eq_getElem hlt2]; exact hy
        have HX := Lib.hid hx'; have HY := Lib.hid hy'
        clear hc1 hc2 hx hy hx' hy'
        go_wp2_with fail
        have hb2 : Below w.heap.size w ((x.val.alloc (.cells #[.int .i64 k1, .bool n1, .int .i64 h1, .int .i64 m1] 41)).alloc (.cells #[.int .i64 k2, .bool n2, .int .i64 h2, .int .i64 m2] 41)) := (x.2.alloc x.2.size _).alloc (by have := x.2.size; simp; omega) _
        refine (Ext.call ⟨_, hb2⟩ (clos_tab T p ⟨k1, n1, h1, m1⟩ ⟨k2, n2, h2, m2⟩ _ (HT.out.below hb2 HT.out.lt) (by rw [hb2.cell (World.block_lt_of_cell? _ _ HP.out)]; exact HP.out))).mono ?_
        rintro e _ ⟨rfl, x2, rfl⟩
        rcases hv : valB ⟨k1, n1, h1, m1⟩ ⟨k2, n2, h2, m2⟩ with _ | _
        · have HV := Lib.hid hv
          clear hv
          go_wp2
          go_ret
          refine ⟨retb ?_, x2.2⟩
          symm
          simp only [valsB, Bool.and_eq_false_iff]
          right
          rw [List.all_eq_false]
          exact ⟨i, List.mem_range.2 hlt, by rw [HX.out, HY.out, HV.out]; simp⟩
        · have HV := Lib.hid hv
          clear hv
          go_wp2
          go_roundw
          case rel => exact ⟨i + 1, by omega, by go_num, fun j hj => by
            by_cases hji : j < i
            · exact HALL.out j hji
            · obtain rfl : j = i := by omega
              rw [HX.out, HY.out, HV.out], x2, rfl⟩
          case measure => simp [intOf]; omega
      · obtain rfl : i = l.length := by omega
        go_wp2
        go_ret
        refine ⟨retb ?_, x.2⟩
        symm
        simp only [valsB, Bool.and_eq_true, decide_eq_true_eq, List.all_eq_true, List.mem_range]
        exact ⟨HL.out, HALL.out⟩
  · have hne : valsB l m = false := by simp [valsB, hlen]
    have h1 : ((l.length : Int) != (m.length : Int)) = true := by simpa using fun h => hlen (by omega)
    have NE := Lib.hid hne
    clear hne ha hb hlen
    go_enter Try.func40, Try.ntmps40
    go_wp2
    go_ret
    exact ⟨retb NE.out.symm, Below.refl _ _⟩
theorem matches_tab (T : Nat) (a b : Value) (l m : List Vl) (w : World) (ha : ValsAt w a l) (hb : ValsAt w b m) (hl : l.length ≤ 1000000) (hm : m.length ≤ 1000000) (ht : TabAt w T) :
    Calls Try.prog 34 #[a, .pointer (some ⟨T, 0, none⟩), b] w fun e w' => e = .returned (.bool (valsB l m)) ∧ Below w.heap.size w w' := by
  have hmf : ∀ (fn : Fn) (first cap : Array Value) (w : World), (Instr.makeFunc fn first cap).run Try.prog w = .ok (.func fn first cap) w := fun _ _ _ _ => rfl
  obtain ⟨W0, hW⟩ : ∃ W0 : World, W0 = (w.alloc (.cells #[.pointer (some ⟨T, 0, none⟩)] 26)) := ⟨_, rfl⟩
  have hB : Below w.heap.size w W0 := by rw [hW]; exact ((Below.refl _ _).alloc (by simp) _)
  have b0_0 : ∀ x : Ext W0, x.val.cell? ⟨w.heap.size, 0, none⟩ = some (.pointer (some ⟨T, 0, none⟩)) := Ext.cells (by rw [hW]; exact heap_cell (heap_alloc_at _ _ (by simp)) 0)
  have HW := Lib.hid hW; have HB := Lib.hid hB
  clear hW hB
  have HA := Lib.hid (ha.below (HB.out.mono (Nat.le_refl _))); have HBv := Lib.hid (hb.below HB.out); have HT := Lib.hid (ht.below HB.out ht.lt)
  clear ha hb ht
  go_enter Try.func34, Try.ntmps34
  go_wp2_with fail
  rw [← HW.out]
  refine (Ext.call0 (equalFunc_tab T w.heap.size a b l m _ HA.out HBv.out hl hm HT.out (b0_0 ⟨_, Below.refl _ _⟩))).mono ?_
  rintro e _ ⟨rfl, x1, rfl⟩
  go_wp2
  go_ret
  exact ⟨rfl, HB.out.trans (x1.2.mono HB.out.size)⟩
theorem vals_tab (T : Nat) (a b : Value) (l m : List Vl) (w : World) (ha : ValsAt w a l) (hb : ValsAt w b m) (hl : l.length ≤ 1000000) (hm : m.length ≤ 1000000) (ht : TabAt w T) :
    Calls Try.prog 24 #[.pointer (some ⟨T, 0, none⟩), a, b] w fun e w' => e = .returned (.bool (valsB l m)) ∧ Below w.heap.size w w' := by
  have HA := Lib.hid ha; have HB := Lib.hid hb; have HT := Lib.hid ht
  clear ha hb ht
  go_enter Try.func24, Try.ntmps24
  go_wp2_with fail
  refine (Ext.call0 (absent_tab T _ HT.out)).mono ?_
  rintro e _ ⟨rfl, x1, rfl⟩
  go_wp2_with fail
  refine (Ext.call x1 (matches_tab T a b l m _ (HA.out.below x1.2) (HB.out.below x1.2) hl hm (HT.out.ext x1))).mono ?_
  rintro e _ ⟨rfl, x2, rfl⟩
  go_wp2
  go_ret
  exact ⟨rfl, x2.2⟩
end Go.Proofs.Ytjjhdbjbjgkijaa
