/- package chain: Below, Line. -/
import Derived.Test.YtoamhiaagaaaaaaGreatDoorQChMem
import Derived.Test.YtoamhiaagaaaaaaGreatDoorQKdEqualP
namespace Go.Proofs.YtoamhiaagaaaaaaGreatDoor
open Go.RowKit

section
variable {S : Nat → Prop} {w : World} {t : Nat} {L : List (List Nat)}
theorem retB {a b : Bool} (h : a = b) : Ending.returned (.bool a) = .returned (.bool b) := by rw [h]
set_option maxRecDepth 100000 in
set_option maxHeartbeats 1000000 in
theorem chBelow_any (h : LinesAt S w t L) (a b : Int) : Calls Tryz.prog 29 #[.pointer (some ⟨t, 0, none⟩), .int .i64 a, .int .i64 b] w fun e w' => e = .returned (.bool (belowL L a b)) ∧ Below w.heap.size w w' := by
  have C1 := Lib.hid (chHas_any h a)
  have C2 := Lib.hid (chHas_any h b)
  by_cases ha : 0 ≤ a ∧ a < L.length
  · have e1 : hasL L a = true := by simpa [hasL] using ha
    rw [e1] at C1
    by_cases hb : 0 ≤ b ∧ b < L.length
    · have e2 : hasL L b = true := by simpa [hasL] using hb
      rw [e2] at C2
      obtain ⟨i, rfl⟩ : ∃ i : Nat, a = i := ⟨a.toNat, by omega⟩
      obtain ⟨k, rfl⟩ : ∃ k : Nat, b = k := ⟨b.toNat, by omega⟩
      obtain ⟨p, hp⟩ : ∃ p, L[i]? = some p := ⟨L[i]'(by omega), by simp⟩
      obtain ⟨q, hq⟩ : ∃ q, L[k]? = some q := ⟨L[k]'(by omega), by simp⟩
      obtain ⟨b1, co, d1, h1, _, hd1, hd1', c1, n1, _⟩ := h.get hp
      obtain ⟨b2, co2, d2, h2, _, hd2, hd2', c2, _, _⟩ := h.get hq
      have c0 := heap_cell h1 0
      have hbb : b1 = b2 ∧ co = co2 := by
        rw [h1] at h2
        simp at h2
        exact h2
      obtain ⟨rfl, rfl⟩ := hbb
      simp at c0
      have n2 := n1 d2 hd2'
      obtain ⟨x, hx⟩ : ∃ x, p.getD d2 0 = x := ⟨_, rfl⟩
      rw [hx] at n2
      have hil : (i : Int) < L.length := ha.2
      have hkl : (k : Int) < L.length := hb.2
      have hL := h.ok.2.1
      have e3 : belowL L (i : Int) (k : Int) = (decide (x = k) && decide (d2 ≤ d1)) := by
        unfold belowL
        have ga : L.getD i [] = p := getD_some hp
        have gb : L.getD k [] = q := getD_some hq
        rw [Bool.eq_iff_iff]
        simp only [Int.toNat_natCast, Bool.and_eq_true, decide_eq_true_eq, ga, gb, hd2, hd1, Nat.add_sub_cancel, hx]
        constructor
        · rintro ⟨_, h1, h2⟩; exact ⟨h1, by omega⟩
        · rintro ⟨h1, h2⟩; exact ⟨⟨⟨⟨by omega, hil⟩, by omega⟩, hkl⟩, h1, by omega⟩
      rw [e3]
      have hwrap : IntKind.i32.wrap (k : Int) = k := by simp [IntKind.wrap, IntKind.bits, IntKind.signed]; omega
      clear h h1 h2 ha hb hp hq hd1 hd2 e1 e2 e3 hx n1
      by_cases hxk : x = k
      · subst hxk
        by_cases hdd : d2 ≤ d1
        · have hdd' : (d2 : Int) ≤ d1 := by omega
          have hdt : decide (d2 ≤ d1) = true := decide_eq_true hdd
          rw [hdt, decide_eq_true rfl]
          have HD := Lib.hid hdd
          clear hdt hdd
          go_enter Tryz.func29, Tryz.ntmps29
          go_wp2_with fail
          refine C1.out.mono ?_
          rintro e w1 ⟨rfl, rfl⟩
          go_wp2_with fail
          refine C2.out.mono ?_
          rintro e w1 ⟨rfl, rfl⟩
          go_wp2
          go_quiet (fail)
          go_wp2
          go_ret
          exact ⟨rfl, ⟨rfl, rfl, rfl, Nat.le_refl _, fun _ _ => rfl⟩⟩
        · have hdd' : ¬ (d2 : Int) ≤ d1 := by omega
          have hdn : ((d2 : Int) ≤ d1) = False := by simpa using hdd
          have hdt : decide (d2 ≤ d1) = false := decide_eq_false hdd
          rw [hdt, decide_eq_true rfl]
          clear hdt hdd
          go_enter Tryz.func29, Tryz.ntmps29
          go_wp2_with fail
          refine C1.out.mono ?_
          rintro e w1 ⟨rfl, rfl⟩
          go_wp2_with fail
          refine C2.out.mono ?_
          rintro e w1 ⟨rfl, rfl⟩
          go_wp2
          go_quiet (fail)
          go_wp2
          go_ret
          exact ⟨rfl, ⟨rfl, rfl, rfl, Nat.le_refl _, fun _ _ => rfl⟩⟩
      · have hxk' : ((x : Int) == k) = false := by simp; omega
        have hxn : ¬ (x : Int) = k := by omega
        rw [decide_eq_false hxk]
        have HX := Lib.hid hxk
        clear hxk
        by_cases hdd : d2 ≤ d1
        · have hdd' : (d2 : Int) ≤ d1 := by omega
          clear hdd
          go_enter Tryz.func29, Tryz.ntmps29
          go_wp2_with fail
          refine C1.out.mono ?_
          rintro e w1 ⟨rfl, rfl⟩
          go_wp2_with fail
          refine C2.out.mono ?_
          rintro e w1 ⟨rfl, rfl⟩
          go_wp2
          go_quiet (fail)
          go_wp2
          go_ret
          exact ⟨rfl, ⟨rfl, rfl, rfl, Nat.le_refl _, fun _ _ => rfl⟩⟩
        · have hdd' : ¬ (d2 : Int) ≤ d1 := by omega
          clear hdd
          go_enter Tryz.func29, Tryz.ntmps29
          go_wp2_with fail
          refine C1.out.mono ?_
          rintro e w1 ⟨rfl, rfl⟩
          go_wp2_with fail
          refine C2.out.mono ?_
          rintro e w1 ⟨rfl, rfl⟩
          go_wp2
          go_quiet (fail)
          go_wp2
          go_ret
          exact ⟨rfl, ⟨rfl, rfl, rfl, Nat.le_refl _, fun _ _ => rfl⟩⟩
    · have e2 : hasL L b = false := by rw [Bool.eq_false_iff]; simpa [hasL] using hb
      rw [e2] at C2
      rw [belowL_out (.inr hb)]
      clear h ha hb e1 e2
      go_enter Tryz.func29, Tryz.ntmps29
      go_wp2_with fail
      refine C1.out.mono ?_
      rintro e w1 ⟨rfl, rfl⟩
      go_wp2_with fail
      refine C2.out.mono ?_
      rintro e w1 ⟨rfl, rfl⟩
      go_wp2
      go_ret
      exact ⟨rfl, Below.refl _ _⟩
  · have e1 : hasL L a = false := by rw [Bool.eq_false_iff]; simpa [hasL] using ha
    rw [e1] at C1
    rw [belowL_out (.inl ha)]
    clear h ha e1
    go_enter Tryz.func29, Tryz.ntmps29
    go_wp2_with fail
    refine C1.out.mono ?_
    rintro e w1 ⟨rfl, rfl⟩
    go_wp2
    go_ret
    exact ⟨rfl, Below.refl _ _⟩

set_option maxRecDepth 100000 in
set_option maxHeartbeats 4000000 in
theorem chLine_any (h : LinesAt S w t L) {i : Nat} {p : List Nat} (hi : L[i]? = some p) : Calls Tryz.prog 27 #[.pointer (some ⟨t, 0, none⟩), .int .i64 i] w fun e w' => ∃ u, e = .returned (.tuple #[u, .int .i64 0]) ∧ w'.ownsRow w.heap.size 3 1 u p.length (p.map fun k : Nat => Value.int .i64 (k : Int)) ∧ Below w.heap.size w w' := by
  obtain ⟨i1, hi', hz0', hz1', hz2'⟩ := info_parts Tryz.infoInt
  have Hi' := Lib.hid hi'; have Hz0' := Lib.hid hz0'; have Hz1' := Lib.hid hz1'; have Hz2' := Lib.hid hz2'
  have C0 := Lib.hid (chMade_any h)
  have C1 := chHas_any h i
  have hil := (List.getElem?_eq_some_iff.1 hi).1
  have e1 : hasL L (i : Int) = true := by simp [hasL]; omega
  rw [e1] at C1
  have HC1 := Lib.hid C1
  obtain ⟨b, co, d, h1, hbl, hd, hd', c1, n1, _⟩ := h.get hi
  have c0 := heap_cell h1 0
  simp at c0
  have hil' : (i : Int) < L.length := by omega
  have hL := h.ok.2.1
  have hnum := h.ok.2.2 p (List.mem_of_getElem? hi)
  have HD := Lib.hid hd; have HN1 := Lib.hid n1; have HNUM := Lib.hid hnum; have HBL := Lib.hid hbl
  clear h h1 hi hil e1 C1 hi' hz0' hz1' hz2' hd n1 hnum hbl
  go_enter Tryz.func27, Tryz.ntmps27
  go_wp2_with fail
  refine C0.out.mono ?_
  rintro e w1 ⟨rfl, rfl⟩
  go_wp2_with fail
  refine HC1.out.mono ?_
  rintro e w1 ⟨rfl, rfl⟩
  obtain ⟨d1, hd1⟩ : ∃ d1 : Nat, d + 1 = d1 := ⟨_, rfl⟩
  have hwrap : IntKind.i32.wrap ((d : Int) + 1) = (d1 : Int) := by simp [IntKind.wrap, IntKind.bits, IntKind.signed]; omega
  have hd64 : (d1 : Int) ≤ 64 := by omega
  have hd64n : d1 ≤ 64 := by omega
  rw [hd1] at HD
  clear hd1
  go_wp2
  go_quiet (fail)
  go_wp2
  have HB0 : Below w1.heap.size w1 w1 := Below.refl _ _
  go_loopw [6, 34] (fun t6 t34 wr => ∃ j : Nat, t34 = .int .i64 j ∧ j ≤ d1 ∧ wr.ownsRow w1.heap.size 3 1 t6 j ((p.take j).map fun k : Nat => Value.int .i64 (k : Int)) ∧ Below w1.heap.size w1 wr) (fun _ t34 _ => d1 - (intOf t34).toNat)
  case atStart => exact ⟨0, rfl, Nat.zero_le _, World.ownsRow_nil _ _ _ _, ⟨rfl, rfl, rfl, Nat.le_refl _, fun _ _ => rfl⟩⟩
  case round =>
    obtain ⟨j, rfl, hj, ho, hbe⟩ := hrel
    by_cases hlt : j < d1
    · obtain ⟨ao, co6, rfl, _⟩ := ownsRow_form ho
      obtain ⟨x, hx⟩ : ∃ x, p[j]? = some x := ⟨p[j]'(by rw [HD.out]; exact hlt), by simp⟩
      have n1 := HN1.out j (by omega)
      rw [getD_some hx] at n1
      have n2 : wr.cell? ⟨b, i * 65 + 1 + j, none⟩ = some (.int .i32 (x : Int)) := by rw [hbe.cell HBL.out]; exact n1
      have hlt' : (j : Int) < d1 := by omega
      have hx6 : (x : Int) < 10000 := by have := HNUM.out x (List.mem_of_getElem? hx); omega
      have hwx : IntKind.i64.wrap (x : Int) = (x : Int) := by simp [IntKind.wrap, IntKind.bits, IntKind.signed]; omega
      have HR2 := Lib.hid (row_cells (cs := [.int .i64 (x : Int)]) (heap_alloc_at wr (.cells #[.int .i64 (x : Int)] 3) rfl))
      have HO := Lib.hid ho; have HBE3 := Lib.hid hbe; have HLT := Lib.hid hlt; have HX := Lib.hid hx
      clear ho hbe hlt hj n1 hx
      go_wp2_with (at_builtin; refine wpList_append_own2 _ rfl _ _ 36 rfl w1.heap.size 3 i1 _ 1 8 Tryz.underlying36 Hi'.out Hz0'.out Hz1'.out Hz2'.out rfl (by decide) _ _ _ rfl (HO.out.alloc _) ⟨wr.heap.size, 0, none⟩ 1 1 [.int .i64 (x : Int)] rfl rfl HR2.out (by intro u hu; simp at hu; rcases hu with rfl; rfl) (by unfold maxLen; omega) (by omega) (by have := HBE3.out.size; simp; omega) (by decide) ?_)
      intro v5 w5 o5 gr5 mv5
      have hb5 : Below w1.heap.size w1 w5 := (HBE3.out.alloc HBE3.out.size _).grown gr5 (by have := HBE3.out.size; simp; omega) (fun k hk => (HO.out.lt k hk).1)
      have O5 := Lib.hid o5; have HB5 := Lib.hid hb5
      clear o5 gr5 mv5 hb5
      go_wp2
      go_roundw
      case rel =>
        refine ⟨j + 1, by go_num, HLT.out, ?_, HB5.out⟩
        have h := O5.out
        rw [List.take_add_one, HX.out]
        simpa using h
      case measure => have := HLT.out; simp [intOf]; omega
    · obtain rfl : j = d1 := by omega
      have hlt' : ¬ (j : Int) < j := by omega
      have HO := Lib.hid ho; have HBE3 := Lib.hid hbe
      clear ho hbe hlt hj
      go_wp2
      go_ret2
      have h := HO.out
      rw [← HD.out, List.take_length] at h
      exact ⟨_, rfl, h, HBE3.out⟩
end
end Go.Proofs.YtoamhiaagaaaaaaGreatDoor
