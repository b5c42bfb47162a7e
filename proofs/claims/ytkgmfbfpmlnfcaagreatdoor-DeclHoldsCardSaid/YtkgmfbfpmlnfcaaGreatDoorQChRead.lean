/- package chain: Below, Line. -/
import Derived.Test.YtkgmfbfpmlnfcaaGreatDoorQChMem
import Derived.Test.YtkgmfbfpmlnfcaaGreatDoorQRoAddP
namespace Go.Proofs.YtkgmfbfpmlnfcaaGreatDoor
open Go.RowKit

section
variable {S : Nat → Prop} {w : World} {t : Nat} {L : List (List Nat)}
theorem retB {a b : Bool} (h : a = b) : Ending.returned (.bool a) = .returned (.bool b) := by rw [h]
set_option maxRecDepth 100000 in
set_option maxHeartbeats 1000000 in
theorem chBelow_any (h : LinesAt S w t L) (a b : Int) : Calls Tryz.prog 15 #[.pointer (some ⟨t, 0, none⟩), .int .i64 a, .int .i64 b] w fun e w' => e = .returned (.bool (belowL L a b)) ∧ Below w.heap.size w w' := by
  have C1 := Lib.hid (chHas_any h a)
  have C2 := Lib.hid (chHas_any h b)
  by_cases ha : 0 ≤ a ∧ a < L.length
  · have e1 : hasL L a = true := by simpa [hasL] using ha
    rw [e1] at C1
    by_cases hb : 0 ≤ b ∧ b < L.length
    · have e2 : hasL L b = true := by simpa [hasL] using hb
      rw [e2] at C2
      obtain ⟨i, rfl⟩ : ∃ i : Nat, a = i := ⟨a.toNat, by omega⟩
      obtain ⟨k, rfl⟩ : ∃ k : Nat, b = k := ⟨b.toNat, by omega⟩
      obtain ⟨p, hp⟩ : ∃ p, L[i]? = some p := ⟨L[i]'(by omega), by simp⟩
      obtain ⟨q, hq⟩ : ∃ q, L[k]? = some q := ⟨L[k]'(by omega), by simp⟩
      obtain ⟨b1, co, d1, h1, _, hd1, hd1', c1, n1, _⟩ := h.get hp
      obtain ⟨b2, co2, d2, h2, _, hd2, hd2', c2, _, _⟩ := h.get hq
      have c0 := heap_cell h1 0
      have hbb : b1 = b2 ∧ co = co2 := by
        rw [h1] at h2
        simp at h2
        exact h2
      obtain ⟨rfl, rfl⟩ := hbb
      simp at c0
      have n2 := n1 d2 hd2'
      obtain ⟨x, hx⟩ : ∃ x, p.getD d2 0 = x := ⟨_, rfl⟩
      rw [hx] at n2
      have hil : (i : Int) < L.length := ha.2
      have hkl : (k : Int) < L.length := hb.2
      have hL := h.ok.2.1
      have e3 : belowL L (i : Int) (k : Int) = (decide (x = k) && decide (d2 ≤ d1)) := by
        unfold belowL
        have ga : L.getD i [] = p := getD_some hp
        have gb : L.getD k [] = q := getD_some hq
        rw [Bool.eq_iff_iff]
        simp only [Int.toNat_natCast, Bool.and_eq_true, decide_eq_true_eq, ga, gb, hd2, hd1, Nat.add_sub_cancel, hx]
        constructor
        · rintro ⟨_, h1, h2⟩; exact ⟨h1, by omega⟩
        · rintro ⟨h1, h2⟩; exact ⟨⟨⟨⟨by omega, hil⟩, by omega⟩, hkl⟩, h1, by omega⟩
      rw [e3]
      have hwrap : IntKind.i32.wrap (k : Int) = k := by simp [IntKind.wrap, IntKind.bits, IntKind.signed]; omega
      clear h h1 h2 ha hb hp hq hd1 hd2 e1 e2 e3 hx n1
      by_cases hxk : x = k
      · subst hxk
        by_cases hdd : d2 ≤ d1
        · have hdd' : (d2 : Int) ≤ d1 := by omega
          have hdt : decide (d2 ≤ d1) = true := decide_eq_true hdd
          rw [hdt, decide_eq_true rfl]
          have HD := Lib.hid hdd
          clear hdt hdd
          go_enter Tryz.func15, Tryz.ntmps15
          go_wp2_with fail
          refine C1.out.mono ?_
          rintro e w1 ⟨rfl, rfl⟩
          go_wp2_with fail
          refine C2.out.mono ?_
          rintro e w1 ⟨rfl, rfl⟩
          go_wp2
          go_quiet (fail)
          go_wp2
          go_ret
          exact ⟨rfl, ⟨rfl, rfl, rfl, Nat.le_refl _, fun _ _ => rfl⟩⟩
        · have hdd' : ¬ (d2 : Int) ≤ d1 := by omega
          have hdn : ((d2 : Int) ≤ d1) = False := by simpa using hdd
          have hdt : decide (d2 ≤ d1) = false := decide_eq_false hdd
          rw [hdt, decide_eq_true rfl]
          clear hdt hdd
          go_enter Tryz.func15, Tryz.ntmps15
          go_wp2_with fail
          refine C1.out.mono ?_
          rintro e w1 ⟨rfl, rfl⟩
          go_wp2_with fail
          refine C2.out.mono ?_
          rintro e w1 ⟨rfl, rfl⟩
          go_wp2
          go_quiet (fail)
          go_wp2
          go_ret
          exact ⟨rfl, ⟨rfl, rfl, rfl, Nat.le_refl _, fun _ _ => rfl⟩⟩
      · have hxk' : ((x : Int) == k) = false := by simp; omega
        have hxn : ¬ (x : Int) = k := by omega
        rw [decide_eq_false hxk]
        have HX := Lib.hid hxk
        clear hxk
        by_cases hdd : d2 ≤ d1
        · have hdd' : (d2 : Int) ≤ d1 := by omega
          clear hdd
          go_enter Tryz.func15, Tryz.ntmps15
          go_wp2_with fail
          refine C1.out.mono ?_
          rintro e w1 ⟨rfl, rfl⟩
          go_wp2_with fail
          refine C2.out.mono ?_
          rintro e w1 ⟨rfl, rfl⟩
          go_wp2
          go_quiet (fail)
          go_wp2
          go_ret
          exact ⟨rfl, ⟨rfl, rfl, rfl, Nat.le_refl _, fun _ _ => rfl⟩⟩
        · have hdd' : ¬ (d2 : Int) ≤ d1 := by omega
          clear hdd
          go_enter Tryz.func15, Tryz.ntmps15
          go_wp2_with fail
          refine C1.out.mono ?_
          rintro e w1 ⟨rfl, rfl⟩
          go_wp2_with fail
          refine C2.out.mono ?_
          rintro e w1 ⟨rfl, rfl⟩
          go_wp2
          go_quiet (fail)
          go_wp2
          go_ret
          exact ⟨rfl, ⟨rfl, rfl, rfl, Nat.le_refl _, fun _ _ => rfl⟩⟩
    · have e2 : hasL L b = false := by rw [Bool.eq_false_iff]; simpa [hasL] using hb
      rw [e2] at C2
      rw [belowL_out (.inr hb)]
      clear h ha hb e1 e2
      go_enter Tryz.func15, Tryz.ntmps15
      go_wp2_with fail
      refine C1.out.mono ?_
      rintro e w1 ⟨rfl, rfl⟩
      go_wp2_with fail
      refine C2.out.mono ?_
      rintro e w1 ⟨rfl, rfl⟩
      go_wp2
      go_ret
      exact ⟨rfl, Below.refl _ _⟩
  · have e1 : hasL L a = false := by rw [Bool.eq_false_iff]; simpa [hasL] using ha
    rw [e1] at C1
    rw [belowL_out (.inl ha)]
    clear h ha e1
    go_enter Tryz.func15, Tryz.ntmps15
    go_wp2_with fail
    refine C1.out.mono ?_
    rintro e w1 ⟨rfl, rfl⟩
    go_wp2
    go_ret
    exact ⟨rfl, Below.refl _ _⟩

end
end Go.Proofs.YtkgmfbfpmlnfcaaGreatDoor
