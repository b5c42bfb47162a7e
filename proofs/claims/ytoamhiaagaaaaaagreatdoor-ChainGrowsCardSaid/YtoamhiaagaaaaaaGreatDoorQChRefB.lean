/- geoderef11: Below; chain: Copy, Line of what has none. -/
import Derived.Test.YtoamhiaagaaaaaaGreatDoorQChRefL
import Derived.Test.YtoamhiaagaaaaaaGreatDoorQChRead
namespace Go.Proofs.YtoamhiaagaaaaaaGreatDoor
open Go.RowKit

def belowN (L : List (List Nat)) (a b : Int) : Bool := hasL L a && hasL L b && (L.getD a.toNat []).any fun k => decide ((k : Int) = b)
theorem belowN_eq {ts : List Sb} {L : List (List Nat)} (h : LineOk ts L) (a b : Int) : belowN L a b = belowL L a b := by
  unfold belowN
  by_cases ha : 0 ≤ a ∧ a < L.length
  · by_cases hb : 0 ≤ b ∧ b < L.length
    · obtain ⟨x, rfl⟩ := Int.eq_ofNat_of_zero_le ha.1
      obtain ⟨y, rfl⟩ := Int.eq_ofNat_of_zero_le hb.1
      have hx : x < L.length := by omega
      have hy : y < L.length := by omega
      have h1 : hasL L (x : Int) = true := by simp [hasL]; omega
      have h2 : hasL L (y : Int) = true := by simp [hasL]; omega
      rw [h1, h2, Bool.true_and, Bool.true_and, Bool.eq_iff_iff, h.below (List.getElem?_eq_getElem hx), List.any_eq_true, Int.toNat_natCast, getD_some (List.getElem?_eq_getElem hx)]
      constructor
      · rintro ⟨k, hk, e⟩
        have : k = y := by have := of_decide_eq_true e; omega
        rwa [← this]
      · intro hk
        exact ⟨y, hk, by simp⟩
    · rw [belowL_out (.inr hb)]
      have : hasL L b = false := by simp [hasL]; omega
      rw [this]; simp
  · rw [belowL_out (.inl ha)]
    have : hasL L a = false := by simp [hasL]; omega
    rw [this]; simp
set_option maxRecDepth 100000 in
set_option maxHeartbeats 8000000 in
theorem rBelow_any (v : Value) (L : List (List Nat)) (a b : Int) (w : World) (hv : LlsAt w v L) (hl : L.length ≤ 1000000) (hp : ∀ p ∈ L, p.length ≤ 64) :
    Calls Tryz.prog 30 #[v, .int .i64 a, .int .i64 b] w fun e w' => e = .returned (.bool (belowN L a b)) ∧ Below w.heap.size w w' := by
  obtain ⟨ao, cap, rfl⟩ := hv.form
  obtain ⟨n, hn⟩ : ∃ n, L.length = n := ⟨_, rfl⟩
  have HV := Lib.hid hv; have HN := Lib.hid hn; have HP := Lib.hid hp
  have HL := Lib.hid (show n ≤ 1000000 by omega)
  rw [hn]
  obtain ⟨res, hres⟩ : ∃ r, belowN L a b = r := ⟨_, rfl⟩
  rw [hres]
  have HRES := Lib.hid hres
  clear hv hn hp hl hres
  have out : (¬ (0 ≤ a ∧ a < n) ∨ ¬ (0 ≤ b ∧ b < n)) → res = false := fun h => by
    rw [← HRES.out]; unfold belowN hasL
    rw [HN.out]
    rcases h with h | h
    · have : (decide (0 ≤ a) && decide (a < (n : Int))) = false := by simp; omega
      rw [this]; simp
    · have : (decide (0 ≤ b) && decide (b < (n : Int))) = false := by simp; omega
      rw [this]; simp
  have OUT := Lib.hid out
  clear out
  by_cases h1 : a < 0
  · have h1d : decide (a < 0) = true := by simpa using h1
    go_enter Tryz.func30, Tryz.ntmps30
    go_wp2
    go_ret
    exact ⟨by rw [OUT.out (by omega)]; rfl, Below.refl _ _⟩
  have h1d : decide (a < 0) = false := by simpa using h1
  by_cases h2 : (n : Int) ≤ a
  · have h2d : decide ((n : Int) ≤ a) = true := by simpa using h2
    go_enter Tryz.func30, Tryz.ntmps30
    go_wp2
    go_ret
    exact ⟨by rw [OUT.out (by omega)]; rfl, Below.refl _ _⟩
  have h2d : decide ((n : Int) ≤ a) = false := by simpa using h2
  by_cases h3 : b < 0
  · have h3d : decide (b < 0) = true := by simpa using h3
    go_enter Tryz.func30, Tryz.ntmps30
    go_wp2
    go_ret
    exact ⟨by rw [OUT.out (by omega)]; rfl, Below.refl _ _⟩
  have h3d : decide (b < 0) = false := by simpa using h3
  by_cases h4 : (n : Int) ≤ b
  · have h4d : decide ((n : Int) ≤ b) = true := by simpa using h4
    go_enter Tryz.func30, Tryz.ntmps30
    go_wp2
    go_ret
    exact ⟨by rw [OUT.out (by omega)]; rfl, Below.refl _ _⟩
  have h4d : decide ((n : Int) ≤ b) = false := by simpa using h4
  obtain ⟨x, rfl⟩ := Int.eq_ofNat_of_zero_le (show 0 ≤ a by omega)
  have hxn : x < n := by omega
  obtain ⟨p, hp⟩ : ∃ p, L[x]? = some p := ⟨L[x]'(by rw [HN.out]; exact hxn), by simp⟩
  have hva := HV.out
  obtain ⟨b1, o1, a1, c1, rfl, q0, q1⟩ := hva.at hp
  have HQ1 := Lib.hid q1
  obtain ⟨m, hm⟩ : ∃ m, p.length = m := ⟨_, rfl⟩
  have HM := Lib.hid hm
  have HM6 := Lib.hid (show m ≤ 64 by rw [← hm]; exact HP.out p (List.mem_of_getElem? hp))
  have HRS := Lib.hid (show res = p.any fun k => decide ((k : Int) = b) by
    rw [← HRES.out]; unfold belowN hasL
    rw [HN.out, Int.toNat_natCast, getD_some hp]
    have e1 : (decide (0 ≤ (x : Int)) && decide ((x : Int) < (n : Int))) = true := by simp; omega
    have e2 : (decide (0 ≤ b) && decide (b < (n : Int))) = true := by simp; omega
    rw [e1, e2]; simp)
  have hxn' : (x : Int) < n := by omega
  rw [hm] at q0
  clear hva q1 hp hm hxn
  go_enter Tryz.func30, Tryz.ntmps30
  go_wp2
  have q0x : ∀ z : Ext w, z.val.cell? ⟨b1, o1 + x, none⟩ = some (.slice a1 m c1) := Ext.cells q0
  have Q0X := Lib.hid q0x
  clear q0x q0
  go_loopw [7] (fun t7 wr => ∃ i : Nat, t7 = .int .i64 i ∧ i ≤ m ∧ ((p.take i).any fun k => decide ((k : Int) = b)) = false ∧ ∃ z : Ext w, wr = z.val) (fun t7 _ => m - (intOf t7).toNat)
  case atStart => exact ⟨0, rfl, Nat.zero_le _, by simp, ⟨_, Below.refl _ _⟩, rfl⟩
  case round =>
    obtain ⟨i, rfl, hi, hno, z, rfl⟩ := hrel
    have HNO := Lib.hid hno
    have q0 := Q0X.out z
    clear hno
    by_cases hlt : i < m
    · obtain ⟨k, hk⟩ : ∃ k, p[i]? = some k := ⟨p[i]'(by rw [HM.out]; exact hlt), by simp⟩
      have hki : (intsN p)[i]? = some (k : Int) := by simp [intsN, hk]
      have hpz : IntsAt z.val (.slice a1 (intsN p).length c1) (intsN p) := by rw [show (intsN p).length = p.length by simp [intsN]]; exact RowAt.below HQ1.out z.2 (Nat.le_refl _)
      obtain ⟨b2, o2, rfl, _, r0⟩ := IntsAt.at hpz hki
      have hlt' : (i : Int) < m := by omega
      have HLT := Lib.hid hlt; have HK := Lib.hid hk
      clear hlt hi hk hki hpz
      by_cases he : (k : Int) = b
      · have he1 : ((k : Int) == b) = true := by simpa using he
        have HE := Lib.hid he
        clear he
        go_wp2
        go_ret
        refine ⟨?_, z.2⟩
        have : res = true := by
          rw [HRS.out, List.any_eq_true]
          exact ⟨k, List.mem_of_getElem? HK.out, decide_eq_true HE.out⟩
        rw [this]; rfl
      · have he1 : ((k : Int) == b) = false := by simpa using he
        have HE := Lib.hid he
        clear he
        go_wp2
        go_roundw
        case rel =>
          refine ⟨i + 1, by rw [wrap_nx (by have := HM6.out; have := HLT.out; omega)], HLT.out, ?_, z, rfl⟩
          rw [List.take_add_one, HK.out, List.any_append, HNO.out]
          simp [HE.out]
        case measure => rw [wrap_nx (by have := HM6.out; have := HLT.out; omega)]; exact meas_nx HLT.out
    · obtain rfl : i = m := by omega
      have hlt' : ¬ (i : Int) < i := by omega
      clear hlt hi
      go_wp2
      go_ret
      refine ⟨?_, z.2⟩
      have h := HNO.out
      rw [List.take_of_length_le (by rw [HM.out]; exact Nat.le_refl _)] at h
      have : res = false := by rw [HRS.out]; exact h
      rw [this]; rfl
end Go.Proofs.YtoamhiaagaaaaaaGreatDoor
