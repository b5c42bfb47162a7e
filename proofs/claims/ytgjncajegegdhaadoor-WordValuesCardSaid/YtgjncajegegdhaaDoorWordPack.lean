/- The contracts of layer 21's Pack and Zero, and of the reference's Pack. -/
import Derived.Test.YtgjncajegegdhaaDoorWordVals
namespace Go.Proofs.YtgjncajegegdhaaDoor
open Go.RowKit

def packOk (k r n : Int) : Bool := if k == 3 then there r n else (openOk k n && r == 0)
def packW (k r n : Int) : Int := if packOk k r n then (if k == 3 then 8 * n + r else n) else 0
def packE (k r n : Int) : Int := if packOk k r n then 0 else 2
def val (k r n : Int) : Value := .agg #[.int .i64 k, .int .i64 r, .int .u64 n]

theorem Pack_any (k r n : Int) (w : World) (h0 : 0 ≤ n) (h1 : n < 18446744073709551616) (ht : Tab w) :
    Calls Tryd.prog 15 #[val k r n] w fun e w' => e = .returned (.tuple #[.int .u64 (packW k r n), .int .i64 (packE k r n)]) ∧ Below w.heap.size w w' := by
  have ht' := ht.below ((Below.refl _ _).alloc (Nat.le_refl _) (.cells #[.int .i64 k, .int .i64 r, .int .u64 n] 36))
  have Ht := Lib.hid ht'; clear ht ht'
  unfold val
  by_cases k3 : k = 3
  · subst k3
    have hw : packW 3 r n = refW r n := by simp [packW, packOk, refW]
    have he : packE 3 r n = refE r n := by simp [packE, packOk, refE]
    have HW := Lib.hid hw; clear hw
    have HE := Lib.hid he; clear he
    go_enter Tryd.func15, Tryd.ntmps15
    go_wp2_with fail
    refine (ref_any _ _ _ h0 Ht.out).mono ?_
    rintro e w' ⟨rfl, rfl⟩
    go_wp2
    go_ret2
    exact ⟨ret2 HW.out.symm HE.out.symm, (Below.refl _ _).alloc (Nat.le_refl _) _⟩
  · have b3 : (k == 3) = false := by simpa using k3
    have hw : packW k r n = if openOk k n && r == 0 then n else 0 := by simp [packW, packOk, k3]
    have he : packE k r n = if openOk k n && r == 0 then 0 else 2 := by simp [packE, packOk, k3]
    have HW := Lib.hid hw; clear hw
    have HE := Lib.hid he; clear he
    have hK := Lib.hid k3; clear k3
    go_enter Tryd.func15, Tryd.ntmps15
    go_wp2_with fail
    refine (Open_any _ _ _ h0 h1 Ht.out).mono ?_
    rintro e w1 ⟨rfl, hb⟩
    have hc0 : w1.cell? ⟨w.heap.size, 0, none⟩ = some (.int .i64 k) := by rw [hb.cell (by simp)]; simp
    have hc1 : w1.cell? ⟨w.heap.size, 1, none⟩ = some (.int .i64 r) := by rw [hb.cell (by simp)]; simp
    have hc2 : w1.cell? ⟨w.heap.size, 2, none⟩ = some (.int .u64 n) := by rw [hb.cell (by simp)]; simp
    have hz := hb.size
    have hz2 : w.heap.size < w1.heap.size := by simp at hz; omega
    clear hz
    cases hx : openOk k n
    · rw [show openE k n = 2 by simp [openE, hx], show openV k n = .agg #[.int .i64 0, .int .i64 0, .int .u64 0] by simp [openV, hx]]
      go_wp2
      go_ret2
      exact ⟨ret2 (by rw [HW.out, hx]; simp) (by rw [HE.out, hx]; simp), ((((Below.refl _ _).alloc (Nat.le_refl _) _).trans (hb.mono (by simp))).alloc (by omega) _)⟩
    · rw [show openE k n = 0 by simp [openE, hx], show openV k n = .agg #[.int .i64 k, .int .i64 0, .int .u64 n] by simp [openV, openR, openN, hx, hK.out]]
      have Hx := Lib.hid hx; clear hx
      by_cases hr : r = 0
      · subst hr
        go_wp2
        go_ret2
        exact ⟨ret2 (by rw [HW.out, Hx.out]; simp) (by rw [HE.out, Hx.out]; simp), ((((Below.refl _ _).alloc (Nat.le_refl _) _).trans (hb.mono (by simp))).alloc (by omega) _)⟩
      · have hr' : ¬ 0 = r := fun h => hr h.symm
        go_wp2
        go_ret2
        exact ⟨ret2 (by rw [HW.out, Hx.out]; simp [hr]) (by rw [HE.out, Hx.out]; simp [hr]), ((((Below.refl _ _).alloc (Nat.le_refl _) _).trans (hb.mono (by simp))).alloc (by omega) _)⟩

theorem RPack_any (k r n : Int) (w : World) (h0 : 0 ≤ n) :
    Calls Tryd.prog 17 #[val k r n] w fun e w' => e = .returned (.tuple #[.int .u64 (packW k r n), .int .i64 (packE k r n)]) ∧ Below w.heap.size w w' := by
  unfold val
  by_cases k3 : k = 3
  · subst k3
    have hw : packW 3 r n = refW r n := by simp [packW, packOk, refW]
    have he : packE 3 r n = refE r n := by simp [packE, packOk, refE]
    have HW := Lib.hid hw; clear hw
    have HE := Lib.hid he; clear he
    go_enter Tryd.func17, Tryd.ntmps17
    go_wp2_with fail
    refine (RRef_any _ _ _ h0).mono ?_
    rintro e w' ⟨rfl, rfl⟩
    go_wp2
    go_ret2
    exact ⟨ret2 HW.out.symm HE.out.symm, (Below.refl _ _).alloc (Nat.le_refl _) _⟩
  have hw : packW k r n = if openOk k n && r == 0 then n else 0 := by simp [packW, packOk, k3]
  have he : packE k r n = if openOk k n && r == 0 then 0 else 2 := by simp [packE, packOk, k3]
  have HW := Lib.hid hw; clear hw
  have HE := Lib.hid he; clear he
  have HK := Lib.hid k3
  by_cases hr : r = 0
  · subst hr
    by_cases k1 : k = 1
    · subst k1
      clear k3
      by_cases hn : n < 4294967296
      all_goals
        go_enter Tryd.func17, Tryd.ntmps17
        go_wp2
        go_ret2
        exact ⟨ret2 (by rw [HW.out]; simp [openOk]; omega) (by rw [HE.out]; simp [openOk]; omega), (Below.refl _ _).alloc (Nat.le_refl _) _⟩
    by_cases k2 : k = 2
    · subst k2
      clear k3 k1
      go_enter Tryd.func17, Tryd.ntmps17
      go_wp2
      go_ret2
      exact ⟨ret2 (by rw [HW.out]; simp [openOk]) (by rw [HE.out]; simp [openOk]), (Below.refl _ _).alloc (Nat.le_refl _) _⟩
    have n1 : (k != 1) = true := by simpa using k1
    have n2 : (k != 2) = true := by simpa using k2
    have n3 : (k == 3) = false := by simpa using k3
    have H1 := Lib.hid k1
    have H2 := Lib.hid k2
    clear k1 k2 k3
    go_enter Tryd.func17, Tryd.ntmps17
    go_wp2
    go_ret2
    exact ⟨ret2 (by rw [HW.out]; simp [openOk, H1.out, H2.out, HK.out]) (by rw [HE.out]; simp [openOk, H1.out, H2.out, HK.out]), (Below.refl _ _).alloc (Nat.le_refl _) _⟩
  · have hr' : (r != 0) = true := by simpa using hr
    have n3 : (k == 3) = false := by simpa using k3
    have HR := Lib.hid hr
    clear k3 hr
    go_enter Tryd.func17, Tryd.ntmps17
    go_wp2
    go_ret2
    exact ⟨ret2 (by rw [HW.out]; simp [HR.out]) (by rw [HE.out]; simp [HR.out]), (Below.refl _ _).alloc (Nat.le_refl _) _⟩
end Go.Proofs.YtgjncajegegdhaaDoor
