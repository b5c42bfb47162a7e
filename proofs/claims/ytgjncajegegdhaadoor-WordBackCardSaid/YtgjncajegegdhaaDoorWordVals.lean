/- The contracts of layer 21's Pack, Open and Zero, and of the reference's. Condition: the table 'bounds' lies in block 0 as its initialiser lays it. -/
import Derived.Test.YtgjncajegegdhaaDoorWordWalks
namespace Go.Proofs.YtgjncajegegdhaaDoor
open Go.RowKit

theorem Tab.below {w w' : World} (h : Tab w) (hb : Below w.heap.size w w') : Tab w' := by
  have hp : 0 < w.heap.size := World.block_lt_of_cell? _ _ h.c0
  obtain ⟨c0, c1, c2, c3, c4, c5, c6, c7, c8, c9, c10, c11⟩ := h
  constructor <;> (rw [hb.cell (by exact hp)]; assumption)

theorem bcell {W w1 : World} (hb : Below W.heap.size W w1) : (∀ b o, b < W.heap.size → w1.cell? ⟨b, o, none⟩ = W.cell? ⟨b, o, none⟩) ∧ (∀ b o, b < W.heap.size → w1.frozen? ⟨b, o, none⟩ = W.frozen? ⟨b, o, none⟩) :=
  ⟨fun b o h => hb.cell (p := ⟨b, o, none⟩) h, fun b o h => hb.frozen (p := ⟨b, o, none⟩) h⟩

/-! A value is (kind, reference's kind, number). -/
def openOk (k x : Int) : Bool := (k == 1 && decide (x < 4294967296)) || k == 2 || (k == 3 && there (x % 8) (x / 8))
def openR (k x : Int) : Int := if k == 3 then ofK x else 0
def openN (k x : Int) : Int := if k == 3 then ofN x else x
def openV (k x : Int) : Value := if openOk k x then .agg #[.int .i64 k, .int .i64 (openR k x), .int .u64 (openN k x)] else .agg #[.int .i64 0, .int .i64 0, .int .u64 0]
def openE (k x : Int) : Int := if openOk k x then 0 else 2

theorem Open_any (k x : Int) (w : World) (h0 : 0 ≤ x) (h1 : x < 18446744073709551616) (ht : Tab w) :
    Calls Tryd.prog 16 #[.int .i64 k, .int .u64 x] w fun e w' => e = .returned (.tuple #[openV k x, .int .i64 (openE k x)]) ∧ Below w.heap.size w w' := by
  have ht' := ht.below ((Below.refl _ _).alloc (Nat.le_refl _) (.cells #[.int .i64 0, .int .i64 0, .int .u64 0] 36))
  have Ht := Lib.hid ht'; clear ht ht'
  by_cases k1 : k = 1
  · subst k1
    by_cases hx : x < 4294967296
    · have hv : openV 1 x = .agg #[.int .i64 1, .int .i64 0, .int .u64 x] := by simp [openV, openE, openOk, openR, openN, hx]
      have he : openE 1 x = 0 := by simp [openV, openE, openOk, openR, openN, hx]
      have HV := Lib.hid hv; clear hv
      have HE := Lib.hid he; clear he
      go_enter Tryd.func16, Tryd.ntmps16
      go_wp2
      exact bodyPost_ret (v := .tuple #[.agg #[.int .i64 1, .int .i64 0, .int .u64 x], .int .i64 0]) (by simp [results, Tryd.results16, go_sem]) rfl ⟨by rw [HV.out, HE.out], (by repeat (first | exact Below.refl _ _ | exact (Below.refl _ _).alloc (Nat.le_refl _) _ | refine Below.setCell ?_ (Nat.le_refl _) _ | refine Below.alloc ?_ (Nat.le_refl _) _))⟩
    · have hv : openV 1 x = .agg #[.int .i64 0, .int .i64 0, .int .u64 0] := by simp [openV, openE, openOk, hx]
      have he : openE 1 x = 2 := by simp [openV, openE, openOk, hx]
      have HV := Lib.hid hv; clear hv
      have HE := Lib.hid he; clear he
      go_enter Tryd.func16, Tryd.ntmps16
      go_wp2
      exact bodyPost_ret (v := .tuple #[.agg #[.int .i64 0, .int .i64 0, .int .u64 0], .int .i64 2]) (by simp [results, Tryd.results16, go_sem]) rfl ⟨by rw [HV.out, HE.out], (by repeat (first | exact Below.refl _ _ | exact (Below.refl _ _).alloc (Nat.le_refl _) _ | refine Below.setCell ?_ (Nat.le_refl _) _ | refine Below.alloc ?_ (Nat.le_refl _) _))⟩
  by_cases k2 : k = 2
  · subst k2
    have hv : openV 2 x = .agg #[.int .i64 2, .int .i64 0, .int .u64 x] := by simp [openV, openE, openOk, openR, openN]
    have he : openE 2 x = 0 := by simp [openV, openE, openOk, openR, openN]
    have HV := Lib.hid hv; clear hv
    have HE := Lib.hid he; clear he
    go_enter Tryd.func16, Tryd.ntmps16
    go_wp2
    exact bodyPost_ret (v := .tuple #[.agg #[.int .i64 2, .int .i64 0, .int .u64 x], .int .i64 0]) (by simp [results, Tryd.results16, go_sem]) rfl ⟨by rw [HV.out, HE.out], (by repeat (first | exact Below.refl _ _ | exact (Below.refl _ _).alloc (Nat.le_refl _) _ | refine Below.setCell ?_ (Nat.le_refl _) _ | refine Below.alloc ?_ (Nat.le_refl _) _))⟩
  by_cases k3 : k = 3
  · subst k3
    cases hx : there (x % 8) (x / 8)
    · have hv : openV 3 x = .agg #[.int .i64 0, .int .i64 0, .int .u64 0] := by simp [openV, openE, openOk, hx]
      have he : openE 3 x = 2 := by simp [openV, openE, openOk, hx]
      have e1 : ofE x = 2 := by simp [ofE, hx]
      have E1 := Lib.hid e1; clear e1
      clear hx
      have HV := Lib.hid hv; clear hv
      have HE := Lib.hid he; clear he
      go_enter Tryd.func16, Tryd.ntmps16
      go_wp2_with fail
      refine (Of_any _ _ h0 h1 Ht.out).mono ?_
      rintro e w' ⟨rfl, rfl⟩
      rw [E1.out]
      go_wp2
      exact bodyPost_ret (v := .tuple #[.agg #[.int .i64 0, .int .i64 0, .int .u64 0], .int .i64 2]) (by simp [results, Tryd.results16, go_sem]) rfl ⟨by rw [HV.out, HE.out], (by repeat (first | exact Below.refl _ _ | exact (Below.refl _ _).alloc (Nat.le_refl _) _ | refine Below.setCell ?_ (Nat.le_refl _) _ | refine Below.alloc ?_ (Nat.le_refl _) _))⟩
    · have hv : openV 3 x = .agg #[.int .i64 3, .int .i64 (x % 8), .int .u64 (x / 8)] := by simp [openV, openE, openOk, openR, openN, ofK, ofN, hx]
      have he : openE 3 x = 0 := by simp [openV, openE, openOk, openR, openN, ofK, ofN, hx]
      have e1 : ofE x = 0 := by simp [ofE, hx]
      have E1 := Lib.hid e1; clear e1
      have e2 : ofK x = x % 8 := by simp [ofK, hx]
      have E2 := Lib.hid e2; clear e2
      have e3 : ofN x = x / 8 := by simp [ofN, hx]
      have E3 := Lib.hid e3; clear e3
      clear hx
      have HV := Lib.hid hv; clear hv
      have HE := Lib.hid he; clear he
      go_enter Tryd.func16, Tryd.ntmps16
      go_wp2_with fail
      refine (Of_any _ _ h0 h1 Ht.out).mono ?_
      rintro e w' ⟨rfl, rfl⟩
      rw [E1.out, E2.out, E3.out]
      go_wp2
      exact bodyPost_ret (v := .tuple #[.agg #[.int .i64 3, .int .i64 (x % 8), .int .u64 (x / 8)], .int .i64 0]) (by simp [results, Tryd.results16, go_sem]) rfl ⟨by rw [HV.out, HE.out], (by repeat (first | exact Below.refl _ _ | exact (Below.refl _ _).alloc (Nat.le_refl _) _ | refine Below.setCell ?_ (Nat.le_refl _) _ | refine Below.alloc ?_ (Nat.le_refl _) _))⟩
  have b1 : (k == 1) = false := by simpa using k1
  have b2 : (k == 2) = false := by simpa using k2
  have b3 : (k == 3) = false := by simpa using k3
  have n1 : (k != 1) = true := by simpa using k1
  have n2 : (k != 2) = true := by simpa using k2
  have n3 : (k != 3) = true := by simpa using k3
  have hv : openV k x = .agg #[.int .i64 0, .int .i64 0, .int .u64 0] := by simp [openV, openOk, k1, k2, k3]
  have he : openE k x = 2 := by simp [openE, openOk, k1, k2, k3]
  clear k1 k2 k3
  have HV := Lib.hid hv; clear hv
  have HE := Lib.hid he; clear he
  go_enter Tryd.func16, Tryd.ntmps16
  go_wp2
  exact bodyPost_ret (v := .tuple #[.agg #[.int .i64 0, .int .i64 0, .int .u64 0], .int .i64 2]) (by simp [results, Tryd.results16, go_sem]) rfl ⟨by rw [HV.out, HE.out], (by repeat (first | exact Below.refl _ _ | exact (Below.refl _ _).alloc (Nat.le_refl _) _ | refine Below.setCell ?_ (Nat.le_refl _) _ | refine Below.alloc ?_ (Nat.le_refl _) _))⟩

theorem ROpen_any (k x : Int) (w : World) (h0 : 0 ≤ x) (h1 : x < 18446744073709551616) :
    Calls Tryd.prog 18 #[.int .i64 k, .int .u64 x] w fun e w' => e = .returned (.tuple #[openV k x, .int .i64 (openE k x)]) ∧ Below w.heap.size w w' := by
  by_cases k1 : k = 1
  · subst k1
    by_cases hx : x < 4294967296
    · have hv : openV 1 x = .agg #[.int .i64 1, .int .i64 0, .int .u64 x] := by simp [openV, openE, openOk, openR, openN, hx]
      have he : openE 1 x = 0 := by simp [openV, openE, openOk, openR, openN, hx]
      have HV := Lib.hid hv; clear hv
      have HE := Lib.hid he; clear he
      go_enter Tryd.func18, Tryd.ntmps18
      go_wp2
      exact bodyPost_ret (v := .tuple #[.agg #[.int .i64 1, .int .i64 0, .int .u64 x], .int .i64 0]) (by simp [results, Tryd.results18, go_sem]) rfl ⟨by rw [HV.out, HE.out], (by repeat (first | exact Below.refl _ _ | exact (Below.refl _ _).alloc (Nat.le_refl _) _ | refine Below.setCell ?_ (Nat.le_refl _) _ | refine Below.alloc ?_ (Nat.le_refl _) _))⟩
    · have hv : openV 1 x = .agg #[.int .i64 0, .int .i64 0, .int .u64 0] := by simp [openV, openE, openOk, hx]
      have he : openE 1 x = 2 := by simp [openV, openE, openOk, hx]
      have HV := Lib.hid hv; clear hv
      have HE := Lib.hid he; clear he
      go_enter Tryd.func18, Tryd.ntmps18
      go_wp2
      exact bodyPost_ret (v := .tuple #[.agg #[.int .i64 0, .int .i64 0, .int .u64 0], .int .i64 2]) (by simp [results, Tryd.results18, go_sem]) rfl ⟨by rw [HV.out, HE.out], (by repeat (first | exact Below.refl _ _ | exact (Below.refl _ _).alloc (Nat.le_refl _) _ | refine Below.setCell ?_ (Nat.le_refl _) _ | refine Below.alloc ?_ (Nat.le_refl _) _))⟩
  by_cases k2 : k = 2
  · subst k2
    have hv : openV 2 x = .agg #[.int .i64 2, .int .i64 0, .int .u64 x] := by simp [openV, openE, openOk, openR, openN]
    have he : openE 2 x = 0 := by simp [openV, openE, openOk, openR, openN]
    have HV := Lib.hid hv; clear hv
    have HE := Lib.hid he; clear he
    go_enter Tryd.func18, Tryd.ntmps18
    go_wp2
    exact bodyPost_ret (v := .tuple #[.agg #[.int .i64 2, .int .i64 0, .int .u64 x], .int .i64 0]) (by simp [results, Tryd.results18, go_sem]) rfl ⟨by rw [HV.out, HE.out], (by repeat (first | exact Below.refl _ _ | exact (Below.refl _ _).alloc (Nat.le_refl _) _ | refine Below.setCell ?_ (Nat.le_refl _) _ | refine Below.alloc ?_ (Nat.le_refl _) _))⟩
  by_cases k3 : k = 3
  · subst k3
    cases hx : there (x % 8) (x / 8)
    · have hv : openV 3 x = .agg #[.int .i64 0, .int .i64 0, .int .u64 0] := by simp [openV, openE, openOk, hx]
      have he : openE 3 x = 2 := by simp [openV, openE, openOk, hx]
      have e1 : ofE x = 2 := by simp [ofE, hx]
      have E1 := Lib.hid e1; clear e1
      clear hx
      have HV := Lib.hid hv; clear hv
      have HE := Lib.hid he; clear he
      go_enter Tryd.func18, Tryd.ntmps18
      go_wp2_with fail
      refine (ROf_any _ _ h0 h1).mono ?_
      rintro e w' ⟨rfl, rfl⟩
      rw [E1.out]
      go_wp2
      exact bodyPost_ret (v := .tuple #[.agg #[.int .i64 0, .int .i64 0, .int .u64 0], .int .i64 2]) (by simp [results, Tryd.results18, go_sem]) rfl ⟨by rw [HV.out, HE.out], (by repeat (first | exact Below.refl _ _ | exact (Below.refl _ _).alloc (Nat.le_refl _) _ | refine Below.setCell ?_ (Nat.le_refl _) _ | refine Below.alloc ?_ (Nat.le_refl _) _))⟩
    · have hv : openV 3 x = .agg #[.int .i64 3, .int .i64 (x % 8), .int .u64 (x / 8)] := by simp [openV, openE, openOk, openR, openN, ofK, ofN, hx]
      have he : openE 3 x = 0 := by simp [openV, openE, openOk, openR, openN, ofK, ofN, hx]
      have e1 : ofE x = 0 := by simp [ofE, hx]
      have E1 := Lib.hid e1; clear e1
      have e2 : ofK x = x % 8 := by simp [ofK, hx]
      have E2 := Lib.hid e2; clear e2
      have e3 : ofN x = x / 8 := by simp [ofN, hx]
      have E3 := Lib.hid e3; clear e3
      clear hx
      have HV := Lib.hid hv; clear hv
      have HE := Lib.hid he; clear he
      go_enter Tryd.func18, Tryd.ntmps18
      go_wp2_with fail
      refine (ROf_any _ _ h0 h1).mono ?_
      rintro e w' ⟨rfl, rfl⟩
      rw [E1.out, E2.out, E3.out]
      go_wp2
      exact bodyPost_ret (v := .tuple #[.agg #[.int .i64 3, .int .i64 (x % 8), .int .u64 (x / 8)], .int .i64 0]) (by simp [results, Tryd.results18, go_sem]) rfl ⟨by rw [HV.out, HE.out], (by repeat (first | exact Below.refl _ _ | exact (Below.refl _ _).alloc (Nat.le_refl _) _ | refine Below.setCell ?_ (Nat.le_refl _) _ | refine Below.alloc ?_ (Nat.le_refl _) _))⟩
  have b1 : (k == 1) = false := by simpa using k1
  have b2 : (k == 2) = false := by simpa using k2
  have b3 : (k == 3) = false := by simpa using k3
  have n1 : (k != 1) = true := by simpa using k1
  have n2 : (k != 2) = true := by simpa using k2
  have n3 : (k != 3) = true := by simpa using k3
  have hv : openV k x = .agg #[.int .i64 0, .int .i64 0, .int .u64 0] := by simp [openV, openOk, k1, k2, k3]
  have he : openE k x = 2 := by simp [openE, openOk, k1, k2, k3]
  clear k1 k2 k3
  have HV := Lib.hid hv; clear hv
  have HE := Lib.hid he; clear he
  go_enter Tryd.func18, Tryd.ntmps18
  go_wp2
  exact bodyPost_ret (v := .tuple #[.agg #[.int .i64 0, .int .i64 0, .int .u64 0], .int .i64 2]) (by simp [results, Tryd.results18, go_sem]) rfl ⟨by rw [HV.out, HE.out], (by repeat (first | exact Below.refl _ _ | exact (Below.refl _ _).alloc (Nat.le_refl _) _ | refine Below.setCell ?_ (Nat.le_refl _) _ | refine Below.alloc ?_ (Nat.le_refl _) _))⟩
end Go.Proofs.YtgjncajegegdhaaDoor
