/- What the functions of layer 21 (word), and the reference's, compute: each one's contract. Condition: the table 'bounds' lies in block 0 as its initialiser lays it. -/
import Derived.Test.YtgjncajegegdhaaDoorRows
import Derived.WalkKit
import Derived.WalkLawsBesides
import Derived.WalkSpells
import Derived.RegionTactic
import Derived.ChangeAlike
import Derived.Deep.QuietTactic
import Derived.BigQuiet
import Derived.Outline
import Derived.Lib.Hide
namespace Go.Proofs.YtgjncajegegdhaaDoor
open Go.RowKit

/-- The table 'bounds' lies in block 0. -/
structure Tab (w : World) : Prop where
  c0 : w.cell? ⟨0, 0, none⟩ = some (.int .u64 0)
  c1 : w.cell? ⟨0, 1, none⟩ = some (.int .u64 1)
  c2 : w.cell? ⟨0, 2, none⟩ = some (.int .u64 0)
  c3 : w.cell? ⟨0, 3, none⟩ = some (.int .u64 2147483648)
  c4 : w.cell? ⟨0, 4, none⟩ = some (.int .u64 1)
  c5 : w.cell? ⟨0, 5, none⟩ = some (.int .u64 1099511627776)
  c6 : w.cell? ⟨0, 6, none⟩ = some (.int .u64 0)
  c7 : w.cell? ⟨0, 7, none⟩ = some (.int .u64 1099511627776)
  c8 : w.cell? ⟨0, 8, none⟩ = some (.int .u64 0)
  c9 : w.cell? ⟨0, 9, none⟩ = some (.int .u64 1099511627776)
  c10 : w.cell? ⟨0, 10, none⟩ = some (.int .u64 1)
  c11 : w.cell? ⟨0, 11, none⟩ = some (.int .u64 1099511627776)

theorem ret1 {k1 : IntKind} {a b : Int} (h : a = b) : Ending.returned (.int k1 a) = .returned (.int k1 b) := by rw [h]
theorem ret2 {k1 k2 : IntKind} {a b c d : Int} (h : a = b) (h' : c = d) : Ending.returned (.tuple #[.int k1 a, .int k2 c]) = .returned (.tuple #[.int k1 b, .int k2 d]) := by rw [h, h']
theorem ret3 {k1 k2 k3 : IntKind} {a b c d e f : Int} (h : a = b) (h' : c = d) (h'' : e = f) : Ending.returned (.tuple #[.int k1 a, .int k2 c, .int k3 e]) = .returned (.tuple #[.int k1 b, .int k2 d, .int k3 f]) := by rw [h, h', h'']

/-- Is there such a reference? -/
def there (k n : Int) : Bool :=
  (k == 0 && n == 0) || (k == 1 && decide (n < 2147483648)) || ((k == 2 || k == 5) && decide (1 ≤ n) && decide (n < 1099511627776)) || ((k == 3 || k == 4) && decide (n < 1099511627776))
def refW (k n : Int) : Int := if there k n then 8 * n + k else 0
def refE (k n : Int) : Int := if there k n then 0 else 2

theorem or3 (n k : Int) (h0 : 0 ≤ n) (h1 : n < 1099511627776) (h2 : 0 ≤ k) (h3 : k < 8) : bits .or .u64 (n * 8) k = 8 * n + k := by
  rw [u64_or _ _ (by omega) (by omega) (by omega) (by omega), nat_join 3 _ _ (by omega) (by omega)]
  omega

theorem ref_any (k n : Int) (w : World) (h0 : 0 ≤ n) (ht : Tab w) :
    Calls Tryd.prog 7 #[.int .i64 k, .int .u64 n] w fun e w' => e = .returned (.tuple #[.int .u64 (refW k n), .int .i64 (refE k n)]) ∧ w = w' := by
  obtain ⟨c0, c1, c2, c3, c4, c5, c6, c7, c8, c9, c10, c11⟩ := ht
  by_cases hk : k < 0
  · have hx : there k n = false := by simp [there]; omega
    have hr : refW k n = 0 := by simp [refW, hx]
    have hs : refE k n = 2 := by simp [refE, hx]
    clear hx c0 c1 c2 c3 c4 c5 c6 c7 c8 c9 c10 c11
    rw [hr, hs]; clear hr hs
    go_enter Tryd.func7, Tryd.ntmps7
    go_wp2
    go_ret2
    exact ⟨rfl, rfl⟩
  by_cases hk6 : 6 ≤ k
  · have hx : there k n = false := by simp [there]; omega
    have hr : refW k n = 0 := by simp [refW, hx]
    have hs : refE k n = 2 := by simp [refE, hx]
    clear hx c0 c1 c2 c3 c4 c5 c6 c7 c8 c9 c10 c11
    rw [hr, hs]; clear hr hs
    go_enter Tryd.func7, Tryd.ntmps7
    go_wp2
    go_ret2
    exact ⟨rfl, rfl⟩
  have hk' : k = 0 ∨ k = 1 ∨ k = 2 ∨ k = 3 ∨ k = 4 ∨ k = 5 := by omega
  clear hk hk6
  rcases hk' with rfl | rfl | rfl | rfl | rfl | rfl
  · clear c2 c3 c4 c5 c6 c7 c8 c9 c10 c11
    go_enter Tryd.func7, Tryd.ntmps7
    go_wp2
    all_goals go_ret2
    all_goals refine ⟨ret2 ?_ ?_, rfl⟩
    all_goals simp [refW, refE, there]
    all_goals first | omega | (rw [or3 _ _ (by omega) (by omega) (by omega) (by omega)]; omega)
  · clear c0 c1 c4 c5 c6 c7 c8 c9 c10 c11
    go_enter Tryd.func7, Tryd.ntmps7
    go_wp2
    all_goals go_ret2
    all_goals refine ⟨ret2 ?_ ?_, rfl⟩
    all_goals simp [refW, refE, there]
    all_goals first | omega | (rw [or3 _ _ (by omega) (by omega) (by omega) (by omega)]; omega)
  · clear c0 c1 c2 c3 c6 c7 c8 c9 c10 c11
    go_enter Tryd.func7, Tryd.ntmps7
    go_wp2
    all_goals go_ret2
    all_goals refine ⟨ret2 ?_ ?_, rfl⟩
    all_goals simp [refW, refE, there]
    all_goals first | omega | (rw [or3 _ _ (by omega) (by omega) (by omega) (by omega)]; omega)
  · clear c0 c1 c2 c3 c4 c5 c8 c9 c10 c11
    go_enter Tryd.func7, Tryd.ntmps7
    go_wp2
    all_goals go_ret2
    all_goals refine ⟨ret2 ?_ ?_, rfl⟩
    all_goals simp [refW, refE, there]
    all_goals first | omega | (rw [or3 _ _ (by omega) (by omega) (by omega) (by omega)]; omega)
  · clear c0 c1 c2 c3 c4 c5 c6 c7 c10 c11
    go_enter Tryd.func7, Tryd.ntmps7
    go_wp2
    all_goals go_ret2
    all_goals refine ⟨ret2 ?_ ?_, rfl⟩
    all_goals simp [refW, refE, there]
    all_goals first | omega | (rw [or3 _ _ (by omega) (by omega) (by omega) (by omega)]; omega)
  · clear c0 c1 c2 c3 c4 c5 c6 c7 c8 c9
    go_enter Tryd.func7, Tryd.ntmps7
    go_wp2
    all_goals go_ret2
    all_goals refine ⟨ret2 ?_ ?_, rfl⟩
    all_goals simp [refW, refE, there]
    all_goals first | omega | (rw [or3 _ _ (by omega) (by omega) (by omega) (by omega)]; omega)

theorem There_any (k n : Int) (w : World) (h0 : 0 ≤ n) :
    Calls Tryd.prog 20 #[.int .i64 k, .int .u64 n] w fun e w' => e = .returned (.bool (there k n)) ∧ w = w' := by
  by_cases hk : k < 0 ∨ 6 ≤ k
  · have hx : there k n = false := by simp [there]; omega
    rw [hx]; clear hx
    have b0 : (k == 0) = false := by simp; omega
    have b1 : (k == 1) = false := by simp; omega
    have b2 : (k == 2) = false := by simp; omega
    have b3 : (k == 3) = false := by simp; omega
    have b4 : (k == 4) = false := by simp; omega
    have b5 : (k == 5) = false := by simp; omega
    clear hk
    go_enter Tryd.func20, Tryd.ntmps20
    go_wp2
    go_ret
    exact ⟨rfl, rfl⟩
  have hk' : k = 0 ∨ k = 1 ∨ k = 2 ∨ k = 3 ∨ k = 4 ∨ k = 5 := by omega
  clear hk
  rcases hk' with rfl | rfl | rfl | rfl | rfl | rfl
  all_goals
    go_enter Tryd.func20, Tryd.ntmps20
    go_wp2
    all_goals go_ret
    all_goals refine ⟨?_, rfl⟩
    all_goals simp [there]
  all_goals omega

theorem RRef_any (k n : Int) (w : World) (h0 : 0 ≤ n) :
    Calls Tryd.prog 8 #[.int .i64 k, .int .u64 n] w fun e w' => e = .returned (.tuple #[.int .u64 (refW k n), .int .i64 (refE k n)]) ∧ w = w' := by
  cases hx : there k n
  · have hr : refW k n = 0 := by simp [refW, hx]
    have hs : refE k n = 2 := by simp [refE, hx]
    rw [hr, hs]; clear hr hs
    have Hx := Lib.hid hx; clear hx
    go_enter Tryd.func8, Tryd.ntmps8
    go_wp2_with fail
    refine (There_any _ _ _ h0).mono ?_
    rintro e w' ⟨rfl, rfl⟩
    rw [Hx.out]
    go_wp2
    go_ret2
    exact ⟨rfl, rfl⟩
  · have hr : refW k n = 8 * n + k := by simp [refW, hx]
    have hs : refE k n = 0 := by simp [refE, hx]
    have hb : 0 ≤ k ∧ k < 6 ∧ n < 1099511627776 := by simp [there] at hx; omega
    rw [hr, hs]; clear hr hs
    have Hx := Lib.hid hx; clear hx
    go_enter Tryd.func8, Tryd.ntmps8
    go_wp2_with fail
    refine (There_any _ _ _ h0).mono ?_
    rintro e w' ⟨rfl, rfl⟩
    rw [Hx.out]
    go_wp2
    go_ret2
    exact ⟨ret2 (by first | rfl | omega) rfl, rfl⟩

def ofK (w : Int) : Int := if there (w % 8) (w / 8) then w % 8 else 0
def ofN (w : Int) : Int := if there (w % 8) (w / 8) then w / 8 else 0
def ofE (w : Int) : Int := if there (w % 8) (w / 8) then 0 else 2

theorem mask7 (x : Int) (h0 : 0 ≤ x) (h1 : x < 18446744073709551616) : bits .and .u64 x 7 = x % 8 := by
  rw [u64_and _ _ h0 h1 (by omega) (by omega)]
  have : (7 : Int).toNat = 7 := rfl
  rw [this, nat_mask3]; omega
theorem mask7' (x : Int) (h0 : 0 ≤ x) (h1 : x < 18446744073709551616) : wrap64 (bits .and .u64 x 7) = x % 8 := by
  rw [mask7 x h0 h1, IntWalk.wrap64_in _ (by omega)]

theorem Of_any (x : Int) (w : World) (h0 : 0 ≤ x) (h1 : x < 18446744073709551616) (ht : Tab w) :
    Calls Tryd.prog 9 #[.int .u64 x] w fun e w' => e = .returned (.tuple #[.int .i64 (ofK x), .int .u64 (ofN x), .int .i64 (ofE x)]) ∧ w = w' := by
  have Ht := Lib.hid ht; clear ht
  cases hx : there (x % 8) (x / 8)
  · rw [show ofK x = 0 by simp [ofK, hx], show ofN x = 0 by simp [ofN, hx], show ofE x = 2 by simp [ofE, hx]]
    have hy : refE (x % 8) (x / 8) = 2 := by simp [refE, hx]
    have Hx := Lib.hid hy; clear hy
    clear hx
    go_enter Tryd.func9, Tryd.ntmps9
    go_wp2_with fail
    rw [mask7' x h0 h1]
    refine (ref_any _ _ _ (by omega) Ht.out).mono ?_
    rintro e w' ⟨rfl, rfl⟩
    rw [Hx.out]
    go_wp2
    go_ret3
    exact ⟨rfl, rfl⟩
  · rw [show ofK x = x % 8 by simp [ofK, hx], show ofN x = x / 8 by simp [ofN, hx], show ofE x = 0 by simp [ofE, hx]]
    have hy : refE (x % 8) (x / 8) = 0 := by simp [refE, hx]
    have Hx := Lib.hid hy; clear hy
    clear hx
    go_enter Tryd.func9, Tryd.ntmps9
    go_wp2_with fail
    rw [mask7' x h0 h1]
    refine (ref_any _ _ _ (by omega) Ht.out).mono ?_
    rintro e w' ⟨rfl, rfl⟩
    rw [Hx.out]
    go_wp2
    go_ret3
    exact ⟨rfl, rfl⟩

theorem ROf_any (x : Int) (w : World) (h0 : 0 ≤ x) (h1 : x < 18446744073709551616) :
    Calls Tryd.prog 10 #[.int .u64 x] w fun e w' => e = .returned (.tuple #[.int .i64 (ofK x), .int .u64 (ofN x), .int .i64 (ofE x)]) ∧ w = w' := by
  cases hx : there (x % 8) (x / 8)
  · rw [show ofK x = 0 by simp [ofK, hx], show ofN x = 0 by simp [ofN, hx], show ofE x = 2 by simp [ofE, hx]]
    have Hx := Lib.hid hx; clear hx
    go_enter Tryd.func10, Tryd.ntmps10
    go_wp2_with fail
    refine (There_any _ _ _ (by omega)).mono ?_
    rintro e w' ⟨rfl, rfl⟩
    rw [Hx.out]
    go_wp2
    go_ret3
    exact ⟨rfl, rfl⟩
  · rw [show ofK x = x % 8 by simp [ofK, hx], show ofN x = x / 8 by simp [ofN, hx], show ofE x = 0 by simp [ofE, hx]]
    have Hx := Lib.hid hx; clear hx
    go_enter Tryd.func10, Tryd.ntmps10
    go_wp2_with fail
    refine (There_any _ _ _ (by omega)).mono ?_
    rintro e w' ⟨rfl, rfl⟩
    rw [Hx.out]
    go_wp2
    go_ret3
    exact ⟨rfl, rfl⟩

theorem i31_bits (n : Int) (h0 : 0 ≤ n) (h1 : n < 18446744073709551616) : bits .or .u64 (IntKind.u64.wrap (bits .and .u64 n 2147483647 * 8)) 1 = 8 * (n % 2147483648) + 1 := by
  have e : bits .and .u64 n 2147483647 = n % 2147483648 := by
    rw [u64_and _ _ h0 h1 (by omega) (by omega)]
    have : (2147483647 : Int).toNat = 2147483647 := rfl
    rw [this, nat_mask31]; omega
  rw [e, IntWalk.u64_in _ (by omega), or3 _ _ (by omega) (by omega) (by omega) (by omega)]

theorem I31_any (n : Int) (w : World) (h0 : 0 ≤ n) (h1 : n < 18446744073709551616) :
    Calls Tryd.prog 11 #[.int .u64 n] w fun e w' => e = .returned (.int .u64 (8 * (n % 2147483648) + 1)) ∧ w = w' := by
  go_enter Tryd.func11, Tryd.ntmps11
  go_wp2
  go_ret
  exact ⟨ret1 (i31_bits n h0 h1), rfl⟩

/-- The small number of a word. -/
def isI31 (x : Int) : Bool := there (x % 8) (x / 8) && x % 8 == 1
def numF (x : Int) (s : Bool) : Int := if isI31 x then (if s && decide (1073741824 ≤ x / 8) then x / 8 + 2147483648 else x / 8) else 0
theorem sign_bits (n : Int) (h0 : 0 ≤ n) (h1 : n < 2147483648) :
    bits .or .u64 n (bits .and .u64 (IntKind.u64.wrap (n * 2)) 2147483648) = if 1073741824 ≤ n then n + 2147483648 else n := by
  rw [IntWalk.u64_in _ (by omega), u64_and _ _ (by omega) (by omega) (by omega) (by omega)]
  have e : (2147483648 : Int).toNat = 2 ^ 31 := rfl
  rw [e, nat_bit]
  by_cases h : 1073741824 ≤ n
  · rw [if_pos h, u64_or _ _ h0 (by omega) (by omega) (by omega)]
    have e1 : (n * 2).toNat / 2 ^ 31 % 2 * 2 ^ 31 = 2147483648 := by omega
    rw [e1]
    have e2 : ((2147483648 : Nat) : Int).toNat = 2147483648 := rfl
    rw [e2, Nat.or_comm, nat_join 31 _ _ (by omega) (by omega)]
    omega
  · rw [if_neg h, u64_or _ _ h0 (by omega) (by omega) (by omega)]
    have e1 : (n * 2).toNat / 2 ^ 31 % 2 * 2 ^ 31 = 0 := by omega
    rw [e1]
    simp; omega


theorem Number_any (x : Int) (s : Bool) (w : World) (h0 : 0 ≤ x) (h1 : x < 18446744073709551616) (ht : Tab w) :
    Calls Tryd.prog 12 #[.int .u64 x, .bool s] w fun e w' => e = .returned (.int .u64 (numF x s)) ∧ w = w' := by
  have Ht := Lib.hid ht; clear ht
  cases hi : isI31 x
  · rw [show numF x s = 0 by simp [numF, hi]]
    cases hx : there (x % 8) (x / 8)
    · have e1 : ofK x = 0 := by simp [ofK, hx]
      have e2 : ofE x = 2 := by simp [ofE, hx]
      have E1 := Lib.hid e1; clear e1
      have E2 := Lib.hid e2; clear e2
      clear hx hi
      go_enter Tryd.func12, Tryd.ntmps12
      go_wp2_with fail
      refine (Of_any _ _ h0 h1 Ht.out).mono ?_
      rintro e w' ⟨rfl, rfl⟩
      rw [E1.out, E2.out]
      go_wp2
      go_ret
      exact ⟨rfl, rfl⟩
    · have e1 : ofE x = 0 := by simp [ofE, hx]
      have e2 : (ofK x != 1) = true := by simp [ofK, hx]; simp [isI31, hx] at hi; exact hi
      have E1 := Lib.hid e1; clear e1
      have E2 := Lib.hid e2; clear e2
      clear hx hi
      go_enter Tryd.func12, Tryd.ntmps12
      go_wp2_with fail
      refine (Of_any _ _ h0 h1 Ht.out).mono ?_
      rintro e w' ⟨rfl, rfl⟩
      rw [E1.out]
      have e2 := E2.out
      clear E2
      go_wp2
      go_ret
      exact ⟨rfl, rfl⟩
  · have hx : there (x % 8) (x / 8) = true := by simp [isI31] at hi; exact hi.1
    have hk : x % 8 = 1 := by simp [isI31] at hi; exact hi.2
    have hn : x / 8 < 2147483648 := by simp [there, hk] at hx; exact hx
    have e1 : ofE x = 0 := by simp [ofE, hx]
    have e2 : ofK x = 1 := by unfold ofK; rw [if_pos hx, hk]
    have e3 : ofN x = x / 8 := by simp [ofN, hx]
    have e4 : numF x s = if s && decide (1073741824 ≤ x / 8) then x / 8 + 2147483648 else x / 8 := by simp [numF, hi]
    have E1 := Lib.hid e1; clear e1
    have E2 := Lib.hid e2; clear e2
    have E3 := Lib.hid e3; clear e3
    have hn0 : 0 ≤ x / 8 := by omega
    clear hx hi hk
    obtain ⟨n, hn'⟩ : ∃ n, n = x / 8 := ⟨_, rfl⟩
    rw [← hn'] at E3 hn hn0 e4
    clear hn'
    have E4 := Lib.hid e4; clear e4
    cases s
    · go_enter Tryd.func12, Tryd.ntmps12
      go_wp2_with fail
      refine (Of_any _ _ h0 h1 Ht.out).mono ?_
      rintro e w' ⟨rfl, rfl⟩
      rw [E1.out, E2.out, E3.out]
      go_wp2
      go_ret
      exact ⟨ret1 (by rw [E4.out]; simp), rfl⟩
    · by_cases hb : 1073741824 ≤ n
      all_goals
        go_enter Tryd.func12, Tryd.ntmps12
        go_wp2_with fail
        refine (Of_any _ _ h0 h1 Ht.out).mono ?_
        rintro e w' ⟨rfl, rfl⟩
        rw [E1.out, E2.out, E3.out]
        go_wp2
        go_ret
        exact ⟨ret1 (by rw [E4.out]; first | (have sb := sign_bits n hn0 hn; rw [IntWalk.u64_in _ (by omega)] at sb; simpa using sb) | (simp [hb]; done) | (simp; omega)), rfl⟩

theorem RNumber_any (x : Int) (s : Bool) (w : World) (h0 : 0 ≤ x) (h1 : x < 18446744073709551616) :
    Calls Tryd.prog 13 #[.int .u64 x, .bool s] w fun e w' => e = .returned (.int .u64 (numF x s)) ∧ w = w' := by
  cases hi : isI31 x
  · rw [show numF x s = 0 by simp [numF, hi]]
    cases hx : there (x % 8) (x / 8)
    · have e1 : ofK x = 0 := by simp [ofK, hx]
      have e2 : ofE x = 2 := by simp [ofE, hx]
      have E1 := Lib.hid e1; clear e1
      have E2 := Lib.hid e2; clear e2
      clear hx hi
      go_enter Tryd.func13, Tryd.ntmps13
      go_wp2_with fail
      refine (ROf_any _ _ h0 h1).mono ?_
      rintro e w' ⟨rfl, rfl⟩
      rw [E1.out, E2.out]
      go_wp2
      go_ret
      exact ⟨rfl, rfl⟩
    · have e1 : ofE x = 0 := by simp [ofE, hx]
      have e2 : (ofK x != 1) = true := by simp [ofK, hx]; simp [isI31, hx] at hi; exact hi
      have E1 := Lib.hid e1; clear e1
      have E2 := Lib.hid e2; clear e2
      clear hx hi
      go_enter Tryd.func13, Tryd.ntmps13
      go_wp2_with fail
      refine (ROf_any _ _ h0 h1).mono ?_
      rintro e w' ⟨rfl, rfl⟩
      rw [E1.out]
      have e2 := E2.out
      clear E2
      go_wp2
      go_ret
      exact ⟨rfl, rfl⟩
  · have hx : there (x % 8) (x / 8) = true := by simp [isI31] at hi; exact hi.1
    have hk : x % 8 = 1 := by simp [isI31] at hi; exact hi.2
    have hn : x / 8 < 2147483648 := by simp [there, hk] at hx; exact hx
    have e1 : ofE x = 0 := by simp [ofE, hx]
    have e2 : ofK x = 1 := by unfold ofK; rw [if_pos hx, hk]
    have e3 : ofN x = x / 8 := by simp [ofN, hx]
    have e4 : numF x s = if s && decide (1073741824 ≤ x / 8) then x / 8 + 2147483648 else x / 8 := by simp [numF, hi]
    have E1 := Lib.hid e1; clear e1
    have E2 := Lib.hid e2; clear e2
    have E3 := Lib.hid e3; clear e3
    have hn0 : 0 ≤ x / 8 := by omega
    clear hx hi hk
    obtain ⟨n, hn'⟩ : ∃ n, n = x / 8 := ⟨_, rfl⟩
    rw [← hn'] at E3 hn hn0 e4
    clear hn'
    have E4 := Lib.hid e4; clear e4
    cases s
    · go_enter Tryd.func13, Tryd.ntmps13
      go_wp2_with fail
      refine (ROf_any _ _ h0 h1).mono ?_
      rintro e w' ⟨rfl, rfl⟩
      rw [E1.out, E2.out, E3.out]
      go_wp2
      go_ret
      exact ⟨ret1 (by rw [E4.out]; simp), rfl⟩
    · by_cases hb : 1073741824 ≤ n
      all_goals
        go_enter Tryd.func13, Tryd.ntmps13
        go_wp2_with fail
        refine (ROf_any _ _ h0 h1).mono ?_
        rintro e w' ⟨rfl, rfl⟩
        rw [E1.out, E2.out, E3.out]
        go_wp2
        go_ret
        exact ⟨ret1 (by rw [E4.out]; first | (have sb := sign_bits n hn0 hn; rw [IntWalk.u64_in _ (by omega)] at sb; simpa using sb) | (simp [hb]; done) | (simp; omega)), rfl⟩
end Go.Proofs.YtgjncajegegdhaaDoor
