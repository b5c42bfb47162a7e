/- geoderef23: Points, over the document's arena in memory. -/
import Derived.Test.YtfpfpopfnbcblaaDoorQMkRefP
import Derived.Test.YtfpfpopfnbcblaaDoorQRaNewBd
import Derived.Test.YtfpfpopfnbcblaaDoorQWordWalksBd
namespace Go.Proofs.YtfpfpopfnbcblaaDoor
open Go.RowKit

variable {S : Nat → Prop} {W W' : World} {p cap : Nat} {rs : List RBk}
/-- What Points reads, and what it tells. -/
structure OfF (x : Nat) (k n e : Int) (t : Option Nat) : Prop where
  no : t = none → (e != 0) = true ∨ ((k != 2) = true ∧ (k != 5) = true)
  yes : ∀ a, t = some a → (e != 0) = false ∧ ((k != 2) = false ∨ (k != 5) = false) ∧ n = (a : Nat) ∧ a < 1099511627776
theorem ofF (x : Nat) : OfF x (ofK x) (ofN x) (ofE x) (toF x) := by
  cases hx : there ((x : Int) % 8) ((x : Int) / 8)
  · have e0 : toF x = none := by simp [toF, hx]
    rw [e0]
    exact ⟨fun _ => .inl (by simp [ofE, hx]), fun a h => by cases h⟩
  · have h1 : ofK x = (x : Int) % 8 := by simp [ofK, hx]
    have h2 : ofN x = (x : Int) / 8 := by simp [ofN, hx]
    have h3 : ofE x = 0 := by simp [ofE, hx]
    rw [h1, h2, h3]
    refine ⟨fun h => .inr ?_, fun a h => ?_⟩
    · unfold toF at h
      rw [hx] at h
      simp at h
      have h2 : ¬ (x : Int) % 8 = 2 := by omega
      have h5 : ¬ (x : Int) % 8 = 5 := by omega
      exact ⟨by simpa using h2, by simpa using h5⟩
    · obtain ⟨p1, p2, p3⟩ := toF_pos h
      unfold toF at h
      rw [hx] at h
      simp at h
      refine ⟨rfl, ?_, by omega, p2⟩
      rcases h.1 with h | h
      · exact .inl (by have : (x : Int) % 8 = 2 := by omega
                       simp [this])
      · exact .inr (by have : (x : Int) % 8 = 5 := by omega
                       simp [this])
set_option maxRecDepth 100000 in
theorem points_any (h : RaAt S W p cap rs) (x : Nat) (hx : x < 18446744073709551616) :
    Calls Tryd.prog 23 #[.pointer (some ⟨p, 0, none⟩), .int .u64 x] W fun e w' => e = .returned (.int .i64 (ptsR (blks rs) x)) ∧ W = w' := by
  have C := Lib.hid (ROf_any (x : Int) W (by omega) (by omega))
  have HF := Lib.hid (ofF x)
  obtain ⟨K, hK⟩ : ∃ K, ofK x = K := ⟨_, rfl⟩
  obtain ⟨N, hN⟩ : ∃ N, ofN x = N := ⟨_, rfl⟩
  obtain ⟨E, hE⟩ : ∃ E, ofE x = E := ⟨_, rfl⟩
  rw [hK, hN, hE] at C HF
  clear hK hN hE
  cases ht : toF x with
  | none =>
    rw [ptsR_none ht]
    clear h hx
    rcases HF.out.no ht with h1 | ⟨h1, h2⟩
    · have HE := Lib.hid h1
      clear ht HF h1
      go_enter Tryd.func23, Tryd.ntmps23
      go_wp2_with fail
      refine C.out.mono ?_
      rintro e w1 ⟨rfl, rfl⟩
      have h1 := HE.out
      go_wp2
      go_ret
      exact ⟨rfl, rfl⟩
    · have HE := Lib.hid h1; have HE2 := Lib.hid h2
      clear ht HF h1 h2
      by_cases h0 : E = 0
      · subst h0
        go_enter Tryd.func23, Tryd.ntmps23
        go_wp2_with fail
        refine C.out.mono ?_
        rintro e w1 ⟨rfl, rfl⟩
        have h1 := HE.out; have h2 := HE2.out
        have h3 : ¬ K = 2 := by simpa using h1
        have h4 : ¬ K = 5 := by simpa using h2
        go_wp2
        go_ret
        exact ⟨rfl, rfl⟩
      · have h1 : (E != 0) = true := by simpa using h0
        go_enter Tryd.func23, Tryd.ntmps23
        go_wp2_with fail
        refine C.out.mono ?_
        rintro e w1 ⟨rfl, rfl⟩
        go_wp2
        go_ret
        exact ⟨rfl, rfl⟩
  | some a =>
    rw [ptsR_some ht]
    obtain ⟨he, hk, rfl, ha⟩ := HF.out.yes a ht
    obtain rfl : E = 0 := by simpa using he
    have HK2 : K = 2 ∨ K = 5 := by
      rcases hk with hk | hk
      · exact .inl (by simpa using hk)
      · exact .inr (by simpa using hk)
    clear HF ht he hk
    obtain ⟨ao, c, R⟩ := h.rowC
    have c1 := R.c1
    have hlen := h.len
    have HBD := Lib.hid (fun r hr => h.bound (r := r) hr)
    obtain ⟨n, hn⟩ : ∃ n, rs.length = n := ⟨_, rfl⟩
    rw [hn] at c1 hlen
    have HR := Lib.hid R; have HN := Lib.hid hn; have HL := Lib.hid hlen
    clear h R hn hlen
    have HA := Lib.hid ha
    clear ha
    rcases HK2 with rfl | rfl <;>
    ( go_enter Tryd.func23, Tryd.ntmps23
      go_wp2_with fail
      refine C.out.mono ?_
      rintro e w1 ⟨rfl, rfl⟩
      go_wp2
      go_loop [8] (fun t8 => ∃ i : Nat, t8 = .int .i64 i ∧ i ≤ n ∧ ∀ b ∈ (blks rs).take i, isAt (a : Int) b = false) (fun t8 => n - (intOf t8).toNat)
      case atStart => exact ⟨0, rfl, Nat.zero_le _, fun b hb => by simp at hb⟩
      case round =>
        obtain ⟨i, rfl, hi, hno⟩ := hrel
        have HNO := Lib.hid hno
        clear hno
        by_cases hlt : i < n
        · obtain ⟨r, hr⟩ : ∃ r, rs[i]? = some r := ⟨rs[i]'(by rw [HN.out]; exact hlt), by simp [HN.out, hlt]⟩
          obtain ⟨g, rfl, k0, k1, k2, k3⟩ := HR.out.at' i r hr
          have hbd := HBD.out r (List.mem_of_getElem? hr)
          have hb : (blks rs)[i]? = some r.b := by unfold blks; rw [List.getElem?_map, hr]; rfl
          have hstep : (blks rs).take (i + 1) = (blks rs).take i ++ [r.b] := by
            obtain ⟨hk, e⟩ := List.getElem?_eq_some_iff.1 hb
            rw [List.take_succ_eq_append_getElem hk, e]
          obtain ⟨u, hu⟩ : ∃ u, r.b.u = u := ⟨_, rfl⟩
          obtain ⟨aa, haa⟩ : ∃ aa, r.b.a = aa := ⟨_, rfl⟩
          rw [hu] at k2
          rw [haa] at k0
          have hwr : IntKind.u64.wrap (aa : Int) = (aa : Int) := wrap_u64_in (by omega) (by omega)
          have HS := Lib.hid hstep; have HB := Lib.hid hb; have HU := Lib.hid hu; have HAA := Lib.hid haa
          have hlt' : (i : Int) < n := by omega
          have HI6 := Lib.hid (show (i : Int) < 1048577 by have := HL.out; omega)
          have HLT := Lib.hid hlt
          have next : isAt (a : Int) r.b = false → ∀ b ∈ (blks rs).take (i + 1), isAt (a : Int) b = false := fun h0 b hb => by
            rw [HS.out] at hb
            rcases List.mem_append.1 hb with hb | hb
            · exact HNO.out b hb
            · rw [List.mem_singleton] at hb; rw [hb]; exact h0
          have HX := Lib.hid next
          clear hstep hb hu haa hlt hi next hr k1 k3 hbd
          cases u
          · have HI6' := HI6.out
            go_wp2
            go_round
            case rel => exact ⟨i + 1, by go_num, HLT.out, HX.out (by unfold isAt; rw [HU.out]; rfl)⟩
            case measure => have := HLT.out; simp [intOf]; omega
          · by_cases hq : aa = a
            · subst hq
              have hq2 : ((aa : Int) == (aa : Int)) = true := by simp
              have HI6' := HI6.out
              go_wp2
              go_ret
              refine ⟨ret_i (findR_some HB.out ?_ HNO.out).symm, rfl⟩
              unfold isAt
              rw [HU.out, HAA.out, hq2]; rfl
            · have hq2 : ((aa : Int) == (a : Int)) = false := by simp; omega
              have hq3 : ¬ (aa : Int) = (a : Int) := by omega
              have HQ := Lib.hid hq2
              have HI6' := HI6.out
              go_wp2
              go_round
              case rel => exact ⟨i + 1, by go_num, HLT.out, HX.out (by unfold isAt; rw [HAA.out, HQ.out, Bool.and_false])⟩
              case measure => have := HLT.out; simp [intOf]; omega
        · obtain rfl : i = n := by omega
          have hlt' : ¬ (i : Int) < i := by omega
          go_wp2
          go_ret
          refine ⟨ret_i (findR_none fun b hb => HNO.out b ?_).symm, rfl⟩
          rw [List.take_of_length_le (by unfold blks; rw [List.length_map, HN.out]; exact Nat.le_refl _)]; exact hb )
end Go.Proofs.YtfpfpopfnbcblaaDoor
