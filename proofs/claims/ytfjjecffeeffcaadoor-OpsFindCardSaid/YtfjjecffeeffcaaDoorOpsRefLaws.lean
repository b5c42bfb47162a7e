/- Layer 5 (ops): the laws OpsAll and OpsFind: they return true. -/
import Derived.Test.YtfjjecffeeffcaaDoorOpsRefOps
namespace Go.Proofs.YtfjjecffeeffcaaDoor
open Go.RowKit

set_option maxRecDepth 100000 in
theorem opsR_all : opsR 18 = allOps := by decide +kernel
theorem namesR_all : namesR 18 = namesL := by
  rw [← names_all]
  have : ∀ (a : List Int) (b : List (List UInt8)), a.length = b.length → (a.zip b).flatMap (fun x => wordsL x.2) = b.flatMap wordsL := by
    intro a b h
    induction b generalizing a with
    | nil => simp
    | cons y b ih =>
      cases a with
      | nil => simp at h
      | cons x a => simp at h; simp [ih a h]
  show ((firstsL.zip linesL).take 18).flatMap (fun x => wordsL x.2) = _
  rw [List.take_of_length_le (by decide)]
  exact this _ _ rfl
theorem rising : ∀ i, i < 166 → allOps.getD i 0 < allOps.getD (i + 1) 0 := by decide +kernel
theorem small : ∀ i, i < 167 → -1000000 < allOps.getD i 0 ∧ allOps.getD i 0 < 1000000 := by decide +kernel

theorem ops_at (i : Nat) (hi : i < 167) : (allOps.map (Value.int .i64))[i]? = some (.int .i64 (allOps.getD i 0)) := by
  have : i < allOps.length := by rw [allOps_len]; exact hi
  simp [List.getElem?_eq_getElem this]
theorem row_lit {w : World} {base : Nat} {e : TypeId} {v : Value} {n : Nat} {xs : List Value} (h : w.ownsRow base e 1 v n xs) (hn : 0 < n) : ∃ g cap, v = .slice (some ⟨g, 0, none⟩) n cap ∧ ∀ j u, xs[j]? = some u → w.cell? ⟨g, j, none⟩ = some u := by
  have hc := h
  rcases h.2 with ⟨h1, h2⟩ | ⟨g, cap, cur, h1, _⟩
  · omega
  · refine ⟨g, cap, h1, fun j u hu => ?_⟩
    have hadd : (⟨g, 0, none⟩ : Addr).add j = ⟨g, j, none⟩ := by unfold Addr.add; split <;> simp_all
    rw [← hadd]
    exact hc.cells (g := g) (by rw [h1]; rfl) j u hu

set_option maxRecDepth 100000 in
set_option maxHeartbeats 2000000 in
theorem OpsAll_any (w : World) (ht : OTab w) :
    Calls Tryd.prog 4 #[] w fun e w' => e = .returned (.bool true) ∧ Below w.heap.size w w' := by
  have Ht := Lib.hid ht
  clear ht
  go_enter Tryd.func4, Tryd.ntmps4
  go_wp2_with fail
  refine (all_any _ Ht.out).mono ?_
  rintro e w1 ⟨v, rfl, hv, hb1⟩
  have HV := Lib.hid hv; have HB1 := Lib.hid hb1
  clear hv hb1
  go_wp2_with fail
  refine (Ops_any _).mono ?_
  rintro e w2 ⟨a, b, rfl, ha, -, hb2⟩
  rw [opsR_all] at ha
  have hv2 := row_below hb2 HV.out
  rw [allOps_len] at ha hv2
  have HB2 := Lib.hid (HB1.out.trans (hb2.mono HB1.out.size))
  obtain ⟨g, c, rfl, -⟩ := row_lit ha (by decide)
  obtain ⟨g', c', rfl, -⟩ := row_lit hv2 (by decide)
  have HA := Lib.hid ha; have HV2 := Lib.hid hv2
  clear ha hv2 hb2 HV HB1
  go_wp2_with fail
  refine (known_any _ (Ht.out.below HB2.out)).mono ?_
  rintro e w3 ⟨rfl, hb3⟩
  have ha := row_below hb3 HA.out
  have hv := row_below hb3 HV2.out
  obtain ⟨g1, c1, e1, hc⟩ := row_lit ha (by decide)
  obtain ⟨rfl, -⟩ : g = g1 ∧ True := by simpa using (Value.slice.inj e1).1
  obtain ⟨g1, c1, e1, hc'⟩ := row_lit hv (by decide)
  obtain ⟨rfl, -⟩ : g' = g1 ∧ True := by simpa using (Value.slice.inj e1).1
  have HC := Lib.hid hc; have HC' := Lib.hid hc'
  have HB3 := Lib.hid (HB2.out.trans (hb3.mono HB2.out.size))
  clear ha hv hc hc' hb3 HA HV2 HB2
  go_wp2
  go_loopw [4] (fun t4 wr => ∃ i : Nat, i ≤ 167 ∧ t4 = .int .i64 i ∧ (∀ j u, (allOps.map (Value.int .i64))[j]? = some u → wr.cell? ⟨g, j, none⟩ = some u) ∧ (∀ j u, (allOps.map (Value.int .i64))[j]? = some u → wr.cell? ⟨g', j, none⟩ = some u) ∧ Below w.heap.size w wr) (fun t4 _ => 167 - (intOf t4).toNat)
  case atStart => exact ⟨0, by omega, rfl, HC.out, HC'.out, HB3.out⟩
  case round =>
    clear HC HC' HB3
    obtain ⟨i, hi, rfl, hc, hc', hb⟩ := hrel
    have HC := Lib.hid hc; have HC' := Lib.hid hc'; have HB3 := Lib.hid hb
    clear hc hc' hb
    by_cases hlt : i < 167
    · have q1 := HC.out i _ (ops_at i hlt)
      have q2 := HC'.out i _ (ops_at i hlt)
      obtain ⟨x, hx⟩ : ∃ x, allOps.getD i 0 = x := ⟨_, rfl⟩
      match i, hlt with
      | 0, hlt =>
        rw [hx] at q1 q2
        clear hx
        go_wp2
        go_quiet (fail)
        go_wp2
        go_roundw
        case rel => exact ⟨1, by omega, by go_num, HC.out, HC'.out, below_drewN HB3.out _⟩
        case measure => simp [intOf]
      | i + 1, hlt =>
        have q3 := HC'.out i _ (ops_at i (by omega))
        have hr := rising i (by omega)
        rw [hx] at q1 q2 hr
        obtain ⟨y, hy⟩ : ∃ y, allOps.getD i 0 = y := ⟨_, rfl⟩
        rw [hy] at q3 hr
        have hr2 : ¬ x ≤ y := by omega
        have hpos : 0 < ((i : Int) + 1) := by omega
        clear hx hy
        go_wp2
        go_quiet (fail)
        go_wp2
        go_roundw
        case rel => exact ⟨i + 2, by omega, by go_num, HC.out, HC'.out, below_drewN HB3.out _⟩
        case measure => simp [intOf]; omega
    · obtain rfl : i = 167 := by omega
      go_wp2
      go_ret
      exact ⟨rfl, HB3.out⟩

/-- The place of a name: none stands ahead of it. -/
theorem op_none {x : List UInt8} (h : ∀ j, j < 167 → namesL[j]? ≠ some x) : opOf x = -1 := by
  have : namesL.findIdx? (· == x) = none := by
    rw [List.findIdx?_eq_none_iff]
    intro y hy
    obtain ⟨j, hj, rfl⟩ := List.getElem_of_mem hy
    have h1 := h j (by rw [← namesL_len]; exact hj)
    rw [List.getElem?_eq_getElem hj] at h1
    simpa using h1
  simp [opOf, placeOf, this]
theorem op_some {x : List UInt8} {i : Nat} (hi : i < 167) (hz : namesL[i]? = some x) (h : ∀ j, j < i → namesL[j]? ≠ some x) : opOf x = allOps.getD i 0 := by
  have hl := namesL_len
  have : namesL.findIdx? (· == x) = some i := by
    rw [List.findIdx?_eq_some_iff_getElem]
    refine ⟨by omega, ?_, fun j hj => ?_⟩
    · rw [List.getElem?_eq_getElem (by omega), Option.some.injEq] at hz
      rw [hz]; simp
    · have h2 := h j hj
      rw [List.getElem?_eq_getElem (by omega)] at h2
      simpa using h2
  simp [opOf, placeOf, this]
  intro h1
  omega

set_option maxRecDepth 100000 in
set_option maxHeartbeats 2000000 in
theorem refFind_any (nm : List UInt8) (w : World) :
    Calls Tryd.prog 9 #[.string ⟨nm.toArray⟩] w fun e w' => e = .returned (.int .i64 (opOf nm)) ∧ Below w.heap.size w w' := by
  go_enter Tryd.func9, Tryd.ntmps9
  go_wp2_with fail
  refine (Ops_any _).mono ?_
  rintro e w2 ⟨a, b, rfl, ha, hb, hb2⟩
  rw [opsR_all, allOps_len] at ha
  rw [namesR_all, namesL_len] at hb
  obtain ⟨g, c, rfl, hc⟩ := row_lit ha (by decide)
  obtain ⟨g', c', rfl, hc'⟩ := row_lit hb (by decide)
  have HC := Lib.hid hc; have HC' := Lib.hid hc'; have HB2 := Lib.hid hb2
  clear ha hb hc hc' hb2
  go_wp2
  go_loop [5] (fun t4 => ∃ i : Nat, i ≤ 167 ∧ t4 = .int .i64 i ∧ ∀ j, j < i → namesL[j]? ≠ some nm) (fun t4 => 167 - (intOf t4).toNat)
  case atStart => exact ⟨0, by omega, rfl, fun j hj => by omega⟩
  case round =>
    obtain ⟨i, hi, rfl, hno⟩ := hrel
    have HN := Lib.hid hno
    clear hno
    by_cases hlt : i < 167
    · have q1 := HC.out i _ (ops_at i hlt)
      obtain ⟨z, hz⟩ : ∃ z, namesL[i]? = some z := ⟨namesL[i]'(by rw [namesL_len]; exact hlt), List.getElem?_eq_getElem _⟩
      have q2 : w2.cell? ⟨g', i, none⟩ = some (.string ⟨z.toArray⟩) := HC'.out i _ (by rw [List.getElem?_map, hz]; rfl)
      have HZ := Lib.hid hz
      clear hz
      obtain ⟨x, hx⟩ : ∃ x, allOps.getD i 0 = x := ⟨_, rfl⟩
      rw [hx] at q1
      have HX := Lib.hid hx
      clear hx
      by_cases heq : z = nm
      · subst heq
        go_wp2
        go_ret
        exact ⟨ret1 (by rw [op_some hlt HZ.out HN.out, HX.out]), HB2.out⟩
      · have hne : (z == nm) = false := by simpa using heq
        have HE := Lib.hid heq
        clear heq
        go_wp2
        go_round
        case rel => exact ⟨i + 1, by omega, by go_num, fun j hj => by
          by_cases hji : j < i
          · exact HN.out j hji
          · obtain rfl : j = i := by omega
            rw [HZ.out]; simpa using HE.out⟩
        case measure => simp [intOf]; omega
    · obtain rfl : i = 167 := by omega
      go_wp2
      go_ret
      exact ⟨ret1 (op_none HN.out).symm, HB2.out⟩

set_option maxRecDepth 100000 in
set_option maxHeartbeats 2000000 in
theorem OpsFind_any (nm : List UInt8) (w : World) (ht : OTab w) :
    Calls Tryd.prog 3 #[.string ⟨nm.toArray⟩] w fun e w' => e = .returned (.bool true) ∧ Below w.heap.size w w' := by
  have Ht := Lib.hid ht
  clear ht
  go_enter Tryd.func3, Tryd.ntmps3
  by_cases hl : 100 < nm.length
  · go_wp2_with fail
    refine (known_any _ Ht.out).mono ?_
    rintro e w3 ⟨rfl, hb3⟩
    have HB := Lib.hid hb3
    clear hb3
    go_wp2
    go_ret
    exact ⟨rfl, HB.out⟩
  · go_wp2_with fail
    refine (Find_any _ _ Ht.out).mono ?_
    rintro e w1 ⟨rfl, hb1⟩
    obtain ⟨x, hx⟩ : ∃ x, opOf nm = x := ⟨_, rfl⟩
    rw [show opOf (⟨nm.toArray⟩ : ByteArray).data.toList = x from hx]
    have HX := Lib.hid hx
    have HB1 := Lib.hid hb1
    clear hx hb1
    go_wp2_with fail
    refine (refFind_any _ _).mono ?_
    rintro e w2 ⟨rfl, hb2⟩
    rw [HX.out]
    have HB2 := Lib.hid (HB1.out.trans (hb2.mono HB1.out.size))
    clear hb2
    go_wp2_with fail
    refine (known_any _ (Ht.out.below HB2.out)).mono ?_
    rintro e w3 ⟨rfl, hb3⟩
    have HB3 := Lib.hid (HB2.out.trans (hb3.mono HB2.out.size))
    clear hb3
    go_wp2
    go_ret
    exact ⟨rfl, HB3.out⟩
theorem OpsFind_str (s : ByteArray) (w : World) (ht : OTab w) :
    Calls Tryd.prog 3 #[.string s] w fun e w' => e = .returned (.bool true) ∧ Below w.heap.size w w' := OpsFind_any s.data.toList w ht
end Go.Proofs.YtfjjecffeeffcaaDoor
