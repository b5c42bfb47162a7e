/- Layer 5 (ops): OpsApart, OpsLoads: each returns true. -/
import Derived.Test.YtfjjecffeeffcaaDoorOpsFacts
namespace Go.Proofs.YtfjjecffeeffcaaDoor
open Go.RowKit

theorem OpsApart_any (a b : Int) (w : World) (a0 : -9223372036854775808 ≤ a) (a1 : a ≤ 9223372036854775807) (b0 : -9223372036854775808 ≤ b) (b1 : b ≤ 9223372036854775807) (ht : OTab w) :
    Calls Tryd.prog 5 #[.int .i64 a, .int .i64 b] w fun e w' => e = .returned (.bool true) ∧ Below w.heap.size w w' := by
  rcases findI_mem a with h | h
  · exact OpsApart_out a b w a0 a1 b0 b1 ht h
  · by_cases hm : shapeI a = 8
    · by_cases e : a = b
      · subst e; exact OpsApart_same_mem a a w a0 a1 a0 a1 ht h hm
      · exact OpsApart_diff_mem a b w a0 a1 b0 b1 ht h hm e
    · by_cases e : a = b
      · subst e; exact OpsApart_same_not a a w a0 a1 a0 a1 ht h hm
      · exact OpsApart_diff_not a b w a0 a1 b0 b1 ht h hm e

theorem shape8_in {a : Int} (h : shapeI a = 8) : a ∈ allOps := by
  rcases findI_mem a with hb | hb
  · rw [(bad_out hb).2.1] at h; cases h
  · exact hb
theorem bytes_not {a : Int} (h : ¬ shapeI a = 8) : bytesI a = 0 := by
  rcases findI_mem a with hb | hb
  · exact (bad_out hb).2.2
  · have h6 := (good_in hb).2.2.2.2.2
    rcases bytesGo_mem reachL a with h1 | h1
    · exact h1
    · have : ∀ op ∈ reachL.flatMap rowOps, shapeI op = 8 := by decide +kernel
      exact absurd (this a h1) h

theorem OpsLoads_not (a b : Int) (w : World) (a0 : -9223372036854775808 ≤ a) (a1 : a ≤ 9223372036854775807) (ht : OTab w) (hm : ¬ shapeI a = 8) :
    Calls Tryd.prog 6 #[.int .i64 a, .int .i64 b] w fun e w' => e = .returned (.bool true) ∧ Below w.heap.size w w' := by
  obtain ⟨sh, hsh⟩ : ∃ sh, shapeI a = sh := ⟨_, rfl⟩
  have hb := bytes_not hm
  rw [hsh] at hm
  have m2 : (sh == 8) = false := by simpa using hm
  have SH := Lib.hid hsh; have BY := Lib.hid hb
  clear hm hsh hb
  have Ht := Lib.hid ht
  have BB := Lib.hid (Below.refl w.heap.size w)
  clear ht
  go_enter Tryd.func6, Tryd.ntmps6
  go_wp2_with fail
  refine (name_any _ _ a0 a1 Ht.out).mono ?_
  rintro e w_1 ⟨rfl, hb⟩
  have Ht2 := Lib.hid (Ht.out.below hb)
  have BB2 := Lib.hid (BB.out.trans (hb.mono BB.out.size))
  clear Ht BB hb
  have Ht := Ht2; have BB := BB2
  clear Ht2 BB2
  go_wp2_with fail
  refine (shape_any _ _ a0 a1 Ht.out).mono ?_
  rintro e w_2 ⟨rfl, hb⟩
  rw [SH.out]
  have Ht2 := Lib.hid (Ht.out.below hb)
  have BB2 := Lib.hid (BB.out.trans (hb.mono BB.out.size))
  clear Ht BB hb
  have Ht := Ht2; have BB := BB2
  clear Ht2 BB2
  go_wp2_with fail
  refine (bytes_any _ _ a0 a1 Ht.out).mono ?_
  rintro e w_3 ⟨rfl, hb⟩
  rw [BY.out]
  have Ht2 := Lib.hid (Ht.out.below hb)
  have BB2 := Lib.hid (BB.out.trans (hb.mono BB.out.size))
  clear Ht BB hb
  have Ht := Ht2; have BB := BB2
  clear Ht2 BB2
  go_wp2_with fail
  refine (known_any _ Ht.out).mono ?_
  rintro e w_4 ⟨rfl, hb⟩
  have Ht2 := Lib.hid (Ht.out.below hb)
  have BB2 := Lib.hid (BB.out.trans (hb.mono BB.out.size))
  clear Ht BB hb
  have Ht := Ht2; have BB := BB2
  clear Ht2 BB2
  go_wp2
  go_ret
  exact ⟨rfl, BB.out⟩

/-- The last point's place, and the number behind it, in the first i bytes of a name. -/
def scanTo (l : List UInt8) : Nat → Int × Int
  | 0 => (0, 0)
  | i + 1 => let p := scanTo l i; let c := l.getD i 0
    if c.toNat = 46 then ((i : Int), p.2) else if 0 < p.1 ∧ 48 ≤ c.toNat ∧ c.toNat ≤ 57 then (p.1, 10 * p.2 + ((c.toNat : Int) - 48)) else p
theorem scan_step {l : List UInt8} {i : Nat} {p q : Int} {c : UInt8} (h : scanTo l i = (p, q)) (hc : l.getD i 0 = c) :
    scanTo l (i + 1) = if c.toNat = 46 then ((i : Int), q) else if 0 < p ∧ 48 ≤ c.toNat ∧ c.toNat ≤ 57 then (p, 10 * q + ((c.toNat : Int) - 48)) else (p, q) := by
  rw [scanTo, h, hc]
def memOps : List Int := allOps.filter fun a => shapeI a == 8
def wantI (l : List UInt8) : Int := if (scanTo l l.length).2 = 0 then (if l.take 3 = [105, 51, 50] then 4 else 8) else (scanTo l l.length).2 / 8
set_option maxRecDepth 100000 in
theorem mem_names : memOps.all (fun a => decide (8 ≤ (nameL a).length) && decide ((nameL a).length ≤ 40) && decide (bytesI a = wantI (nameL a)) && (List.range 41).all fun i => decide (0 ≤ (scanTo (nameL a) i).1) && decide ((scanTo (nameL a) i).1 ≤ 100) && decide (0 ≤ (scanTo (nameL a) i).2) && decide ((scanTo (nameL a) i).2 ≤ 1000)) = true := by decide +kernel
set_option maxRecDepth 100000 in
theorem mem_pairs : memOps.all (fun a => memOps.all fun b => !(decide (8 < (nameL a).length) && ((nameL a).drop 4).take 4 == [108, 111, 97, 100] && decide (8 < (nameL b).length) && ((nameL b).drop 4).take 5 == [115, 116, 111, 114, 101]) || decide (a < b)) = true := by decide +kernel

theorem mem_of {a : Int} (h : shapeI a = 8) : a ∈ memOps := by
  unfold memOps
  rw [List.mem_filter]
  exact ⟨shape8_in h, by simpa using h⟩
structure MemName (a : Int) (l : List UInt8) : Prop where
  lo : 8 ≤ l.length
  hi : l.length ≤ 40
  want : bytesI a = wantI l
  scan : ∀ i, i ≤ 40 → 0 ≤ (scanTo l i).1 ∧ (scanTo l i).1 ≤ 100 ∧ 0 ≤ (scanTo l i).2 ∧ (scanTo l i).2 ≤ 1000
theorem mem_name {a : Int} (h : shapeI a = 8) : MemName a (nameL a) := by
  have := List.all_eq_true.1 mem_names a (mem_of h)
  simp only [Bool.and_eq_true, decide_eq_true_eq, List.all_eq_true, List.mem_range] at this
  obtain ⟨⟨⟨h1, h2⟩, h3⟩, h4⟩ := this
  exact ⟨h1, h2, h3, fun i hi => by have := h4 i (by omega); exact ⟨this.1.1.1, this.1.1.2, this.1.2, this.2⟩⟩

theorem nameS_size (a : Int) : (nameS a).size = (nameL a).length := by
  rw [← data_of_nameS a, Array.length_toList]; rfl
theorem extract_list (x : ByteArray) (i j : Nat) : (x.extract i j).toList = (x.data.toList.drop i).take (j - i) := by rw [ByteArray.toList_eq, Lib.extract_data]
theorem take3_eq {x : ByteArray} (h : ((x.extract 0 3).toList == [105, 51, 50]) = true) : x.data.toList.take 3 = [105, 51, 50] := by
  rw [extract_list] at h
  simpa using h
theorem take3_ne {x : ByteArray} (h : ((x.extract 0 3).toList == [105, 51, 50]) = false) : ¬ x.data.toList.take 3 = [105, 51, 50] := by
  rw [extract_list] at h
  simpa using h
theorem pair_lt {a b : Int} {x y : ByteArray} (ha : shapeI a = 8) (hb : shapeI b = 8) (hx : nameS a = x) (hy : nameS b = y) (l1 : 8 < x.size) (l2 : ((x.extract 4 8).toList == [108, 111, 97, 100]) = true)
    (l3 : 8 < y.size) (l4 : ((y.extract 4 9).toList == [115, 116, 111, 114, 101]) = true) : a < b := by
  have := List.all_eq_true.1 (List.all_eq_true.1 mem_pairs a (mem_of ha)) b (mem_of hb)
  rw [extract_list, ← hx, data_of_nameS] at l2
  rw [extract_list, ← hy, data_of_nameS] at l4
  rw [← hx, nameS_size] at l1
  rw [← hy, nameS_size] at l3
  simp only [Nat.reduceSub] at l2 l4
  simpa [l1, l2, l3, l4] using this

set_option maxHeartbeats 4000000 in
theorem OpsLoads_mem (a b : Int) (w : World) (a0 : -9223372036854775808 ≤ a) (a1 : a ≤ 9223372036854775807) (b0 : -9223372036854775808 ≤ b) (b1 : b ≤ 9223372036854775807) (ht : OTab w) (hm : shapeI a = 8) :
    Calls Tryd.prog 6 #[.int .i64 a, .int .i64 b] w fun e w' => e = .returned (.bool true) ∧ Below w.heap.size w w' := by
  obtain ⟨m1, m2, m3, m4⟩ := mem_name hm
  obtain ⟨x, hx⟩ : ∃ x, nameS a = x := ⟨_, rfl⟩
  obtain ⟨l, hl⟩ : ∃ l, nameL a = l := ⟨_, rfl⟩
  have hxl : x.data.toList = l := by rw [← hx, ← hl]; exact data_of_nameS a
  rw [hl] at m1 m2 m3 m4
  have hxs : x.size = l.length := by rw [← hxl, Array.length_toList]; rfl
  have X := Lib.hid hx; have L := Lib.hid hl; have XL := Lib.hid hxl; have SH := Lib.hid hm; have M3 := Lib.hid m3; have M4 := Lib.hid m4
  have XS := Lib.hid hxs
  have xs0 : 8 ≤ x.size := by omega
  have xs1 : x.size ≤ 40 := by omega
  clear hx hl hxl hm m3 m4 hxs
  have Ht := Lib.hid ht
  have BB := Lib.hid (Below.refl w.heap.size w)
  clear ht
  go_enter Tryd.func6, Tryd.ntmps6
  go_wp2_with fail
  refine (name_any _ _ a0 a1 Ht.out).mono ?_
  rintro e w_5 ⟨rfl, hb⟩
  rw [X.out]
  have Ht2 := Lib.hid (Ht.out.below hb)
  have BB2 := Lib.hid (BB.out.trans (hb.mono BB.out.size))
  clear Ht BB hb
  have Ht := Ht2; have BB := BB2
  clear Ht2 BB2
  go_wp2_with fail
  refine (shape_any _ _ a0 a1 Ht.out).mono ?_
  rintro e w_6 ⟨rfl, hb⟩
  rw [SH.out]
  have Ht2 := Lib.hid (Ht.out.below hb)
  have BB2 := Lib.hid (BB.out.trans (hb.mono BB.out.size))
  clear Ht BB hb
  have Ht := Ht2; have BB := BB2
  clear Ht2 BB2
  go_wp2_with fail
  go_loop [7, 8, 9] (fun t7 t8 t9 => ∃ i : Nat, i ≤ x.size ∧ t9 = .int .i64 i ∧ t7 = .int .i64 (scanTo l i).1 ∧ t8 = .int .i64 (scanTo l i).2) (fun _ _ t9 => x.size - (intOf t9).toNat)
  case atStart => exact ⟨0, by omega, rfl, rfl, rfl⟩
  case round =>
    obtain ⟨i, hi, rfl, rfl, rfl⟩ := hrel
    have hs := M4.out i (by omega)
    obtain ⟨p, q, hpq⟩ : ∃ p q, scanTo l i = (p, q) := ⟨_, _, rfl⟩
    rw [hpq] at hs ⊢
    have HPQ := Lib.hid hpq
    obtain ⟨p0, p1, q0, q1⟩ := hs
    dsimp only at p0 p1 q0 q1 ⊢
    clear hpq
    by_cases hlt : i < x.size
    · obtain ⟨c, hc⟩ : ∃ c, x[i] = c := ⟨_, rfl⟩
      have hcl : l.getD i 0 = c := by rw [← XL.out, List.getD_eq_getElem?_getD, List.getElem?_eq_getElem (by simpa using hlt)]; exact hc
      have hst := scan_step HPQ.out hcl
      have hcb : c.toNat < 256 := c.toNat_lt
      clear hcl HPQ
      have FIN : ∀ p' q' : Int, scanTo l (i + 1) = (p', q') → Hid ((.int .i64 (p') : Value) = .int .i64 (scanTo l (i + 1)).1 ∧ (.int .i64 (q') : Value) = .int .i64 (scanTo l (i + 1)).2) := fun p' q' h => Lib.hid (by rw [h]; exact ⟨rfl, rfl⟩)
      by_cases k1 : c.toNat = 46
      · rw [if_pos k1] at hst
        have F := FIN _ _ hst
        have t1 : ((c.toNat : Int) == 46) = true := by simp; omega
        clear hst FIN
        go_wp2
        go_round
        case rel => exact ⟨i + 1, by omega, by go_num, F.out.1, F.out.2⟩
        case measure => simp [intOf]; omega
      rw [if_neg k1] at hst
      have t1 : ((c.toNat : Int) == 46) = false := by simp; omega
      by_cases k2 : 0 < p
      · by_cases k3 : 48 ≤ c.toNat
        · by_cases k4 : c.toNat ≤ 57
          · rw [if_pos ⟨k2, k3, k4⟩] at hst
            have F := FIN _ _ hst
            have k3' : (48 : Int) ≤ c.toNat := by omega
            have k4' : (c.toNat : Int) ≤ 57 := by omega
            clear hst FIN k1
            go_wp2
            go_round
            case rel => exact ⟨i + 1, by omega, by go_num, F.out.1, F.out.2⟩
            case measure => simp [intOf]; omega
          · rw [if_neg (by omega)] at hst
            have F := FIN _ _ hst
            have k3' : (48 : Int) ≤ c.toNat := by omega
            have k4' : ¬ (c.toNat : Int) ≤ 57 := by omega
            clear hst FIN k1
            go_wp2
            go_round
            case rel => exact ⟨i + 1, by omega, by go_num, F.out.1, F.out.2⟩
            case measure => simp [intOf]; omega
        · rw [if_neg (by omega)] at hst
          have F := FIN _ _ hst
          have k3' : ¬ (48 : Int) ≤ c.toNat := by omega
          clear hst FIN k1
          go_wp2
          go_round
          case rel => exact ⟨i + 1, by omega, by go_num, F.out.1, F.out.2⟩
          case measure => simp [intOf]; omega
      · rw [if_neg (by omega)] at hst
        have F := FIN _ _ hst
        clear hst FIN k1
        go_wp2
        go_round
        case rel => exact ⟨i + 1, by omega, by go_num, F.out.1, F.out.2⟩
        case measure => simp [intOf]; omega
    · obtain rfl : i = x.size := by omega
      have hq : (scanTo l l.length).2 = q := by rw [← XS.out, HPQ.out]
      have HQ := Lib.hid hq
      clear hq HPQ
      by_cases z : q = 0
      · subst z
        cases t3 : ((x.extract 0 3).toList == [105, 51, 50])
        · have hby : bytesI a = 8 := by
            rw [M3.out, wantI, if_pos HQ.out, if_neg]
            rw [← XL.out]; exact take3_ne t3
          have BYA := Lib.hid hby
          clear hby
          go_wp2_with fail
          by_cases hb8 : shapeI b = 8
          · have HB8 := Lib.hid hb8
            clear hb8
            go_wp2_with fail
            refine (shape_any _ _ b0 b1 Ht.out).mono ?_
            rintro e w_7 ⟨rfl, hb⟩
            rw [HB8.out]
            have Ht2 := Lib.hid (Ht.out.below hb)
            have BB2 := Lib.hid (BB.out.trans (hb.mono BB.out.size))
            clear Ht BB hb
            have Ht := Ht2; have BB := BB2
            clear Ht2 BB2
            by_cases l1 : 8 < x.size
            · cases l2 : ((x.extract 4 8).toList == [108, 111, 97, 100])
              · go_wp2_with fail
                go_wp2_with fail
                refine (bytes_any _ _ a0 a1 Ht.out).mono ?_
                rintro e w_8 ⟨rfl, hb⟩
                rw [BYA.out]
                have Ht2 := Lib.hid (Ht.out.below hb)
                have BB2 := Lib.hid (BB.out.trans (hb.mono BB.out.size))
                clear Ht BB hb
                have Ht := Ht2; have BB := BB2
                clear Ht2 BB2
                go_wp2_with fail
                refine (known_any _ Ht.out).mono ?_
                rintro e w_9 ⟨rfl, hb⟩
                have Ht2 := Lib.hid (Ht.out.below hb)
                have BB2 := Lib.hid (BB.out.trans (hb.mono BB.out.size))
                clear Ht BB hb
                have Ht := Ht2; have BB := BB2
                clear Ht2 BB2
                go_wp2
                go_ret
                exact ⟨rfl, BB.out⟩
              · obtain ⟨y, hy⟩ : ∃ y, nameS b = y := ⟨_, rfl⟩
                have Y := Lib.hid hy
                have ys0 : 8 ≤ y.size := by rw [← hy, nameS_size]; exact (mem_name HB8.out).lo
                have ys1 : y.size ≤ 40 := by rw [← hy, nameS_size]; exact (mem_name HB8.out).hi
                clear hy
                go_wp2_with fail
                refine (name_any _ _ b0 b1 Ht.out).mono ?_
                rintro e w_10 ⟨rfl, hb⟩
                rw [Y.out]
                have Ht2 := Lib.hid (Ht.out.below hb)
                have BB2 := Lib.hid (BB.out.trans (hb.mono BB.out.size))
                clear Ht BB hb
                have Ht := Ht2; have BB := BB2
                clear Ht2 BB2
                by_cases l3 : 8 < y.size
                · skip
                  go_wp2_with fail
                  refine (name_any _ _ b0 b1 Ht.out).mono ?_
                  rintro e w_11 ⟨rfl, hb⟩
                  rw [Y.out]
                  have Ht2 := Lib.hid (Ht.out.below hb)
                  have BB2 := Lib.hid (BB.out.trans (hb.mono BB.out.size))
                  clear Ht BB hb
                  have Ht := Ht2; have BB := BB2
                  clear Ht2 BB2
                  cases l4 : ((y.extract 4 9).toList == [115, 116, 111, 114, 101])
                  · go_wp2_with fail
                    go_wp2_with fail
                    refine (bytes_any _ _ a0 a1 Ht.out).mono ?_
                    rintro e w_12 ⟨rfl, hb⟩
                    rw [BYA.out]
                    have Ht2 := Lib.hid (Ht.out.below hb)
                    have BB2 := Lib.hid (BB.out.trans (hb.mono BB.out.size))
                    clear Ht BB hb
                    have Ht := Ht2; have BB := BB2
                    clear Ht2 BB2
                    go_wp2_with fail
                    refine (known_any _ Ht.out).mono ?_
                    rintro e w_13 ⟨rfl, hb⟩
                    have Ht2 := Lib.hid (Ht.out.below hb)
                    have BB2 := Lib.hid (BB.out.trans (hb.mono BB.out.size))
                    clear Ht BB hb
                    have Ht := Ht2; have BB := BB2
                    clear Ht2 BB2
                    go_wp2
                    go_ret
                    exact ⟨rfl, BB.out⟩
                  · have hlt2 : ¬ b ≤ a := by
                      have := pair_lt SH.out HB8.out X.out Y.out l1 l2 l3 l4
                      omega
                    go_wp2_with fail
                    go_wp2_with fail
                    refine (bytes_any _ _ a0 a1 Ht.out).mono ?_
                    rintro e w_14 ⟨rfl, hb⟩
                    rw [BYA.out]
                    have Ht2 := Lib.hid (Ht.out.below hb)
                    have BB2 := Lib.hid (BB.out.trans (hb.mono BB.out.size))
                    clear Ht BB hb
                    have Ht := Ht2; have BB := BB2
                    clear Ht2 BB2
                    go_wp2_with fail
                    refine (known_any _ Ht.out).mono ?_
                    rintro e w_15 ⟨rfl, hb⟩
                    have Ht2 := Lib.hid (Ht.out.below hb)
                    have BB2 := Lib.hid (BB.out.trans (hb.mono BB.out.size))
                    clear Ht BB hb
                    have Ht := Ht2; have BB := BB2
                    clear Ht2 BB2
                    go_wp2
                    go_ret
                    exact ⟨rfl, BB.out⟩
                · go_wp2_with fail
                  go_wp2_with fail
                  refine (bytes_any _ _ a0 a1 Ht.out).mono ?_
                  rintro e w_16 ⟨rfl, hb⟩
                  rw [BYA.out]
                  have Ht2 := Lib.hid (Ht.out.below hb)
                  have BB2 := Lib.hid (BB.out.trans (hb.mono BB.out.size))
                  clear Ht BB hb
                  have Ht := Ht2; have BB := BB2
                  clear Ht2 BB2
                  go_wp2_with fail
                  refine (known_any _ Ht.out).mono ?_
                  rintro e w_17 ⟨rfl, hb⟩
                  have Ht2 := Lib.hid (Ht.out.below hb)
                  have BB2 := Lib.hid (BB.out.trans (hb.mono BB.out.size))
                  clear Ht BB hb
                  have Ht := Ht2; have BB := BB2
                  clear Ht2 BB2
                  go_wp2
                  go_ret
                  exact ⟨rfl, BB.out⟩
            · go_wp2_with fail
              go_wp2_with fail
              refine (bytes_any _ _ a0 a1 Ht.out).mono ?_
              rintro e w_18 ⟨rfl, hb⟩
              rw [BYA.out]
              have Ht2 := Lib.hid (Ht.out.below hb)
              have BB2 := Lib.hid (BB.out.trans (hb.mono BB.out.size))
              clear Ht BB hb
              have Ht := Ht2; have BB := BB2
              clear Ht2 BB2
              go_wp2_with fail
              refine (known_any _ Ht.out).mono ?_
              rintro e w_19 ⟨rfl, hb⟩
              have Ht2 := Lib.hid (Ht.out.below hb)
              have BB2 := Lib.hid (BB.out.trans (hb.mono BB.out.size))
              clear Ht BB hb
              have Ht := Ht2; have BB := BB2
              clear Ht2 BB2
              go_wp2
              go_ret
              exact ⟨rfl, BB.out⟩
          · obtain ⟨sb, hsb⟩ : ∃ sb, shapeI b = sb := ⟨_, rfl⟩
            rw [hsb] at hb8
            have hb8' : (sb == 8) = false := by simpa using hb8
            have HSB := Lib.hid hsb
            clear hsb hb8
            go_wp2_with fail
            refine (shape_any _ _ b0 b1 Ht.out).mono ?_
            rintro e w_20 ⟨rfl, hb⟩
            rw [HSB.out]
            have Ht2 := Lib.hid (Ht.out.below hb)
            have BB2 := Lib.hid (BB.out.trans (hb.mono BB.out.size))
            clear Ht BB hb
            have Ht := Ht2; have BB := BB2
            clear Ht2 BB2
            go_wp2_with fail
            go_wp2_with fail
            refine (bytes_any _ _ a0 a1 Ht.out).mono ?_
            rintro e w_21 ⟨rfl, hb⟩
            rw [BYA.out]
            have Ht2 := Lib.hid (Ht.out.below hb)
            have BB2 := Lib.hid (BB.out.trans (hb.mono BB.out.size))
            clear Ht BB hb
            have Ht := Ht2; have BB := BB2
            clear Ht2 BB2
            go_wp2_with fail
            refine (known_any _ Ht.out).mono ?_
            rintro e w_22 ⟨rfl, hb⟩
            have Ht2 := Lib.hid (Ht.out.below hb)
            have BB2 := Lib.hid (BB.out.trans (hb.mono BB.out.size))
            clear Ht BB hb
            have Ht := Ht2; have BB := BB2
            clear Ht2 BB2
            go_wp2
            go_ret
            exact ⟨rfl, BB.out⟩
        · have hby : bytesI a = 4 := by
            rw [M3.out, wantI, if_pos HQ.out, if_pos]
            rw [← XL.out]; exact take3_eq t3
          have BYA := Lib.hid hby
          clear hby
          go_wp2_with fail
          by_cases hb8 : shapeI b = 8
          · have HB8 := Lib.hid hb8
            clear hb8
            go_wp2_with fail
            refine (shape_any _ _ b0 b1 Ht.out).mono ?_
            rintro e w_23 ⟨rfl, hb⟩
            rw [HB8.out]
            have Ht2 := Lib.hid (Ht.out.below hb)
            have BB2 := Lib.hid (BB.out.trans (hb.mono BB.out.size))
            clear Ht BB hb
            have Ht := Ht2; have BB := BB2
            clear Ht2 BB2
            by_cases l1 : 8 < x.size
            · cases l2 : ((x.extract 4 8).toList == [108, 111, 97, 100])
              · go_wp2_with fail
                go_wp2_with fail
                refine (bytes_any _ _ a0 a1 Ht.out).mono ?_
                rintro e w_24 ⟨rfl, hb⟩
                rw [BYA.out]
                have Ht2 := Lib.hid (Ht.out.below hb)
                have BB2 := Lib.hid (BB.out.trans (hb.mono BB.out.size))
                clear Ht BB hb
                have Ht := Ht2; have BB := BB2
                clear Ht2 BB2
                go_wp2_with fail
                refine (known_any _ Ht.out).mono ?_
                rintro e w_25 ⟨rfl, hb⟩
                have Ht2 := Lib.hid (Ht.out.below hb)
                have BB2 := Lib.hid (BB.out.trans (hb.mono BB.out.size))
                clear Ht BB hb
                have Ht := Ht2; have BB := BB2
                clear Ht2 BB2
                go_wp2
                go_ret
                exact ⟨rfl, BB.out⟩
              · obtain ⟨y, hy⟩ : ∃ y, nameS b = y := ⟨_, rfl⟩
                have Y := Lib.hid hy
                have ys0 : 8 ≤ y.size := by rw [← hy, nameS_size]; exact (mem_name HB8.out).lo
                have ys1 : y.size ≤ 40 := by rw [← hy, nameS_size]; exact (mem_name HB8.out).hi
                clear hy
                go_wp2_with fail
                refine (name_any _ _ b0 b1 Ht.out).mono ?_
                rintro e w_26 ⟨rfl, hb⟩
                rw [Y.out]
                have Ht2 := Lib.hid (Ht.out.below hb)
                have BB2 := Lib.hid (BB.out.trans (hb.mono BB.out.size))
                clear Ht BB hb
                have Ht := Ht2; have BB := BB2
                clear Ht2 BB2
                by_cases l3 : 8 < y.size
                · skip
                  go_wp2_with fail
                  refine (name_any _ _ b0 b1 Ht.out).mono ?_
                  rintro e w_27 ⟨rfl, hb⟩
                  rw [Y.out]
                  have Ht2 := Lib.hid (Ht.out.below hb)
                  have BB2 := Lib.hid (BB.out.trans (hb.mono BB.out.size))
                  clear Ht BB hb
                  have Ht := Ht2; have BB := BB2
                  clear Ht2 BB2
                  cases l4 : ((y.extract 4 9).toList == [115, 116, 111, 114, 101])
                  · go_wp2_with fail
                    go_wp2_with fail
                    refine (bytes_any _ _ a0 a1 Ht.out).mono ?_
                    rintro e w_28 ⟨rfl, hb⟩
                    rw [BYA.out]
                    have Ht2 := Lib.hid (Ht.out.below hb)
                    have BB2 := Lib.hid (BB.out.trans (hb.mono BB.out.size))
                    clear Ht BB hb
                    have Ht := Ht2; have BB := BB2
                    clear Ht2 BB2
                    go_wp2_with fail
                    refine (known_any _ Ht.out).mono ?_
                    rintro e w_29 ⟨rfl, hb⟩
                    have Ht2 := Lib.hid (Ht.out.below hb)
                    have BB2 := Lib.hid (BB.out.trans (hb.mono BB.out.size))
                    clear Ht BB hb
                    have Ht := Ht2; have BB := BB2
                    clear Ht2 BB2
                    go_wp2
                    go_ret
                    exact ⟨rfl, BB.out⟩
                  · have hlt2 : ¬ b ≤ a := by
                      have := pair_lt SH.out HB8.out X.out Y.out l1 l2 l3 l4
                      omega
                    go_wp2_with fail
                    go_wp2_with fail
                    refine (bytes_any _ _ a0 a1 Ht.out).mono ?_
                    rintro e w_30 ⟨rfl, hb⟩
                    rw [BYA.out]
                    have Ht2 := Lib.hid (Ht.out.below hb)
                    have BB2 := Lib.hid (BB.out.trans (hb.mono BB.out.size))
                    clear Ht BB hb
                    have Ht := Ht2; have BB := BB2
                    clear Ht2 BB2
                    go_wp2_with fail
                    refine (known_any _ Ht.out).mono ?_
                    rintro e w_31 ⟨rfl, hb⟩
                    have Ht2 := Lib.hid (Ht.out.below hb)
                    have BB2 := Lib.hid (BB.out.trans (hb.mono BB.out.size))
                    clear Ht BB hb
                    have Ht := Ht2; have BB := BB2
                    clear Ht2 BB2
                    go_wp2
                    go_ret
                    exact ⟨rfl, BB.out⟩
                · go_wp2_with fail
                  go_wp2_with fail
                  refine (bytes_any _ _ a0 a1 Ht.out).mono ?_
                  rintro e w_32 ⟨rfl, hb⟩
                  rw [BYA.out]
                  have Ht2 := Lib.hid (Ht.out.below hb)
                  have BB2 := Lib.hid (BB.out.trans (hb.mono BB.out.size))
                  clear Ht BB hb
                  have Ht := Ht2; have BB := BB2
                  clear Ht2 BB2
                  go_wp2_with fail
                  refine (known_any _ Ht.out).mono ?_
                  rintro e w_33 ⟨rfl, hb⟩
                  have Ht2 := Lib.hid (Ht.out.below hb)
                  have BB2 := Lib.hid (BB.out.trans (hb.mono BB.out.size))
                  clear Ht BB hb
                  have Ht := Ht2; have BB := BB2
                  clear Ht2 BB2
                  go_wp2
                  go_ret
                  exact ⟨rfl, BB.out⟩
            · go_wp2_with fail
              go_wp2_with fail
              refine (bytes_any _ _ a0 a1 Ht.out).mono ?_
              rintro e w_34 ⟨rfl, hb⟩
              rw [BYA.out]
              have Ht2 := Lib.hid (Ht.out.below hb)
              have BB2 := Lib.hid (BB.out.trans (hb.mono BB.out.size))
              clear Ht BB hb
              have Ht := Ht2; have BB := BB2
              clear Ht2 BB2
              go_wp2_with fail
              refine (known_any _ Ht.out).mono ?_
              rintro e w_35 ⟨rfl, hb⟩
              have Ht2 := Lib.hid (Ht.out.below hb)
              have BB2 := Lib.hid (BB.out.trans (hb.mono BB.out.size))
              clear Ht BB hb
              have Ht := Ht2; have BB := BB2
              clear Ht2 BB2
              go_wp2
              go_ret
              exact ⟨rfl, BB.out⟩
          · obtain ⟨sb, hsb⟩ : ∃ sb, shapeI b = sb := ⟨_, rfl⟩
            rw [hsb] at hb8
            have hb8' : (sb == 8) = false := by simpa using hb8
            have HSB := Lib.hid hsb
            clear hsb hb8
            go_wp2_with fail
            refine (shape_any _ _ b0 b1 Ht.out).mono ?_
            rintro e w_36 ⟨rfl, hb⟩
            rw [HSB.out]
            have Ht2 := Lib.hid (Ht.out.below hb)
            have BB2 := Lib.hid (BB.out.trans (hb.mono BB.out.size))
            clear Ht BB hb
            have Ht := Ht2; have BB := BB2
            clear Ht2 BB2
            go_wp2_with fail
            go_wp2_with fail
            refine (bytes_any _ _ a0 a1 Ht.out).mono ?_
            rintro e w_37 ⟨rfl, hb⟩
            rw [BYA.out]
            have Ht2 := Lib.hid (Ht.out.below hb)
            have BB2 := Lib.hid (BB.out.trans (hb.mono BB.out.size))
            clear Ht BB hb
            have Ht := Ht2; have BB := BB2
            clear Ht2 BB2
            go_wp2_with fail
            refine (known_any _ Ht.out).mono ?_
            rintro e w_38 ⟨rfl, hb⟩
            have Ht2 := Lib.hid (Ht.out.below hb)
            have BB2 := Lib.hid (BB.out.trans (hb.mono BB.out.size))
            clear Ht BB hb
            have Ht := Ht2; have BB := BB2
            clear Ht2 BB2
            go_wp2
            go_ret
            exact ⟨rfl, BB.out⟩
      · have z' : (q == 0) = false := by simpa using z
        have hby : bytesI a = q / 8 := by
          rw [M3.out, wantI, HQ.out, if_neg z]
        have BYA := Lib.hid hby
        clear hby z
        go_wp2_with fail
        by_cases hb8 : shapeI b = 8
        · have HB8 := Lib.hid hb8
          clear hb8
          go_wp2_with fail
          refine (shape_any _ _ b0 b1 Ht.out).mono ?_
          rintro e w_39 ⟨rfl, hb⟩
          rw [HB8.out]
          have Ht2 := Lib.hid (Ht.out.below hb)
          have BB2 := Lib.hid (BB.out.trans (hb.mono BB.out.size))
          clear Ht BB hb
          have Ht := Ht2; have BB := BB2
          clear Ht2 BB2
          by_cases l1 : 8 < x.size
          · cases l2 : ((x.extract 4 8).toList == [108, 111, 97, 100])
            · go_wp2_with fail
              go_wp2_with fail
              refine (bytes_any _ _ a0 a1 Ht.out).mono ?_
              rintro e w_40 ⟨rfl, hb⟩
              rw [BYA.out]
              have Ht2 := Lib.hid (Ht.out.below hb)
              have BB2 := Lib.hid (BB.out.trans (hb.mono BB.out.size))
              clear Ht BB hb
              have Ht := Ht2; have BB := BB2
              clear Ht2 BB2
              go_wp2_with fail
              refine (known_any _ Ht.out).mono ?_
              rintro e w_41 ⟨rfl, hb⟩
              have Ht2 := Lib.hid (Ht.out.below hb)
              have BB2 := Lib.hid (BB.out.trans (hb.mono BB.out.size))
              clear Ht BB hb
              have Ht := Ht2; have BB := BB2
              clear Ht2 BB2
              go_wp2
              go_ret
              exact ⟨rfl, BB.out⟩
            · obtain ⟨y, hy⟩ : ∃ y, nameS b = y := ⟨_, rfl⟩
              have Y := Lib.hid hy
              have ys0 : 8 ≤ y.size := by rw [← hy, nameS_size]; exact (mem_name HB8.out).lo
              have ys1 : y.size ≤ 40 := by rw [← hy, nameS_size]; exact (mem_name HB8.out).hi
              clear hy
              go_wp2_with fail
              refine (name_any _ _ b0 b1 Ht.out).mono ?_
              rintro e w_42 ⟨rfl, hb⟩
              rw [Y.out]
              have Ht2 := Lib.hid (Ht.out.below hb)
              have BB2 := Lib.hid (BB.out.trans (hb.mono BB.out.size))
              clear Ht BB hb
              have Ht := Ht2; have BB := BB2
              clear Ht2 BB2
              by_cases l3 : 8 < y.size
              · skip
                go_wp2_with fail
                refine (name_any _ _ b0 b1 Ht.out).mono ?_
                rintro e w_43 ⟨rfl, hb⟩
                rw [Y.out]
                have Ht2 := Lib.hid (Ht.out.below hb)
                have BB2 := Lib.hid (BB.out.trans (hb.mono BB.out.size))
                clear Ht BB hb
                have Ht := Ht2; have BB := BB2
                clear Ht2 BB2
                cases l4 : ((y.extract 4 9).toList == [115, 116, 111, 114, 101])
                · go_wp2_with fail
                  go_wp2_with fail
                  refine (bytes_any _ _ a0 a1 Ht.out).mono ?_
                  rintro e w_44 ⟨rfl, hb⟩
                  rw [BYA.out]
                  have Ht2 := Lib.hid (Ht.out.below hb)
                  have BB2 := Lib.hid (BB.out.trans (hb.mono BB.out.size))
                  clear Ht BB hb
                  have Ht := Ht2; have BB := BB2
                  clear Ht2 BB2
                  go_wp2_with fail
                  refine (known_any _ Ht.out).mono ?_
                  rintro e w_45 ⟨rfl, hb⟩
                  have Ht2 := Lib.hid (Ht.out.below hb)
                  have BB2 := Lib.hid (BB.out.trans (hb.mono BB.out.size))
                  clear Ht BB hb
                  have Ht := Ht2; have BB := BB2
                  clear Ht2 BB2
                  go_wp2
                  go_ret
                  exact ⟨rfl, BB.out⟩
                · have hlt2 : ¬ b ≤ a := by
                    have := pair_lt SH.out HB8.out X.out Y.out l1 l2 l3 l4
                    omega
                  go_wp2_with fail
                  go_wp2_with fail
                  refine (bytes_any _ _ a0 a1 Ht.out).mono ?_
                  rintro e w_46 ⟨rfl, hb⟩
                  rw [BYA.out]
                  have Ht2 := Lib.hid (Ht.out.below hb)
                  have BB2 := Lib.hid (BB.out.trans (hb.mono BB.out.size))
                  clear Ht BB hb
                  have Ht := Ht2; have BB := BB2
                  clear Ht2 BB2
                  go_wp2_with fail
                  refine (known_any _ Ht.out).mono ?_
                  rintro e w_47 ⟨rfl, hb⟩
                  have Ht2 := Lib.hid (Ht.out.below hb)
                  have BB2 := Lib.hid (BB.out.trans (hb.mono BB.out.size))
                  clear Ht BB hb
                  have Ht := Ht2; have BB := BB2
                  clear Ht2 BB2
                  go_wp2
                  go_ret
                  exact ⟨rfl, BB.out⟩
              · go_wp2_with fail
                go_wp2_with fail
                refine (bytes_any _ _ a0 a1 Ht.out).mono ?_
                rintro e w_48 ⟨rfl, hb⟩
                rw [BYA.out]
                have Ht2 := Lib.hid (Ht.out.below hb)
                have BB2 := Lib.hid (BB.out.trans (hb.mono BB.out.size))
                clear Ht BB hb
                have Ht := Ht2; have BB := BB2
                clear Ht2 BB2
                go_wp2_with fail
                refine (known_any _ Ht.out).mono ?_
                rintro e w_49 ⟨rfl, hb⟩
                have Ht2 := Lib.hid (Ht.out.below hb)
                have BB2 := Lib.hid (BB.out.trans (hb.mono BB.out.size))
                clear Ht BB hb
                have Ht := Ht2; have BB := BB2
                clear Ht2 BB2
                go_wp2
                go_ret
                exact ⟨rfl, BB.out⟩
          · go_wp2_with fail
            go_wp2_with fail
            refine (bytes_any _ _ a0 a1 Ht.out).mono ?_
            rintro e w_50 ⟨rfl, hb⟩
            rw [BYA.out]
            have Ht2 := Lib.hid (Ht.out.below hb)
            have BB2 := Lib.hid (BB.out.trans (hb.mono BB.out.size))
            clear Ht BB hb
            have Ht := Ht2; have BB := BB2
            clear Ht2 BB2
            go_wp2_with fail
            refine (known_any _ Ht.out).mono ?_
            rintro e w_51 ⟨rfl, hb⟩
            have Ht2 := Lib.hid (Ht.out.below hb)
            have BB2 := Lib.hid (BB.out.trans (hb.mono BB.out.size))
            clear Ht BB hb
            have Ht := Ht2; have BB := BB2
            clear Ht2 BB2
            go_wp2
            go_ret
            exact ⟨rfl, BB.out⟩
        · obtain ⟨sb, hsb⟩ : ∃ sb, shapeI b = sb := ⟨_, rfl⟩
          rw [hsb] at hb8
          have hb8' : (sb == 8) = false := by simpa using hb8
          have HSB := Lib.hid hsb
          clear hsb hb8
          go_wp2_with fail
          refine (shape_any _ _ b0 b1 Ht.out).mono ?_
          rintro e w_52 ⟨rfl, hb⟩
          rw [HSB.out]
          have Ht2 := Lib.hid (Ht.out.below hb)
          have BB2 := Lib.hid (BB.out.trans (hb.mono BB.out.size))
          clear Ht BB hb
          have Ht := Ht2; have BB := BB2
          clear Ht2 BB2
          go_wp2_with fail
          go_wp2_with fail
          refine (bytes_any _ _ a0 a1 Ht.out).mono ?_
          rintro e w_53 ⟨rfl, hb⟩
          rw [BYA.out]
          have Ht2 := Lib.hid (Ht.out.below hb)
          have BB2 := Lib.hid (BB.out.trans (hb.mono BB.out.size))
          clear Ht BB hb
          have Ht := Ht2; have BB := BB2
          clear Ht2 BB2
          go_wp2_with fail
          refine (known_any _ Ht.out).mono ?_
          rintro e w_54 ⟨rfl, hb⟩
          have Ht2 := Lib.hid (Ht.out.below hb)
          have BB2 := Lib.hid (BB.out.trans (hb.mono BB.out.size))
          clear Ht BB hb
          have Ht := Ht2; have BB := BB2
          clear Ht2 BB2
          go_wp2
          go_ret
          exact ⟨rfl, BB.out⟩

theorem OpsLoads_any (a b : Int) (w : World) (a0 : -9223372036854775808 ≤ a) (a1 : a ≤ 9223372036854775807) (b0 : -9223372036854775808 ≤ b) (b1 : b ≤ 9223372036854775807) (ht : OTab w) :
    Calls Tryd.prog 6 #[.int .i64 a, .int .i64 b] w fun e w' => e = .returned (.bool true) ∧ Below w.heap.size w w' := by
  by_cases hm : shapeI a = 8
  · exact OpsLoads_mem a b w a0 a1 b0 b1 ht hm
  · exact OpsLoads_not a b w a0 a1 ht hm
end Go.Proofs.YtfjjecffeeffcaaDoor
