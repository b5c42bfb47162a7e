/- geodelaw11: known. -/
import Derived.Test.YtoamhiaagaaaaaaGreatDoorQChGrow
import Derived.Test.YtoamhiaagaaaaaaGreatDoorQChRead
import Derived.Test.YtoamhiaagaaaaaaGreatDoorQChSub
namespace Go.Proofs.YtoamhiaagaaaaaaGreatDoor
open Go.RowKit

def kS1 : List (List Sb) := (addG [] [] [subS 0 []]).2.2
def kS2 : List (List Sb) := (addG kS1 [0] [subS 1 [0]]).2.2
def kS3 : List (List Sb) := (addG kS2 [0, 1] [subS 1 [1]]).2.2
def kS4 : List (List Sb) := (addG kS3 [0, 1, 2] [subS 2 [0]]).2.2
theorem kA1 : addG [] [] [subS 0 []] = ([0], 0, kS1) := by decide +kernel
theorem kA2 : addG kS1 [0] [subS 1 [0]] = ([0, 1], 0, kS2) := by decide +kernel
theorem kA3 : addG kS2 [0, 1] [subS 1 [1]] = ([0, 1, 2], 0, kS3) := by decide +kernel
theorem kA4 : addG kS3 [0, 1, 2] [subS 2 [0]] = ([0, 1, 2, 3], 0, kS4) := by decide +kernel
theorem kG : growAll (tabL kS4) [] = (0, [[0], [0, 1], [0, 1, 2], [0, 3]]) := by decide +kernel
theorem subS_raw {n : Nat} {sups : List Int} (hn : n ≤ 10) (hl : sups.length ≤ 1000) (hb : ∀ k ∈ sups, B64 k) : RawG [subS n sups] := by
  refine ⟨by simp, fun x hx => ?_, fun x hx => ?_⟩
  · simp at hx; subst hx
    refine ⟨fun h hh => ?_, by simp [subS], by simp [subS], fun f hf => ?_, ⟨by simp [subS]; omega, by simp [subS], by simp [subS], by simp [subS]; omega⟩⟩
    · simp [subS] at hh
      obtain ⟨k, hk, rfl⟩ := hh
      exact hb k hk
    · simp [subS] at hf
      rw [hf.2]; simp [fI, B64]
  · simp at hx; subst hx
    simp [cnt, subS]; omega
theorem kTC : TabC kS4 := tabC_add (tabC_add (tabC_add (tabC_add tabC_nil)))
def kL : List (List Nat) := [[0], [0, 1], [0, 1, 2], [0, 3]]
theorem kD2 : depthL kL 2 = 2 := by decide
theorem kD4 : depthL kL 4 = -1 := by decide
theorem kB1 : belowL kL 2 0 = true := by decide
theorem kB2 : belowL kL 2 2 = true := by decide
theorem kB3 : belowL kL 2 3 = false := by decide
theorem kB4 : belowL kL 0 2 = false := by decide
theorem grp_1 {W : World} {q : Nat} {cs : List Value} {x : Sb} (h : W.heap[q]? = some (.cells cs.toArray 48 (0, 0))) (h6 : cs.length = 6) (hs : SubAt W cs x) : GrpAt W (.slice (some ⟨q, 0, none⟩) 1 1) [x] := by
  refine grp_of (css := [cs]) (by simpa using h) rfl (by simpa using h6) (fun j c y hc hx => ?_) 1 1 rfl (Nat.le_refl _)
  have h0 : j = 0 := by have := (List.getElem?_eq_some_iff.1 hc).1; simp at this; omega
  subst h0; simp at hc hx; subst hc hx; exact hs
theorem add_sub {w0 : World} {S R : Nat → Prop} {w : World} {t : Nat} {v1 : Value} {gs : List (List Sb)} {ids : List Int} {cs : List Value} {x : Sb} {A : List Int × Int × List (List Sb)} (hA : addG gs ids [x] = A) (ht : TabN w0 S R w t gs) (h1 : ∀ w', Upd S w w' → IntsAt w' v1 ids) (hl : ids.length ≤ 100000) (hs : SubAt w cs x) (h6 : cs.length = 6) (hr : RawG [x]) (htab : Tab w0) :
    Calls Tryz.prog 9 #[.pointer (some ⟨t, 0, none⟩), v1, .slice (some ⟨w.heap.size, 0, none⟩) 1 1] (w.alloc (.cells cs.toArray 48)) (AddN w0 S R (w.alloc (.cells cs.toArray 48)) t A) := by
  have hb : Below w.heap.size w (w.alloc (.cells cs.toArray 48)) := (Below.refl _ _).alloc (Nat.le_refl _) _
  have := add_n (ht.below hb) (fun w' hu => h1 w' ((Upd.of_below hb : Upd S _ _).trans' hu)) hl (grp_1 (heap_alloc_at _ _ rfl) h6 (hs.below hb (Nat.le_refl _))) hr htab
  rw [hA] at this
  exact this
set_option maxRecDepth 100000 in
set_option maxHeartbeats 16000000 in
theorem known11_any (w : World) (htab : Tab w) : Calls Tryz.prog 19 #[] w fun e w' => e = .returned (.bool true) ∧ Below w.heap.size w w' := by
  have HTAB := Lib.hid htab
  clear htab
  go_enter Tryz.func19, Tryz.ntmps19
  go_wp2_with fail
  refine (new_any _).mono ?_
  rintro e w1 ⟨t, S0, rfl, hta, hba, hbe⟩
  have HT0 := Lib.hid (⟨hta, ⟨by simp, by simp, by simp, by simp [total]⟩, hba, hbe⟩ : TabN w S0 (fun _ => False) w1 t [])
  clear hta hba hbe
  go_wp2_with fail
  refine (sub_any 0 (.slice none 0 0) [] w1 (RowAt.nil _ 1) (by omega) (by simp)).mono ?_
  rintro e w2 ⟨cs, rfl, h6, hs, hb⟩
  obtain ⟨vs, vp, vr, vf, rfl, -⟩ := hs.ex
  have C1 := Lib.hid (add_sub kA1 (HT0.out.below hb) (fun w' _ => (RowAt.nil w' 1 : IntsAt w' (.slice none 0 0) [])) (by simp) hs h6 (subS_raw (by omega) (by simp) (by simp)) HTAB.out)
  clear hs h6 hb
  go_wp2_with fail
  refine C1.out.mono ?_
  rintro e w3 ⟨u1, S1, R1, rfl, ht1, hi1, -, -, -⟩
  have HT1 := Lib.hid ht1; have HI1 := Lib.hid hi1
  clear ht1 hi1 C1
  go_wp2_with fail
  have hbl2 : Below w3.heap.size w3 (w3.alloc (.cells #[.int .i64 0] 3)) := (Below.refl _ _).alloc (Nat.le_refl _) _
  refine (sub_any 1 (.slice (some ⟨w3.heap.size, 0, none⟩) 1 1) [0] (w3.alloc (.cells #[.int .i64 0] 3)) (row_litA (heap_alloc_at _ _ rfl) rfl) (by omega) (by simp)).mono ?_
  rintro e w4 ⟨cs, rfl, h6, hs, hb⟩
  obtain ⟨vs, vp, vr, vf, rfl, -⟩ := hs.ex
  have hbb2 : Below w3.heap.size w3 w4 := hbl2.trans (hb.mono hbl2.size)
  have C2 := Lib.hid (add_sub kA2 (HT1.out.below hbb2) (fun w' hu => HI1.out w' ((Upd.of_below hbb2 : Upd S1 _ _).trans' hu)) (ids := [0]) (by simp) hs h6 (subS_raw (by omega) (by simp) (by simp [B64])) HTAB.out)
  clear hs h6 hb hbl2 hbb2
  go_wp2_with fail
  refine C2.out.mono ?_
  rintro e w5 ⟨u2, S2, R2, rfl, ht2, hi2, -, -, -⟩
  have HT2 := Lib.hid ht2; have HI2 := Lib.hid hi2
  clear ht2 hi2 C2
  go_wp2_with fail
  have hbl3 : Below w5.heap.size w5 (w5.alloc (.cells #[.int .i64 1] 3)) := (Below.refl _ _).alloc (Nat.le_refl _) _
  refine (sub_any 1 (.slice (some ⟨w5.heap.size, 0, none⟩) 1 1) [1] (w5.alloc (.cells #[.int .i64 1] 3)) (row_litA (heap_alloc_at _ _ rfl) rfl) (by omega) (by simp)).mono ?_
  rintro e w6 ⟨cs, rfl, h6, hs, hb⟩
  obtain ⟨vs, vp, vr, vf, rfl, -⟩ := hs.ex
  have hbb3 : Below w5.heap.size w5 w6 := hbl3.trans (hb.mono hbl3.size)
  have C3 := Lib.hid (add_sub kA3 (HT2.out.below hbb3) (fun w' hu => HI2.out w' ((Upd.of_below hbb3 : Upd S2 _ _).trans' hu)) (ids := [0, 1]) (by simp) hs h6 (subS_raw (by omega) (by simp) (by simp [B64])) HTAB.out)
  clear hs h6 hb hbl3 hbb3
  go_wp2_with fail
  refine C3.out.mono ?_
  rintro e w7 ⟨u3, S3, R3, rfl, ht3, hi3, -, -, -⟩
  have HT3 := Lib.hid ht3; have HI3 := Lib.hid hi3
  clear ht3 hi3 C3
  go_wp2_with fail
  have hbl4 : Below w7.heap.size w7 (w7.alloc (.cells #[.int .i64 0] 3)) := (Below.refl _ _).alloc (Nat.le_refl _) _
  refine (sub_any 2 (.slice (some ⟨w7.heap.size, 0, none⟩) 1 1) [0] (w7.alloc (.cells #[.int .i64 0] 3)) (row_litA (heap_alloc_at _ _ rfl) rfl) (by omega) (by simp)).mono ?_
  rintro e w8 ⟨cs, rfl, h6, hs, hb⟩
  obtain ⟨vs, vp, vr, vf, rfl, -⟩ := hs.ex
  have hbb4 : Below w7.heap.size w7 w8 := hbl4.trans (hb.mono hbl4.size)
  have C4 := Lib.hid (add_sub kA4 (HT3.out.below hbb4) (fun w' hu => HI3.out w' ((Upd.of_below hbb4 : Upd S3 _ _).trans' hu)) (ids := [0, 1, 2]) (by simp) hs h6 (subS_raw (by omega) (by simp) (by simp [B64])) HTAB.out)
  clear hs h6 hb hbl4 hbb4
  go_wp2_with fail
  refine C4.out.mono ?_
  rintro e w9 ⟨u4, S4, R4, rfl, ht4, hi4, -, -, -⟩
  have HT4 := Lib.hid ht4; have HI4 := Lib.hid hi4
  clear ht4 hi4 C4
  go_wp2_with fail
  refine (chNew_any w9).mono ?_
  rintro e w10 ⟨lt, SL, rfl, hL0, hLb, hb10⟩
  have htk : TabK S4 R4 w10 t kS4 := ⟨HT4.out.tab.below hb10, HT4.out.ok, kTC⟩
  have hoff : ∀ k, SL k → ¬ S4 k ∧ ¬ R4 k := fun k hk => ⟨fun h => by have := (HT4.out.tab.lt k h).1; have := hLb k hk; omega, fun h => by have := HT4.out.tab.rlt k h; have := hLb k hk; omega⟩
  have hbw10 : Below w.heap.size w w10 := HT4.out.be.trans (hb10.mono HT4.out.be.size)
  have HBW10 := Lib.hid hbw10; have HLB := Lib.hid hLb
  have C5 := Lib.hid (grow_any w10 hL0 htk hoff)
  clear hL0 htk hoff hbw10 hb10 hLb
  go_wp2_with fail
  refine C5.out.mono ?_
  rintro e w11 ⟨S', rfl, hI⟩
  simp only [kG] at hI ⊢
  have hL : LinesAt S' w11 lt kL := hI.li
  have hbw11 : Below w.heap.size w w11 := HBW10.out.trans (hI.up.below (fun k hk => Nat.le_trans HT4.out.be.size (HLB.out k hk)) HBW10.out.size)
  have HL := Lib.hid hL; have HBW11 := Lib.hid hbw11
  have C6 := Lib.hid (chLine_any hL (i := 2) (p := [0, 1, 2]) rfl)
  clear hI hL hbw11 C5
  go_wp2_with fail
  refine C6.out.mono ?_
  rintro e w12 ⟨u, rfl, ou, hb12⟩
  have hb13 : Below w11.heap.size w11 (w12.alloc (.cells #[.int .i64 0, .int .i64 1, .int .i64 2] 3)) := hb12.alloc hb12.size _
  have C7 := Lib.hid (ints11_any u (.slice (some ⟨w12.heap.size, 0, none⟩) 3 3) [0, 1, 2] [0, 1, 2] (w12.alloc (.cells #[.int .i64 0, .int .i64 1, .int .i64 2] 3)) (RowAt.of_own (ou.alloc _)) (row_litA (heap_alloc_at _ _ rfl) rfl) (by simp) (by simp))
  have HB13 := Lib.hid hb13
  clear ou hb12 hb13 C6
  go_wp2_with fail
  refine C7.out.mono ?_
  rintro e w14 ⟨rfl, n14, hw14⟩
  have hb14 : Below w11.heap.size w11 w14 := by rw [hw14]; have h := HB13.out; exact ⟨h.os, h.tape, h.output, h.size, h.block⟩
  have h14 := HL.out.below hb14
  have HB14 := Lib.hid hb14
  have D1 := chDepth_any h14 2
  rw [kD2] at D1
  have D2 := chDepth_any h14 4
  rw [kD4] at D2
  have D3 := chBelow_any h14 2 0
  rw [kB1] at D3
  have HD1 := Lib.hid D1; have HD2 := Lib.hid D2; have HD3 := Lib.hid D3
  clear hw14 hb14 h14 D1 D2 D3 C7
  go_wp2_with fail
  refine HD1.out.mono ?_
  rintro e w15 ⟨rfl, rfl⟩
  go_wp2_with fail
  refine HD2.out.mono ?_
  rintro e w15 ⟨rfl, rfl⟩
  go_wp2_with fail
  refine HD3.out.mono ?_
  rintro e w16 ⟨rfl, hb16⟩
  have HB16 := Lib.hid (HB14.out.trans (hb16.mono HB14.out.size))
  clear hb16
  have D4 := chBelow_any (HL.out.below HB16.out) 2 2
  rw [kB2] at D4
  have HD4 := Lib.hid D4
  clear D4
  go_wp2_with fail
  refine HD4.out.mono ?_
  rintro e w17 ⟨rfl, hb17⟩
  have HB17 := Lib.hid (HB16.out.trans (hb17.mono HB16.out.size))
  clear hb17
  have D5 := chBelow_any (HL.out.below HB17.out) 2 3
  rw [kB3] at D5
  have HD5 := Lib.hid D5
  clear D5
  go_wp2_with fail
  refine HD5.out.mono ?_
  rintro e w18 ⟨rfl, hb18⟩
  have HB18 := Lib.hid (HB17.out.trans (hb18.mono HB17.out.size))
  clear hb18
  have D6 := chBelow_any (HL.out.below HB18.out) 0 2
  rw [kB4] at D6
  have HD6 := Lib.hid D6
  clear D6
  go_wp2_with fail
  refine HD6.out.mono ?_
  rintro e w19 ⟨rfl, hb19⟩
  have HB19 := Lib.hid (HB18.out.trans (hb19.mono HB18.out.size))
  clear hb19
  go_wp2
  go_ret
  exact ⟨rfl, HBW11.out.trans (HB19.out.mono HBW11.out.size)⟩
end Go.Proofs.YtoamhiaagaaaaaaGreatDoor
