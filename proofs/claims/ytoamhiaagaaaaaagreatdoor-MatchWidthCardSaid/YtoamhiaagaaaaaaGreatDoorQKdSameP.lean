/- geodelaw10: known. -/
import Derived.Test.YtoamhiaagaaaaaaGreatDoorQMaFactsP
import Derived.Test.YtoamhiaagaaaaaaGreatDoorQMaValP
import Derived.Test.YtoamhiaagaaaaaaGreatDoorQRoKnP
import Derived.Test.YtoamhiaagaaaaaaGreatDoorQKdEqual
namespace Go.Proofs.YtoamhiaagaaaaaaGreatDoor
open Go.RowKit

set_option maxRecDepth 100000 in
theorem def_any (n : Int) (w : World) : Calls Tryz.prog 39 #[.int .i64 n] w fun e w' => e = .returned (.agg #[.int .i64 15, .int .i64 n]) ∧ Below w.heap.size w w' := by
  go_enter Tryz.func39, Tryz.ntmps39
  go_wp2
  exact bodyPost_ret (v := .agg #[.int .i64 15, .int .i64 n]) (by simp [results, Tryz.results39, go_sem]) rfl ⟨rfl, (Below.refl _ _).alloc (Nat.le_refl _) _⟩
set_option maxRecDepth 100000 in
theorem one_any (k : Int) (w : World) : Calls Tryz.prog 65 #[.int .i64 k] w fun e w' => e = .returned (.agg #[.int .i64 k, .int .i64 0]) ∧ Below w.heap.size w w' := by
  go_enter Tryz.func65, Tryz.ntmps65
  go_wp2
  exact bodyPost_ret (v := .agg #[.int .i64 k, .int .i64 0]) (by simp [results, Tryz.results65, go_sem]) rfl ⟨rfl, (Below.refl _ _).alloc (Nat.le_refl _) _⟩
set_option maxRecDepth 100000 in
theorem refTo_any (nl : Bool) (h n : Int) (w : World) : Calls Tryz.prog 66 #[.bool nl, .agg #[.int .i64 h, .int .i64 n]] w fun e w' => e = .returned (.agg #[.int .i64 3, .bool nl, .int .i64 h, .int .i64 n]) ∧ Below w.heap.size w w' := by
  go_enter Tryz.func66, Tryz.ntmps66
  go_wp2
  exact bodyPost_ret (v := .agg #[.int .i64 3, .bool nl, .int .i64 h, .int .i64 n]) (by simp [results, Tryz.results66, go_sem]) rfl ⟨rfl, ((Below.refl _ _).alloc (Nat.le_refl _) _).alloc (by simp) _⟩
theorem row_lit {w : World} {q c n : Nat} {T : TypeId} {xs : List Value} (h : w.heap[q]? = some (.cells xs.toArray T (0, 0))) (hl : xs.length = n * c) : RowAt w c (.slice (some ⟨q, 0, none⟩) n n) n xs := by
  refine ⟨hl, .inr ⟨_, n, rfl, Nat.le_refl _, fun j u hj => ?_⟩⟩
  rw [Addr.add_lit, Nat.zero_add, heap_cell h]
  simpa using hj
def mF1 : Fl := ⟨0, ⟨1, false, 0, 0⟩, false⟩
def mF2 : Fl := ⟨0, ⟨2, false, 0, 0⟩, false⟩
def mS0 : Sb := ⟨false, [], 2, [], [], [mF1]⟩
def mS1 : Sb := ⟨false, [⟨13, 0⟩], 2, [], [], [mF1, mF2]⟩
def mS2 : Sb := ⟨false, [], 1, [], [], []⟩
def gsA : List (List Sb) := (addG [] [] [mS0]).2.2
def gsB : List (List Sb) := (addG gsA [0] [mS1]).2.2
def gsC : List (List Sb) := (addG gsB [0, 1] [mS2]).2.2
theorem addA : addG [] [] [mS0] = ([0], 0, gsA) := by decide +kernel
theorem addB : addG gsA [0] [mS1] = ([0, 1], 0, gsB) := by decide +kernel
theorem addC : addG gsB [0, 1] [mS2] = ([0, 1, 2], 0, gsC) := by decide +kernel
def mT : List Sb := [mS0, ⟨false, [⟨15, 0⟩], 2, [], [], [mF1, mF2]⟩, mS2]
theorem tabC3 : tabL gsC = mT := by decide +kernel
theorem mRaw {x : Sb} (h : x = mS0 ∨ x = mS1 ∨ x = mS2) : RawG [x] := by
  have hb : ∀ n : Int, 0 ≤ n → n ≤ 100 → B64 n := fun n h0 h1 => by unfold B64; omega
  refine ⟨by simp, fun y hy => ?_, fun y hy => ?_⟩
  · simp at hy
    subst hy
    rcases h with rfl | rfl | rfl
    · exact ⟨by simp [mS0], by simp [mS0], by simp [mS0], by simp [mS0, mF1, B64], by constructor <;> simp [mS0]⟩
    · exact ⟨by simp [mS1, B64], by simp [mS1], by simp [mS1], by simp [mS1, mF1, mF2, B64], by constructor <;> simp [mS1]⟩
    · exact ⟨by simp [mS2], by simp [mS2], by simp [mS2], by simp [mS2], by constructor <;> simp [mS2]⟩
  · simp at hy
    subst hy
    rcases h with rfl | rfl | rfl <;> simp [cnt, mS0, mS1, mS2]
theorem grp_one {W : World} {q : Nat} {cs : List Value} {x : Sb} (h : W.heap[q]? = some (.cells cs.toArray 48 (0, 0))) (h6 : cs.length = 6) (hs : SubAt W cs x) : GrpAt W (.slice (some ⟨q, 0, none⟩) 1 1) [x] := by
  refine grp_of (css := [cs]) (by simpa using h) rfl (by simpa using h6) (fun j c y hc hx => ?_) 1 1 rfl (Nat.le_refl _)
  have h0 : j = 0 := by have := (List.getElem?_eq_some_iff.1 hc).1; simp at this; omega
  subst h0; simp at hc hx; subst hc hx; exact hs
set_option maxRecDepth 100000 in
set_option maxHeartbeats 16000000 in
theorem three_any (w : World) (htab : Tab w) : Calls Tryz.prog 64 #[] w fun e w' => ∃ t S R, e = .returned (.pointer (some ⟨t, 0, none⟩)) ∧ TabN w S R w' t gsC ∧ TabC gsC := by
  obtain ⟨W0, hW⟩ : ∃ W0 : World, W0 = (w.alloc (.cells #[.int .i64 0, .int .i64 1, .bool false, .int .i64 0, .int .i64 0, .bool false] 107)).alloc (.cells #[.int .i64 0, .int .i64 2, .bool false, .int .i64 0, .int .i64 0, .bool false] 107) := ⟨_, rfl⟩
  have hB : Below w.heap.size w W0 := by rw [hW]; exact (((Below.refl _ _).alloc (by simp) _).alloc (by simp) _)
  have z0 : W0.heap[w.heap.size]? = some (.cells #[.int .i64 0, .int .i64 1, .bool false, .int .i64 0, .int .i64 0, .bool false] 107 (0, 0)) := by rw [hW]; exact heap_alloc_keep (heap_alloc_at _ _ rfl) _
  have z1 : W0.heap[w.heap.size + 1]? = some (.cells #[.int .i64 0, .int .i64 2, .bool false, .int .i64 0, .int .i64 0, .bool false] 107 (0, 0)) := by rw [hW]; exact heap_alloc_at _ _ (by simp)
  have HW := Lib.hid hW; have HB := Lib.hid hB; have HTAB := Lib.hid (htab.on hB); have Z0 := Lib.hid z0; have Z1 := Lib.hid z1
  clear hW hB htab z0 z1
  go_enter Tryz.func64, Tryz.ntmps64
  go_wp2_with fail
  rw [← HW.out]
  refine (new_any _).mono ?_
  rintro e w1 ⟨t, S0, rfl, hta, hba, hbe⟩
  have HT0 := Lib.hid (⟨hta, ⟨by simp, by simp, by simp, by simp [total]⟩, hba, hbe⟩ : TabN W0 S0 (fun _ => False) w1 t [])
  have y0 := (hbe.block _ (heap_lt Z0.out)).trans Z0.out
  have c0 := heap_cell y0 0; have c1 := heap_cell y0 1; have c2 := heap_cell y0 2; have c3 := heap_cell y0 3; have c4 := heap_cell y0 4; have c5 := heap_cell y0 5
  simp at c0 c1 c2 c3 c4 c5
  clear hta hba hbe y0
  have hbA : Below w1.heap.size w1 ((w1.alloc (.cells #[.int .i64 0, .int .i64 1, .bool false, .int .i64 0, .int .i64 0, .bool false] 107)).alloc (.cells #[.bool false, .slice none 0 0, .int .i64 2, .slice none 0 0, .slice none 0 0, .slice (some ⟨w1.heap.size, 0, none⟩) 1 1] 48)) := ((Below.refl _ _).alloc (Nat.le_refl _) _).alloc (by simp) _
  have hg1 : GrpAt ((w1.alloc (.cells #[.int .i64 0, .int .i64 1, .bool false, .int .i64 0, .int .i64 0, .bool false] 107)).alloc (.cells #[.bool false, .slice none 0 0, .int .i64 2, .slice none 0 0, .slice none 0 0, .slice (some ⟨w1.heap.size, 0, none⟩) 1 1] 48)) (.slice (some ⟨w1.heap.size + 1, 0, none⟩) 1 1) [mS0] :=
    grp_one (heap_alloc_at _ _ (by simp)) rfl ⟨_, _, _, _, rfl, RowAt.nil _ _, RowAt.nil _ _, RowAt.nil _ _, row_lit (xs := flatF [mF1]) (heap_alloc_keep (heap_alloc_at _ _ rfl) _) rfl⟩
  have C1 := add_n (HT0.out.below hbA) (fun w' _ => (RowAt.nil w' 1 : IntsAt w' (.slice none 0 0) [])) (ids := []) (by simp) hg1 (mRaw (.inl rfl)) HTAB.out
  rw [addA] at C1
  have HC1 := Lib.hid C1
  clear C1 hg1 hbA
  go_wp2_with fail
  refine HC1.out.mono ?_
  rintro e w2 ⟨u1, S1, R1, rfl, ht1, hi1, _, _, _⟩
  have HT1 := Lib.hid ht1; have HI1 := Lib.hid hi1
  have y0 := (ht1.be.block _ (heap_lt Z0.out)).trans Z0.out
  have y1 := (ht1.be.block _ (heap_lt Z1.out)).trans Z1.out
  clear ht1 hi1 c0 c1 c2 c3 c4 c5
  have y0' := heap_alloc_keep y0 (.cells #[.int .i64 13, .int .i64 0] 26)
  have y1' := heap_alloc_keep y1 (.cells #[.int .i64 13, .int .i64 0] 26)
  have c0 := heap_cell y0' 0; have c1 := heap_cell y0' 1; have c2 := heap_cell y0' 2; have c3 := heap_cell y0' 3; have c4 := heap_cell y0' 4; have c5 := heap_cell y0' 5
  have d0 := heap_cell y1' 0; have d1 := heap_cell y1' 1; have d2 := heap_cell y1' 2; have d3 := heap_cell y1' 3; have d4 := heap_cell y1' 4; have d5 := heap_cell y1' 5
  simp at c0 c1 c2 c3 c4 c5 d0 d1 d2 d3 d4 d5
  clear y0 y1 y0' y1'
  obtain ⟨W2, hW2⟩ : ∃ W2 : World, W2 = ((w2.alloc (.cells #[.int .i64 13, .int .i64 0] 26)).alloc (.cells #[.int .i64 0, .int .i64 1, .bool false, .int .i64 0, .int .i64 0, .bool false, .int .i64 0, .int .i64 2, .bool false, .int .i64 0, .int .i64 0, .bool false] 107)).alloc (.cells #[.bool false, .slice (some ⟨w2.heap.size, 0, none⟩) 1 1, .int .i64 2, .slice none 0 0, .slice none 0 0, .slice (some ⟨w2.heap.size + 1, 0, none⟩) 2 2] 48) := ⟨_, rfl⟩
  have hbB : Below w2.heap.size w2 W2 := by rw [hW2]; exact (((Below.refl _ _).alloc (Nat.le_refl _) _).alloc (by simp) _).alloc (by simp; omega) _
  have hg2 : GrpAt W2 (.slice (some ⟨w2.heap.size + 1 + 1, 0, none⟩) 1 1) [mS1] := by
    rw [hW2]
    exact grp_one (heap_alloc_at _ _ (by simp)) rfl ⟨_, _, _, _, rfl, row_lit (xs := flatH [⟨13, 0⟩]) (heap_alloc_keep (heap_alloc_keep (heap_alloc_at _ _ rfl) _) _) rfl, RowAt.nil _ _, RowAt.nil _ _, row_lit (xs := flatF [mF1, mF2]) (heap_alloc_keep (heap_alloc_at _ _ (by simp)) _) rfl⟩
  have C2 := add_n (HT1.out.below hbB) (fun w' hu => HI1.out w' ((Upd.of_below hbB : Upd S1 _ _).trans' hu)) (ids := [0]) (by simp) hg2 (mRaw (.inr (.inl rfl))) HTAB.out
  rw [addB] at C2
  have HC2 := Lib.hid C2; have HW2 := Lib.hid hW2
  clear C2 hg2 hbB hW2
  go_wp2_with fail
  rw [← HW2.out]
  refine HC2.out.mono ?_
  rintro e w3 ⟨u2, S2, R2, rfl, ht2, hi2, _, _, _⟩
  have HT2 := Lib.hid ht2; have HI2 := Lib.hid hi2
  clear ht2 hi2 c0 c1 c2 c3 c4 c5 d0 d1 d2 d3 d4 d5
  have hbC : Below w3.heap.size w3 (w3.alloc (.cells #[.bool false, .slice none 0 0, .int .i64 1, .slice none 0 0, .slice none 0 0, .slice none 0 0] 48)) := (Below.refl _ _).alloc (Nat.le_refl _) _
  have hg3 : GrpAt (w3.alloc (.cells #[.bool false, .slice none 0 0, .int .i64 1, .slice none 0 0, .slice none 0 0, .slice none 0 0] 48)) (.slice (some ⟨w3.heap.size, 0, none⟩) 1 1) [mS2] :=
    grp_one (heap_alloc_at _ _ rfl) rfl ⟨_, _, _, _, rfl, RowAt.nil _ _, RowAt.nil _ _, RowAt.nil _ _, RowAt.nil _ _⟩
  have C3 := add_n (HT2.out.below hbC) (fun w' hu => HI2.out w' ((Upd.of_below hbC : Upd S2 _ _).trans' hu)) (ids := [0, 1]) (by simp) hg3 (mRaw (.inr (.inr rfl))) HTAB.out
  rw [addC] at C3
  have HC3 := Lib.hid C3
  clear C3 hg3 hbC
  go_wp2_with fail
  refine HC3.out.mono ?_
  rintro e w4 ⟨u3, S3, R3, rfl, ht3, _, _, _, _⟩
  have HT3 := Lib.hid ht3
  clear ht3
  go_wp2
  go_ret
  have h := HT3.out
  refine ⟨t, S3, R3, rfl, ⟨h.tab, h.ok, fun k hk => Nat.le_trans HB.out.size (h.base k hk), HB.out.trans (h.be.mono HB.out.size)⟩, ?_⟩
  exact tabC_add (tabC_add (tabC_add tabC_nil))
theorem mT0 : mT[0]? = some mS0 := rfl
theorem mC {n : Nat} (h : n < 3) : ClosedP (tabL gsC).length ⟨15, (n : Int)⟩ := .inr ⟨rfl, by simp, by rw [tabC3]; dsimp only [mT, List.length]; omega⟩
theorem mG {k : Int} (h : 1 ≤ k) (h' : k ≤ 12) : ClosedP (tabL gsC).length ⟨k, 0⟩ := .inl ⟨h, h', rfl⟩
theorem mK1 : true = true ↔ HeapP (tabL gsC) ⟨15, 1⟩ ⟨15, 0⟩ := by
  refine ⟨fun _ => ⟨mC (n := 1) (by omega), mC (n := 0) (by omega), .inr (.inl ⟨rfl, 0, ?_, .inl ⟨rfl, rfl⟩⟩)⟩, fun _ => rfl⟩
  rw [tabC3]
  exact UpTo.refl.step (s := ⟨false, [⟨15, 0⟩], 2, [], [], [mF1, mF2]⟩) (h := ⟨15, 0⟩) rfl (by simp) rfl
theorem mK2 : true = true ↔ HeapP (tabL gsC) ⟨15, 1⟩ ⟨1, 0⟩ := by
  refine ⟨fun _ => ⟨mC (n := 1) (by omega), mG (by omega) (by omega), .inr (.inl ⟨rfl, 1, ?_, .inr ⟨by decide, ?_⟩⟩)⟩, fun _ => rfl⟩
  · exact .refl
  · rw [tabC3]; exact ⟨_, rfl, by decide⟩
theorem mK3 : false = true ↔ HeapP (tabL gsC) ⟨15, 1⟩ ⟨7, 0⟩ := by
  refine ⟨fun h => (by cases h), fun h => ?_⟩
  obtain ⟨_, _, h | ⟨_, j, hj, hh⟩ | ⟨h, _⟩ | ⟨h, _⟩⟩ := h
  · simp at h
  · rw [tabC3] at hj hh
    have hz : j = 0 ∨ j = 1 := by
      refine up_in (Z := fun j => j = 0 ∨ j = 1) (.inr rfl) (fun j k s y hj hs hy hk => ?_) hj
      rcases hj with rfl | rfl
      · have : s = mS0 := Option.some.inj hs.symm
        subst this; simp [mS0] at hy
      · have : s = ⟨false, [⟨15, 0⟩], 2, [], [], [mF1, mF2]⟩ := Option.some.inj hs.symm
        subst this
        simp at hy
        subst hy
        dsimp only at hk
        exact .inl (by omega)
    rcases hh with ⟨h, _⟩ | ⟨_, s, hs, hb⟩
    · simp at h
    · rcases hz with rfl | rfl
      · have : s = mS0 := Option.some.inj hs.symm
        subst this; revert hb; decide
      · have : s = ⟨false, [⟨15, 0⟩], 2, [], [], [mF1, mF2]⟩ := Option.some.inj hs.symm
        subst this; revert hb; decide
  · exact absurd rfl h
  · exact absurd rfl h
theorem mK4 : true = true ↔ HeapP (tabL gsC) ⟨6, 0⟩ ⟨15, 1⟩ := by
  refine ⟨fun _ => ⟨mG (by omega) (by omega), mC (n := 1) (by omega), .inr (.inr (.inl ⟨by decide, rfl, ?_⟩))⟩, fun _ => rfl⟩
  rw [tabC3]; exact ⟨_, rfl, by decide⟩
theorem mK5 : false = true ↔ HeapP (tabL gsC) ⟨6, 0⟩ ⟨15, 2⟩ := by
  refine ⟨fun h => (by cases h), fun h => ?_⟩
  obtain ⟨_, _, h | ⟨h, _⟩ | ⟨_, _, s, hs, hk⟩ | ⟨_, h, _⟩⟩ := h
  · simp at h
  · simp at h
  · rw [tabC3] at hs
    have : s = mS2 := Option.some.inj hs.symm
    subst this; revert hk; decide
  · exact absurd rfl h
theorem mK6 : endsV (total gsC) (tabL gsC) ⟨15, 2⟩ = (7, 8) := by decide +kernel
theorem mK7 : endsV (total gsC) (tabL gsC) ⟨3, 0⟩ = (1, 6) := by decide +kernel
theorem heapT_ex (gs : List (List Sb)) : ∃ qB, HeapT gs qB := ⟨fun a b => (boolOf (HeapP (tabL gs) a b)).choose, fun a b => (boolOf (HeapP (tabL gs) a b)).choose_spec⟩
set_option maxRecDepth 100000 in
set_option maxHeartbeats 16000000 in
theorem mknown_any (w : World) (htab : Tab w) : Calls Tryz.prog 31 #[] w fun e w' => e = .returned (.bool true) ∧ Below w.heap.size w w' := by
  obtain ⟨qB, hq⟩ := heapT_ex gsC
  have HQ := Lib.hid hq
  have C3 := Lib.hid (three_any w htab)
  clear htab hq
  go_enter Tryz.func31, Tryz.ntmps31
  go_wp2_with fail
  refine C3.out.mono ?_
  rintro e w1 ⟨t, S, R, rfl, ht, htc⟩
  obtain ⟨W1, hW1⟩ : ∃ W1 : World, W1 = w1.alloc (.cells #[.bool false, .int .u64 2, .int .u64 5, .bool true] 126) := ⟨_, rfl⟩
  have hb1 : Below w1.heap.size w1 W1 := by rw [hW1]; exact (Below.refl _ _).alloc (Nat.le_refl _) _
  have z1 : W1.heap[w1.heap.size]? = some (.cells #[.bool false, .int .u64 2, .int .u64 5, .bool true] 126 (0, 0)) := by rw [hW1]; exact heap_alloc_at _ _ rfl
  have HK := Lib.hid (⟨ht.tab.below hb1, ht.ok, htc⟩ : TabK S R W1 t gsC)
  have HB := Lib.hid (ht.be.trans (hb1.mono ht.be.size))
  have l0 : ∀ x : Ext W1, x.val.cell? ⟨w1.heap.size, 0, none⟩ = some (.bool false) := Ext.cells (heap_cell z1 0)
  have l1 : ∀ x : Ext W1, x.val.cell? ⟨w1.heap.size, 1, none⟩ = some (.int .u64 2) := Ext.cells (heap_cell z1 1)
  have l2 : ∀ x : Ext W1, x.val.cell? ⟨w1.heap.size, 2, none⟩ = some (.int .u64 5) := Ext.cells (heap_cell z1 2)
  have l3 : ∀ x : Ext W1, x.val.cell? ⟨w1.heap.size, 3, none⟩ = some (.bool true) := Ext.cells (heap_cell z1 3)
  have HW1 := Lib.hid hW1
  clear ht htc hb1 z1 hW1
  go_wp2_with fail
  rw [← HW1.out]
  refine (Ext.call ⟨W1, Below.refl _ _⟩ (def_any 1 _)).mono ?_
  rintro e _ ⟨rfl, x0, rfl⟩
  go_wp2_with fail
  refine (Ext.call x0 (def_any 0 _)).mono ?_
  rintro e _ ⟨rfl, x1, rfl⟩
  go_wp2_with fail
  refine (Ext.call x1 (heap_k (h1 := 15) (n1 := 1) (h2 := 15) (n2 := 0) (r := true) (mK1) (HK.out.ext x1))).mono ?_
  rintro e _ ⟨rfl, x2, rfl⟩
  go_wp2_with fail
  refine (Ext.call x2 (def_any 1 _)).mono ?_
  rintro e _ ⟨rfl, x3, rfl⟩
  go_wp2_with fail
  refine (Ext.call x3 (one_any 1 _)).mono ?_
  rintro e _ ⟨rfl, x4, rfl⟩
  go_wp2_with fail
  refine (Ext.call x4 (heap_k (h1 := 15) (n1 := 1) (h2 := 1) (n2 := 0) (r := true) (mK2) (HK.out.ext x4))).mono ?_
  rintro e _ ⟨rfl, x5, rfl⟩
  go_wp2_with fail
  refine (Ext.call x5 (def_any 1 _)).mono ?_
  rintro e _ ⟨rfl, x6, rfl⟩
  go_wp2_with fail
  refine (Ext.call x6 (one_any 7 _)).mono ?_
  rintro e _ ⟨rfl, x7, rfl⟩
  go_wp2_with fail
  refine (Ext.call x7 (heap_k (h1 := 15) (n1 := 1) (h2 := 7) (n2 := 0) (r := false) (mK3) (HK.out.ext x7))).mono ?_
  rintro e _ ⟨rfl, x8, rfl⟩
  go_wp2_with fail
  refine (Ext.call x8 (one_any 6 _)).mono ?_
  rintro e _ ⟨rfl, x9, rfl⟩
  go_wp2_with fail
  refine (Ext.call x9 (def_any 1 _)).mono ?_
  rintro e _ ⟨rfl, x10, rfl⟩
  go_wp2_with fail
  refine (Ext.call x10 (heap_k (h1 := 6) (n1 := 0) (h2 := 15) (n2 := 1) (r := true) (mK4) (HK.out.ext x10))).mono ?_
  rintro e _ ⟨rfl, x11, rfl⟩
  go_wp2_with fail
  refine (Ext.call x11 (one_any 6 _)).mono ?_
  rintro e _ ⟨rfl, x12, rfl⟩
  go_wp2_with fail
  refine (Ext.call x12 (def_any 2 _)).mono ?_
  rintro e _ ⟨rfl, x13, rfl⟩
  go_wp2_with fail
  refine (Ext.call x13 (heap_k (h1 := 6) (n1 := 0) (h2 := 15) (n2 := 2) (r := false) (mK5) (HK.out.ext x13))).mono ?_
  rintro e _ ⟨rfl, x14, rfl⟩
  go_wp2_with fail
  refine (Ext.call x14 (def_any 1 _)).mono ?_
  rintro e _ ⟨rfl, x15, rfl⟩
  go_wp2_with fail
  refine (Ext.call x15 (refTo_any true 15 1 _)).mono ?_
  rintro e _ ⟨rfl, x16, rfl⟩
  go_wp2_with fail
  refine (Ext.call x16 (def_any 0 _)).mono ?_
  rintro e _ ⟨rfl, x17, rfl⟩
  go_wp2_with fail
  refine (Ext.call x17 (refTo_any false 15 0 _)).mono ?_
  rintro e _ ⟨rfl, x18, rfl⟩
  go_wp2_with fail
  refine (Ext.call x18 (val_tab HQ.out t ⟨3, true, 15, 1⟩ ⟨3, false, 15, 0⟩ _ (HK.out.ext x18))).mono ?_
  rw [show valB (closedB (total gsC)) qB ⟨3, true, 15, 1⟩ ⟨3, false, 15, 0⟩ = false by simp [valB, neverB]]
  rintro e _ ⟨rfl, x19, rfl⟩
  go_wp2_with fail
  refine (Ext.call x19 (limits_any ⟨false, 2, 5, true⟩ ⟨false, 1, 0, false⟩ _)).mono ?_
  rw [show limB ⟨false, 2, 5, true⟩ ⟨false, 1, 0, false⟩ = true by rfl]
  rintro e _ ⟨rfl, x20, rfl⟩
  go_wp2_with fail
  refine (Ext.call x20 (limits_any ⟨false, 2, 5, true⟩ ⟨false, 3, 0, false⟩ _)).mono ?_
  rw [show limB ⟨false, 2, 5, true⟩ ⟨false, 3, 0, false⟩ = false by rfl]
  rintro e _ ⟨rfl, x21, rfl⟩
  go_wp2_with fail
  refine (Ext.call x21 (def_any 2 _)).mono ?_
  rintro e _ ⟨rfl, x22, rfl⟩
  go_wp2_with fail
  refine (Ext.call x22 (top_any 15 2 7 8 _ (HK.out.ext x22) mK6)).mono ?_
  rintro e _ ⟨rfl, x23, rfl⟩
  go_wp2_with fail
  refine (Ext.call x23 (one_any 7 _)).mono ?_
  rintro e _ ⟨rfl, x24, rfl⟩
  go_wp2_with fail
  refine (Ext.call x24 (one_any 3 _)).mono ?_
  rintro e _ ⟨rfl, x25, rfl⟩
  go_wp2_with fail
  refine (Ext.call x25 (bottom_any 3 0 1 6 _ (HK.out.ext x25) mK7)).mono ?_
  rintro e _ ⟨rfl, x26, rfl⟩
  go_wp2_with fail
  refine (Ext.call x26 (one_any 6 _)).mono ?_
  rintro e _ ⟨rfl, x27, rfl⟩
  go_wp2
  go_ret
  exact ⟨rfl, HB.out.trans (x27.2.mono HB.out.size)⟩
end Go.Proofs.YtoamhiaagaaaaaaGreatDoor

/- geodelaw10: MatchWidth: its plain law; the closures. -/
namespace Go.Proofs.YtoamhiaagaaaaaaGreatDoor
open Go.RowKit

variable {gs : List (List Sb)} {qB : Hp → Hp → Bool}
/-- A struct type with these fields. -/
def strS (a : Sb) (fs : List Fl) : Sb := ⟨a.fin, a.sups, a.k, a.ps, a.rs, fs⟩
theorem width_law (hq : HeapT gs qB) {a : Sb} {more : List Fl} (hk : a.k = 2) (h : compB (closedB (total gs)) qB a a = true) : compB (closedB (total gs)) qB (strS a (a.fs ++ more)) a = true ∧ (more ≠ [] → compB (closedB (total gs)) qB a (strS a (a.fs ++ more)) = false) := by
  rw [compB_2 hk hk, fieldsB_iff hq] at h
  constructor
  · rw [compB_2 (a := strS a (a.fs ++ more)) hk hk, fieldsB_iff hq]
    refine ⟨by simp [strS], fun i x y hx hy => ?_⟩
    rw [show (strS a (a.fs ++ more)).fs = a.fs ++ more from rfl, List.getElem?_append_left (List.getElem?_eq_some_iff.1 hy).1] at hx
    exact h.2 i x y hx hy
  · intro hm
    rw [compB_2 hk (b := strS a (a.fs ++ more)) hk]
    rw [Bool.eq_false_iff]
    intro e
    have h1 := ((fieldsB_iff hq).1 e).1
    rw [show (strS a (a.fs ++ more)).fs = a.fs ++ more from rfl, List.length_append] at h1
    exact hm (List.length_eq_zero_iff.1 (by omega))
/-- A function type. -/
def fnS (ps rs : List Vl) : Sb := ⟨false, [], 1, ps, rs, []⟩
theorem one_val (cB : Hp → Bool) (hB : Hp → Hp → Bool) (v w : Vl) : valsB cB hB [v] [w] = valB cB hB v w := by
  unfold valsB
  simp [List.range_succ]
theorem no_val (cB : Hp → Bool) (hB : Hp → Hp → Bool) : valsB cB hB [] [] = true := by
  unfold valsB; simp
theorem takes_law (v w : Vl) : compB (closedB (total gs)) qB (fnS [w] []) (fnS [v] []) = valB (closedB (total gs)) qB v w := by
  rw [compB_1 rfl rfl]
  show (valsB _ _ [v] [w] && valsB _ _ [] []) = _
  rw [one_val, no_val, Bool.and_true]
theorem tells_law (v w : Vl) : compB (closedB (total gs)) qB (fnS [] [v]) (fnS [] [w]) = valB (closedB (total gs)) qB v w := by
  rw [compB_1 rfl rfl]
  show (valsB _ _ [] [] && valsB _ _ [v] [w]) = _
  rw [one_val, no_val, Bool.true_and]
theorem null_law {v : Vl} (hk : v.k = 3) (hv : valB (closedB (total gs)) qB v v = true) (hn : v ≠ ⟨3, false, 0, 0⟩) : valB (closedB (total gs)) qB ⟨3, false, v.h, v.n⟩ ⟨3, true, v.h, v.n⟩ = true ∧ valB (closedB (total gs)) qB ⟨3, true, v.h, v.n⟩ ⟨3, false, v.h, v.n⟩ = false := by
  obtain ⟨k, l, h, n⟩ := v
  dsimp only at hk hv hn ⊢
  subst hk
  have hne : neverB ⟨3, l, h, n⟩ = false := by simpa [neverB] using hn
  unfold valB at hv
  rw [if_neg (by simp), if_neg (by simp), if_neg (by simp [hne])] at hv
  simp only [Bool.and_eq_true] at hv
  obtain ⟨⟨h1, _⟩, _, h3⟩ := hv
  have hc : closedB (total gs) ⟨h, n⟩ = true := by
    unfold properB at h1
    rw [if_pos rfl, hne] at h1
    simpa using h1
  have hz : ¬ (h = 0 ∧ n = 0) := by
    rintro ⟨rfl, rfl⟩
    revert hc
    simp [closedB, givenB]
  have n1 : neverB ⟨3, false, h, n⟩ = false := by simpa [neverB] using hz
  have n2 : neverB ⟨3, true, h, n⟩ = false := by simp [neverB]
  have p1 : properB (closedB (total gs)) ⟨3, false, h, n⟩ = true := by unfold properB; rw [if_pos rfl, n1, hc]; rfl
  have p2 : properB (closedB (total gs)) ⟨3, true, h, n⟩ = true := by unfold properB; rw [if_pos rfl, n2, hc]; rfl
  constructor
  · unfold valB
    rw [p1, p2, if_neg (by simp), if_neg (by simp), if_neg (by simp [n1]), h3]; rfl
  · unfold valB
    rw [p1, p2, if_neg (by simp), if_neg (by simp), if_neg (by simp [n2])]; rfl
set_option maxRecDepth 100000 in
theorem takes_any (v : Vl) (w : World) : Calls Tryz.prog 34 #[.agg (cellsV v).toArray] w fun e w' => ∃ a, e = .returned (.agg #[.int .i64 1, .slice (some ⟨a, 0, none⟩) 1 1, .slice none 0 0, .slice none 0 0]) ∧ ValsAt w' (.slice (some ⟨a, 0, none⟩) 1 1) [v] ∧ Below w.heap.size w w' := by
  obtain ⟨k, l, h, n⟩ := v
  simp only [cellsV]
  go_enter Tryz.func34, Tryz.ntmps34
  go_wp2
  refine bodyPost_ret (v := .agg #[.int .i64 1, .slice (some ⟨w.heap.size + 1 + 1, 0, none⟩) 1 1, .slice none 0 0, .slice none 0 0]) (by simp [results, Tryz.results34, go_sem]) rfl ?_
  exact ⟨_, rfl, row_lit (xs := flatV [⟨k, l, h, n⟩]) (heap_alloc_at _ _ (by simp)) rfl, (((Below.refl _ _).alloc (Nat.le_refl _) _).alloc (by simp) _).alloc (by simp; omega) _⟩
set_option maxRecDepth 100000 in
theorem tells_any (v : Vl) (w : World) : Calls Tryz.prog 35 #[.agg (cellsV v).toArray] w fun e w' => ∃ a, e = .returned (.agg #[.int .i64 1, .slice none 0 0, .slice (some ⟨a, 0, none⟩) 1 1, .slice none 0 0]) ∧ ValsAt w' (.slice (some ⟨a, 0, none⟩) 1 1) [v] ∧ Below w.heap.size w w' := by
  obtain ⟨k, l, h, n⟩ := v
  simp only [cellsV]
  go_enter Tryz.func35, Tryz.ntmps35
  go_wp2
  refine bodyPost_ret (v := .agg #[.int .i64 1, .slice none 0 0, .slice (some ⟨w.heap.size + 1 + 1, 0, none⟩) 1 1, .slice none 0 0]) (by simp [results, Tryz.results35, go_sem]) rfl ?_
  exact ⟨_, rfl, row_lit (xs := flatV [⟨k, l, h, n⟩]) (heap_alloc_at _ _ (by simp)) rfl, (((Below.refl _ _).alloc (Nat.le_refl _) _).alloc (by simp) _).alloc (by simp; omega) _⟩
end Go.Proofs.YtoamhiaagaaaaaaGreatDoor

/- package kind: Same, Default. -/
namespace Go.Proofs.YtoamhiaagaaaaaaGreatDoor
open Go.RowKit

theorem sb_ne {s t : Sb} (h : s.fin ≠ t.fin ∨ s.sups ≠ t.sups ∨ s.k ≠ t.k ∨ s.ps ≠ t.ps ∨ s.rs ≠ t.rs ∨ s.fs ≠ t.fs) : decide (s = t) = false := decide_eq_false (fun e => by subst e; simp at h)
set_option maxRecDepth 100000 in
set_option maxHeartbeats 8000000 in
theorem same_any (cs ds : List Value) (s t : Sb) (w : World) (hs : SubAt w cs s) (ht : SubAt w ds t) (hm : Small s) (hm' : Small t) : Calls Tryz.prog 42 #[.agg cs.toArray, .agg ds.toArray] w fun e w' => e = .returned (.bool (decide (s = t))) ∧ Below w.heap.size w w' := by
  obtain ⟨vs, vp, vr, vf, rfl, h1, h2, h3, h4⟩ := hs.ex
  obtain ⟨us, up, ur, uf, rfl, g1, g2, g3, g4⟩ := ht.ex
  have M1 := Lib.hid hm; have M2 := Lib.hid hm'
  obtain ⟨fin, sups, k, lp, lr, lf⟩ := s
  obtain ⟨fin', sups', k', lp', lr', lf'⟩ := t
  dsimp only at h1 h2 h3 h4 g1 g2 g3 g4 ⊢
  obtain ⟨W0, hW⟩ : ∃ W0 : World, W0 = ((w.alloc (.cells #[.bool fin, vs, .int .i64 k, vp, vr, vf] 48)).alloc (.cells #[.bool fin', us, .int .i64 k', up, ur, uf] 48)) := ⟨_, rfl⟩
  have hB : Below w.heap.size w W0 := by rw [hW]; exact (((Below.refl _ _).alloc (by simp) _).alloc (by simp) _)
  have b0_0 : ∀ x : Ext W0, x.val.cell? ⟨w.heap.size, 0, none⟩ = some (.bool fin) := Ext.cells (by rw [hW]; exact heap_cell (heap_alloc_keep (heap_alloc_at _ _ (by simp)) _) 0)
  have b0_1 : ∀ x : Ext W0, x.val.cell? ⟨w.heap.size, 1, none⟩ = some (vs) := Ext.cells (by rw [hW]; exact heap_cell (heap_alloc_keep (heap_alloc_at _ _ (by simp)) _) 1)
  have b0_2 : ∀ x : Ext W0, x.val.cell? ⟨w.heap.size, 2, none⟩ = some (.int .i64 k) := Ext.cells (by rw [hW]; exact heap_cell (heap_alloc_keep (heap_alloc_at _ _ (by simp)) _) 2)
  have b0_3 : ∀ x : Ext W0, x.val.cell? ⟨w.heap.size, 3, none⟩ = some (vp) := Ext.cells (by rw [hW]; exact heap_cell (heap_alloc_keep (heap_alloc_at _ _ (by simp)) _) 3)
  have b0_4 : ∀ x : Ext W0, x.val.cell? ⟨w.heap.size, 4, none⟩ = some (vr) := Ext.cells (by rw [hW]; exact heap_cell (heap_alloc_keep (heap_alloc_at _ _ (by simp)) _) 4)
  have b0_5 : ∀ x : Ext W0, x.val.cell? ⟨w.heap.size, 5, none⟩ = some (vf) := Ext.cells (by rw [hW]; exact heap_cell (heap_alloc_keep (heap_alloc_at _ _ (by simp)) _) 5)
  have b1_0 : ∀ x : Ext W0, x.val.cell? ⟨w.heap.size + 1, 0, none⟩ = some (.bool fin') := Ext.cells (by rw [hW]; exact heap_cell (heap_alloc_at _ _ (by simp)) 0)
  have b1_1 : ∀ x : Ext W0, x.val.cell? ⟨w.heap.size + 1, 1, none⟩ = some (us) := Ext.cells (by rw [hW]; exact heap_cell (heap_alloc_at _ _ (by simp)) 1)
  have b1_2 : ∀ x : Ext W0, x.val.cell? ⟨w.heap.size + 1, 2, none⟩ = some (.int .i64 k') := Ext.cells (by rw [hW]; exact heap_cell (heap_alloc_at _ _ (by simp)) 2)
  have b1_3 : ∀ x : Ext W0, x.val.cell? ⟨w.heap.size + 1, 3, none⟩ = some (up) := Ext.cells (by rw [hW]; exact heap_cell (heap_alloc_at _ _ (by simp)) 3)
  have b1_4 : ∀ x : Ext W0, x.val.cell? ⟨w.heap.size + 1, 4, none⟩ = some (ur) := Ext.cells (by rw [hW]; exact heap_cell (heap_alloc_at _ _ (by simp)) 4)
  have b1_5 : ∀ x : Ext W0, x.val.cell? ⟨w.heap.size + 1, 5, none⟩ = some (uf) := Ext.cells (by rw [hW]; exact heap_cell (heap_alloc_at _ _ (by simp)) 5)
  have HW := Lib.hid hW; have HB := Lib.hid hB
  clear hW hB
  have R1 := Lib.hid (RowAt.below h1 HB.out (Nat.le_refl _)); have R2 := Lib.hid (RowAt.below h2 HB.out (Nat.le_refl _)); have R3 := Lib.hid (RowAt.below h3 HB.out (Nat.le_refl _)); have R4 := Lib.hid (RowAt.below h4 HB.out (Nat.le_refl _))
  have S1 := Lib.hid (RowAt.below g1 HB.out (Nat.le_refl _)); have S2 := Lib.hid (RowAt.below g2 HB.out (Nat.le_refl _)); have S3 := Lib.hid (RowAt.below g3 HB.out (Nat.le_refl _)); have S4 := Lib.hid (RowAt.below g4 HB.out (Nat.le_refl _))
  clear h1 h2 h3 h4 g1 g2 g3 g4 hs ht hm hm'
  by_cases e0 : fin = fin'
  · subst e0
    obtain ⟨b1, hb1⟩ : ∃ b, decide (sups = sups') = b := ⟨_, rfl⟩
    obtain ⟨b2, hb2⟩ : ∃ b, decide (lp = lp') = b := ⟨_, rfl⟩
    obtain ⟨b3, hb3⟩ : ∃ b, decide (lr = lr') = b := ⟨_, rfl⟩
    obtain ⟨b4, hb4⟩ : ∃ b, decide (lf = lf') = b := ⟨_, rfl⟩
    have A1 := Lib.hid hb1; have A2 := Lib.hid hb2; have A3 := Lib.hid hb3; have A4 := Lib.hid hb4
    clear hb1 hb2 hb3 hb4
    go_enter Tryz.func42, Tryz.ntmps42
    go_wp2_with fail
    rw [← HW.out]
    refine ((Ext.call_quiet ⟨W0, Below.refl _ _⟩ (equalH_any _ _ sups sups' _ R1.out S1.out M1.out.sups M2.out.sups))).mono ?_
    rintro e _ ⟨rfl, x1, rfl⟩
    rw [A1.out]
    cases b1
    · go_wp2
      go_ret
      exact ⟨retb (sb_ne (.inr (.inl (of_decide_eq_false A1.out)))).symm, HB.out.trans (x1.2.mono HB.out.size)⟩
    by_cases ek : k = k'
    · subst ek
      go_wp2_with fail
      refine (Ext.call_quiet x1 (sameVals_any _ _ lp lp' _ (RowAt.ext R2.out x1) (RowAt.ext S2.out x1) M1.out.ps M2.out.ps)).mono ?_
      rintro e _ ⟨rfl, x2, rfl⟩
      rw [A2.out]
      cases b2
      · go_wp2
        go_ret
        exact ⟨retb (sb_ne (.inr (.inr (.inr (.inl (of_decide_eq_false A2.out)))))).symm, HB.out.trans (x2.2.mono HB.out.size)⟩
      go_wp2_with fail
      refine (Ext.call_quiet x2 (sameVals_any _ _ lr lr' _ (RowAt.ext R3.out x2) (RowAt.ext S3.out x2) M1.out.rs M2.out.rs)).mono ?_
      rintro e _ ⟨rfl, x3, rfl⟩
      rw [A3.out]
      cases b3
      · go_wp2
        go_ret
        exact ⟨retb (sb_ne (.inr (.inr (.inr (.inr (.inl (of_decide_eq_false A3.out))))))).symm, HB.out.trans (x3.2.mono HB.out.size)⟩
      go_wp2_with fail
      refine (Ext.call_quiet x3 (equalF_any _ _ lf lf' _ (RowAt.ext R4.out x3) (RowAt.ext S4.out x3) M1.out.fs M2.out.fs)).mono ?_
      rintro e _ ⟨rfl, x4, rfl⟩
      rw [A4.out]
      cases b4
      · go_wp2
        go_ret
        exact ⟨retb (sb_ne (.inr (.inr (.inr (.inr (.inr (of_decide_eq_false A4.out))))))).symm, HB.out.trans (x4.2.mono HB.out.size)⟩
      go_wp2
      go_ret
      refine ⟨retb ?_, HB.out.trans (x4.2.mono HB.out.size)⟩
      rw [of_decide_eq_true A1.out, of_decide_eq_true A2.out, of_decide_eq_true A3.out, of_decide_eq_true A4.out]; simp
    · have ek' : (k == k') = false := by simpa using ek
      have NE := Lib.hid (sb_ne (s := ⟨fin, sups, k, lp, lr, lf⟩) (t := ⟨fin, sups', k', lp', lr', lf'⟩) (.inr (.inr (.inl ek))))
      clear ek
      go_wp2
      go_ret
      exact ⟨retb NE.out.symm, HB.out.trans (x1.2.mono HB.out.size)⟩
  · have e0' : (fin == fin') = false := by simpa using e0
    have NE := Lib.hid (sb_ne (s := ⟨fin, sups, k, lp, lr, lf⟩) (t := ⟨fin', sups', k', lp', lr', lf'⟩) (.inl e0))
    clear e0
    go_enter Tryz.func42, Tryz.ntmps42
    go_wp2
    all_goals
      go_ret
      refine ⟨retb ?_, ((Below.refl _ _).alloc (Nat.le_refl _) _).alloc (by simp) _⟩
      rw [NE.out]
def firstV (v : Vl) : Bool := v.k == 1 || v.k == 2 || (v.k == 3 && v.nl)
end Go.Proofs.YtoamhiaagaaaaaaGreatDoor
