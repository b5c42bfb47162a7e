/- geodelaw10: lists of groups, heap types, composite types, fields that came in. -/
import Derived.Test.YtoamhiaagaaaaaaGreatDoorQFnP
import Derived.Test.YtoamhiaagaaaaaaGreatDoorQMaBuilt
import Derived.Test.YtoamhiaagaaaaaaGreatDoorRows
import Derived.Test.YtoamhiaagaaaaaaGreatDoorQMaOrderP
namespace Go.Proofs.YtoamhiaagaaaaaaGreatDoor
open Go.Deep Go.ChangeShapes Go.WideShapes Go.ChangeAt Go.RowKit Go.Joins

set_option maxRecDepth 100000 in
theorem open_heapv {H : Type} {enc : TypeId × Value → H} {W : World} {r : Reach} {b0 base : Nat} {sp : Nat → Bool} {held : Bool} {v : Value} {d : DataW H} {ps : List MemPlace} (hval : Value.okWide Tryz.prog W r b0 26 v) (h : DataW.Trod enc Tryz.prog W base sp held 26 v d ps) :
    ∃ x : Hp, v = .agg (cellsH x).toArray ∧ B64 x.n := by
  obtain ⟨cs, rfl, hs⟩ := okWide_struct Tryz.underlying26 hval
  obtain ⟨fu, hm⟩ := h
  obtain ⟨l⟩ := cs
  obtain ⟨x, h1, h2⟩ := trod_heap hm
  exact ⟨x, by rw [← h1]; simp [Value.cells], h2⟩
section
variable {H : Type} {enc : TypeId × Value → H} {w : World} {base : Nat} {sp : Nat → Bool} {held : Bool}
/-- A group's type, with the cells that it was read out of. -/
abbrev CQ := {cs : List Value // cs.length = 6} × Sb
instance : Inhabited CQ := ⟨⟨⟨List.replicate 6 undef, rfl⟩, ⟨false, [], 0, [], [], []⟩⟩⟩
theorem trod_groupQ {fuel : Nat} {cs : List Value} {x : DataW H × List MemPlace} (h : DataW.trod enc Tryz.prog w base sp held fuel 38 cs = some x) : ∃ (v : Value) (g : List Sb), cs = [v] ∧ GrpAt w v g ∧ ∀ s ∈ g, Small s → Fits s := by
  obtain ⟨v, l, rfl, hr, _, hq⟩ := open_rows (α := CQ) (f := fun a => a.1.1) (Q := fun a => SubAt w a.1.1 a.2 ∧ (Small a.2 → Fits a.2)) (c := 6) Tryz.underlying38 (by kernel_rfl) (by decide) (fun a => a.1.2) (fun _ cs _ h => by
    obtain ⟨s, h1, h2⟩ := trod_sub h
    exact ⟨⟨⟨cs, (one_S h1).1⟩, s⟩, rfl, h1, h2⟩) h
  refine ⟨v, l.map (·.2), rfl, ⟨l.map (·.1.1), by simp, fun c hc => ?_, by rw [List.length_map, ← List.flatMap_def]; exact hr, fun i c y hc hy => ?_⟩, fun s hs => ?_⟩
  · obtain ⟨a, _, rfl⟩ := List.mem_map.1 hc
    exact a.1.2
  · rw [List.getElem?_map] at hc hy
    cases ha : l[i]? with
    | none => rw [ha] at hc; cases hc
    | some a =>
      rw [ha] at hc hy
      simp at hc hy
      subst hc hy
      exact (hq a (List.mem_of_getElem? ha)).1
  · obtain ⟨a, ha, rfl⟩ := List.mem_map.1 hs
    exact (hq a ha).2
/-- A group that came in, with its slice. -/
abbrev CG := Value × Gp
instance : Inhabited CG := ⟨⟨.slice none 0 0, ⟨false, []⟩⟩⟩
set_option maxRecDepth 100000 in
theorem trod_gp {fuel : Nat} {cs : List Value} {x : DataW H × List MemPlace} (h : DataW.trod enc Tryz.prog w base sp held fuel 131 cs = some x) : ∃ a : CG, cs = [.bool a.2.alone, a.1] ∧ GrpAt w a.1 a.2.subs ∧ ∀ s ∈ a.2.subs, Small s → Fits s := by
  obtain ⟨xs, n, _, rfl, hl, hlen, hf⟩ := DataW.trod_struct Tryz.underlying131 h
  match xs, hlen with
  | [y0, y1], _ =>
    have h0 := hf 0 _ rfl; have h1 := hf 1 _ rfl
    have hc : Tryz.prog.cellsOf 131 = 2 := by kernel_rfl
    rw [hc] at hl
    match cs, hl with
    | [c0, c1], _ =>
      have e0 : Tryz.prog.cellsOf 4 = 1 := by kernel_rfl
      have e1 : Tryz.prog.cellsOf 38 = 1 := by kernel_rfl
      simp [e0] at h0
      simp [e1] at h1
      obtain ⟨b, hb, _⟩ := DataW.trod_bool Tryz.underlying4 h0
      obtain ⟨v, g, hv, hg, hq⟩ := trod_groupQ h1
      simp at hb hv
      exact ⟨⟨v, ⟨b, g⟩⟩, by rw [hb, hv], hg, hq⟩
set_option maxRecDepth 100000 in
theorem open_gps {r : Reach} {b0 : Nat} {v : Value} {d : DataW H} {ps : List MemPlace} (hval : Value.okWide Tryz.prog w r b0 74 v) (h : DataW.Trod enc Tryz.prog w base sp held 74 v d ps) : ∃ l : List Gp, GpsAt w v l ∧ RawP l := by
  obtain ⟨fu, hm⟩ := h
  obtain ⟨v', l, hv, h1, _, h3⟩ := open_rows (α := CG) (f := fun a => [.bool a.2.alone, a.1]) (Q := fun a => GrpAt w a.1 a.2.subs ∧ ∀ s ∈ a.2.subs, Small s → Fits s) (c := 2) Tryz.underlying74 (by kernel_rfl) (by decide) (fun _ => rfl) (fun _ _ _ h => trod_gp h) hm
  obtain ⟨sa, sn, sc, rfl⟩ := okWide_slice Tryz.underlying74 hval
  have hy : Value.slice sa sn sc = v' := by simpa [Value.cells] using hv
  subst hy
  refine ⟨l.map (·.2), ⟨l.map (fun a => [.bool a.2.alone, a.1]), by simp, fun c hc => ?_, by rw [List.length_map, ← List.flatMap_def]; exact h1, fun i c g hc hg => ?_⟩, fun g hg => ?_⟩
  · obtain ⟨a, _, rfl⟩ := List.mem_map.1 hc; rfl
  · rw [List.getElem?_map] at hc hg
    cases ha : l[i]? with
    | none => rw [ha] at hc; cases hc
    | some a =>
      rw [ha] at hc hg
      simp at hc hg
      subst hc hg
      exact ⟨a.1, rfl, (h3 a (List.mem_of_getElem? ha)).1⟩
  · obtain ⟨a, ha, rfl⟩ := List.mem_map.1 hg
    exact (h3 a ha).2
end
end Go.Proofs.YtoamhiaagaaaaaaGreatDoor

/- Package match: value types and lists of them, over any table. -/
namespace Go.Proofs.YtoamhiaagaaaaaaGreatDoor
open Go.RowKit

/-- Which value types are proper, which match; cB, hB: which heap types are closed, which match. -/
def properB (cB : Hp → Bool) (v : Vl) : Bool := if v.k = 3 then neverB v || cB ⟨v.h, v.n⟩ else decide (1 ≤ v.k) && decide (v.k ≤ 4) && decide (v = ⟨v.k, false, 0, 0⟩)
def valB (cB : Hp → Bool) (hB : Hp → Hp → Bool) (a b : Vl) : Bool := properB cB a && properB cB b && (if a.k = 4 then true else if a.k ≠ b.k then false else if a.k ≠ 3 ∨ neverB a = true then true else (!a.nl || b.nl) && hB ⟨a.h, a.n⟩ ⟨b.h, b.n⟩)
def zV : Vl := ⟨0, false, 0, 0⟩
def valsB (cB : Hp → Bool) (hB : Hp → Hp → Bool) (l m : List Vl) : Bool := decide (l.length = m.length) && (List.range l.length).all fun i => valB cB hB (l.getD i zV) (m.getD i zV)
/-- hB tells which heap types match over a table. -/
def HeapT (gs : List (List Sb)) (hB : Hp → Hp → Bool) : Prop := ∀ a b, hB a b = true ↔ HeapP (tabL gs) a b
set_option maxHeartbeats 1000000 in
theorem proper_tab {S R : Nat → Prop} {gs : List (List Sb)} (T : Nat) (v : Vl) (w : World) (ht : TabK S R w T gs) : Calls Tryz.prog 71 #[.pointer (some ⟨T, 0, none⟩), .agg (cellsV v).toArray] w fun e w' => e = .returned (.bool (properB (closedB (total gs)) v)) ∧ Below w.heap.size w w' := by
  obtain ⟨k, nl, h, n⟩ := v
  simp only [cellsV]
  obtain ⟨W0, hW⟩ : ∃ W0 : World, W0 = (w.alloc (.cells #[.int .i64 k, .bool nl, .int .i64 h, .int .i64 n] 28)) := ⟨_, rfl⟩
  have hB : Below w.heap.size w W0 := by rw [hW]; exact ((Below.refl _ _).alloc (by simp) _)
  have b0_0 : ∀ x : Ext W0, x.val.cell? ⟨w.heap.size, 0, none⟩ = some (.int .i64 k) := Ext.cells (by rw [hW]; exact heap_cell (heap_alloc_at _ _ (by simp)) 0)
  have b0_1 : ∀ x : Ext W0, x.val.cell? ⟨w.heap.size, 1, none⟩ = some (.bool nl) := Ext.cells (by rw [hW]; exact heap_cell (heap_alloc_at _ _ (by simp)) 1)
  have b0_2 : ∀ x : Ext W0, x.val.cell? ⟨w.heap.size, 2, none⟩ = some (.int .i64 h) := Ext.cells (by rw [hW]; exact heap_cell (heap_alloc_at _ _ (by simp)) 2)
  have b0_3 : ∀ x : Ext W0, x.val.cell? ⟨w.heap.size, 3, none⟩ = some (.int .i64 n) := Ext.cells (by rw [hW]; exact heap_cell (heap_alloc_at _ _ (by simp)) 3)
  have HW := Lib.hid hW; have HB := Lib.hid hB
  clear hW hB
  have H := Lib.hid (ht.below HB.out)
  clear ht
  by_cases hk : k = 3
  · obtain ⟨b, hb⟩ : ∃ b, neverB ⟨k, nl, h, n⟩ = b := ⟨_, rfl⟩
    subst hk
    have HN := Lib.hid hb
    clear hb
    go_enter Tryz.func71, Tryz.ntmps71
    go_wp2_with fail
    rw [← HW.out]
    refine (Ext.call0 (never_any ⟨3, nl, h, n⟩ _)).mono ?_
    rintro e _ ⟨rfl, x1, rfl⟩
    rw [HN.out]
    cases b
    · go_wp2_with fail
      refine (Ext.call x1 (closed_tab h n _ (H.out.ext x1))).mono ?_
      rintro e _ ⟨rfl, x2, rfl⟩
      go_wp2
      go_ret
      exact ⟨retb (by simp [properB, HN.out]), HB.out.trans (x2.2.mono HB.out.size)⟩
    · go_wp2
      go_ret
      exact ⟨retb (by simp [properB, HN.out]), HB.out.trans (x1.2.mono HB.out.size)⟩
  · have hk2 : (k == 3) = false := by simpa using hk
    have HK := Lib.hid hk
    clear hk
    go_enter Tryz.func71, Tryz.ntmps71
    go_wp2
    all_goals
      go_ret
      refine ⟨retb ?_, (Below.refl _ _).alloc (Nat.le_refl _) _⟩
      have := HK.out
      unfold properB
      rw [if_neg (by exact HK.out)]
      first | (simp_all; done) | (simp_all; omega) | (rw [Bool.eq_iff_iff]; simp_all; done)
set_option maxHeartbeats 2000000 in
theorem val_tab {S R : Nat → Prop} {gs : List (List Sb)} {qB : Hp → Hp → Bool} (hq : HeapT gs qB) (T : Nat) (a b : Vl) (w : World) (ht : TabK S R w T gs) : Calls Tryz.prog 36 #[.pointer (some ⟨T, 0, none⟩), .agg (cellsV a).toArray, .agg (cellsV b).toArray] w fun e w' => e = .returned (.bool (valB (closedB (total gs)) qB a b)) ∧ Below w.heap.size w w' := by
  obtain ⟨k1, l1, h1, n1⟩ := a
  obtain ⟨k2, l2, h2, n2⟩ := b
  simp only [cellsV]
  obtain ⟨W0, hW⟩ : ∃ W0 : World, W0 = ((w.alloc (.cells #[.int .i64 k1, .bool l1, .int .i64 h1, .int .i64 n1] 28)).alloc (.cells #[.int .i64 k2, .bool l2, .int .i64 h2, .int .i64 n2] 28)) := ⟨_, rfl⟩
  have hB : Below w.heap.size w W0 := by rw [hW]; exact (((Below.refl _ _).alloc (by simp) _).alloc (by simp) _)
  have b0_0 : ∀ x : Ext W0, x.val.cell? ⟨w.heap.size, 0, none⟩ = some (.int .i64 k1) := Ext.cells (by rw [hW]; exact heap_cell (heap_alloc_keep (heap_alloc_at _ _ (by simp)) _) 0)
  have b0_1 : ∀ x : Ext W0, x.val.cell? ⟨w.heap.size, 1, none⟩ = some (.bool l1) := Ext.cells (by rw [hW]; exact heap_cell (heap_alloc_keep (heap_alloc_at _ _ (by simp)) _) 1)
  have b0_2 : ∀ x : Ext W0, x.val.cell? ⟨w.heap.size, 2, none⟩ = some (.int .i64 h1) := Ext.cells (by rw [hW]; exact heap_cell (heap_alloc_keep (heap_alloc_at _ _ (by simp)) _) 2)
  have b0_3 : ∀ x : Ext W0, x.val.cell? ⟨w.heap.size, 3, none⟩ = some (.int .i64 n1) := Ext.cells (by rw [hW]; exact heap_cell (heap_alloc_keep (heap_alloc_at _ _ (by simp)) _) 3)
  have b1_0 : ∀ x : Ext W0, x.val.cell? ⟨w.heap.size + 1, 0, none⟩ = some (.int .i64 k2) := Ext.cells (by rw [hW]; exact heap_cell (heap_alloc_at _ _ (by simp)) 0)
  have b1_1 : ∀ x : Ext W0, x.val.cell? ⟨w.heap.size + 1, 1, none⟩ = some (.bool l2) := Ext.cells (by rw [hW]; exact heap_cell (heap_alloc_at _ _ (by simp)) 1)
  have b1_2 : ∀ x : Ext W0, x.val.cell? ⟨w.heap.size + 1, 2, none⟩ = some (.int .i64 h2) := Ext.cells (by rw [hW]; exact heap_cell (heap_alloc_at _ _ (by simp)) 2)
  have b1_3 : ∀ x : Ext W0, x.val.cell? ⟨w.heap.size + 1, 3, none⟩ = some (.int .i64 n2) := Ext.cells (by rw [hW]; exact heap_cell (heap_alloc_at _ _ (by simp)) 3)
  have HW := Lib.hid hW; have HB := Lib.hid hB
  clear hW hB
  have H := Lib.hid (ht.below HB.out)
  clear ht
  go_enter Tryz.func36, Tryz.ntmps36
  go_wp2_with fail
  rw [← HW.out]
  refine (Ext.call0 (absent_tab _ H.out)).mono ?_
  rintro e _ ⟨rfl, x1, rfl⟩
  go_wp2_with fail
  refine (Ext.call x1 (proper_tab T ⟨k1, l1, h1, n1⟩ _ (H.out.ext x1))).mono ?_
  rintro e _ ⟨rfl, x2, rfl⟩
  rcases g1 : properB (closedB (total gs)) ⟨k1, l1, h1, n1⟩ with _ | _
  · go_wp2
    go_ret
    exact ⟨retb (by simp [valB, g1]), HB.out.trans (x2.2.mono HB.out.size)⟩
  · have G1 := Lib.hid g1
    clear g1
    go_wp2_with fail
    refine (Ext.call x2 (proper_tab T ⟨k2, l2, h2, n2⟩ _ (H.out.ext x2))).mono ?_
    rintro e _ ⟨rfl, x3, rfl⟩
    rcases g2 : properB (closedB (total gs)) ⟨k2, l2, h2, n2⟩ with _ | _
    · go_wp2
      go_ret
      exact ⟨retb (by simp [valB, g2]), HB.out.trans (x3.2.mono HB.out.size)⟩
    · have G2 := Lib.hid g2
      clear g2
      by_cases e1 : k1 = 4
      · subst e1
        go_wp2
        go_ret
        exact ⟨retb (by simp [valB, G1.out, G2.out]), HB.out.trans (x3.2.mono HB.out.size)⟩
      · by_cases e2 : k1 = k2
        · subst e2
          have E1 := Lib.hid e1
          have e1' : (k1 == 4) = false := by simpa using e1
          clear e1
          by_cases e3 : k1 = 3
          · subst e3
            obtain ⟨nb, hn⟩ : ∃ b, neverB ⟨3, l1, h1, n1⟩ = b := ⟨_, rfl⟩
            have HN := Lib.hid hn
            clear hn e1'
            go_wp2_with fail
            refine (Ext.call x3 (never_any ⟨3, l1, h1, n1⟩ _)).mono ?_
            rintro e _ ⟨rfl, x4, rfl⟩
            rw [HN.out]
            cases nb
            · cases l1
              · go_wp2_with fail
                refine (Ext.call x4 (heap_k (hq ⟨h1, n1⟩ ⟨h2, n2⟩) (H.out.ext x4))).mono ?_
                rintro e _ ⟨rfl, x5, rfl⟩
                go_wp2
                go_ret
                exact ⟨retb (by simp [valB, G1.out, G2.out, HN.out]), HB.out.trans (x5.2.mono HB.out.size)⟩
              · cases l2
                · go_wp2
                  go_ret
                  exact ⟨retb (by simp [valB, G1.out, G2.out, HN.out]), HB.out.trans (x4.2.mono HB.out.size)⟩
                · go_wp2_with fail
                  refine (Ext.call x4 (heap_k (hq ⟨h1, n1⟩ ⟨h2, n2⟩) (H.out.ext x4))).mono ?_
                  rintro e _ ⟨rfl, x5, rfl⟩
                  go_wp2
                  go_ret
                  exact ⟨retb (by simp [valB, G1.out, G2.out, HN.out]), HB.out.trans (x5.2.mono HB.out.size)⟩
            · go_wp2
              go_ret
              exact ⟨retb (by simp [valB, G1.out, G2.out, HN.out]), HB.out.trans (x4.2.mono HB.out.size)⟩
          · have e3' : (k1 == 3) = false := by simpa using e3
            have e3'' : (k1 != 3) = true := by simpa using e3
            have E3 := Lib.hid e3
            clear e3
            go_wp2
            go_ret
            exact ⟨retb (by simp [valB, G1.out, G2.out, E1.out, E3.out]), HB.out.trans (x3.2.mono HB.out.size)⟩
        · have E1 := Lib.hid e1; have E2 := Lib.hid e2
          have e1' : (k1 == 4) = false := by simpa using e1
          have e2' : (k1 != k2) = true := by simpa using e2
          clear e1 e2
          go_wp2
          go_ret
          exact ⟨retb (by simp [valB, G1.out, G2.out, E1.out, E2.out]), HB.out.trans (x3.2.mono HB.out.size)⟩
theorem clos_tab {S R : Nat → Prop} {gs : List (List Sb)} {qB : Hp → Hp → Bool} (hq : HeapT gs qB) (T p : Nat) (a b : Vl) (w : World) (ht : TabK S R w T gs) (hp : w.cell? ⟨p, 0, none⟩ = some (.pointer (some ⟨T, 0, none⟩))) : Calls Tryz.prog 100 #[.agg (cellsV a).toArray, .agg (cellsV b).toArray, .pointer (some ⟨p, 0, none⟩)] w fun e w' => e = .returned (.bool (valB (closedB (total gs)) qB a b)) ∧ Below w.heap.size w w' := by
  obtain ⟨k1, l1, h1, n1⟩ := a
  obtain ⟨k2, l2, h2, n2⟩ := b
  simp only [cellsV]
  obtain ⟨W0, hW⟩ : ∃ W0 : World, W0 = ((w.alloc (.cells #[.int .i64 k1, .bool l1, .int .i64 h1, .int .i64 n1] 28)).alloc (.cells #[.int .i64 k2, .bool l2, .int .i64 h2, .int .i64 n2] 28)) := ⟨_, rfl⟩
  have hB : Below w.heap.size w W0 := by rw [hW]; exact (((Below.refl _ _).alloc (by simp) _).alloc (by simp) _)
  have b0_0 : ∀ x : Ext W0, x.val.cell? ⟨w.heap.size, 0, none⟩ = some (.int .i64 k1) := Ext.cells (by rw [hW]; exact heap_cell (heap_alloc_keep (heap_alloc_at _ _ (by simp)) _) 0)
  have b0_1 : ∀ x : Ext W0, x.val.cell? ⟨w.heap.size, 1, none⟩ = some (.bool l1) := Ext.cells (by rw [hW]; exact heap_cell (heap_alloc_keep (heap_alloc_at _ _ (by simp)) _) 1)
  have b0_2 : ∀ x : Ext W0, x.val.cell? ⟨w.heap.size, 2, none⟩ = some (.int .i64 h1) := Ext.cells (by rw [hW]; exact heap_cell (heap_alloc_keep (heap_alloc_at _ _ (by simp)) _) 2)
  have b0_3 : ∀ x : Ext W0, x.val.cell? ⟨w.heap.size, 3, none⟩ = some (.int .i64 n1) := Ext.cells (by rw [hW]; exact heap_cell (heap_alloc_keep (heap_alloc_at _ _ (by simp)) _) 3)
  have b1_0 : ∀ x : Ext W0, x.val.cell? ⟨w.heap.size + 1, 0, none⟩ = some (.int .i64 k2) := Ext.cells (by rw [hW]; exact heap_cell (heap_alloc_at _ _ (by simp)) 0)
  have b1_1 : ∀ x : Ext W0, x.val.cell? ⟨w.heap.size + 1, 1, none⟩ = some (.bool l2) := Ext.cells (by rw [hW]; exact heap_cell (heap_alloc_at _ _ (by simp)) 1)
  have b1_2 : ∀ x : Ext W0, x.val.cell? ⟨w.heap.size + 1, 2, none⟩ = some (.int .i64 h2) := Ext.cells (by rw [hW]; exact heap_cell (heap_alloc_at _ _ (by simp)) 2)
  have b1_3 : ∀ x : Ext W0, x.val.cell? ⟨w.heap.size + 1, 3, none⟩ = some (.int .i64 n2) := Ext.cells (by rw [hW]; exact heap_cell (heap_alloc_at _ _ (by simp)) 3)
  have HW := Lib.hid hW; have HB := Lib.hid hB
  clear hW hB
  have H := Lib.hid (ht.below HB.out)
  clear ht
  have hp2 : W0.cell? ⟨p, 0, none⟩ = some (.pointer (some ⟨T, 0, none⟩)) := by rw [HB.out.cell (World.block_lt_of_cell? _ _ hp)]; exact hp
  rw [HW.out] at hp2
  go_enter Tryz.func100, Tryz.ntmps100
  go_wp2_with fail
  rw [← HW.out]
  refine (Ext.call0 (val_tab hq T ⟨k1, l1, h1, n1⟩ ⟨k2, l2, h2, n2⟩ _ H.out)).mono ?_
  rintro e _ ⟨rfl, x1, rfl⟩
  go_wp2
  go_ret
  exact ⟨rfl, HB.out.trans (x1.2.mono HB.out.size)⟩
set_option maxHeartbeats 2000000 in
theorem equalFunc_tab {S R : Nat → Prop} {gs : List (List Sb)} {qB : Hp → Hp → Bool} (hq : HeapT gs qB) (T p : Nat) (a b : Value) (l m : List Vl) (w : World) (ha : ValsAt w a l) (hb : ValsAt w b m) (hl : l.length ≤ 1000000) (hm : m.length ≤ 1000000) (ht : TabK S R w T gs) (hp : w.cell? ⟨p, 0, none⟩ = some (.pointer (some ⟨T, 0, none⟩))) :
    Calls Tryz.prog 99 #[a, b, .func (.func 100) #[] #[.pointer (some ⟨p, 0, none⟩)]] w fun e w' => e = .returned (.bool (valsB (closedB (total gs)) qB l m)) ∧ Below w.heap.size w w' := by
  obtain ⟨ao, ca, rfl⟩ := RowAt.form ha
  obtain ⟨bo, cb, rfl⟩ := RowAt.form hb
  by_cases hlen : l.length = m.length
  · have HA := Lib.hid ha
    have HB := Lib.hid hb
    have HT := Lib.hid ht
    have HP := Lib.hid hp
    clear ha hb ht hp
    rw [← hlen]
    have HL := Lib.hid hlen
    clear hlen hm
    go_enter Tryz.func99, Tryz.ntmps99
    go_wp2
    go_loopw [17] (fun t17 wr => ∃ i : Nat, i ≤ l.length ∧ t17 = .int .i64 i ∧ (∀ j, j < i → valB (closedB (total gs)) qB (l.getD j zV) (m.getD j zV) = true) ∧ ∃ x : Ext w, wr = x.val) (fun t17 _ => l.length - (intOf t17).toNat)
    case atStart => exact ⟨0, by omega, rfl, fun j hj => by omega, ⟨_, Below.refl _ _⟩, rfl⟩
    case round =>
      obtain ⟨i, hi, rfl, hall, x, rfl⟩ := hrel
      have HALL := Lib.hid hall
      clear hall
      by_cases hlt : i < l.length
      · have hlt2 : i < m.length := by rw [← HL.out]; exact hlt
        obtain ⟨⟨k1, n1, h1, m1⟩, hx⟩ : ∃ x, l[i]? = some x := ⟨l[i], by simp [hlt]⟩
        obtain ⟨⟨k2, n2, h2, m2⟩, hy⟩ : ∃ y, m[i]? = some y := ⟨m[i], by simp [hlt2]⟩
        obtain ⟨b1, o1, e1, _, p0, p1, p2, p3⟩ := vals_at (HA.out.below x.2 (Nat.le_refl _)) hx
        obtain ⟨b2, o2, e2, nq, q0, q1, q2, q3⟩ := vals_at (HB.out.below x.2 (Nat.le_refl _)) hy
        subst e1 e2
        dsimp only at p0 p1 p2 p3 q0 q1 q2 q3
        have hx' : l.getD i zV = ⟨k1, n1, h1, m1⟩ := by rw [List.getD_eq_getElem?_getD, hx]; rfl
        have hy' : m.getD i zV = ⟨k2, n2, h2, m2⟩ := by rw [List.getD_eq_getElem?_getD, hy]; rfl
        have HX := Lib.hid hx'; have HY := Lib.hid hy'
        have hlt' : (i : Int) < l.length := by omega
        clear hx hy hx' hy' hlt2
        go_wp2_with fail
        have hb2 : Below w.heap.size w ((x.val.alloc (.cells #[.int .i64 k1, .bool n1, .int .i64 h1, .int .i64 m1] 28)).alloc (.cells #[.int .i64 k2, .bool n2, .int .i64 h2, .int .i64 m2] 28)) := (x.2.alloc x.2.size _).alloc (by have := x.2.size; simp; omega) _
        refine (Ext.call ⟨_, hb2⟩ (clos_tab hq T p ⟨k1, n1, h1, m1⟩ ⟨k2, n2, h2, m2⟩ _ (HT.out.below hb2) (by rw [hb2.cell (World.block_lt_of_cell? _ _ HP.out)]; exact HP.out))).mono ?_
        rintro e _ ⟨rfl, x2, rfl⟩
        rcases hv : valB (closedB (total gs)) qB ⟨k1, n1, h1, m1⟩ ⟨k2, n2, h2, m2⟩ with _ | _
        · have HV := Lib.hid hv
          clear hv
          go_wp2
          go_ret
          refine ⟨retb ?_, x2.2⟩
          symm
          simp only [valsB, Bool.and_eq_false_iff]
          right
          rw [List.all_eq_false]
          exact ⟨i, List.mem_range.2 hlt, by rw [HX.out, HY.out, HV.out]; simp⟩
        · have HV := Lib.hid hv
          clear hv
          go_wp2
          go_roundw
          case rel => exact ⟨i + 1, by omega, by go_num, fun j hj => by
            by_cases hji : j < i
            · exact HALL.out j hji
            · obtain rfl : j = i := by omega
              rw [HX.out, HY.out, HV.out], x2, rfl⟩
          case measure => simp [intOf]; omega
      · obtain rfl : i = l.length := by omega
        go_wp2
        go_ret
        refine ⟨retb ?_, x.2⟩
        symm
        simp only [valsB, Bool.and_eq_true, decide_eq_true_eq, List.all_eq_true, List.mem_range]
        exact ⟨HL.out, HALL.out⟩
  · have hne : valsB (closedB (total gs)) qB l m = false := by simp [valsB, hlen]
    have h1 : ((l.length : Int) != (m.length : Int)) = true := by simpa using fun h => hlen (by omega)
    have NE := Lib.hid hne
    clear hne ha hb hlen
    go_enter Tryz.func99, Tryz.ntmps99
    go_wp2
    go_ret
    exact ⟨retb NE.out.symm, Below.refl _ _⟩
theorem matches_tab {S R : Nat → Prop} {gs : List (List Sb)} {qB : Hp → Hp → Bool} (hq : HeapT gs qB) (T : Nat) (a b : Value) (l m : List Vl) (w : World) (ha : ValsAt w a l) (hb : ValsAt w b m) (hl : l.length ≤ 1000000) (hm : m.length ≤ 1000000) (ht : TabK S R w T gs) :
    Calls Tryz.prog 69 #[a, .pointer (some ⟨T, 0, none⟩), b] w fun e w' => e = .returned (.bool (valsB (closedB (total gs)) qB l m)) ∧ Below w.heap.size w w' := by
  have hmf : ∀ (fn : Fn) (first cap : Array Value) (w : World), (Instr.makeFunc fn first cap).run Tryz.prog w = .ok (.func fn first cap) w := fun _ _ _ _ => rfl
  obtain ⟨W0, hW⟩ : ∃ W0 : World, W0 = (w.alloc (.cells #[.pointer (some ⟨T, 0, none⟩)] 30)) := ⟨_, rfl⟩
  have hB : Below w.heap.size w W0 := by rw [hW]; exact ((Below.refl _ _).alloc (by simp) _)
  have b0_0 : ∀ x : Ext W0, x.val.cell? ⟨w.heap.size, 0, none⟩ = some (.pointer (some ⟨T, 0, none⟩)) := Ext.cells (by rw [hW]; exact heap_cell (heap_alloc_at _ _ (by simp)) 0)
  have HW := Lib.hid hW; have HB := Lib.hid hB
  clear hW hB
  have HA := Lib.hid (RowAt.below ha HB.out (Nat.le_refl _)); have HBv := Lib.hid (RowAt.below hb HB.out (Nat.le_refl _)); have HT := Lib.hid (ht.below HB.out)
  clear ha hb ht
  go_enter Tryz.func69, Tryz.ntmps69
  go_wp2_with fail
  rw [← HW.out]
  refine (Ext.call0 (equalFunc_tab hq T w.heap.size a b l m _ HA.out HBv.out hl hm HT.out (b0_0 ⟨_, Below.refl _ _⟩))).mono ?_
  rintro e _ ⟨rfl, x1, rfl⟩
  go_wp2
  go_ret
  exact ⟨rfl, HB.out.trans (x1.2.mono HB.out.size)⟩
end Go.Proofs.YtoamhiaagaaaaaaGreatDoor
