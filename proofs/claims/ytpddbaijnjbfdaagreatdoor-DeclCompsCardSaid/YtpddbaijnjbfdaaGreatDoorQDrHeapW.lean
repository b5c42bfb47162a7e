import Derived.Test.YtpddbaijnjbfdaaGreatDoorQMaClimb
namespace Go.Proofs.YtpddbaijnjbfdaaGreatDoor
open Lib (hid)
open Go.RowKit
variable {R : Nat → Prop} {t : Nat} {gs : List (List Sb)}
set_option maxRecDepth 100000 in
set_option maxHeartbeats 4000000 in
theorem comp_ref {id : Nat} {y : Sb} (w : World) (h : RfK R w t gs) (hy : (tabL gs)[id]? = some y) : Calls Tryz.prog 121 #[.pointer (some ⟨t, 0, none⟩), .int .i64 id] w fun e w' => e = .returned (.int .i64 y.k) ∧ Below w.heap.size w w' := by
  have C := hid (rfGet h hy)
  clear h hy
  go_enter Tryz.func121, Tryz.ntmps121
  go_wp2_with fail
  refine C.out.mono ?_
  rintro e w1 ⟨ds, rfl, hsub, hb1⟩
  obtain ⟨a1, l1, a2, l2, a3, l3, a4, l4, rfl⟩ := (hsub w1 (Upd.refl _ _)).out
  have HB1 := hid hb1
  clear hsub hb1
  go_wp2
  go_ret
  exact ⟨rfl, HB1.out.alloc HB1.out.size _⟩
set_option maxRecDepth 100000 in
theorem idx_kind {k : Int} (h : k = 1 ∨ k = 2 ∨ k = 3) : ∀ w, (Instr.index 234 (.agg #[.int .i64 0, .int .i64 7, .int .i64 4, .int .i64 5]) (.int .i64 k)).run Tryz.prog w = .ok (.int .i64 (kindK k)) w := by
  rcases h with rfl | rfl | rfl <;> exact fun w => by kernel_rfl
def natC (il : List Nat) : List Value := il.map fun x => .int .i64 (x : Nat)
theorem contains_of {il : List Nat} {x : Nat} (h : x ∈ il) : true = il.contains x := by symm; simpa using h
theorem mem_of_contains {il : List Nat} {x : Nat} (h : il.contains x = true) : x ∈ il := by simpa using h
theorem natC_at {il : List Nat} {j x : Nat} (h : il[j]? = some x) : (natC il)[j]? = some (.int .i64 (x : Nat)) := by simp [natC, h]
set_option maxRecDepth 100000 in
set_option maxHeartbeats 4000000 in
theorem stands_ref {w : World} {B : Nat} {v : Value} {il : List Nat} {n : Nat} (h : w.ownsRow B 3 1 v n (natC il)) (hn : il.length = n) (hl : n ≤ 1000000) (k : Nat) : Calls Tryz.prog 122 #[v, .int .i64 k] w fun e w' => e = .returned (.bool (il.contains k)) ∧ w' = w := by
  obtain ⟨ao, cap, rfl, _⟩ := ownsRow_form h
  have H := hid h; have HN := hid hn; have HL := hid hl
  clear h hn hl
  go_enter Tryz.func122, Tryz.ntmps122
  go_wp2
  go_loopw [5] (fun vi wr => ∃ i : Nat, vi = .int .i64 i ∧ i ≤ n ∧ (∀ (j x : Nat), j < i → il[j]? = some x → x ≠ k) ∧ wr = w) (fun vi _ => n - (intOf vi).toNat)
  case atStart => exact ⟨0, rfl, Nat.zero_le _, fun j x h => absurd h (Nat.not_lt_zero _), rfl⟩
  case round =>
    obtain ⟨i, rfl, hi, hno, rfl⟩ := hrel
    have HNO := hid hno
    clear hno
    by_cases hlt : i < n
    · obtain ⟨x, hx⟩ : ∃ x, il[i]? = some x := ⟨il[i]'(by rw [HN.out]; exact hlt), by simp⟩
      obtain ⟨g, rfl, hc, hcp⟩ : ∃ g, ao = some ⟨g, 0, none⟩ ∧ wr.cell? ⟨g, i, none⟩ = some (.int .i64 (x : Nat)) ∧ n ≤ cap := by
        rcases H.out.2 with ⟨e, h0⟩ | ⟨g, cap', cur, e, hg, hh, hc, _, _, _⟩
        · omega
        · simp only [Value.slice.injEq] at e
          obtain ⟨rfl, _, rfl⟩ := e
          refine ⟨g, rfl, ?_, hc⟩
          have := H.out.cells (g := g) rfl i _ (natC_at hx)
          rw [Addr.add_lit, Nat.zero_add] at this
          exact this
      have hlt' : (i : Int) < n := by omega
      have hi6 : (i : Int) < 1000000 := by have := HL.out; omega
      have HX := hid hx; have HLT := hid hlt
      clear hx hlt hi
      by_cases hxb : x = k
      · subst hxb
        go_wp2
        go_ret
        exact ⟨retb (contains_of (List.mem_of_getElem? HX.out)), by first | exact rfl | exact True.intro⟩
      · have e0 : ¬ (x : Int) = k := by omega
        have e1 : ((x : Int) == k) = false := by rw [beq_eq_false_iff_ne]; exact e0
        have HXB := hid hxb
        clear hxb
        go_wp2
        go_roundw
        case rel => exact ⟨i + 1, by go_num, HLT.out, fun j y hj hy => by
          by_cases e : j = i
          · subst e; obtain rfl := Option.some.inj (HX.out.symm.trans hy); exact HXB.out
          · exact HNO.out j y (by omega) hy, by first | exact rfl | exact True.intro⟩
        case measure => have := HLT.out; simp [intOf]; omega
    · obtain rfl : i = n := by omega
      have hlt' : ¬ (i : Int) < i := by omega
      clear hlt hi
      go_wp2
      go_ret
      refine ⟨retb ?_, by first | exact rfl | exact True.intro⟩
      symm
      rw [Bool.eq_false_iff]
      intro h
      obtain ⟨j, hj⟩ := List.getElem?_of_mem (by simpa using h)
      exact HNO.out j k (by have := (List.getElem?_eq_some_iff.1 hj).1; rw [HN.out] at this; exact this) hj rfl
theorem own_natC {W : World} {g n B : Nat} {xs : List Nat} (h : W.heap[g]? = some (.cells (natC xs).toArray 3 (0, 0))) (hn : xs.length = n) (hm : n ≤ 1000000) (hB : B ≤ g) : W.ownsRow B 3 1 (.slice (some ⟨g, 0, none⟩) n n) n (natC xs) := by
  have hm' : n ≤ maxLen := Nat.le_trans hm (by decide)
  refine ⟨by simp [natC, hn], .inr ⟨g, n, _, rfl, hB, h, Nat.le_refl _, hm', by simp [natC, hn], ?_⟩⟩
  rw [List.take_of_length_le (by simp [natC, hn])]
theorem own_natC_at {W : World} {ao : Option Addr} {B n cap : Nat} {il : List Nat} (H : W.ownsRow B 3 1 (.slice ao n cap) n (natC il)) {i x : Nat} (hx : il[i]? = some x) (hlt : i < n) : ∃ g, ao = some ⟨g, 0, none⟩ ∧ W.cell? ⟨g, i, none⟩ = some (.int .i64 (x : Nat)) ∧ n ≤ cap := by
  rcases H.2 with ⟨e, h0⟩ | ⟨g, cap', cur, e, hg, hh, hc, _, _, _⟩
  · omega
  · simp only [Value.slice.injEq] at e
    obtain ⟨rfl, _, rfl⟩ := e
    refine ⟨g, rfl, ?_, hc⟩
    have := H.cells (g := g) rfl i _ (natC_at hx)
    rw [Addr.add_lit, Nat.zero_add] at this
    exact this
set_option maxRecDepth 100000 in
set_option maxHeartbeats 8000000 in
theorem heap_ref {h1 n1 h2 n2 : Int} {r : Bool} (hr : r = true ↔ HeapP (tabL gs) ⟨h1, n1⟩ ⟨h2, n2⟩) (hS : SupT (tabL gs)) (w : World) (ht : RfK R w t gs) : Calls Tryz.prog 107 #[.pointer (some ⟨t, 0, none⟩), .agg #[.int .i64 h1, .int .i64 n1], .agg #[.int .i64 h2, .int .i64 n2]] w fun e w' => e = .returned (.bool r) ∧ Below w.heap.size w w' := by
  obtain ⟨i0, hi, hz0, hz1, hz2⟩ := info_parts Tryz.infoInt
  have Hi := hid hi; have Hz0 := hid hz0; have Hz1 := hid hz1; have Hz2 := hid hz2
  clear hi hz0 hz1 hz2
  obtain ⟨W0, hW⟩ : ∃ W0 : World, W0 = ((w.alloc (.cells #[.int .i64 h1, .int .i64 n1] 75)).alloc (.cells #[.int .i64 h2, .int .i64 n2] 75)) := ⟨_, rfl⟩
  have hB : Below w.heap.size w W0 := by rw [hW]; exact (((Below.refl _ _).alloc (by simp) _).alloc (by simp) _)
  have a0 : ∀ x : Ext W0, x.val.cell? ⟨w.heap.size, 0, none⟩ = some (.int .i64 h1) := Ext.cells (by rw [hW]; exact heap_cell (heap_alloc_keep (heap_alloc_at _ _ (by simp)) _) 0)
  have a1 : ∀ x : Ext W0, x.val.cell? ⟨w.heap.size, 1, none⟩ = some (.int .i64 n1) := Ext.cells (by rw [hW]; exact heap_cell (heap_alloc_keep (heap_alloc_at _ _ (by simp)) _) 1)
  have b0 : ∀ x : Ext W0, x.val.cell? ⟨w.heap.size + 1, 0, none⟩ = some (.int .i64 h2) := Ext.cells (by rw [hW]; exact heap_cell (heap_alloc_at _ _ (by simp)) 0)
  have b1 : ∀ x : Ext W0, x.val.cell? ⟨w.heap.size + 1, 1, none⟩ = some (.int .i64 n2) := Ext.cells (by rw [hW]; exact heap_cell (heap_alloc_at _ _ (by simp)) 1)
  have HW := hid hW; have HB := hid hB; have HR := hid hr; have HS := hid hS
  have H := hid (ht.below hB)
  clear hW hB hr hS ht
  go_enter Tryz.func107, Tryz.ntmps107
  go_wp2_with fail
  rw [← HW.out]
  refine (Ext.call0 (is_ref h1 n1 _ H.out)).mono ?_
  rintro e _ ⟨rfl, x1, rfl⟩
  rcases g1 : closedB (total gs) ⟨h1, n1⟩ with _ | _
  · have G1 := hid g1
    clear g1
    go_wp2
    go_ret
    refine ⟨retb ?_, HB.out.trans (x1.2.mono HB.out.size)⟩
    symm
    rw [Bool.eq_false_iff]
    intro h
    have := (HR.out.1 h).1
    rw [tabL_len] at this
    rw [closed_iff.2 this] at G1
    exact absurd G1.out (by decide)
  · have g1' := g1
    have G1 := hid g1
    clear g1
    go_wp2_with fail
    refine (Ext.call x1 (is_ref h2 n2 _ (H.out.ext x1))).mono ?_
    rintro e _ ⟨rfl, x2, rfl⟩
    rcases g2 : closedB (total gs) ⟨h2, n2⟩ with _ | _
    · have G2 := hid g2
      clear g2
      go_wp2
      go_ret
      refine ⟨retb ?_, HB.out.trans (x2.2.mono HB.out.size)⟩
      symm
      rw [Bool.eq_false_iff]
      intro h
      have := (HR.out.1 h).2.1
      rw [tabL_len] at this
      rw [closed_iff.2 this] at G2
      exact absurd G2.out (by decide)
    · have CA := hid (show ClosedP (tabL gs).length ⟨h1, n1⟩ by rw [tabL_len]; exact closed_iff.1 g1')
      have CB := hid (show ClosedP (tabL gs).length ⟨h2, n2⟩ by rw [tabL_len]; exact closed_iff.1 g2)
      clear g1' g2
      by_cases k1 : h1 = 15
      · obtain ⟨m, hm, hml⟩ : ∃ m : Nat, n1 = m ∧ m < (tabL gs).length := by
          rcases CA.out with q | ⟨_, q1, q2⟩
          · exact absurd k1 (by have := q.2.1; dsimp only at this; omega)
          · dsimp only at q1 q2; exact ⟨n1.toNat, by omega, by omega⟩
        subst k1 hm
        have HE := hid (show r = true ↔ ClimbP (tabL gs) m ⟨h2, n2⟩ from HR.out.trans (heapP_up CA.out CB.out rfl))
        have HML := hid hml
        clear hml
        go_wp2
        obtain ⟨W9, hW9⟩ : ∃ W9 : World, W9 = x2.val.alloc (.cells #[.int .i64 (m : Nat)] 3) := ⟨_, rfl⟩
        obtain ⟨q0, hq0⟩ : ∃ q, x2.val.heap.size = q := ⟨_, rfl⟩
        have hrow : W9.ownsRow q0 3 1 (.slice (some ⟨q0, 0, none⟩) 1 1) 1 (natC [m]) := own_natC (by rw [hW9]; exact heap_alloc_at _ _ hq0.symm) rfl (by decide) (Nat.le_refl _)
        have hx9 : Below W0.heap.size W0 W9 := by rw [hW9]; exact x2.2.alloc x2.2.size _
        have HROW := hid hrow; have HX9 := hid hx9
        have HQ0 := hid (show W0.heap.size ≤ q0 by rw [← hq0]; exact x2.2.size)
        have HQ9 := hid (show q0 ≤ W9.heap.size by rw [hW9, ← hq0]; simp)
        rw [← hW9, hq0]
        clear hW9 hq0 hrow hx9
        go_loopw [8, 9] (fun v8 v9 wr => ∃ (il : List Nat) (i : Nat) (v : Value), v8 = v ∧ v9 = .int .i64 (i : Nat) ∧ ChainR (tabL gs) m ⟨h2, n2⟩ il i ∧ wr.ownsRow q0 3 1 v il.length (natC il) ∧ q0 ≤ wr.heap.size ∧ ∃ x : Ext W0, wr = x.val) (fun _ v9 _ => total gs + 1 - (intOf v9).toNat)
        case atStart => exact ⟨[m], 0, _, rfl, rfl, ChainR.start m _, HROW.out, HQ9.out, ⟨_, HX9.out⟩, rfl⟩
        case round =>
          obtain ⟨il, i, v, rfl, rfl, hc, hrow, hqs, x, rfl⟩ := hrel
          obtain ⟨ao, cap, rfl, _⟩ := ownsRow_form hrow
          obtain ⟨n, hn⟩ : ∃ n, il.length = n := ⟨_, rfl⟩
          rw [hn] at hrow ⊢
          have HC := hid hc; have HROW := hid hrow; have HN := hid hn; have HQS := hid hqs
          have hln := hc.ln
          rw [hn] at hln
          clear hc hrow hn hqs HX9
          by_cases hlt : i < n
          · obtain ⟨u, hu⟩ : ∃ u, il[i]? = some u := ⟨il[i]'(by rw [HN.out]; exact hlt), by simp⟩
            obtain ⟨g, rfl, hcell, hcap⟩ := own_natC_at HROW.out hu hlt
            have hut := (HC.out.up i u hu).1.lt H.out.c.clo HML.out
            obtain ⟨y, hy⟩ : ∃ y, (tabL gs)[u]? = some y := ⟨(tabL gs)[u], by simp [hut]⟩
            have hm6 : (i : Int) < 1000000 := by have := HC.out.lt hu; have := HML.out; rw [tabL_len] at this; have := H.out.ok.total; omega
            have hlt' : (i : Int) < n := by omega
            have C := hid (fun x : Ext W0 => rfGet (H.out.ext x) hy)
            have HU := hid hu; have HY := hid hy; have HLT := hid hlt; have HUT := hid hut; have HLN := hid hln
            clear hu hut hy hlt hln
            go_wp2_with fail
            refine (C.out x).mono ?_
            rintro e w4 ⟨ds, rfl, hsub, hb4⟩
            have hx4 : Below W0.heap.size W0 w4 := x.2.trans (hb4.mono x.2.size)
            obtain ⟨a1, l1, a2, l2, a3, l3, a4, l4, rfl⟩ := (hsub w4 (Upd.refl _ _)).out
            have hkind := typ_kind H.out.c HY.out
            have HK := hid hkind
            have hidx := idx_kind hkind
            have HSUB := hid hsub; have HB4 := hid hb4; have HX4 := hid hx4
            obtain ⟨yk, hyk⟩ : ∃ k, y.k = k := ⟨_, rfl⟩
            rw [hyk] at hidx ⊢
            have HYK := hid hyk
            have bb0 : w4.cell? ⟨w.heap.size + 1, 0, none⟩ = some (.int .i64 h2) := b0 ⟨_, hx4⟩
            have bb1 : w4.cell? ⟨w.heap.size + 1, 1, none⟩ = some (.int .i64 n2) := b1 ⟨_, hx4⟩
            obtain ⟨kk, hkk⟩ : ∃ k, kindK yk = k := ⟨_, rfl⟩
            rw [hkk] at hidx
            have HKK := hid hkk
            have HLT1 := hid (show w.heap.size + 1 < w4.heap.size from World.block_lt_of_cell? _ _ bb0)
            have hlt1 := HLT1.out
            clear hsub hb4 hx4 hcell hkind hyk hkk C
            by_cases k2 : h2 = 15
            · subst k2
              by_cases qn : n2 = u
              · subst qn
                have HH := hid (HE.out.2 (HC.out.hit HU.out (.inl ⟨rfl, rfl⟩)))
                go_wp2
                go_ret
                exact ⟨retb HH.out.symm, HB.out.trans ((HX4.out.alloc HX4.out.size _).mono HB.out.size)⟩
              · have qn' : ¬ n2 = (u : Int) := qn
                have qn2 : (n2 == (u : Int)) = false := by simpa using qn
                have HNH := hid (show ¬ Hits (tabL gs) ⟨15, n2⟩ u from fun q => by
                  rcases (hits_iff CB.out HY.out HK.out).1 q with ⟨_, q⟩ | ⟨q, _⟩
                  · exact qn q
                  · exact q rfl)
                clear qn
                go_wp2
                obtain ⟨w5, hw5⟩ : ∃ w5 : World, w5 = w4.alloc (.cells #[.bool y.fin, .slice a1 y.sups.length l1, .int .i64 yk, .slice a2 y.ps.length l2, .slice a3 y.rs.length l3, .slice a4 y.fs.length l4] 46) := ⟨_, rfl⟩
                obtain ⟨bs, hbs⟩ : ∃ b, w4.heap.size = b := ⟨_, rfl⟩
                have bsup : w5.cell? ⟨bs, 1, none⟩ = some (.slice a1 y.sups.length l1) := by rw [hw5]; exact heap_cell (heap_alloc_at _ _ hbs.symm) 1
                have HBSH := hid (show ∃ cs, w5.heap[bs]? = some (.cells cs 46 (0, 0)) from ⟨_, by rw [hw5]; exact heap_alloc_at _ _ hbs.symm⟩)
                have HBX := hid (show Below x.val.heap.size x.val w5 by rw [hw5]; exact HB4.out.alloc HB4.out.size _)
                have HB45 := hid (show Below w4.heap.size w4 w5 by rw [hw5]; exact (Below.refl _ _).alloc (Nat.le_refl _) _)
                rw [← hw5, hbs]
                clear hw5 hbs bb0 bb1
                have HROW5 := hid (ownsRow_upd (S := fun _ => False) HROW.out (Upd.of_below HBX.out) (fun _ _ q => q))
                have HX5 := hid (x.2.trans (HBX.out.mono x.2.size))
                have HQ5 := hid (Nat.le_trans HQS.out HBX.out.size)
                obtain ⟨ln, hln⟩ : ∃ ln, y.sups.length = ln := ⟨_, rfl⟩
                rw [hln] at bsup
                have HLEN := hid hln
                clear hln
                rcases HS.out u y HY.out with hnil | ⟨k, hsup, hk⟩
                · have hl0 : ln = 0 := by rw [← HLEN.out, hnil]; rfl
                  subst hl0
                  have HNIL := hid hnil
                  clear hnil
                  go_loopw [8, 14] (fun v8 v14 wr => v8 = .slice (some ⟨g, 0, none⟩) n cap ∧ v14 = .int .i64 0 ∧ wr = w5) (fun _ _ _ => 0)
                  case atStart => exact ⟨rfl, rfl, rfl⟩
                  case round =>
                    obtain ⟨rfl, rfl, rfl⟩ := hrel
                    go_wp2
                    go_roundw
                    case rel => exact ⟨il, i + 1, _, rfl, by go_num, HC.out.skip HU.out HY.out HNH.out (by rw [HNIL.out]; simp), by rw [HN.out]; exact HROW5.out, HQ5.out, ⟨_, HX5.out⟩, rfl⟩
                    case measure => have h1 := HC.out.lt HU.out; have h2 := HML.out; rw [tabL_len] at h2; simp [intOf]; omega
                · have hl1 : ln = 1 := by rw [← HLEN.out, hsup]; rfl
                  subst hl1
                  have HSUP := hid hsup; have HKU := hid hk
                  clear hsup hk
                  go_loopw [8, 14] (fun v8 v14 wr => ∃ (il' : List Nat) (v : Value), v8 = v ∧ ((v14 = .int .i64 0 ∧ v = .slice (some ⟨g, 0, none⟩) n cap ∧ wr = w5) ∨ (v14 = .int .i64 1 ∧ ChainR (tabL gs) m ⟨15, n2⟩ il' (i + 1) ∧ wr.ownsRow q0 3 1 v il'.length (natC il') ∧ q0 ≤ wr.heap.size ∧ (∃ x : Ext W0, wr = x.val) ∧ wr.cell? ⟨bs, 1, none⟩ = some (.slice a1 1 l1)))) (fun _ v14 _ => 2 - (intOf v14).toNat)
                  case atStart => exact ⟨[], _, rfl, .inl ⟨rfl, rfl, rfl⟩⟩
                  case round =>
                    obtain ⟨il', v, rfl, ⟨rfl, rfl, rfl⟩ | ⟨rfl, hc', hrow', hq', ⟨x', rfl⟩, hb'⟩⟩ := hrel
                    · have hsp := (HSUB.out wr (Upd.of_below HB45.out)).sups
                      obtain ⟨pb, po, hpa, hpb, p0, p1⟩ := hps_at hsp (i := 0) (x := ⟨15, (k : Nat)⟩) (by rw [HSUP.out]; rfl)
                      subst hpa
                      simp only [Nat.zero_mul, Nat.add_zero] at p0 p1
                      have HROW5' := hid HROW5.out
                      have C6 := hid (stands_ref (k := k) HROW5.out HN.out (by have h1 := HC.out.lt HU.out; have h2 := HML.out; rw [tabL_len] at h2; have h3 := H.out.ok.total; have h4 := HC.out.ln; have h5 := HN.out; omega))
                      have hku : (k : Int) < u := by have := HKU.out; omega
                      have hku2 : k < u := HKU.out
                      clear hsp hpb
                      go_wp2_with fail
                      refine C6.out.mono ?_
                      rintro e w6 ⟨rfl, rfl⟩
                      clear C6
                      obtain ⟨cb, hcb⟩ : ∃ c, il.contains k = c := ⟨_, rfl⟩
                      rw [hcb]
                      have HCB9 := hid hcb
                      clear hcb
                      have h6 : n ≤ 1000000 := by have h1 := HC.out.lt HU.out; have h2 := HML.out; rw [tabL_len] at h2; have h3 := H.out.ok.total; have h4 := HC.out.ln; have h5 := HN.out; omega
                      have H6 := hid h6
                      clear h6
                      cases cb
                      · obtain ⟨bcs, hbsh⟩ := HBSH.out
                        have hne := row_ne HROW5.out hbsh (by decide)
                        have HNE := hid hne
                        have HRW := hid (row_cells (cs := [.int .i64 (k : Nat)]) (heap_alloc_at w6 (.cells #[.int .i64 (k : Nat)] 3) rfl))
                        have OWN := hid (HROW5.out.alloc (.cells #[.int .i64 (k : Nat)] 3))
                        have HSZ := hid (show q0 ≤ (w6.alloc (.cells #[.int .i64 (k : Nat)] 3)).heap.size by have := HQ5.out; simp; omega)
                        clear hbsh hne
                        go_wp2_with (at_builtin; refine wpList_append_own_at _ rfl _ _ 23 rfl q0 3 i0 _ 1 8 Tryz.underlying23 Hi.out Hz0.out Hz1.out Hz2.out rfl (by decide) _ _ _ rfl OWN.out ⟨w6.heap.size, 0, none⟩ 1 1 [.int .i64 (k : Nat)] rfl rfl HRW.out (by intro u hu; simp at hu; subst hu; rfl) (by have := H6.out; unfold maxLen; omega) (by have := H6.out; omega) HSZ.out ?_)
                        intro v9 w9 o9 gr9 mv0 mv9
                        obtain ⟨a9, c9, rfl, -⟩ := ownsRow_form o9
                        have hx9 : Below W0.heap.size W0 w9 := (HX5.out.alloc HX5.out.size _).grown gr9 (by have := HX5.out.size; simp; omega) (fun k hk => Nat.le_trans HQ0.out (HROW5.out.lt k hk).1)
                        have hb9 : w9.cell? ⟨bs, 1, none⟩ = some (.slice (some ⟨pb, po, none⟩) 1 l1) := by
                          have hlt := World.block_lt_of_cell? _ _ bsup
                          rw [World.cell?_of_block (w := w6.alloc (.cells #[.int .i64 (k : Nat)] 3)) (gr9.block bs (by simp; exact Nat.lt_succ_of_lt hlt) (fun e => HNE.out e.symm))]
                          exact cell_alloc bsup _
                        have HO9 := hid o9; have HX9 := hid hx9; have HB9 := hid hb9; have HS9 := hid (Nat.le_trans HSZ.out gr9.size)
                        clear o9 gr9 mv0 mv9 hx9 hb9
                        go_wp2
                        go_roundw
                        case rel => exact ⟨il ++ [k], _, rfl, .inr ⟨rfl, HC.out.more HU.out HY.out HNH.out HSUP.out rfl HKU.out, by have h := HO9.out; rw [show (il ++ [k]).length = n + 1 by simp [HN.out], show natC (il ++ [k]) = natC il ++ [.int .i64 (k : Nat)] by simp [natC]]; exact h, HS9.out, ⟨⟨_, HX9.out⟩, rfl⟩, HB9.out⟩⟩
                        case measure => simp [intOf]
                      · go_wp2
                        go_roundw
                        case rel => exact ⟨il, _, rfl, .inr ⟨rfl, HC.out.skip HU.out HY.out HNH.out (fun q hq k' hk' => by
                          rw [HSUP.out] at hq
                          simp at hq
                          subst hq
                          obtain rfl : k = k' := by dsimp only at hk'; omega
                          exact mem_of_contains HCB9.out), by rw [HN.out]; exact HROW5.out, HQ5.out, ⟨⟨_, HX5.out⟩, rfl⟩, bsup⟩⟩
                        case measure => simp [intOf]
                    · obtain ⟨ao', cap', rfl, _⟩ := ownsRow_form hrow'
                      have HC' := hid hc'; have HR' := hid hrow'; have HQ' := hid hq'
                      clear hc' hrow' hq' bsup
                      go_wp2
                      go_roundw
                      case rel => exact ⟨il', i + 1, _, rfl, by go_num, HC'.out, HR'.out, HQ'.out, x', rfl⟩
                      case measure => have h1 := HC.out.lt HU.out; have h2 := HML.out; rw [tabL_len] at h2; simp [intOf]; omega
            · have e5 : (h2 != 15) = true := by simpa using k2
              have e6 : (h2 == 15) = false := by simpa using k2
              obtain ⟨gb, hgb⟩ : ∃ g, givenR kk h2 = g := ⟨_, rfl⟩
              have HGB := hid hgb; have HK2 := hid k2
              clear hgb k2
              have C2 := hid (given_ref kk h2)
              go_wp2_with fail
              refine (C2.out _).mono ?_
              rintro e w5 ⟨rfl, hb5⟩
              rw [HGB.out]
              have HB5 := hid hb5
              clear hb5 C2
              cases gb
              · go_wp2
                obtain ⟨bs, hbs⟩ : ∃ b, w4.heap.size = b := ⟨_, rfl⟩
                have bsup : w5.cell? ⟨bs, 1, none⟩ = some (.slice a1 y.sups.length l1) := by
                  rw [← hbs, HB5.out.cell (by simp)]
                  exact heap_cell (heap_alloc_at _ _ rfl) 1
                have HBSH := hid (show ∃ cs, w5.heap[bs]? = some (.cells cs 46 (0, 0)) from ⟨_, by rw [← hbs]; exact (HB5.out.block _ (by simp)).trans (heap_alloc_at _ _ rfl)⟩)
                have HBX := hid (show Below x.val.heap.size x.val w5 from (HB4.out.alloc HB4.out.size _).trans (HB5.out.mono (by have := HB4.out.size; simp; omega)))
                have HB45 := hid (show Below w4.heap.size w4 w5 from ((Below.refl _ _).alloc (Nat.le_refl _) _).trans (HB5.out.mono (by simp)))
                have HNH := hid (show ¬ Hits (tabL gs) ⟨h2, n2⟩ u from fun q => by
                  rcases (hits_iff CB.out HY.out HK.out).1 q with ⟨q, _⟩ | ⟨_, q⟩
                  · exact HK2.out q
                  · dsimp only at q; rw [HYK.out, HKK.out, HGB.out] at q; cases q)
                rw [hbs]
                clear hbs bb0 bb1
                have HROW5 := hid (ownsRow_upd (S := fun _ => False) HROW.out (Upd.of_below HBX.out) (fun _ _ q => q))
                have HX5 := hid (x.2.trans (HBX.out.mono x.2.size))
                have HQ5 := hid (Nat.le_trans HQS.out HBX.out.size)
                obtain ⟨ln, hln⟩ : ∃ ln, y.sups.length = ln := ⟨_, rfl⟩
                rw [hln] at bsup
                have HLEN := hid hln
                clear hln
                rcases HS.out u y HY.out with hnil | ⟨k, hsup, hk⟩
                · have hl0 : ln = 0 := by rw [← HLEN.out, hnil]; rfl
                  subst hl0
                  have HNIL := hid hnil
                  clear hnil
                  go_loopw [8, 14] (fun v8 v14 wr => v8 = .slice (some ⟨g, 0, none⟩) n cap ∧ v14 = .int .i64 0 ∧ wr = w5) (fun _ _ _ => 0)
                  case atStart => exact ⟨rfl, rfl, rfl⟩
                  case round =>
                    obtain ⟨rfl, rfl, rfl⟩ := hrel
                    go_wp2
                    go_roundw
                    case rel => exact ⟨il, i + 1, _, rfl, by go_num, HC.out.skip HU.out HY.out HNH.out (by rw [HNIL.out]; simp), by rw [HN.out]; exact HROW5.out, HQ5.out, ⟨_, HX5.out⟩, rfl⟩
                    case measure => have h1 := HC.out.lt HU.out; have h2 := HML.out; rw [tabL_len] at h2; simp [intOf]; omega
                · have hl1 : ln = 1 := by rw [← HLEN.out, hsup]; rfl
                  subst hl1
                  have HSUP := hid hsup; have HKU := hid hk
                  clear hsup hk
                  go_loopw [8, 14] (fun v8 v14 wr => ∃ (il' : List Nat) (v : Value), v8 = v ∧ ((v14 = .int .i64 0 ∧ v = .slice (some ⟨g, 0, none⟩) n cap ∧ wr = w5) ∨ (v14 = .int .i64 1 ∧ ChainR (tabL gs) m ⟨h2, n2⟩ il' (i + 1) ∧ wr.ownsRow q0 3 1 v il'.length (natC il') ∧ q0 ≤ wr.heap.size ∧ (∃ x : Ext W0, wr = x.val) ∧ wr.cell? ⟨bs, 1, none⟩ = some (.slice a1 1 l1)))) (fun _ v14 _ => 2 - (intOf v14).toNat)
                  case atStart => exact ⟨[], _, rfl, .inl ⟨rfl, rfl, rfl⟩⟩
                  case round =>
                    obtain ⟨il', v, rfl, ⟨rfl, rfl, rfl⟩ | ⟨rfl, hc', hrow', hq', ⟨x', rfl⟩, hb'⟩⟩ := hrel
                    · have hsp := (HSUB.out wr (Upd.of_below HB45.out)).sups
                      obtain ⟨pb, po, hpa, hpb, p0, p1⟩ := hps_at hsp (i := 0) (x := ⟨15, (k : Nat)⟩) (by rw [HSUP.out]; rfl)
                      subst hpa
                      simp only [Nat.zero_mul, Nat.add_zero] at p0 p1
                      have HROW5' := hid HROW5.out
                      have C6 := hid (stands_ref (k := k) HROW5.out HN.out (by have h1 := HC.out.lt HU.out; have h2 := HML.out; rw [tabL_len] at h2; have h3 := H.out.ok.total; have h4 := HC.out.ln; have h5 := HN.out; omega))
                      have hku : (k : Int) < u := by have := HKU.out; omega
                      have hku2 : k < u := HKU.out
                      clear hsp hpb
                      go_wp2_with fail
                      refine C6.out.mono ?_
                      rintro e w6 ⟨rfl, rfl⟩
                      clear C6
                      obtain ⟨cb, hcb⟩ : ∃ c, il.contains k = c := ⟨_, rfl⟩
                      rw [hcb]
                      have HCB9 := hid hcb
                      clear hcb
                      have h6 : n ≤ 1000000 := by have h1 := HC.out.lt HU.out; have h2 := HML.out; rw [tabL_len] at h2; have h3 := H.out.ok.total; have h4 := HC.out.ln; have h5 := HN.out; omega
                      have H6 := hid h6
                      clear h6
                      cases cb
                      · obtain ⟨bcs, hbsh⟩ := HBSH.out
                        have hne := row_ne HROW5.out hbsh (by decide)
                        have HNE := hid hne
                        have HRW := hid (row_cells (cs := [.int .i64 (k : Nat)]) (heap_alloc_at w6 (.cells #[.int .i64 (k : Nat)] 3) rfl))
                        have OWN := hid (HROW5.out.alloc (.cells #[.int .i64 (k : Nat)] 3))
                        have HSZ := hid (show q0 ≤ (w6.alloc (.cells #[.int .i64 (k : Nat)] 3)).heap.size by have := HQ5.out; simp; omega)
                        clear hbsh hne
                        go_wp2_with (at_builtin; refine wpList_append_own_at _ rfl _ _ 23 rfl q0 3 i0 _ 1 8 Tryz.underlying23 Hi.out Hz0.out Hz1.out Hz2.out rfl (by decide) _ _ _ rfl OWN.out ⟨w6.heap.size, 0, none⟩ 1 1 [.int .i64 (k : Nat)] rfl rfl HRW.out (by intro u hu; simp at hu; subst hu; rfl) (by have := H6.out; unfold maxLen; omega) (by have := H6.out; omega) HSZ.out ?_)
                        intro v9 w9 o9 gr9 mv0 mv9
                        obtain ⟨a9, c9, rfl, -⟩ := ownsRow_form o9
                        have hx9 : Below W0.heap.size W0 w9 := (HX5.out.alloc HX5.out.size _).grown gr9 (by have := HX5.out.size; simp; omega) (fun k hk => Nat.le_trans HQ0.out (HROW5.out.lt k hk).1)
                        have hb9 : w9.cell? ⟨bs, 1, none⟩ = some (.slice (some ⟨pb, po, none⟩) 1 l1) := by
                          have hlt := World.block_lt_of_cell? _ _ bsup
                          rw [World.cell?_of_block (w := w6.alloc (.cells #[.int .i64 (k : Nat)] 3)) (gr9.block bs (by simp; exact Nat.lt_succ_of_lt hlt) (fun e => HNE.out e.symm))]
                          exact cell_alloc bsup _
                        have HO9 := hid o9; have HX9 := hid hx9; have HB9 := hid hb9; have HS9 := hid (Nat.le_trans HSZ.out gr9.size)
                        clear o9 gr9 mv0 mv9 hx9 hb9
                        go_wp2
                        go_roundw
                        case rel => exact ⟨il ++ [k], _, rfl, .inr ⟨rfl, HC.out.more HU.out HY.out HNH.out HSUP.out rfl HKU.out, by have h := HO9.out; rw [show (il ++ [k]).length = n + 1 by simp [HN.out], show natC (il ++ [k]) = natC il ++ [.int .i64 (k : Nat)] by simp [natC]]; exact h, HS9.out, ⟨⟨_, HX9.out⟩, rfl⟩, HB9.out⟩⟩
                        case measure => simp [intOf]
                      · go_wp2
                        go_roundw
                        case rel => exact ⟨il, _, rfl, .inr ⟨rfl, HC.out.skip HU.out HY.out HNH.out (fun q hq k' hk' => by
                          rw [HSUP.out] at hq
                          simp at hq
                          subst hq
                          obtain rfl : k = k' := by dsimp only at hk'; omega
                          exact mem_of_contains HCB9.out), by rw [HN.out]; exact HROW5.out, HQ5.out, ⟨⟨_, HX5.out⟩, rfl⟩, bsup⟩⟩
                        case measure => simp [intOf]
                    · obtain ⟨ao', cap', rfl, _⟩ := ownsRow_form hrow'
                      have HC' := hid hc'; have HR' := hid hrow'; have HQ' := hid hq'
                      clear hc' hrow' hq' bsup
                      go_wp2
                      go_roundw
                      case rel => exact ⟨il', i + 1, _, rfl, by go_num, HC'.out, HR'.out, HQ'.out, x', rfl⟩
                      case measure => have h1 := HC.out.lt HU.out; have h2 := HML.out; rw [tabL_len] at h2; simp [intOf]; omega
              · have HH := hid (HE.out.2 (HC.out.hit HU.out ((hits_iff CB.out HY.out HK.out).2 (.inr ⟨HK2.out, by dsimp only; rw [HYK.out, HKK.out]; exact HGB.out⟩))))
                go_wp2
                go_ret
                exact ⟨retb HH.out.symm, HB.out.trans (((HX4.out.alloc HX4.out.size _).trans (HB5.out.mono (by have := HX4.out.size; simp; omega))).mono HB.out.size)⟩
          · obtain rfl : i = n := by omega
            have hlt' : ¬ (i : Int) < i := by omega
            have HNC := hid (show r = false by rw [Bool.eq_false_iff]; intro q; exact HC.out.end HN.out (HE.out.1 q))
            clear hlt hln
            go_wp2
            go_ret
            exact ⟨retb HNC.out.symm, HB.out.trans (x.2.mono HB.out.size)⟩
      · by_cases k2 : h2 = 15
        · obtain ⟨m, hm, hml⟩ : ∃ m : Nat, n2 = m ∧ m < (tabL gs).length := by
            rcases CB.out with q | ⟨_, q1, q2⟩
            · exact absurd k2 (by have := q.2.1; dsimp only at this; omega)
            · dsimp only at q1 q2; exact ⟨n2.toNat, by omega, by omega⟩
          subst k2 hm
          obtain ⟨y, hy⟩ : ∃ y, (tabL gs)[m]? = some y := ⟨(tabL gs)[m], by simp [hml]⟩
          have hk := typ_kind H.out.c hy
          have he := heapP_low CA.out CB.out k1 rfl (by simpa using hy) hk
          have C := hid (fun x : Ext W0 => comp_ref x.val (H.out.ext x) hy)
          obtain ⟨yk, hyk⟩ : ∃ k, y.k = k := ⟨_, rfl⟩
          rw [hyk] at he C
          have HE := hid (HR.out.trans he)
          have e1 : (h1 != 15) = true := by simpa using k1
          have e2 : (h1 == 15) = false := by simpa using k1
          clear k1 hml hy hk he hyk
          go_wp2_with fail
          refine (Ext.call x2 (C.out x2)).mono ?_
          rintro e _ ⟨rfl, x3, rfl⟩
          clear C
          go_wp2
          all_goals
            go_ret
            refine ⟨retb ?_, HB.out.trans (x3.2.mono HB.out.size)⟩
            rw [Bool.eq_iff_iff, HE.out]
            simp_all
        · have he := heapP_given CA.out CB.out k1 k2
          have HE := hid (show r = givenR h1 h2 by rw [Bool.eq_iff_iff]; exact HR.out.trans he)
          have e1 : (h1 != 15) = true := by simpa using k1
          have e2 : (h2 != 15) = true := by simpa using k2
          have e3 : (h1 == 15) = false := by simpa using k1
          have e4 : (h2 == 15) = false := by simpa using k2
          clear k1 k2 he
          go_wp2_with fail
          refine (Ext.call x2 (given_ref h1 h2 _)).mono ?_
          rintro e _ ⟨rfl, x3, rfl⟩
          go_wp2
          go_ret
          exact ⟨retb HE.out.symm, HB.out.trans (x3.2.mono HB.out.size)⟩
end Go.Proofs.YtpddbaijnjbfdaaGreatDoor
