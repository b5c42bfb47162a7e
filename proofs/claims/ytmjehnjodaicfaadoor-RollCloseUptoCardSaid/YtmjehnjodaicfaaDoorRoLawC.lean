/- geodelaw09: RollClose. -/
import Derived.Test.YtmjehnjodaicfaaDoorRoIds
namespace Go.Proofs.YtmjehnjodaicfaaDoor
open Go.RowKit Go.Maps Go.WideMaps

/-- Between two rounds. -/
structure ClI (w : World) (t : Nat) (u : Value) (i : Nat) (gs : List (List Sb)) (ids : List Int) (S R : Nat → Prop) (W : World) : Prop where
  tab : TabN w S R W t gs
  rd : ∀ w', Upd S W w' → IntsAt w' u ids
  inn : ∀ j ∈ ids, inTab gs j = true
  len : ids.length ≤ 10 * i
set_option maxRecDepth 100000 in
set_option maxHeartbeats 16000000 in
theorem rollClose_any (vl : Value) (l : List (List Sb)) (v : Vl) (w : World) (hl : GrpsAt w vl l) (hr : RawL l) (htab : Tab w) :
    Calls Tryd.prog 3 #[vl, .agg (cellsV v).toArray] w fun e w' => e = .returned (.bool true) ∧ Below w.heap.size w w' := by
  obtain ⟨al, cl, rfl⟩ := hl.form
  have HP13 := Lib.hid (plainV_13 (v := v))
  obtain ⟨k, nl, hh, n⟩ := v
  rw [show cellsV ⟨k, nl, hh, n⟩ = [.int .i64 k, .bool nl, .int .i64 hh, .int .i64 n] from rfl]
  obtain ⟨W0, hW⟩ : ∃ W0 : World, W0 = w.alloc (.cells #[.int .i64 k, .bool nl, .int .i64 hh, .int .i64 n] 28) := ⟨_, rfl⟩
  have hb0 : Below w.heap.size w W0 := by rw [hW]; exact (Below.refl _ _).alloc (Nat.le_refl _) _
  have z0 : W0.heap[w.heap.size]? = some (.cells #[.int .i64 k, .bool nl, .int .i64 hh, .int .i64 n] 28 (0, 0)) := by rw [hW]; exact heap_alloc_at _ _ rfl
  have CK := Lib.hid (known_any W0 (htab.on hb0))
  have HLL := Lib.hid hl; have HR := Lib.hid hr; have HTAB := Lib.hid (htab.on hb0); have HW := Lib.hid hW; have HB0 := Lib.hid hb0; have Z0 := Lib.hid z0
  clear hl hr htab hW hb0 z0
  go_enter Tryd.func3, Tryd.ntmps3
  go_wp2_with fail
  rw [← HW.out]
  refine CK.out.mono ?_
  rintro e w1 ⟨rfl, hb1⟩
  have HB1 := Lib.hid hb1
  clear hb1
  by_cases h12 : l.length ≤ 12
  · have h12' : ¬ (12 : Int) < l.length := by omega
    have H12 := Lib.hid h12
    clear h12
    go_wp2_with fail
    refine (new_any w1).mono ?_
    rintro e w2 ⟨t, S0, rfl, hta, hba, hbe⟩
    have hbw : Below W0.heap.size W0 w2 := HB1.out.trans (hbe.mono HB1.out.size)
    have HI0 := Lib.hid (⟨⟨hta, ⟨by simp, by simp, by simp, by simp [total]⟩, fun k hk => Nat.le_trans HB1.out.size (hba k hk), hbw⟩, fun w' _ => RowAt.nil w' 1, by simp, by simp⟩ : ClI W0 t (.slice none 0 0) 0 [] [] S0 (fun _ => False) w2)
    clear hta hba hbe hbw
    go_wp2
    go_loopw [6, 7] (fun t6 t7 wr => ∃ (i : Nat) (gs : List (List Sb)) (ids : List Int) (S R : Nat → Prop), t7 = .int .i64 i ∧ i ≤ l.length ∧ ClI W0 t t6 i gs ids S R wr) (fun _ t7 _ => l.length - (intOf t7).toNat)
    case atStart => exact ⟨0, [], [], S0, _, rfl, Nat.zero_le _, HI0.out⟩
    case round =>
      obtain ⟨i, gs, ids, S, R, rfl, hi, hI⟩ := hrel
      by_cases hlt : i < l.length
      · obtain ⟨g, hg⟩ : ∃ g, l[i]? = some g := ⟨l[i], by simp [hlt]⟩
        have hbe0 : Below w.heap.size w wr := HB0.out.trans (hI.tab.be.mono HB0.out.size)
        obtain ⟨b1, o1, a2, c2, e1, p0, hgr⟩ := (HLL.out.below hbe0 (Nat.le_refl _)).at hg
        subst e1
        have hlt' : (i : Int) < l.length := by omega
        have hi6 : (i : Int) < 1000000 := by have := H12.out; omega
        have HI := Lib.hid hI; have HLT := Lib.hid hlt; have HGR := Lib.hid hgr; have HG := Lib.hid hg
        clear hI hlt hgr hg hi hbe0
        by_cases h10 : g.length ≤ 10
        · have h10' : ¬ (10 : Int) < g.length := by omega
          have hraw : RawG g := ⟨by omega, fun x hx => (HR.out g (List.mem_of_getElem? HG.out) x hx).1, fun x hx => (HR.out g (List.mem_of_getElem? HG.out) x hx).2⟩
          have hidl : ids.length ≤ 100000 := by have := HI.out.len; have := H12.out; have := HLT.out; omega
          have C := Lib.hid (add_n HI.out.tab HI.out.rd hidl HGR.out hraw HTAB.out)
          have hfact := addG_fact gs ids g
          have H10 := Lib.hid h10
          clear hraw hidl h10
          obtain ⟨A, hA⟩ : ∃ A, addG gs ids g = A := ⟨_, rfl⟩
          rw [hA] at C hfact
          have HF := Lib.hid hfact
          clear hA hfact
          go_wp2_with fail
          refine C.out.mono ?_
          rintro e w3 ⟨u3, S3, R3, rfl, ht3, hi3, hu3, hf3⟩
          obtain ⟨A1, A2, A3⟩ := A
          dsimp only at ht3 hi3
          have HT3 := Lib.hid ht3; have HI3 := Lib.hid hi3; have HU3 := Lib.hid hu3; have HF3 := Lib.hid hf3
          clear ht3 hi3 hu3 hf3 p0
          rcases HF.out with ⟨q1, q2, q3⟩ | ⟨q1, q2⟩
          · have he : (A2 == 0) = false := by simpa using q1
            have Q1 := Lib.hid q1; have Q3 := Lib.hid q3
            clear q1 q2 q3
            go_wp2
            go_roundw
            case rel =>
              refine ⟨i + 1, gs, ids, S3, R3, by go_num, HLT.out, ⟨?_, fun w' hu => HI.out.rd w' (HU3.out.trans HF3.out hu), HI.out.inn, by have := HI.out.len; omega⟩⟩
              have h := HT3.out
              have e3 : A3 = gs := Q3.out
              rw [e3] at h; exact h
            case measure => have := HLT.out; simp [intOf]; omega
          · have he : A2 = 0 := q1
            subst he
            have Q2 := Lib.hid q2
            clear q1 q2
            go_wp2
            go_roundw
            case rel =>
              exact ⟨i + 1, A3, A1, S3, R3, by go_num, HLT.out, ⟨HT3.out, HI3.out, Q2.out.inn, by have h1 := Q2.out.len; have h2 := HI.out.len; have h3 := H10.out; dsimp only at h1; omega⟩⟩
            case measure => have := HLT.out; simp [intOf]; omega
        · have h10' : (10 : Int) < g.length := by omega
          clear h10
          go_wp2
          go_ret
          exact ⟨rfl, HB0.out.trans (HI.out.tab.be.mono HB0.out.size)⟩
      · obtain rfl : i = l.length := by omega
        have hlt' : ¬ (l.length : Int) < l.length := by omega
        have hidl : ids.length ≤ 100000 := by have := hI.len; have := H12.out; omega
        have y0 := (hI.tab.be.block _ (heap_lt Z0.out)).trans Z0.out
        have d0 := heap_cell y0 0; have d1 := heap_cell y0 1; have d2 := heap_cell y0 2; have d3 := heap_cell y0 3
        simp at d0 d1 d2 d3
        obtain ⟨au6, cu6, rfl⟩ := RowAt.form (hI.rd _ (Upd.refl _ _))
        have C := Lib.hid (close_any hI.tab.tab hI.tab.ok _ ids ⟨k, nl, hh, n⟩ (hI.rd _ (Upd.refl _ _)) hidl)
        have HI := Lib.hid hI; have Y0 := Lib.hid y0; have HIDL := Lib.hid hidl
        clear hI hlt hi y0 hidl
        go_wp2_with fail
        refine C.out.mono ?_
        rintro e w3 ⟨rfl, hb3⟩
        have HB3 := Lib.hid hb3
        clear hb3 d0 d1 d2 d3
        -- THE ENDS (mklawc.py)
        have hinn := HI.out.inn
        have HINN := Lib.hid hinn
        clear hinn
        obtain ⟨bp, hbp⟩ : ∃ bp, plainV ⟨k, nl, hh, n⟩ = bp := ⟨_, rfl⟩
        have HBP := Lib.hid hbp
        have CP := fun W => plainVal_any ⟨k, nl, hh, n⟩ W
        rw [hbp] at CP
        have HCP := Lib.hid CP
        clear CP hbp
        by_cases hx : k = 3 ∧ hh = 13
        · obtain ⟨rfl, rfl⟩ := hx
          by_cases hn : 0 ≤ n ∧ n < ids.length
          · obtain ⟨hn0, hn1⟩ := hn
            obtain ⟨m, rfl⟩ : ∃ m : Nat, n = m := ⟨n.toNat, by omega⟩
            obtain ⟨y, hy⟩ : ∃ y, ids[m]? = some y := ⟨ids[m]'(by omega), by simp⟩
            have hpl : plainV ⟨3, nl, 13, (m : Int)⟩ = true := by have := HIDL.out; simp [plainV, givenB, indexedB]; omega
            have hgd : ids.getD (m : Int).toNat 0 = y := by rw [List.getD_eq_getElem?_getD, Int.toNat_natCast, hy]; rfl
            have hC : closeG gs ids ⟨3, nl, 13, m⟩ = (⟨3, nl, 15, y⟩, 0) := by
              unfold closeG
              rw [if_neg (by rw [hpl]; simp), if_neg (by simp), if_neg (by simpa using hn1), hgd, if_neg (by rw [HINN.out y (List.mem_of_getElem? hy)]; simp)]
            rw [hC]
            rw [show cellsV (⟨3, nl, 15, y⟩, (0 : Int)).1 = [.int .i64 3, .bool nl, .int .i64 15, .int .i64 y] from rfl]
            dsimp only
            have hwA : Below w.heap.size w (w3.alloc (.cells #[.int .i64 3, .bool nl, .int .i64 15, .int .i64 y] 28)) := by
              have h1 := HB0.out.trans (HI.out.tab.be.mono HB0.out.size)
              have h2 := h1.trans (HB3.out.mono h1.size)
              exact h2.alloc h2.size _
            have HWA := Lib.hid hwA
            clear hwA
            have b3 : (w3.alloc (.cells #[.int .i64 3, .bool nl, .int .i64 15, .int .i64 y] 28)).heap[w.heap.size]? = some (.cells #[.int .i64 3, .bool nl, .int .i64 13, .int .i64 m] 28 (0, 0)) := (heap_alloc_keep ((HB3.out.block _ (heap_lt Y0.out)).trans Y0.out) _)
            have b10 : (w3.alloc (.cells #[.int .i64 3, .bool nl, .int .i64 15, .int .i64 y] 28)).heap[w3.heap.size]? = some (.cells #[.int .i64 3, .bool nl, .int .i64 15, .int .i64 y] 28 (0, 0)) := (heap_alloc_at w3 _ rfl)
            have v0 := heap_cell b3 0; have r0 := heap_cell b10 0
            have v1 := heap_cell b3 1; have r1 := heap_cell b10 1
            have v2 := heap_cell b3 2; have r2 := heap_cell b10 2
            have v3 := heap_cell b3 3; have r3 := heap_cell b10 3
            have fz := fun i => heap_frozen b3 i
            simp at v0 v1 v2 v3 r0 r1 r2 r3
            obtain ⟨b1, o1, e1, _, p0⟩ := IntsAt.at (ao := au6) (cap := cu6) (HI.out.rd (w3.alloc (.cells #[.int .i64 3, .bool nl, .int .i64 15, .int .i64 y] 28)) (Upd.of_below (HB3.out.alloc HB3.out.size _))) hy
            subst e1
            have hn0' : ¬ (m : Int) < 0 := by omega
            have nb : ¬ w.heap.size = w3.heap.size := by have h1 := heap_lt Y0.out; have h2 := HB3.out.size; omega
            have nb' : ¬ w3.heap.size = w.heap.size := fun e => nb e.symm
            clear hC hgd hpl hy b3 b10
            go_wp2
            go_ret
            exact ⟨rfl, (HWA.out.setCell (by simp) _).setCell (by simp) _⟩
          · have hC : closeG gs ids ⟨3, nl, 13, n⟩ = (zeroVl, 2) := by
              unfold closeG
              by_cases hp : plainV ⟨3, nl, 13, n⟩ = true
              · have h := plainV_13 hp rfl
                dsimp only at h
                rw [if_neg (by simpa using hp), if_neg (by simp), if_pos (by dsimp only; omega)]
              · rw [if_pos hp]
            rw [hC]
            rw [show cellsV (zeroVl, (2 : Int)).1 = [.int .i64 0, .bool false, .int .i64 0, .int .i64 0] from rfl]
            dsimp only
            have hwA : Below w.heap.size w (w3.alloc (.cells #[.int .i64 0, .bool false, .int .i64 0, .int .i64 0] 28)) := by
              have h1 := HB0.out.trans (HI.out.tab.be.mono HB0.out.size)
              have h2 := h1.trans (HB3.out.mono h1.size)
              exact h2.alloc h2.size _
            have HWA := Lib.hid hwA
            clear hwA
            have b3 : (w3.alloc (.cells #[.int .i64 0, .bool false, .int .i64 0, .int .i64 0] 28)).heap[w.heap.size]? = some (.cells #[.int .i64 3, .bool nl, .int .i64 13, .int .i64 n] 28 (0, 0)) := (heap_alloc_keep ((HB3.out.block _ (heap_lt Y0.out)).trans Y0.out) _)
            have b10 : (w3.alloc (.cells #[.int .i64 0, .bool false, .int .i64 0, .int .i64 0] 28)).heap[w3.heap.size]? = some (.cells #[.int .i64 0, .bool false, .int .i64 0, .int .i64 0] 28 (0, 0)) := (heap_alloc_at w3 _ rfl)
            have v0 := heap_cell b3 0; have r0 := heap_cell b10 0
            have v1 := heap_cell b3 1; have r1 := heap_cell b10 1
            have v2 := heap_cell b3 2; have r2 := heap_cell b10 2
            have v3 := heap_cell b3 3; have r3 := heap_cell b10 3
            have fz := fun i => heap_frozen b3 i
            simp at v0 v1 v2 v3 r0 r1 r2 r3
            clear hC b3 b10
            by_cases hn0 : n < 0
            · clear hn
              go_wp2
              go_ret
              exact ⟨rfl, HWA.out⟩
            · have hge : (ids.length : Int) ≤ n := by omega
              have hge' : ¬ n < (ids.length : Int) := by omega
              clear hn
              go_wp2
              go_ret
              exact ⟨rfl, HWA.out⟩
        · cases bp
          · have hC : closeG gs ids ⟨k, nl, hh, n⟩ = (zeroVl, 2) := by unfold closeG; rw [if_pos (by rw [HBP.out]; simp)]
            rw [hC]
            rw [show cellsV (zeroVl, (2 : Int)).1 = [.int .i64 0, .bool false, .int .i64 0, .int .i64 0] from rfl]
            dsimp only
            have hwA : Below w.heap.size w (w3.alloc (.cells #[.int .i64 0, .bool false, .int .i64 0, .int .i64 0] 28)) := by
              have h1 := HB0.out.trans (HI.out.tab.be.mono HB0.out.size)
              have h2 := h1.trans (HB3.out.mono h1.size)
              exact h2.alloc h2.size _
            have HWA := Lib.hid hwA
            clear hwA
            have b3 : (w3.alloc (.cells #[.int .i64 0, .bool false, .int .i64 0, .int .i64 0] 28)).heap[w.heap.size]? = some (.cells #[.int .i64 k, .bool nl, .int .i64 hh, .int .i64 n] 28 (0, 0)) := (heap_alloc_keep ((HB3.out.block _ (heap_lt Y0.out)).trans Y0.out) _)
            have b10 : (w3.alloc (.cells #[.int .i64 0, .bool false, .int .i64 0, .int .i64 0] 28)).heap[w3.heap.size]? = some (.cells #[.int .i64 0, .bool false, .int .i64 0, .int .i64 0] 28 (0, 0)) := (heap_alloc_at w3 _ rfl)
            have v0 := heap_cell b3 0; have r0 := heap_cell b10 0
            have v1 := heap_cell b3 1; have r1 := heap_cell b10 1
            have v2 := heap_cell b3 2; have r2 := heap_cell b10 2
            have v3 := heap_cell b3 3; have r3 := heap_cell b10 3
            have fz := fun i => heap_frozen b3 i
            simp at v0 v1 v2 v3 r0 r1 r2 r3
            have B3 := Lib.hid b3; have B10 := Lib.hid b10; have HX := Lib.hid hx
            clear hC b3 b10 hx
            by_cases hk : k = 3
            · subst hk
              have hh1 : (hh == 13) = false := by have := HX.out; simp at this; simpa using this
              have hh2 : (hh != 13) = true := by have := HX.out; simp at this; simpa using this
              go_wp2_with fail
              refine (HCP.out _).mono ?_
              rintro e w4 ⟨rfl, hb4⟩
              clear v0 v1 v2 v3 r0 r1 r2 r3 fz
              have b3 : w4.heap[w.heap.size]? = some (.cells #[.int .i64 3, .bool nl, .int .i64 hh, .int .i64 n] 28 (0, 0)) := (hb4.block _ (heap_lt B3.out)).trans B3.out
              have b10 : w4.heap[w3.heap.size]? = some (.cells #[.int .i64 0, .bool false, .int .i64 0, .int .i64 0] 28 (0, 0)) := (hb4.block _ (heap_lt B10.out)).trans B10.out
              have v0 := heap_cell b3 0; have r0 := heap_cell b10 0
              have v1 := heap_cell b3 1; have r1 := heap_cell b10 1
              have v2 := heap_cell b3 2; have r2 := heap_cell b10 2
              have v3 := heap_cell b3 3; have r3 := heap_cell b10 3
              simp at v0 v1 v2 v3 r0 r1 r2 r3
              have HW4 := Lib.hid (HWA.out.trans (hb4.mono HWA.out.size))
              clear hb4 b3 b10
              go_wp2
              go_ret
              exact ⟨rfl, HW4.out⟩
            · have hk1 : (k == 3) = false := by simpa using hk
              have hk2 : (k != 3) = true := by simpa using hk
              clear hk
              go_wp2_with fail
              refine (HCP.out _).mono ?_
              rintro e w4 ⟨rfl, hb4⟩
              clear v0 v1 v2 v3 r0 r1 r2 r3 fz
              have b3 : w4.heap[w.heap.size]? = some (.cells #[.int .i64 k, .bool nl, .int .i64 hh, .int .i64 n] 28 (0, 0)) := (hb4.block _ (heap_lt B3.out)).trans B3.out
              have b10 : w4.heap[w3.heap.size]? = some (.cells #[.int .i64 0, .bool false, .int .i64 0, .int .i64 0] 28 (0, 0)) := (hb4.block _ (heap_lt B10.out)).trans B10.out
              have v0 := heap_cell b3 0; have r0 := heap_cell b10 0
              have v1 := heap_cell b3 1; have r1 := heap_cell b10 1
              have v2 := heap_cell b3 2; have r2 := heap_cell b10 2
              have v3 := heap_cell b3 3; have r3 := heap_cell b10 3
              simp at v0 v1 v2 v3 r0 r1 r2 r3
              have HW4 := Lib.hid (HWA.out.trans (hb4.mono HWA.out.size))
              clear hb4 b3 b10
              go_wp2
              go_ret
              exact ⟨rfl, HW4.out⟩
          · have h13 : hh ≠ 13 := fun e => by
              have hp := HBP.out
              unfold plainV at hp
              split at hp
              · have e2 : (⟨k, nl, hh, n⟩ : Vl) = ⟨k, false, 0, 0⟩ := by simpa using hp
                have e3 := congrArg Vl.h e2
                dsimp only at e3
                omega
              · split at hp
                · rename_i h3; exact hx ⟨h3, e⟩
                · cases hp
            have hC : closeG gs ids ⟨k, nl, hh, n⟩ = (⟨k, nl, hh, n⟩, 0) := by unfold closeG; rw [if_neg (by rw [HBP.out]; simp), if_pos h13]
            rw [hC]
            rw [show cellsV ((⟨k, nl, hh, n⟩ : Vl), (0 : Int)).1 = [.int .i64 k, .bool nl, .int .i64 hh, .int .i64 n] from rfl]
            dsimp only
            have hwA : Below w.heap.size w (w3.alloc (.cells #[.int .i64 k, .bool nl, .int .i64 hh, .int .i64 n] 28)) := by
              have h1 := HB0.out.trans (HI.out.tab.be.mono HB0.out.size)
              have h2 := h1.trans (HB3.out.mono h1.size)
              exact h2.alloc h2.size _
            have HWA := Lib.hid hwA
            clear hwA
            have b3 : (w3.alloc (.cells #[.int .i64 k, .bool nl, .int .i64 hh, .int .i64 n] 28)).heap[w.heap.size]? = some (.cells #[.int .i64 k, .bool nl, .int .i64 hh, .int .i64 n] 28 (0, 0)) := (heap_alloc_keep ((HB3.out.block _ (heap_lt Y0.out)).trans Y0.out) _)
            have b10 : (w3.alloc (.cells #[.int .i64 k, .bool nl, .int .i64 hh, .int .i64 n] 28)).heap[w3.heap.size]? = some (.cells #[.int .i64 k, .bool nl, .int .i64 hh, .int .i64 n] 28 (0, 0)) := (heap_alloc_at w3 _ rfl)
            have v0 := heap_cell b3 0; have r0 := heap_cell b10 0
            have v1 := heap_cell b3 1; have r1 := heap_cell b10 1
            have v2 := heap_cell b3 2; have r2 := heap_cell b10 2
            have v3 := heap_cell b3 3; have r3 := heap_cell b10 3
            have fz := fun i => heap_frozen b3 i
            simp at v0 v1 v2 v3 r0 r1 r2 r3
            have B3 := Lib.hid b3; have B10 := Lib.hid b10; have HX := Lib.hid hx
            clear hC b3 b10 hx h13
            by_cases hk : k = 3
            · subst hk
              have hh1 : (hh == 13) = false := by have := HX.out; simp at this; simpa using this
              have hh2 : (hh != 13) = true := by have := HX.out; simp at this; simpa using this
              go_wp2_with fail
              refine (HCP.out _).mono ?_
              rintro e w4 ⟨rfl, hb4⟩
              clear v0 v1 v2 v3 r0 r1 r2 r3 fz
              have b3 : w4.heap[w.heap.size]? = some (.cells #[.int .i64 3, .bool nl, .int .i64 hh, .int .i64 n] 28 (0, 0)) := (hb4.block _ (heap_lt B3.out)).trans B3.out
              have b10 : w4.heap[w3.heap.size]? = some (.cells #[.int .i64 3, .bool nl, .int .i64 hh, .int .i64 n] 28 (0, 0)) := (hb4.block _ (heap_lt B10.out)).trans B10.out
              have v0 := heap_cell b3 0; have r0 := heap_cell b10 0
              have v1 := heap_cell b3 1; have r1 := heap_cell b10 1
              have v2 := heap_cell b3 2; have r2 := heap_cell b10 2
              have v3 := heap_cell b3 3; have r3 := heap_cell b10 3
              simp at v0 v1 v2 v3 r0 r1 r2 r3
              have HW4 := Lib.hid (HWA.out.trans (hb4.mono HWA.out.size))
              clear hb4 b3 b10
              go_wp2
              go_ret
              exact ⟨rfl, HW4.out⟩
            · have hk1 : (k == 3) = false := by simpa using hk
              have hk2 : (k != 3) = true := by simpa using hk
              clear hk
              go_wp2_with fail
              refine (HCP.out _).mono ?_
              rintro e w4 ⟨rfl, hb4⟩
              clear v0 v1 v2 v3 r0 r1 r2 r3 fz
              have b3 : w4.heap[w.heap.size]? = some (.cells #[.int .i64 k, .bool nl, .int .i64 hh, .int .i64 n] 28 (0, 0)) := (hb4.block _ (heap_lt B3.out)).trans B3.out
              have b10 : w4.heap[w3.heap.size]? = some (.cells #[.int .i64 k, .bool nl, .int .i64 hh, .int .i64 n] 28 (0, 0)) := (hb4.block _ (heap_lt B10.out)).trans B10.out
              have v0 := heap_cell b3 0; have r0 := heap_cell b10 0
              have v1 := heap_cell b3 1; have r1 := heap_cell b10 1
              have v2 := heap_cell b3 2; have r2 := heap_cell b10 2
              have v3 := heap_cell b3 3; have r3 := heap_cell b10 3
              simp at v0 v1 v2 v3 r0 r1 r2 r3
              have HW4 := Lib.hid (HWA.out.trans (hb4.mono HWA.out.size))
              clear hb4 b3 b10
              go_wp2
              go_ret
              exact ⟨rfl, HW4.out⟩
  · have h12' : (12 : Int) < l.length := by omega
    clear h12
    go_wp2
    go_ret
    exact ⟨rfl, HB0.out.trans (HB1.out.mono HB0.out.size)⟩
end Go.Proofs.YtmjehnjodaicfaaDoor
