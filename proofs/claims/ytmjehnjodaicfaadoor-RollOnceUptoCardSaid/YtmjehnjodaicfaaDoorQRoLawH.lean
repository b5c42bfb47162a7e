/- geodelaw09: RollGets. -/
import Derived.Test.YtmjehnjodaicfaaDoorQRoGetR
import Derived.Test.YtmjehnjodaicfaaDoorQKdSame
namespace Go.Proofs.YtmjehnjodaicfaaDoor
open Go.RowKit Go.Maps Go.WideMaps

/-- Between two rounds. -/
structure GtI (w : World) (t : Nat) (u : Value) (i : Nat) (gs : List (List Sb)) (ids : List Int) (S R : Nat → Prop) (W : World) : Prop where
  tab : TabN w S R W t gs
  rd : ∀ w', Upd S W w' → IntsAt w' u ids
  inn : ∀ j ∈ ids, inTab gs j = true
  len : ids.length ≤ 10 * i
theorem cnt_mapP (f : Hp → Hp) (x : Sb) : cnt (mapP f x) = cnt x := by simp [cnt, mapP]
/-- A type's cells, written out. -/
theorem SubAt.out {w : World} {ds : List Value} {y : Sb} (h : SubAt w ds y) : ∃ a1 c1 a2 c2 a3 c3 a4 c4, ds = [.bool y.fin, .slice a1 y.sups.length c1, .int .i64 y.k, .slice a2 y.ps.length c2, .slice a3 y.rs.length c3, .slice a4 y.fs.length c4] := by
  obtain ⟨vs, vp, vr, vf, rfl, k1, k2, k3, k4⟩ := h.ex
  obtain ⟨a1, c1, rfl⟩ := RowAt.form k1
  obtain ⟨a2, c2, rfl⟩ := RowAt.form k2
  obtain ⟨a3, c3, rfl⟩ := RowAt.form k3
  obtain ⟨a4, c4, rfl⟩ := RowAt.form k4
  exact ⟨a1, c1, a2, c2, a3, c3, a4, c4, rfl⟩
theorem sub_sum {a b c : Nat} (h : a = b + c) : (a : Int) - (c : Int) = (b : Int) := by omega
theorem dec_one {a k : Nat} (h : k < a) : a - ((k : Int) + 1).toNat < a - (k : Int).toNat := by omega
theorem int_succ (k : Nat) : Value.int .i64 ((k : Int) + 1) = Value.int .i64 ((k + 1 : Nat) : Int) := by simp
theorem dec_int {a k : Nat} (h : k < a) : a - (intOf (.int .i64 ((k : Int) + 1))).toNat < a - (intOf (.int .i64 (k : Int))).toNat := by simp [intOf]; omega
theorem nat_sum (a b : Nat) : ((a : Int) + (b : Int)).toNat = a + b := by omega
theorem wrap_nat {a : Nat} (h : a ≤ 2000000) : wrap64 (a : Int) = a := by unfold wrap64; omega
theorem wrap_sum {a b : Nat} (h : a + b ≤ 2000000) : wrap64 ((a : Int) + (b : Int)) = (a : Int) + (b : Int) := by unfold wrap64; omega
set_option maxRecDepth 100000 in
set_option maxHeartbeats 32000000 in
theorem rollGets_any (vl : Value) (l : List (List Sb)) (w : World) (hl : GrpsAt w vl l) (hr : RawL l) (htab : Tab w) :
    Calls Tryd.prog 5 #[vl] w fun e w' => e = .returned (.bool true) ∧ Below w.heap.size w w' := by
  obtain ⟨al, cl, rfl⟩ := hl.form
  have hmf : ∀ (fn : Fn) (first cap : Array Value) (w : World), (Instr.makeFunc fn first cap).run Tryd.prog w = .ok (.func fn first cap) w := fun _ _ _ _ => rfl
  have CK := Lib.hid (known_any w htab)
  have HLL := Lib.hid hl; have HR := Lib.hid hr; have HTAB := Lib.hid htab
  clear hl hr htab
  go_enter Tryd.func5, Tryd.ntmps5
  go_wp2_with fail
  refine CK.out.mono ?_
  rintro e w1 ⟨rfl, hb1⟩
  have HB1 := Lib.hid hb1
  clear hb1
  by_cases h12 : l.length ≤ 12
  · have h12' : ¬ (12 : Int) < l.length := by omega
    have H12 := Lib.hid h12
    clear h12
    go_wp2_with fail
    refine (new_any w1).mono ?_
    rintro e w2 ⟨t, S0, rfl, hta, hba, hbe⟩
    have hbw : Below w.heap.size w w2 := HB1.out.trans (hbe.mono HB1.out.size)
    have HI0 := Lib.hid (⟨⟨hta, ⟨by simp, by simp, by simp, by simp [total]⟩, fun k hk => Nat.le_trans HB1.out.size (hba k hk), hbw⟩, fun w' _ => RowAt.nil w' 1, by simp, by simp⟩ : GtI w t (.slice none 0 0) 0 [] [] S0 (fun _ => False) w2)
    clear hta hba hbe hbw
    go_wp2
    go_loopw [4, 5] (fun t4 t5 wr => ∃ (i : Nat) (gs : List (List Sb)) (ids : List Int) (S R : Nat → Prop), t5 = .int .i64 i ∧ i ≤ l.length ∧ GtI w t t4 i gs ids S R wr) (fun _ t5 _ => l.length - (intOf t5).toNat)
    case atStart => exact ⟨0, [], [], S0, _, rfl, Nat.zero_le _, HI0.out⟩
    case round =>
      obtain ⟨i, gs, ids, S, R, rfl, hi, hI⟩ := hrel
      by_cases hlt : i < l.length
      · obtain ⟨g, hg⟩ : ∃ g, l[i]? = some g := ⟨l[i], by simp [hlt]⟩
        have hbe0 : Below w.heap.size w wr := hI.tab.be
        obtain ⟨b1, o1, a2, c2, e1, p0, hgr⟩ := HLL.out.at hg
        subst e1
        have P0 := Lib.hid p0
        have p0w := (hbe0.cell (World.block_lt_of_cell? _ _ p0)).trans p0
        obtain ⟨au4, cu4, rfl⟩ := RowAt.form (hI.rd _ (Upd.refl _ _))
        have hlt' : (i : Int) < l.length := by omega
        have hi6 : (i : Int) < 1000000 := by have := H12.out; omega
        have HI := Lib.hid hI; have HLT := Lib.hid hlt; have HGR := Lib.hid hgr; have HG := Lib.hid hg
        clear hI hlt hgr hg hi hbe0 p0
        by_cases h10 : g.length ≤ 10
        · have h10' : ¬ (10 : Int) < g.length := by omega
          have hraw : RawG g := ⟨by omega, fun x hx => (HR.out g (List.mem_of_getElem? HG.out) x hx).1, fun x hx => (HR.out g (List.mem_of_getElem? HG.out) x hx).2⟩
          have hidl : ids.length ≤ 100000 := by have := HI.out.len; have := H12.out; have := HLT.out; omega
          have C := Lib.hid (add_n HI.out.tab HI.out.rd hidl (HGR.out.below HI.out.tab.be (Nat.le_refl _)) hraw HTAB.out)
          have hfact := addG_fact gs ids g
          have hgf := fun (k : Nat) (x : Sb) (he : (addG gs ids g).2.1 = 0) (hx : g[k]? = some x) => gets_fact (gs := gs) (ids := ids) (g := g) rfl he hx
          have H10 := Lib.hid h10; have HIDL := Lib.hid hidl; have HRAW := Lib.hid hraw
          clear hraw hidl h10
          obtain ⟨A, hA⟩ : ∃ A, addG gs ids g = A := ⟨_, rfl⟩
          rw [hA] at C hfact hgf
          have HF := Lib.hid hfact; have HGF := Lib.hid hgf
          clear hA hfact hgf
          go_wp2_with fail
          refine C.out.mono ?_
          rintro e w3 ⟨u3, S3, R3, rfl, ht3, hi3, hu3, hf3, _⟩
          obtain ⟨A1, A2, A3⟩ := A
          dsimp only at ht3 hi3
          obtain ⟨au3, cu3, rfl⟩ := RowAt.form (hi3 _ (Upd.refl _ _))
          have HT3 := Lib.hid ht3; have HI3 := Lib.hid hi3; have HU3 := Lib.hid hu3; have HF3 := Lib.hid hf3
          clear ht3 hi3 hu3 hf3 p0w
          rcases HF.out with ⟨q1, q2, q3⟩ | ⟨q1, q2⟩
          · have he : (A2 == 0) = false := by simpa using q1
            have he2 : (A2 != 0) = true := by simpa using q1
            have Q1 := Lib.hid q1; have Q3 := Lib.hid q3
            clear q1 q2 q3
            go_wp2
            go_roundw
            case rel =>
              refine ⟨i + 1, gs, ids, S3, R3, by go_num, HLT.out, ⟨?_, fun w' hu => HI.out.rd w' (HU3.out.trans HF3.out (((Upd.refl S3 w3).alloc _).trans' hu)), HI.out.inn, by have := HI.out.len; omega⟩⟩
              have h := HT3.out
              have e3 : A3 = gs := Q3.out
              rw [e3] at h
              exact h.below ((Below.refl _ _).alloc (Nat.le_refl _) _)
            case measure => have := HLT.out; simp [intOf]; omega
          · have he : A2 = 0 := q1
            subst he
            have hAl : A1.length = ids.length + g.length := q2.len
            have Q2 := Lib.hid q2
            clear q1 q2
            obtain ⟨Wa, hWa⟩ : ∃ Wa, Wa = w3.alloc (.cells #[.slice au3 A1.length cu3] 32) := ⟨_, rfl⟩
            have z6 : Wa.heap[w3.heap.size]? = some (.cells #[.slice au3 A1.length cu3] 32 (0, 0)) := by rw [hWa]; exact heap_alloc_at _ _ rfl
            have hba : Below w3.heap.size w3 Wa := by rw [hWa]; exact (Below.refl _ _).alloc (Nat.le_refl _) _
            have hbwa : Below w.heap.size w Wa := HT3.out.be.trans (hba.mono HT3.out.be.size)
            have c60 := heap_cell z6 0
            simp at c60
            have p0a := (hbwa.cell (World.block_lt_of_cell? _ _ P0.out)).trans P0.out
            have HAL := Lib.hid hAl; have Z6 := Lib.hid z6; have HBA := Lib.hid hba; have HBWA := Lib.hid hbwa; have HWA := Lib.hid hWa
            rw [hWa] at c60 p0a
            have hs1 : ((ids.length : Int) + (g.length : Int)) = (A1.length : Int) := by omega
            have hs2 : wrap64 (A1.length : Int) = A1.length := wrap_nat (by have := HIDL.out; omega)
            clear hAl z6 hba hbwa hWa
            go_wp2
            go_quiet (fail)
            go_wp2
            rw [← HWA.out]
            have hb0 : Below Wa.heap.size Wa (Wa.drewN nq) := ⟨rfl, rfl, rfl, Nat.le_refl _, fun _ _ => rfl⟩
            have HB0 := Lib.hid hb0
            clear hb0 c60 p0a hs1 hs2
            go_loopw [8] (fun t8 wr => ∃ k : Nat, t8 = .int .i64 k ∧ k ≤ g.length ∧ Below Wa.heap.size Wa wr) (fun t8 _ => g.length - (intOf t8).toNat)
            case atStart => exact ⟨0, rfl, Nat.zero_le _, HB0.out⟩
            case round =>
              obtain ⟨k, rfl, hk, hbk⟩ := hrel
              have p0k := ((HBWA.out.trans (hbk.mono HBWA.out.size)).cell (World.block_lt_of_cell? _ _ P0.out)).trans P0.out
              by_cases hkl : k < g.length
              · as_aux_lemma =>
                  obtain ⟨x, hx⟩ : ∃ x, g[k]? = some x := ⟨g[k], by simp [hkl]⟩
                  have hkl' : (k : Int) < g.length := by omega
                  have hk6 : (k : Int) < 1000000 := by omega
                  obtain ⟨j, id, g', x', f1, f2, f3, f4, f5, f6, f7, f8, f9⟩ := HGF.out k x (by first | trivial | rfl) hx
                  try dsimp only at f1 f2 f3 f4 f5 f9
                  have z6k := (hbk.block _ (heap_lt Z6.out)).trans Z6.out
                  have c60 := heap_cell z6k 0
                  simp at c60
                  have hnext : ∀ W, Below wr.heap.size wr W → IntsAt W (.slice au3 A1.length cu3) A1 := fun W hW => HI3.out W ((Upd.of_below (HBA.out.trans (hbk.mono HBA.out.size)) : Upd S3 w3 wr).trans' (Upd.of_below hW))
                  obtain ⟨bn, on, en, _, pn⟩ := IntsAt.at (hnext wr (Below.refl _ _)) f1
                  subst en
                  have hwk : Below w.heap.size w wr := HBWA.out.trans (hbk.mono HBWA.out.size)
                  have hgr := HGR.out.below hwk (Nat.le_refl _)
                  obtain ⟨bg, og, eg, _, d1, m1, d2, m2, d3, m3, d4, m4, sx, q0, q1, q2, q3, q4, q5⟩ := hgr.at hx
                  subst eg
                  have htk := HT3.out.below ((HBA.out.trans (hbk.mono HBA.out.size)))
                  have hlk : ((ids.length : Int) + (k : Int)) < (A1.length : Int) := by have := HAL.out; omega
                  have hlk0 : (0 : Int) ≤ (ids.length : Int) + (k : Int) := by omega
                  have hwl : wrap64 ((ids.length : Int) + (k : Int)) = (ids.length : Int) + (k : Int) := wrap_sum (by have := HIDL.out; omega)
                  have hnat := nat_sum ids.length k
                  have FN := next_ok wr wr.heap.size w3.heap.size _ A1 z6k (heap_lt z6k) hnext (by have := HAL.out; have := HIDL.out; omega)
                  have hcx := HRAW.out.cnt x (List.mem_of_getElem? hx)
                  have CM := map_any FN _ x () 0 (fun _ => False) wr (fun w' hu => sx.below (hu.toBelow (fun _ h => h)) (Nat.le_refl _)) (small_of_cnt hcx) ⟨fun _ _ => trivial, fun _ _ _ => trivial, fun _ _ _ => trivial, fun _ _ _ => trivial⟩ ⟨Below.refl _ _, fun _ h => h, Nat.le_refl _⟩
                  rw [mapSub_mapP (f := closeHp A1) (fun _ _ => rfl)] at CM
                  have HCM := Lib.hid CM; have HTK := Lib.hid htk; have HBK := Lib.hid hbk; have HKL := Lib.hid hkl; have HCX := Lib.hid hcx; have HWK := Lib.hid hwk
                  have F2 := Lib.hid f2; have F3 := Lib.hid f3; have F4 := Lib.hid f4; have F5 := Lib.hid f5; have F6 := Lib.hid f6; have F7 := Lib.hid f7; have F8 := Lib.hid f8; have F9 := Lib.hid f9
                  clear CM htk hbk hkl hcx hwk f1 f2 f3 f4 f5 f6 f7 f8 f9 FN hnext hgr sx z6k hx hk
                  go_wp2_with fail
                  refine HCM.out.mono ?_
                  rintro e x1 ⟨ds, rfl, T1, hs1, _, hu1, _⟩
                  have hb1 : Below wr.heap.size wr x1 := hu1.toBelow (fun _ h => h)
                  have sub1 := hs1 x1 (Upd.refl _ _)
                  obtain ⟨p1, s1, p2, s2, p3, s3, p4, s4, rfl⟩ := sub1.out
                  have SUB1 := Lib.hid sub1; have HX1 := Lib.hid hb1
                  clear hs1 hu1 hb1 sub1 q0 q1 q2 q3 q4 q5 c60 pn p0k hwl hnat
                  obtain ⟨X1, hX1⟩ : ∃ X1, X1 = x1.alloc (.cells #[.bool (mapP (closeHp A1) x).fin, .slice p1 (mapP (closeHp A1) x).sups.length s1, .int .i64 (mapP (closeHp A1) x).k, .slice p2 (mapP (closeHp A1) x).ps.length s2, .slice p3 (mapP (closeHp A1) x).rs.length s3, .slice p4 (mapP (closeHp A1) x).fs.length s4] 48) := ⟨_, rfl⟩
                  have hbX1 : Below wr.heap.size wr X1 := by rw [hX1]; exact HX1.out.alloc HX1.out.size _
                  have CG := get_any (HTK.out.tab.below hbX1) HTK.out.ok F2.out F3.out F4.out F5.out F6.out F8.out
                  rw [F9.out] at CG
                  have HCG := Lib.hid CG; have HX1e := Lib.hid hX1; have HBX1 := Lib.hid hbX1
                  clear CG hX1 hbX1
                  go_wp2_with fail
                  rw [← HX1e.out]
                  refine HCG.out.mono ?_
                  rintro e x2 ⟨ds2, rfl, sub2, hb2⟩
                  obtain ⟨r1, v1, r2, v2, r3, v3, r4, v4, rfl⟩ := sub2.out
                  have SUB2 := Lib.hid sub2; have HX2 := Lib.hid hb2
                  clear sub2 hb2
                  obtain ⟨X2, hX2⟩ : ∃ X2, X2 = x2.alloc (.cells #[.bool (mapP (closeHp A1) x).fin, .slice r1 (mapP (closeHp A1) x).sups.length v1, .int .i64 (mapP (closeHp A1) x).k, .slice r2 (mapP (closeHp A1) x).ps.length v2, .slice r3 (mapP (closeHp A1) x).rs.length v3, .slice r4 (mapP (closeHp A1) x).fs.length v4] 48) := ⟨_, rfl⟩
                  have hbX2 : Below X1.heap.size X1 X2 := by rw [hX2]; exact HX2.out.alloc HX2.out.size _
                  have hbw2 : Below wr.heap.size wr X2 := HBX1.out.trans (hbX2.mono HBX1.out.size)
                  have CGr := Lib.hid (group_any (HTK.out.tab.below hbw2) HTK.out.ok F2.out F3.out F4.out)
                  have HX2e := Lib.hid hX2; have HBX2 := Lib.hid hbX2; have HBW2 := Lib.hid hbw2
                  clear hX2 hbX2 hbw2
                  go_wp2_with fail
                  rw [← HX2e.out]
                  refine CGr.out.mono ?_
                  rintro e x3 ⟨rfl, hb3⟩
                  have hb3w : Below wr.heap.size wr x3 := HBW2.out.trans (hb3.mono HBW2.out.size)
                  have t10 : x3.heap[x1.heap.size]? = some (.cells #[.bool (mapP (closeHp A1) x).fin, .slice p1 (mapP (closeHp A1) x).sups.length s1, .int .i64 (mapP (closeHp A1) x).k, .slice p2 (mapP (closeHp A1) x).ps.length s2, .slice p3 (mapP (closeHp A1) x).rs.length s3, .slice p4 (mapP (closeHp A1) x).fs.length s4] 48 (0, 0)) := by
                    have h1 : X1.heap[x1.heap.size]? = some (.cells #[.bool (mapP (closeHp A1) x).fin, .slice p1 (mapP (closeHp A1) x).sups.length s1, .int .i64 (mapP (closeHp A1) x).k, .slice p2 (mapP (closeHp A1) x).ps.length s2, .slice p3 (mapP (closeHp A1) x).rs.length s3, .slice p4 (mapP (closeHp A1) x).fs.length s4] 48 (0, 0)) := by rw [HX1e.out]; exact heap_alloc_at x1 _ rfl
                    have h2 := (HBX2.out.block _ (heap_lt h1)).trans h1
                    exact (hb3.block _ (heap_lt h2)).trans h2
                  have t11 : x3.heap[x2.heap.size]? = some (.cells #[.bool (mapP (closeHp A1) x).fin, .slice r1 (mapP (closeHp A1) x).sups.length v1, .int .i64 (mapP (closeHp A1) x).k, .slice r2 (mapP (closeHp A1) x).ps.length v2, .slice r3 (mapP (closeHp A1) x).rs.length v3, .slice r4 (mapP (closeHp A1) x).fs.length v4] 48 (0, 0)) := by
                    have h1 : X2.heap[x2.heap.size]? = some (.cells #[.bool (mapP (closeHp A1) x).fin, .slice r1 (mapP (closeHp A1) x).sups.length v1, .int .i64 (mapP (closeHp A1) x).k, .slice r2 (mapP (closeHp A1) x).ps.length v2, .slice r3 (mapP (closeHp A1) x).rs.length v3, .slice r4 (mapP (closeHp A1) x).fs.length v4] 48 (0, 0)) := by rw [HX2e.out]; exact heap_alloc_at x2 _ rfl
                    exact (hb3.block _ (heap_lt h1)).trans h1
                  have j0 := heap_cell t10 0; have j1 := heap_cell t10 1; have j2 := heap_cell t10 2; have j3 := heap_cell t10 3; have j4 := heap_cell t10 4; have j5 := heap_cell t10 5
                  have i0 := heap_cell t11 0; have i1 := heap_cell t11 1; have i2 := heap_cell t11 2; have i3 := heap_cell t11 3; have i4 := heap_cell t11 4; have i5 := heap_cell t11 5
                  simp at j0 j1 j2 j3 j4 j5 i0 i1 i2 i3 i4 i5
                  have hX1X2 : Below X1.heap.size X1 x3 := HBX2.out.trans (hb3.mono HBX2.out.size)
                  have subA : SubAt x3 [.bool (mapP (closeHp A1) x).fin, .slice r1 (mapP (closeHp A1) x).sups.length v1, .int .i64 (mapP (closeHp A1) x).k, .slice r2 (mapP (closeHp A1) x).ps.length v2, .slice r3 (mapP (closeHp A1) x).rs.length v3, .slice r4 (mapP (closeHp A1) x).fs.length v4] (mapP (closeHp A1) x) := by
                    have h1 : Below x2.heap.size x2 X2 := by rw [HX2e.out]; exact (Below.refl _ _).alloc (Nat.le_refl _) _
                    exact SUB2.out.below (h1.trans (hb3.mono h1.size)) (Nat.le_refl _)
                  have subB : SubAt x3 [.bool (mapP (closeHp A1) x).fin, .slice p1 (mapP (closeHp A1) x).sups.length s1, .int .i64 (mapP (closeHp A1) x).k, .slice p2 (mapP (closeHp A1) x).ps.length s2, .slice p3 (mapP (closeHp A1) x).rs.length s3, .slice p4 (mapP (closeHp A1) x).fs.length s4] (mapP (closeHp A1) x) := by
                    have h1 : Below x1.heap.size x1 X1 := by rw [HX1e.out]; exact (Below.refl _ _).alloc (Nat.le_refl _) _
                    exact SUB1.out.below (h1.trans (hX1X2.mono h1.size)) (Nat.le_refl _)
                  have hsm : Small (mapP (closeHp A1) x) := small_of_cnt (by rw [cnt_mapP]; exact HCX.out)
                  have CS := same_any _ _ _ _ x3 subA subB hsm hsm
                  rw [decide_eq_true rfl] at CS
                  have HCS := Lib.hid CS; have HB3W := Lib.hid hb3w
                  clear CS subA subB hsm hX1X2 t10 t11 hb3 hb3w
                  go_wp2_with fail
                  refine HCS.out.mono ?_
                  rintro e x4 ⟨rfl, hb4⟩
                  have hb4w : Below wr.heap.size wr x4 := HB3W.out.trans (hb4.mono HB3W.out.size)
                  have hwx4 : Below w.heap.size w x4 := HWK.out.trans (hb4w.mono HWK.out.size)
                  have pz := (hwx4.cell (World.block_lt_of_cell? _ _ P0.out)).trans P0.out
                  have HB4W := Lib.hid hb4w
                  clear hb4 hb4w hwx4 j0 j1 j2 j3 j4 j5 i0 i1 i2 i3 i4 i5
                  have e5 := F5.out
                  subst e5
                  have hglen : g'.length = g.length := F7.out
                  have hwf : wrap64 ((firstOf A3 j : Nat) : Int) = (firstOf A3 j : Nat) := wrap_nat (Nat.le_trans (Nat.le_trans (firstOf_le A3 j) HTK.out.ok.total) (by decide))
                  have hw1 : wrap64 ((k : Int) + 1) = (k : Int) + 1 := wrap_sum (b := 1) (Nat.le_trans (Nat.le_trans HKL.out H10.out) (by decide))
                  have HW1x := Lib.hid hw1
                  clear hlk hlk0 hkl' hk6 hw1
                  go_wp2
                  go_roundw
                  case rel => exact ⟨k + 1, by rw [HW1x.out]; exact int_succ k, HKL.out, HBK.out.trans (HB4W.out.mono HBK.out.size)⟩
                  case measure =>
                    rw [HW1x.out]
                    exact dec_int HKL.out
              · obtain rfl : k = g.length := by omega
                have hkl' : ¬ (g.length : Int) < g.length := by omega
                have z6k := (hbk.block _ (heap_lt Z6.out)).trans Z6.out
                have c60 := heap_cell z6k 0
                simp at c60
                have HBK := Lib.hid hbk
                clear hbk hkl hk z6k
                go_wp2
                go_roundw
                case rel =>
                  have hb := HBA.out.trans (HBK.out.mono HBA.out.size)
                  exact ⟨i + 1, A3, A1, S3, R3, by go_num, HLT.out, ⟨HT3.out.below hb, fun w' hu => HI3.out w' ((Upd.of_below hb : Upd S3 _ _).trans' hu), Q2.out.inn, by have h1 := Q2.out.len; have h2 := HI.out.len; have h3 := H10.out; dsimp only at h1; omega⟩⟩
                case measure => have := HLT.out; simp [intOf]; omega
        · have h10' : (10 : Int) < g.length := by omega
          clear h10
          go_wp2
          go_ret
          exact ⟨rfl, HI.out.tab.be⟩
      · obtain rfl : i = l.length := by omega
        have hlt' : ¬ (l.length : Int) < l.length := by omega
        have HBE := Lib.hid hI.tab.be
        clear hI hlt hi
        go_wp2
        go_ret
        exact ⟨rfl, HBE.out⟩
  · have h12' : (12 : Int) < l.length := by omega
    clear h12
    go_wp2
    go_ret
    exact ⟨rfl, HB1.out⟩
end Go.Proofs.YtmjehnjodaicfaaDoor
