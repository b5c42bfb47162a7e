/- geoderef23: Reach, over the document's arena in memory. -/
import Derived.Test.YtfpfpopfnbcblaaDoorQMkPts
import Derived.Test.YtfpfpopfnbcblaaDoorQMkBuilt
import Derived.Test.YtfpfpopfnbcblaaDoorQRaNewBd
namespace Go.Proofs.YtfpfpopfnbcblaaDoor
open Go.RowKit

theorem Tryd.infoBool : (Tryd.prog.info? 4).map (fun i => (i.zero, i.size, i.bytes)) = some (some (.bool false), 1, 1) := by kernel_rfl
def boolsX (X : List Bool) : List Value := X.map Value.bool
theorem made_bool (n : Nat) : madeCells #[Value.bool false] n = (boolsX (List.replicate n false)).toArray := by
  apply Array.ext'
  rw [made_list]; simp [boolsX]
/-- The row of what is reached so far. -/
structure ReW (W : World) (n g : Nat) (X : List Bool) (wr : World) : Prop where
  row : wr.heap[g]? = some (.cells (boolsX X).toArray 4 (0, 0))
  len : X.length = n
  be : Below W.heap.size W wr
variable {S : Nat → Prop} {W wr W' : World} {p cap n g : Nat} {rs : List RBk} {X : List Bool}
theorem ReW.cell (h : ReW W n g X wr) {k : Nat} {b : Bool} (hk : X[k]? = some b) : wr.cell? ⟨g, k, none⟩ = some (.bool b) := by
  rw [heap_cell h.row k]; simp [boolsX, hk]
theorem ReW.set (h : ReW W n g X wr) (hg : W.heap.size ≤ g) (k : Nat) : ReW W n g (X.set k true) (wr.setCell ⟨g, k, none⟩ (.bool true)) := by
  refine ⟨?_, by simp [h.len], h.be.setCell hg _⟩
  rw [heap_set_at h.row k]
  simp [boolsX, List.map_set]
theorem ReW.lt (h : ReW W n g X wr) {k : Nat} (hk : k < n) : ∃ b, X[k]? = some b := ⟨X[k]'(by rw [h.len]; exact hk), by simp [h.len, hk]⟩
/-- What the document's Reach tells. -/
def RefPost (W : World) (bs : List Blk) (xs : List Nat) (e : Ending) (W' : World) : Prop :=
  ∃ g X, e = .returned (.slice (some ⟨g, 0, none⟩) bs.length bs.length) ∧ W.heap.size ≤ g ∧ W'.heap[g]? = some (.cells (boolsX X).toArray 4 (0, 0)) ∧ X.length = bs.length ∧ (∀ (k : Nat) (b : Blk), bs[k]? = some b → (X[k]? = some true ↔ b.u = true ∧ RchB bs xs b.a)) ∧ Below W.heap.size W W'
theorem blks_len (rs : List RBk) : (blks rs).length = rs.length := by unfold blks; rw [List.length_map]
set_option maxRecDepth 100000 in
set_option maxHeartbeats 40000000 in
theorem refReach_any (h : RaAt S W p cap rs) (v : Value) (xs : List Nat) (hv : U64At W v xs) (hx : ∀ x ∈ xs, x < 18446744073709551616) (hl : xs.length ≤ 1000000) :
    Calls Tryd.prog 8 #[.pointer (some ⟨p, 0, none⟩), v] W (RefPost W (blks rs) xs) := by
  obtain ⟨ao, c, R⟩ := h.rowC
  have c1 := R.c1
  have hlen := h.len
  have HBD := Lib.hid (fun r hr => h.bound (r := r) hr)
  obtain ⟨n, hn⟩ : ∃ n, rs.length = n := ⟨_, rfl⟩
  rw [hn] at c1 hlen
  obtain ⟨av, cv, rfl, hrow⟩ := hv
  obtain ⟨L, hL⟩ : ∃ L, xs.length = L := ⟨_, rfl⟩
  rw [hL] at hl ⊢
  have HR := Lib.hid R; have HN := Lib.hid hn; have HL := Lib.hid hlen; have HA := Lib.hid h; have HX := Lib.hid hx; have HXL := Lib.hid hL; have HLL := Lib.hid hl; have HROW := Lib.hid hrow
  have hm1 := fun W => run_make_row' (P := Tryd.prog) 30 4 (.bool false) 1 Tryd.underlying30 Tryd.infoBool rfl .i64 .i64 n (by have := HL.out; omega) (by have := HL.out; omega) W
  have HW0 := Lib.hid (show ReW W n W.heap.size (List.replicate n false) (W.alloc (.cells (madeCells #[.bool false] n) 4)) from ⟨by rw [made_bool]; exact heap_alloc_at W _ rfl, by simp, (Below.refl _ _).alloc (Nat.le_refl _) _⟩)
  obtain ⟨g, hg⟩ : ∃ g, W.heap.size = g := ⟨_, rfl⟩
  rw [hg] at HW0
  have HG := Lib.hid (Nat.le_of_eq hg); have HGE := Lib.hid hg
  clear h R hn hlen hL hl hrow hx hg
  go_enter Tryd.func8, Tryd.ntmps8
  go_wp2
  obtain ⟨W1, hW1⟩ : ∃ W1, W1 = W.alloc (.cells (madeCells #[.bool false] n) 4) := ⟨_, rfl⟩
  rw [← hW1] at HW0 ⊢
  rw [HGE.out]
  have HS0 := Lib.hid (show RsI (blks rs) xs (List.replicate n false) from by rw [← HN.out, ← blks_len]; exact RsI.start)
  clear hW1 hm1
  go_loopw [6] (fun t6 wr => ∃ (i : Nat) (X : List Bool), t6 = .int .i64 i ∧ i ≤ L ∧ ReW W n g X wr ∧ RsI (blks rs) xs X ∧ RootsIn (blks rs) xs i X) (fun t6 _ => L - (intOf t6).toNat)
  case atStart => exact ⟨0, _, rfl, Nat.zero_le _, HW0.out, HS0.out, fun x hx => by simp at hx⟩
  case round =>
    obtain ⟨i, X, rfl, hi, hre, hri, hro⟩ := hrel
    have HRE := Lib.hid hre; have HRI := Lib.hid hri; have HRO := Lib.hid hro
    clear hre hri hro
    by_cases hlt : i < L
    · obtain ⟨x, hx⟩ : ∃ x, xs[i]? = some x := ⟨xs[i]'(by rw [HXL.out]; exact hlt), by simp [HXL.out, hlt]⟩
      rcases HROW.out with h0 | ⟨b, o, rfl, hc⟩
      · rw [h0] at hx; simp at hx
      · have c0 : wr.cell? ⟨b, o + i, none⟩ = some (.int .u64 x) := by have := below_cell HRE.out.be (hc i x hx); rwa [Addr.add_lit] at this
        have C := Lib.hid (points_any (HA.out.below HRE.out.be) x (HX.out x (List.mem_of_getElem? hx)))
        have hlt' : (i : Int) < L := by omega
        have HXI := Lib.hid hx; have HLT := Lib.hid hlt
        have HI6 := Lib.hid (show (i : Int) < 1000000 by have := HLL.out; omega)
        clear hx hc hlt hi
        rcases ptsR_cases (blks rs) x with hp | ⟨k, hp⟩
        · rw [hp] at C
          have HP := Lib.hid hp
          clear hp
          go_wp2_with fail
          refine C.out.mono ?_
          rintro e w1 ⟨rfl, rfl⟩
          have HI6' := HI6.out
          go_wp2
          go_roundw
          case rel => exact ⟨i + 1, X, by go_num, HLT.out, HRE.out, HRI.out, HRO.out.next HXI.out (fun k hk => by rw [HP.out] at hk; omega)⟩
          case measure => have := HLT.out; simp [intOf]; omega
        · rw [hp] at C
          obtain ⟨b', hkb, _⟩ := ptsR_hit hp
          have hkn : k < n := by have := (List.getElem?_eq_some_iff.1 hkb).1; rw [blks_len, HN.out] at this; exact this
          obtain ⟨bo, hbo⟩ := HRE.out.lt hkn
          have ck := HRE.out.cell hbo
          have fk := heap_frozen HRE.out.row k
          have hk0 : (0 : Int) ≤ k := by omega
          have hkn' : (k : Int) < n := by omega
          have HP := Lib.hid hp; have HKN := Lib.hid hkn
          clear hp hkb hkn hbo
          go_wp2_with fail
          refine C.out.mono ?_
          rintro e w1 ⟨rfl, rfl⟩
          have HI6' := HI6.out
          go_wp2
          go_roundw
          case rel => exact ⟨i + 1, X.set k true, by go_num, HLT.out, HRE.out.set HG.out k, HRI.out.root (List.mem_of_getElem? HXI.out) HP.out, (HRO.out.set).next HXI.out (fun j hj => by
            rw [HP.out] at hj
            obtain rfl : j = k := by omega
            exact set_at (by rw [HRE.out.len]; exact HKN.out))⟩
          case measure => have := HLT.out; simp [intOf]; omega
    · obtain rfl : i = L := by omega
      have hlt' : ¬ (i : Int) < i := by omega
      clear hlt hi HW0 HS0
      go_wp2_with fail
      go_loopg [8] (fals X) (fun k _ wr => ∃ X, fals X ≤ k ∧ ReW W n g X wr ∧ RsI (blks rs) xs X ∧ RootsIn (blks rs) xs i X)
      case atStart => exact ⟨X, Nat.le_refl _, HRE.out, HRI.out, HRO.out⟩
      case round =>
        clear HRE HRI HRO
        obtain ⟨Xs, hk, hre, hri, hro⟩ := hrel
        have HK := Lib.hid hk; have HRE := Lib.hid hre; have HRI := Lib.hid hri; have HRO := Lib.hid hro
        clear hk hre hri hro
        go_wp2_with fail
        go_loopw [8, 9] (fun t8 t9 wr => ∃ (q : Nat) (X : List Bool) (mo : Bool), t8 = .bool mo ∧ t9 = .int .i64 q ∧ q ≤ n ∧ ReW W n g X wr ∧ RsI (blks rs) xs X ∧ RootsIn (blks rs) xs i X ∧ fals X ≤ fals Xs ∧ (mo = true → fals X < fals Xs) ∧ (mo = false → ClosedTo (blks rs) q X)) (fun _ t9 _ => n - (intOf t9).toNat)
        case atStart => exact ⟨0, Xs, false, rfl, rfl, Nat.zero_le _, HRE.out, HRI.out, HRO.out, Nat.le_refl _, fun h => (by cases h), fun _ j hj => (by omega)⟩
        case round =>
          clear HRE HRI HRO
          obtain ⟨q, X, mo, rfl, rfl, hq, hre, hri, hro, hf1, hf2, hcl⟩ := hrel
          have HRE := Lib.hid hre; have HRI := Lib.hid hri; have HRO := Lib.hid hro; have HF1 := Lib.hid hf1; have HF2 := Lib.hid hf2; have HCL := Lib.hid hcl
          clear hre hri hro hf1 hf2 hcl
          by_cases hlq : q < n
          · obtain ⟨r, hr⟩ : ∃ r, rs[q]? = some r := ⟨rs[q]'(by rw [HN.out]; exact hlq), by simp [HN.out, hlq]⟩
            have hb : (blks rs)[q]? = some r.b := by unfold blks; rw [List.getElem?_map, hr]; rfl
            obtain ⟨bo, hbo⟩ := HRE.out.lt hlq
            have cq := HRE.out.cell hbo
            have hlq' : (q : Int) < n := by omega
            have hq0 : (0 : Int) ≤ q := by omega
            have HQ6 := Lib.hid (show (q : Int) < 1048577 by have := HL.out; omega)
            have HLQ := Lib.hid hlq; have HRR := Lib.hid hr; have HB := Lib.hid hb; have HBO := Lib.hid hbo
            clear hlq hq hr hb hbo
            cases bo
            · have HQ6' := HQ6.out
              go_wp2
              go_roundw
              case rel => exact ⟨q + 1, X, mo, rfl, by go_num, HLQ.out, HRE.out, HRI.out, HRO.out, HF1.out, HF2.out, fun h => (HCL.out h).next HB.out (fun hh => by have := HBO.out; rw [hh] at this; cases this)⟩
              case measure => have := HLQ.out; simp [intOf]; omega
            · go_wp2_with fail
              obtain ⟨g2, rfl, k0, k1, k2, k3⟩ := HR.out.at' q r HRR.out
              obtain ⟨m, hm⟩ : ∃ m, r.b.n = m := ⟨_, rfl⟩
              obtain ⟨rg, hrg⟩ : ∃ rg, r.g = rg := ⟨_, rfl⟩
              rw [hm, hrg] at k1
              have K1 := Lib.hid k1; have HM := Lib.hid hm; have HRG := Lib.hid hrg
              have HM6 := Lib.hid (show (m : Int) < 1048577 by have := HBD.out r (List.mem_of_getElem? HRR.out); omega)
              clear k0 k1 k2 k3 hm hrg cq
              go_loopw [8, 10] (fun t8 t10 wr => ∃ (j : Nat) (X : List Bool) (mo : Bool), t8 = .bool mo ∧ t10 = .int .i64 j ∧ j ≤ m ∧ ReW W n g X wr ∧ RsI (blks rs) xs X ∧ RootsIn (blks rs) xs i X ∧ X[q]? = some true ∧ fals X ≤ fals Xs ∧ (mo = true → fals X < fals Xs) ∧ (mo = false → ClosedTo (blks rs) q X ∧ ClosedAt (blks rs) X r.b j)) (fun _ t10 _ => m - (intOf t10).toNat)
              case atStart => exact ⟨0, X, mo, rfl, rfl, Nat.zero_le _, HRE.out, HRI.out, HRO.out, HBO.out, HF1.out, HF2.out, fun h => ⟨HCL.out h, fun y hy => by simp at hy⟩⟩
              case round =>
                clear HRE HRI HRO HF1 HF2 HCL HBO
                obtain ⟨j, X, mo, rfl, rfl, hj, hre, hri, hro, hxq, hf1, hf2, hcl⟩ := hrel
                have HRE := Lib.hid hre; have HRI := Lib.hid hri; have HRO := Lib.hid hro; have HXQ := Lib.hid hxq; have HF1 := Lib.hid hf1; have HF2 := Lib.hid hf2; have HCL := Lib.hid hcl
                have cp := below_cell hre.be c1
                have cw := below_cell hre.be K1.out
                clear hre hri hro hxq hf1 hf2 hcl
                by_cases hlj : j < m
                · obtain ⟨y, hy⟩ : ∃ y, r.b.ws[j]? = some y := ⟨r.b.ws[j]'(by have := HM.out; unfold Blk.n at this; omega), by have := HM.out; unfold Blk.n at this; simp⟩
                  have cy := below_cell HRE.out.be (HA.out.word (List.mem_of_getElem? HRR.out) (k := j) (by rw [HM.out]; exact hlj))
                  rw [HRG.out, List.getD_eq_getElem?_getD, hy, Option.getD_some] at cy
                  have C := Lib.hid (points_any (HA.out.below HRE.out.be) y (HA.out.u64 r (List.mem_of_getElem? HRR.out) y (List.mem_of_getElem? hy)))
                  have hlj' : (j : Int) < m := by omega
                  have hj0 : (0 : Int) ≤ j := by omega
                  have HJ6 := Lib.hid (show (j : Int) < 1048577 by have := HM6.out; omega)
                  have HLJ := Lib.hid hlj; have HY := Lib.hid hy
                  clear hlj hj hy
                  rcases ptsR_cases (blks rs) y with hp | ⟨k, hp⟩
                  · rw [hp] at C
                    have HP := Lib.hid hp
                    have hkm : ¬ (0 : Int) ≤ -1 := by omega
                    clear hp
                    go_wp2_with fail
                    refine C.out.mono ?_
                    rintro e w1 ⟨rfl, rfl⟩
                    have HJ6' := HJ6.out
                    go_wp2
                    go_roundw
                    case rel => exact ⟨j + 1, X, mo, rfl, by go_num, HLJ.out, HRE.out, HRI.out, HRO.out, HXQ.out, HF1.out, HF2.out, fun h => ⟨(HCL.out h).1, (HCL.out h).2.next HY.out (fun k hk => by rw [HP.out] at hk; omega)⟩⟩
                    case measure => have := HLJ.out; simp [intOf]; omega
                  · rw [hp] at C
                    obtain ⟨b', hkb, _⟩ := ptsR_hit hp
                    have hkn : k < n := by have := (List.getElem?_eq_some_iff.1 hkb).1; rw [blks_len, HN.out] at this; exact this
                    obtain ⟨bo, hbo⟩ := HRE.out.lt hkn
                    have ck := HRE.out.cell hbo
                    have fk := heap_frozen HRE.out.row k
                    have hk0 : (0 : Int) ≤ k := by omega
                    have hkn' : (k : Int) < n := by omega
                    have HP := Lib.hid hp; have HKN := Lib.hid hkn; have HBO := Lib.hid hbo
                    clear hp hkb hkn hbo
                    cases bo
                    · go_wp2_with fail
                      refine C.out.mono ?_
                      rintro e w1 ⟨rfl, rfl⟩
                      have HJ6' := HJ6.out
                      go_wp2
                      go_roundw
                      case rel => exact ⟨j + 1, X.set k true, true, rfl, by go_num, HLJ.out, HRE.out.set HG.out k, HRI.out.step (HA.out.wf.span) HB.out HXQ.out (List.mem_of_getElem? HY.out) HP.out, HRO.out.set, set_keeps HXQ.out, by have := fals_set HBO.out; have := HF1.out; omega, fun _ => by have := fals_set HBO.out; have := HF1.out; omega, fun h => by cases h⟩
                      case measure => have := HLJ.out; simp [intOf]; omega
                    · go_wp2_with fail
                      refine C.out.mono ?_
                      rintro e w1 ⟨rfl, rfl⟩
                      have HJ6' := HJ6.out
                      go_wp2
                      go_roundw
                      case rel => exact ⟨j + 1, X, mo, rfl, by go_num, HLJ.out, HRE.out, HRI.out, HRO.out, HXQ.out, HF1.out, HF2.out, fun h => ⟨(HCL.out h).1, (HCL.out h).2.next HY.out (fun k' hk => by
                        rw [HP.out] at hk
                        obtain rfl : k' = k := by omega
                        exact HBO.out)⟩⟩
                      case measure => have := HLJ.out; simp [intOf]; omega
                · obtain rfl : j = m := by omega
                  have hlj' : ¬ (j : Int) < j := by omega
                  have HQ6' := HQ6.out
                  clear hlj hj
                  go_wp2
                  go_roundw
                  case rel => exact ⟨q + 1, X, mo, rfl, by go_num, HLQ.out, HRE.out, HRI.out, HRO.out, HF1.out, HF2.out, fun h => (HCL.out h).1.next HB.out (fun _ => by rw [HM.out]; exact (HCL.out h).2)⟩
                  case measure => have := HLQ.out; simp [intOf]; omega
          · obtain rfl : q = n := by omega
            have hlq' : ¬ (q : Int) < q := by omega
            clear hlq hq
            cases mo
            · go_wp2
              go_ret
              have hlen := HN.out
              refine ⟨g, X, (by rw [blks_len, HN.out]; rfl), HG.out, HRE.out.row, by rw [HRE.out.len, blks_len, HN.out], fun k b hk => ?_, HRE.out.be⟩
              exact HRI.out.done HA.out.wf.span (by rw [HXL.out]; exact HRO.out) (by rw [blks_len, HN.out]; exact HCL.out (by simp)) hk
            · go_wp2
              go_roundg (fals X)
              case measure => have := HF2.out (by simp); have := HK.out; omega
              case rel => exact ⟨X, Nat.le_refl _, HRE.out, HRI.out, HRO.out⟩
end Go.Proofs.YtfpfpopfnbcblaaDoor
