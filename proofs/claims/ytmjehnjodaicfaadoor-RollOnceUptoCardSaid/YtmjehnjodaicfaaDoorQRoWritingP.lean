/- strings.Builder: WriteString. -/
import Derived.Test.YtmjehnjodaicfaaDoorQRoRoll
import Derived.Test.YtmjehnjodaicfaaDoorQKdTxt
import Derived.Lib.Builder
import Derived.Shelf.Strings.Builder1
import Derived.Test.YtmjehnjodaicfaaDoorQShelf
namespace Go.Proofs.YtmjehnjodaicfaaDoor
open Go.RowKit

theorem Tryd.sizeBuilder : (Tryd.prog.info? 103).map (·.size) = some 2 := by kernel_rfl
theorem Tryd.liesBuilder : liesAt Tryd.prog Tryd.prog.depth 103 (2 / Tryd.prog.cellsOf 103) 0 103 1 = true := by kernel_rfl
set_option maxHeartbeats 1000000 in
set_option maxRecDepth 100000 in
theorem copyCheck_used (b : Nat) (w : World) (h0 : w.cell? ⟨b, 0, none⟩ = some (.pointer (some ⟨b, 0, none⟩))) :
    Calls Tryd.prog 62 #[.pointer (some ⟨b, 0, none⟩)] w fun e w' => e = .returned (.tuple #[]) ∧ w' = w := by
  obtain ⟨j, hj, _⟩ := Option.map_eq_some_iff.1 Tryd.sizeBuilder
  go_enter Tryd.func62, Tryd.ntmps62
  go_wp2
  rw [Lib.run_neq_ptr_same w _ Tryd.underlying100 hj]
  go_wp2
  go_end0
  exact ⟨rfl, rfl⟩
set_option maxHeartbeats 1000000 in
set_option maxRecDepth 100000 in
theorem copyCheck_fresh (b : Nat) (w : World) (h0 : w.cell? ⟨b, 0, none⟩ = some (.pointer none)) (hsh : w.shape? b = some (103, 2)) (hfz : w.frozen? ⟨b, 0, none⟩ = false) :
    Calls Tryd.prog 62 #[.pointer (some ⟨b, 0, none⟩)] w fun e w' => e = .returned (.tuple #[]) ∧ w' = w.setCell ⟨b, 0, none⟩ (.pointer (some ⟨b, 0, none⟩)) := by
  obtain ⟨j, hj, hjs⟩ := Option.map_eq_some_iff.1 Tryd.sizeBuilder
  go_enter Tryd.func62, Tryd.ntmps62
  go_wp2
  rw [Lib.run_to_unsafe w ⟨b, 0, none⟩ Tryd.underlying100 Tryd.underlying119 hj (by rw [hjs]; decide) hsh (Nat.zero_lt_succ 1)]
  simp only [Result.andThen]
  rw [Oper.upon_value]
  go_wp2
  rw [run_callFunc_extern Tryd.func68 (by kernel_rfl) (by kernel_rfl) (by kernel_rfl) (e := Extern.AbiNoEscape.same) (by kernel_rfl)]
  rw [Lib.run_noEscape]
  simp only [Result.andThen]
  rw [Oper.upon_value]
  go_wp2
  rw [Lib.run_from_unsafe w ⟨b, 0, none⟩ Tryd.underlying119 Tryd.underlying100 hj hsh Tryd.liesBuilder]
  simp only [Result.andThen]
  rw [Oper.upon_value]
  go_wp2
  go_end0
  exact ⟨rfl, rfl⟩
theorem copyCheck_any (B b : Nat) (bs : List Value) (w : World) (h : Lib.IsBuilder 103 5 B b bs w) :
    Calls Tryd.prog 62 #[.pointer (some ⟨b, 0, none⟩)] w fun e w' => e = .returned (.tuple #[]) ∧ (Lib.BuilderAt 103 5 B b (.pointer (some ⟨b, 0, none⟩)) bs w' ∧ Below B w w') := by
  rcases h with h | h
  · refine (copyCheck_fresh b w h.cell0 h.shape h.frozen0).mono ?_
    rintro e w' ⟨rfl, rfl⟩
    exact ⟨rfl, h.used _, (Below.refl B w).setCell (p := ⟨b, 0, none⟩) h.1 _⟩
  · refine (copyCheck_used b w h.cell0).mono ?_
    rintro e w' ⟨rfl, rfl⟩
    exact ⟨rfl, h, Below.refl B _⟩
set_option maxHeartbeats 1000000 in
set_option maxRecDepth 100000 in
theorem writeString_any (B b : Nat) (bs : List Value) (s : ByteArray) (w : World) (h : Lib.IsBuilder 103 5 B b bs w) (hlen : bs.length + s.size ≤ 140737488355328) (hBw : B ≤ w.heap.size) :
    Calls Tryd.prog 55 #[.pointer (some ⟨b, 0, none⟩), .string s] w fun e w' => e = .returned (.tuple #[.int .i64 s.size, .nilIface]) ∧ (Lib.BuilderAt 103 5 B b (.pointer (some ⟨b, 0, none⟩)) (bs ++ Lib.strCells s) w' ∧ Below B w w') := by
  obtain ⟨i0, hi, hz0, hz1, hz2⟩ := info_parts Tryd.infoU8
  have HC := Lib.hid (copyCheck_any B b bs w h)
  have Hi := Lib.hid hi; have Hz0 := Lib.hid hz0; have Hz1 := Lib.hid hz1; have Hz2 := Lib.hid hz2
  clear hi hz0 hz1 hz2 h
  go_enter Tryd.func55, Tryd.ntmps55
  go_wp2_with fail
  refine HC.out.mono ?_
  rintro e w1 ⟨rfl, h1, hb1⟩
  obtain ⟨hB, v, hbk, hown, hne⟩ := h1
  have c0 : w1.cell? ⟨b, 0, none⟩ = some (.pointer (some ⟨b, 0, none⟩)) := by rw [Lib.cell_of_heap hbk]; rfl
  have c1 : w1.cell? ⟨b, 1, none⟩ = some v := by rw [Lib.cell_of_heap hbk]; rfl
  have HOW := Lib.hid hown; have HBK := Lib.hid hbk; have HNE := Lib.hid hne; have HB1 := Lib.hid hb1; have HB := Lib.hid hB
  clear hown hbk hne hb1 hB
  go_wp2_with (at_builtin; refine Lib.wpList_append_own_string _ rfl _ _ 101 9 rfl B 5 i0 Tryd.underlying101 Tryd.underlying9 Hi.out Hz0.out Hz1.out Hz2.out _ _ _ rfl HOW.out s rfl ?c3 ?c4 ?c5 ?_)
  case c3 => unfold maxLen; omega
  case c4 => omega
  case c5 => have := HB1.out.size; omega
  intro v' w2 hown' hgrow _
  have hlt : b < w1.heap.size := heap_lt HBK.out
  have hb2 : w2.heap[b]? = some (.cells #[.pointer (some ⟨b, 0, none⟩), v] 103 (0, 0)) := by
    rw [hgrow.block b hlt (fun e => HNE.out e.symm)]
    exact HBK.out
  have d0 : w2.cell? ⟨b, 0, none⟩ = some (.pointer (some ⟨b, 0, none⟩)) := by rw [Lib.cell_of_heap hb2]; rfl
  have d1 : w2.cell? ⟨b, 1, none⟩ = some v := by rw [Lib.cell_of_heap hb2]; rfl
  have f1 : w2.frozen? ⟨b, 1, none⟩ = false := Lib.frozen_of_heap hb2 1
  obtain ⟨ao, n', cap, rfl⟩ : ∃ ao n' cap, v' = .slice ao n' cap := by
    rcases hown'.2 with ⟨hv, _⟩ | ⟨g, cap, cur, hv, _⟩
    · exact ⟨_, _, _, hv⟩
    · exact ⟨_, _, _, hv⟩
  have HO2 := Lib.hid hown'; have HG := Lib.hid hgrow; have HB2 := Lib.hid hb2
  clear hown' hgrow hb2 c0 c1
  go_wp2
  go_ret2
  refine ⟨rfl, ?_, ?_⟩
  · exact Lib.BuilderAt.put (T := 103) (e := 5) HB.out HB2.out (bs' := bs ++ Lib.strCells s) (by simpa [Lib.strCells_length] using HO2.out) (by decide)
  · exact (HB1.out.grown HG.out (by have := HB1.out.size; omega) (fun k hk => (HOW.out.lt k hk).1)).setCell (p := ⟨b, 1, none⟩) HB.out _
end Go.Proofs.YtmjehnjodaicfaaDoor

/- package roll: writing. -/
namespace Go.Proofs.YtmjehnjodaicfaaDoor
open Go.RowKit

theorem subT_len (s : Sb) (h : Fits s) : (subT s).length ≤ 300000000 := by
  have h1 := compT_len s h
  have h2 := listT_len (f := heapT) (c := 40) s.sups (fun v hv => heapT_len v (h.sups v hv))
  have h3 := h.small.sups
  unfold subT
  simp only [List.length_append, List.length_cons, List.length_nil]
  split <;> simp <;> omega
theorem groupT_len (g : List Sb) (h : ∀ x ∈ g, Fits x) : (groupT g).length ≤ g.length * 300000000 := by
  induction g with
  | nil => simp [groupT]
  | cons x g ih =>
    have h1 := subT_len x (h x (by simp))
    have h2 := ih (fun y hy => h y (by simp [hy]))
    have h3 : groupT (x :: g) = subT x ++ groupT g := by simp [groupT]
    rw [h3, List.length_append, List.length_cons]; omega
theorem IsBuilder_on {B b : Nat} {bs : List Value} {W W' : World} (h : Lib.IsBuilder 103 5 B b bs W) (hb : Below W.heap.size W W') : Lib.IsBuilder 103 5 B b bs W' := by
  have k : ∀ p, Lib.BuilderAt 103 5 B b p bs W → Lib.BuilderAt 103 5 B b p bs W' := fun p ⟨h1, v, h2, h3, h4⟩ =>
    ⟨h1, v, by rw [hb.block b (heap_lt h2)]; exact h2, ownsRow_upd h3 (Upd.of_below hb : Upd (fun _ => False) W W') (fun _ _ h => h), h4⟩
  exact h.elim (fun h => .inl (k _ h)) (fun h => .inr (k _ h))
set_option maxHeartbeats 4000000 in
set_option maxRecDepth 100000 in
theorem writing_any (v : Value) (g : List Sb) (w : World) (hg : GrpAt w v g) (hl : g.length ≤ 1000) (hf : ∀ x ∈ g, Fits x) (ht : Tab w) :
    Calls Tryd.prog 51 #[v] w fun e w' => e = .returned (.string ⟨(groupT g).toArray⟩) ∧ Below w.heap.size w w' := by
  obtain ⟨ao, ca, rfl⟩ := hg.form
  have HG := Lib.hid hg; have HL := Lib.hid hl; have HF := Lib.hid hf; have HT := Lib.hid ht
  obtain ⟨W0, hW⟩ : ∃ W0 : World, W0 = w.alloc (.cells #[.pointer none, .slice none 0 0] 103) := ⟨_, rfl⟩
  have z0 : W0.heap[w.heap.size]? = some (.cells #[.pointer none, .slice none 0 0] 103 (0, 0)) := by rw [hW]; exact heap_alloc_at _ _ rfl
  have hb0 : Below w.heap.size w W0 := by rw [hW]; exact (Below.refl _ _).alloc (Nat.le_refl _) _
  have HW := Lib.hid hW; have Z0 := Lib.hid z0; have HB0 := Lib.hid hb0
  clear hg hl hf ht hW z0 hb0
  go_enter Tryd.func51, Tryd.ntmps51
  go_wp2
  rw [← HW.out]
  go_loopw [8] (fun t8 wr => ∃ i : Nat, t8 = .int .i64 i ∧ i ≤ g.length ∧ Lib.IsBuilder 103 5 w.heap.size w.heap.size (Lib.byteCells (groupT (g.take i))) wr ∧ Below w.heap.size w wr) (fun t8 _ => g.length - (intOf t8).toNat)
  case atStart => exact ⟨0, rfl, Nat.zero_le _, .inl ⟨Nat.le_refl _, _, Z0.out, owns_zero _ _ _ _, by simp [Value.ownBlock]⟩, HB0.out⟩
  case round =>
    obtain ⟨i, rfl, hi, hbd, hbe⟩ := hrel
    by_cases hlt : i < g.length
    · obtain ⟨x, hx⟩ : ∃ x, g[i]? = some x := ⟨g[i], by simp [hlt]⟩
      obtain ⟨b2, o2, e2, _, d1, f1, d2, f2, d3, f3, d4, f4, sb, q0, q1, q2, q3, q4, q5⟩ := (HG.out.below hbe (Nat.le_refl _)).at hx
      subst e2
      have hlt' : (i : Int) < g.length := by omega
      have hi6 : (i : Int) < 1000000 := by have := HL.out; omega
      have hfx := HF.out x (List.mem_of_getElem? hx)
      obtain ⟨cs, hcs⟩ : ∃ cs : List Value, cs = [.bool x.fin, .slice d1 x.sups.length f1, .int .i64 x.k, .slice d2 x.ps.length f2, .slice d3 x.rs.length f3, .slice d4 x.fs.length f4] := ⟨_, rfl⟩
      have hal : Below w.heap.size w (wr.alloc (.cells cs.toArray 48)) := hbe.alloc hbe.size _
      have C := text_any cs x hfx (wr.alloc (.cells cs.toArray 48)) (by rw [hcs]; exact sb.below ((Below.refl _ _).alloc (Nat.le_refl _) _) (Nat.le_refl _)) (HT.out.on hal)
      have hbd2 := hbd
      rw [hcs] at C hal
      have HC := Lib.hid C; have HBD := Lib.hid hbd; have HAL := Lib.hid hal; have HX := Lib.hid hx; have HLT := Lib.hid hlt; have HFX := Lib.hid hfx; have HBE := Lib.hid hbe
      clear C hbd hbd2 hal hx hlt hi hfx sb hbe
      go_wp2_with fail
      refine HC.out.mono ?_
      rintro e w1 ⟨rfl, hb1⟩
      have hbd1 : Lib.IsBuilder 103 5 w.heap.size w.heap.size (Lib.byteCells (groupT (g.take i))) w1 :=
        IsBuilder_on (IsBuilder_on HBD.out ((Below.refl _ _).alloc (Nat.le_refl _) _)) hb1
      have hbe1 : Below w.heap.size w w1 := HAL.out.trans (hb1.mono HAL.out.size)
      have hlen : (Lib.byteCells (groupT (g.take i))).length + (ByteArray.mk (subT x).toArray).size ≤ 140737488355328 := by
        have h1 := groupT_len (g.take i) (fun y hy => HF.out y (List.mem_of_mem_take hy))
        have h2 : (g.take i).length ≤ 1000 := by have := HL.out; rw [List.length_take]; omega
        have h3 := subT_len x HFX.out
        have h4 : (Lib.byteCells (groupT (g.take i))).length = (groupT (g.take i)).length := by simp [Lib.byteCells]
        have h5 : (ByteArray.mk (subT x).toArray).size = (subT x).length := by simp [ByteArray.size]
        rw [h4, h5]; omega
      have HC2 := Lib.hid (writeString_any w.heap.size w.heap.size _ ⟨(subT x).toArray⟩ w1 hbd1 hlen hbe1.size)
      have HBE1 := Lib.hid hbe1
      clear hbd1 hbe1 hlen hb1 q0 q1 q2 q3 q4 q5
      go_wp2_with fail
      refine HC2.out.mono ?_
      rintro e w2 ⟨rfl, hbd2, hb2⟩
      have HBD2 := Lib.hid hbd2; have HB2 := Lib.hid hb2
      clear hbd2 hb2
      go_wp2
      go_roundw
      case rel =>
        refine ⟨i + 1, by go_num, HLT.out, .inr ?_, HBE1.out.trans HB2.out⟩
        have e1 : groupT (g.take (i + 1)) = groupT (g.take i) ++ subT x := by
          rw [List.take_add_one, HX.out]; simp [groupT]
        have h := HBD2.out
        rw [strCells_bytes] at h
        rw [e1, byteCells_append]; simpa using h
      case measure => have := HLT.out; simp [intOf]; omega
    · obtain rfl : i = g.length := by omega
      have hlt' : ¬ (g.length : Int) < g.length := by omega
      rw [List.take_length] at hbd
      have HBD := Lib.hid hbd; have HBE := Lib.hid hbe
      clear hbd hbe
      go_wp2_with fail
      refine (Tryd.Builder_String_any w.heap.size w.heap.size (groupT g) _ HBD.out HBE.out.size).mono ?_
      rintro e w1 ⟨rfl, hb1⟩
      have HB1 := Lib.hid hb1
      clear hb1
      go_wp2
      go_ret
      exact ⟨rfl, HBE.out.trans HB1.out⟩
end Go.Proofs.YtmjehnjodaicfaaDoor
