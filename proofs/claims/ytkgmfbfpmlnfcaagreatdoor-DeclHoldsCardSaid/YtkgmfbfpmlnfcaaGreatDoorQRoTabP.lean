/- strings.Builder: WriteString. -/
import Derived.Test.YtkgmfbfpmlnfcaaGreatDoorQKdValP
import Derived.Test.YtkgmfbfpmlnfcaaGreatDoorQKdTxtP
import Derived.Lib.Builder
import Derived.Shelf.Strings.Builder1
import Derived.Test.YtkgmfbfpmlnfcaaGreatDoorQShelf
import Derived.Maps.OwnSet
import Derived.Maps.Keyed
import Derived.Maps.OwnOps
namespace Go.Proofs.YtkgmfbfpmlnfcaaGreatDoor
open Go.RowKit

theorem Tryz.sizeBuilder : (Tryz.prog.info? 135).map (·.size) = some 2 := by kernel_rfl
theorem Tryz.liesBuilder : liesAt Tryz.prog Tryz.prog.depth 135 (2 / Tryz.prog.cellsOf 135) 0 135 1 = true := by kernel_rfl
set_option maxHeartbeats 1000000 in
set_option maxRecDepth 100000 in
theorem copyCheck_used (b : Nat) (w : World) (h0 : w.cell? ⟨b, 0, none⟩ = some (.pointer (some ⟨b, 0, none⟩))) :
    Calls Tryz.prog 78 #[.pointer (some ⟨b, 0, none⟩)] w fun e w' => e = .returned (.tuple #[]) ∧ w' = w := by
  obtain ⟨j, hj, _⟩ := Option.map_eq_some_iff.1 Tryz.sizeBuilder
  go_enter Tryz.func78, Tryz.ntmps78
  go_wp2
  rw [Lib.run_neq_ptr_same w _ Tryz.underlying132 hj]
  go_wp2
  go_end0
  exact ⟨rfl, rfl⟩
set_option maxHeartbeats 1000000 in
set_option maxRecDepth 100000 in
theorem copyCheck_fresh (b : Nat) (w : World) (h0 : w.cell? ⟨b, 0, none⟩ = some (.pointer none)) (hsh : w.shape? b = some (135, 2)) (hfz : w.frozen? ⟨b, 0, none⟩ = false) :
    Calls Tryz.prog 78 #[.pointer (some ⟨b, 0, none⟩)] w fun e w' => e = .returned (.tuple #[]) ∧ w' = w.setCell ⟨b, 0, none⟩ (.pointer (some ⟨b, 0, none⟩)) := by
  obtain ⟨j, hj, hjs⟩ := Option.map_eq_some_iff.1 Tryz.sizeBuilder
  go_enter Tryz.func78, Tryz.ntmps78
  go_wp2
  rw [Lib.run_to_unsafe w ⟨b, 0, none⟩ Tryz.underlying132 Tryz.underlying152 hj (by rw [hjs]; decide) hsh (Nat.zero_lt_succ 1)]
  simp only [Result.andThen]
  rw [Oper.upon_value]
  go_wp2
  rw [run_callFunc_extern Tryz.func84 (by kernel_rfl) (by kernel_rfl) (by kernel_rfl) (e := Extern.AbiNoEscape.same) (by kernel_rfl)]
  rw [Lib.run_noEscape]
  simp only [Result.andThen]
  rw [Oper.upon_value]
  go_wp2
  rw [Lib.run_from_unsafe w ⟨b, 0, none⟩ Tryz.underlying152 Tryz.underlying132 hj hsh Tryz.liesBuilder]
  simp only [Result.andThen]
  rw [Oper.upon_value]
  go_wp2
  go_end0
  exact ⟨rfl, rfl⟩
theorem copyCheck_any (B b : Nat) (bs : List Value) (w : World) (h : Lib.IsBuilder 135 5 B b bs w) :
    Calls Tryz.prog 78 #[.pointer (some ⟨b, 0, none⟩)] w fun e w' => e = .returned (.tuple #[]) ∧ (Lib.BuilderAt 135 5 B b (.pointer (some ⟨b, 0, none⟩)) bs w' ∧ Below B w w') := by
  rcases h with h | h
  · refine (copyCheck_fresh b w h.cell0 h.shape h.frozen0).mono ?_
    rintro e w' ⟨rfl, rfl⟩
    exact ⟨rfl, h.used _, (Below.refl B w).setCell (p := ⟨b, 0, none⟩) h.1 _⟩
  · refine (copyCheck_used b w h.cell0).mono ?_
    rintro e w' ⟨rfl, rfl⟩
    exact ⟨rfl, h, Below.refl B _⟩
set_option maxHeartbeats 1000000 in
set_option maxRecDepth 100000 in
theorem writeString_any (B b : Nat) (bs : List Value) (s : ByteArray) (w : World) (h : Lib.IsBuilder 135 5 B b bs w) (hlen : bs.length + s.size ≤ 140737488355328) (hBw : B ≤ w.heap.size) :
    Calls Tryz.prog 71 #[.pointer (some ⟨b, 0, none⟩), .string s] w fun e w' => e = .returned (.tuple #[.int .i64 s.size, .nilIface]) ∧ (Lib.BuilderAt 135 5 B b (.pointer (some ⟨b, 0, none⟩)) (bs ++ Lib.strCells s) w' ∧ Below B w w') := by
  obtain ⟨i0, hi, hz0, hz1, hz2⟩ := info_parts Tryz.infoU8
  have HC := Lib.hid (copyCheck_any B b bs w h)
  have Hi := Lib.hid hi; have Hz0 := Lib.hid hz0; have Hz1 := Lib.hid hz1; have Hz2 := Lib.hid hz2
  clear hi hz0 hz1 hz2 h
  go_enter Tryz.func71, Tryz.ntmps71
  go_wp2_with fail
  refine HC.out.mono ?_
  rintro e w1 ⟨rfl, h1, hb1⟩
  obtain ⟨hB, v, hbk, hown, hne⟩ := h1
  have c0 : w1.cell? ⟨b, 0, none⟩ = some (.pointer (some ⟨b, 0, none⟩)) := by rw [Lib.cell_of_heap hbk]; rfl
  have c1 : w1.cell? ⟨b, 1, none⟩ = some v := by rw [Lib.cell_of_heap hbk]; rfl
  have HOW := Lib.hid hown; have HBK := Lib.hid hbk; have HNE := Lib.hid hne; have HB1 := Lib.hid hb1; have HB := Lib.hid hB
  clear hown hbk hne hb1 hB
  go_wp2_with (at_builtin; refine Lib.wpList_append_own_string _ rfl _ _ 133 9 rfl B 5 i0 Tryz.underlying133 Tryz.underlying9 Hi.out Hz0.out Hz1.out Hz2.out _ _ _ rfl HOW.out s rfl ?c3 ?c4 ?c5 ?_)
  case c3 => unfold maxLen; omega
  case c4 => omega
  case c5 => have := HB1.out.size; omega
  intro v' w2 hown' hgrow _
  have hlt : b < w1.heap.size := heap_lt HBK.out
  have hb2 : w2.heap[b]? = some (.cells #[.pointer (some ⟨b, 0, none⟩), v] 135 (0, 0)) := by
    rw [hgrow.block b hlt (fun e => HNE.out e.symm)]
    exact HBK.out
  have d0 : w2.cell? ⟨b, 0, none⟩ = some (.pointer (some ⟨b, 0, none⟩)) := by rw [Lib.cell_of_heap hb2]; rfl
  have d1 : w2.cell? ⟨b, 1, none⟩ = some v := by rw [Lib.cell_of_heap hb2]; rfl
  have f1 : w2.frozen? ⟨b, 1, none⟩ = false := Lib.frozen_of_heap hb2 1
  obtain ⟨ao, n', cap, rfl⟩ : ∃ ao n' cap, v' = .slice ao n' cap := by
    rcases hown'.2 with ⟨hv, _⟩ | ⟨g, cap, cur, hv, _⟩
    · exact ⟨_, _, _, hv⟩
    · exact ⟨_, _, _, hv⟩
  have HO2 := Lib.hid hown'; have HG := Lib.hid hgrow; have HB2 := Lib.hid hb2
  clear hown' hgrow hb2 c0 c1
  go_wp2
  go_ret2
  refine ⟨rfl, ?_, ?_⟩
  · exact Lib.BuilderAt.put (T := 135) (e := 5) HB.out HB2.out (bs' := bs ++ Lib.strCells s) (by simpa [Lib.strCells_length] using HO2.out) (by decide)
  · exact (HB1.out.grown HG.out (by have := HB1.out.size; omega) (fun k hk => (HOW.out.lt k hk).1)).setCell (p := ⟨b, 1, none⟩) HB.out _
end Go.Proofs.YtkgmfbfpmlnfcaaGreatDoor

/- package roll: writing. -/
namespace Go.Proofs.YtkgmfbfpmlnfcaaGreatDoor
open Go.RowKit

theorem subT_len (s : Sb) (h : Fits s) : (subT s).length ≤ 300000000 := by
  have h1 := compT_len s h
  have h2 := listT_len (f := heapT) (c := 40) s.sups (fun v hv => heapT_len v (h.sups v hv))
  have h3 := h.small.sups
  unfold subT
  simp only [List.length_append, List.length_cons, List.length_nil]
  split <;> simp <;> omega
theorem groupT_len (g : List Sb) (h : ∀ x ∈ g, Fits x) : (groupT g).length ≤ g.length * 300000000 := by
  induction g with
  | nil => simp [groupT]
  | cons x g ih =>
    have h1 := subT_len x (h x (by simp))
    have h2 := ih (fun y hy => h y (by simp [hy]))
    have h3 : groupT (x :: g) = subT x ++ groupT g := by simp [groupT]
    rw [h3, List.length_append, List.length_cons]; omega
theorem IsBuilder_on {B b : Nat} {bs : List Value} {W W' : World} (h : Lib.IsBuilder 135 5 B b bs W) (hb : Below W.heap.size W W') : Lib.IsBuilder 135 5 B b bs W' := by
  have k : ∀ p, Lib.BuilderAt 135 5 B b p bs W → Lib.BuilderAt 135 5 B b p bs W' := fun p ⟨h1, v, h2, h3, h4⟩ =>
    ⟨h1, v, by rw [hb.block b (heap_lt h2)]; exact h2, ownsRow_upd h3 (Upd.of_below hb : Upd (fun _ => False) W W') (fun _ _ h => h), h4⟩
  exact h.elim (fun h => .inl (k _ h)) (fun h => .inr (k _ h))
set_option maxHeartbeats 4000000 in
set_option maxRecDepth 100000 in
theorem writing_any (v : Value) (g : List Sb) (w : World) (hg : GrpAt w v g) (hl : g.length ≤ 1000) (hf : ∀ x ∈ g, Fits x) (ht : Tab w) :
    Calls Tryz.prog 68 #[v] w fun e w' => e = .returned (.string ⟨(groupT g).toArray⟩) ∧ Below w.heap.size w w' := by
  obtain ⟨ao, ca, rfl⟩ := hg.form
  have HG := Lib.hid hg; have HL := Lib.hid hl; have HF := Lib.hid hf; have HT := Lib.hid ht
  obtain ⟨W0, hW⟩ : ∃ W0 : World, W0 = w.alloc (.cells #[.pointer none, .slice none 0 0] 135) := ⟨_, rfl⟩
  have z0 : W0.heap[w.heap.size]? = some (.cells #[.pointer none, .slice none 0 0] 135 (0, 0)) := by rw [hW]; exact heap_alloc_at _ _ rfl
  have hb0 : Below w.heap.size w W0 := by rw [hW]; exact (Below.refl _ _).alloc (Nat.le_refl _) _
  have HW := Lib.hid hW; have Z0 := Lib.hid z0; have HB0 := Lib.hid hb0
  clear hg hl hf ht hW z0 hb0
  go_enter Tryz.func68, Tryz.ntmps68
  go_wp2
  rw [← HW.out]
  go_loopw [8] (fun t8 wr => ∃ i : Nat, t8 = .int .i64 i ∧ i ≤ g.length ∧ Lib.IsBuilder 135 5 w.heap.size w.heap.size (Lib.byteCells (groupT (g.take i))) wr ∧ Below w.heap.size w wr) (fun t8 _ => g.length - (intOf t8).toNat)
  case atStart => exact ⟨0, rfl, Nat.zero_le _, .inl ⟨Nat.le_refl _, _, Z0.out, owns_zero _ _ _ _, by simp [Value.ownBlock]⟩, HB0.out⟩
  case round =>
    obtain ⟨i, rfl, hi, hbd, hbe⟩ := hrel
    by_cases hlt : i < g.length
    · obtain ⟨x, hx⟩ : ∃ x, g[i]? = some x := ⟨g[i], by simp [hlt]⟩
      obtain ⟨b2, o2, e2, _, d1, f1, d2, f2, d3, f3, d4, f4, sb, q0, q1, q2, q3, q4, q5⟩ := (HG.out.below hbe (Nat.le_refl _)).at hx
      subst e2
      have hlt' : (i : Int) < g.length := by omega
      have hi6 : (i : Int) < 1000000 := by have := HL.out; omega
      have hfx := HF.out x (List.mem_of_getElem? hx)
      obtain ⟨cs, hcs⟩ : ∃ cs : List Value, cs = [.bool x.fin, .slice d1 x.sups.length f1, .int .i64 x.k, .slice d2 x.ps.length f2, .slice d3 x.rs.length f3, .slice d4 x.fs.length f4] := ⟨_, rfl⟩
      have hal : Below w.heap.size w (wr.alloc (.cells cs.toArray 44)) := hbe.alloc hbe.size _
      have C := text_any cs x hfx (wr.alloc (.cells cs.toArray 44)) (by rw [hcs]; exact sb.below ((Below.refl _ _).alloc (Nat.le_refl _) _) (Nat.le_refl _)) (HT.out.on hal)
      have hbd2 := hbd
      rw [hcs] at C hal
      have HC := Lib.hid C; have HBD := Lib.hid hbd; have HAL := Lib.hid hal; have HX := Lib.hid hx; have HLT := Lib.hid hlt; have HFX := Lib.hid hfx; have HBE := Lib.hid hbe
      clear C hbd hbd2 hal hx hlt hi hfx sb hbe
      go_wp2_with fail
      refine HC.out.mono ?_
      rintro e w1 ⟨rfl, hb1⟩
      have hbd1 : Lib.IsBuilder 135 5 w.heap.size w.heap.size (Lib.byteCells (groupT (g.take i))) w1 :=
        IsBuilder_on (IsBuilder_on HBD.out ((Below.refl _ _).alloc (Nat.le_refl _) _)) hb1
      have hbe1 : Below w.heap.size w w1 := HAL.out.trans (hb1.mono HAL.out.size)
      have hlen : (Lib.byteCells (groupT (g.take i))).length + (ByteArray.mk (subT x).toArray).size ≤ 140737488355328 := by
        have h1 := groupT_len (g.take i) (fun y hy => HF.out y (List.mem_of_mem_take hy))
        have h2 : (g.take i).length ≤ 1000 := by have := HL.out; rw [List.length_take]; omega
        have h3 := subT_len x HFX.out
        have h4 : (Lib.byteCells (groupT (g.take i))).length = (groupT (g.take i)).length := by simp [Lib.byteCells]
        have h5 : (ByteArray.mk (subT x).toArray).size = (subT x).length := by simp [ByteArray.size]
        rw [h4, h5]; omega
      have HC2 := Lib.hid (writeString_any w.heap.size w.heap.size _ ⟨(subT x).toArray⟩ w1 hbd1 hlen hbe1.size)
      have HBE1 := Lib.hid hbe1
      clear hbd1 hbe1 hlen hb1 q0 q1 q2 q3 q4 q5
      go_wp2_with fail
      refine HC2.out.mono ?_
      rintro e w2 ⟨rfl, hbd2, hb2⟩
      have HBD2 := Lib.hid hbd2; have HB2 := Lib.hid hb2
      clear hbd2 hb2
      go_wp2
      go_roundw
      case rel =>
        refine ⟨i + 1, by go_num, HLT.out, .inr ?_, HBE1.out.trans HB2.out⟩
        have e1 : groupT (g.take (i + 1)) = groupT (g.take i) ++ subT x := by
          rw [List.take_add_one, HX.out]; simp [groupT]
        have h := HBD2.out
        rw [strCells_bytes] at h
        rw [e1, byteCells_append]; simpa using h
      case measure => have := HLT.out; simp [intOf]; omega
    · obtain rfl : i = g.length := by omega
      have hlt' : ¬ (g.length : Int) < g.length := by omega
      rw [List.take_length] at hbd
      have HBD := Lib.hid hbd; have HBE := Lib.hid hbe
      clear hbd hbe
      go_wp2_with fail
      refine (Tryz.Builder_String_any w.heap.size w.heap.size (groupT g) _ HBD.out HBE.out.size).mono ?_
      rintro e w1 ⟨rfl, hb1⟩
      have HB1 := Lib.hid hb1
      clear hb1
      go_wp2
      go_ret
      exact ⟨rfl, HBE.out.trans HB1.out⟩
end Go.Proofs.YtkgmfbfpmlnfcaaGreatDoor

/- package roll: a table in memory. -/
namespace Go.Proofs.YtkgmfbfpmlnfcaaGreatDoor
open Go.RowKit Go.Maps Go.WideMaps

def total (gs : List (List Sb)) : Nat := (gs.map List.length).sum
def firstOf (gs : List (List Sb)) (i : Nat) : Nat := total (gs.take i)
/-- Of each number its entry. -/
def ofL (gs : List (List Sb)) : List Int := (gs.zipIdx).flatMap fun p => List.replicate p.1.length (p.2 : Int)
theorem total_snoc (gs : List (List Sb)) (g : List Sb) : total (gs ++ [g]) = total gs + g.length := by simp [total]
theorem ofL_snoc (gs : List (List Sb)) (g : List Sb) : ofL (gs ++ [g]) = ofL gs ++ List.replicate g.length (gs.length : Int) := by
  simp [ofL, List.zipIdx_append]
theorem ofL_len (gs : List (List Sb)) : (ofL gs).length = total gs := by
  have h : ∀ (gs : List (List Sb)) (n : Nat), ((gs.zipIdx n).flatMap fun p => List.replicate p.1.length (p.2 : Int)).length = total gs := by
    intro gs
    induction gs with
    | nil => intro n; rfl
    | cons g gs ih => intro n; rw [List.zipIdx_cons, List.flatMap_cons, List.length_append, ih, List.length_replicate]; simp [total]
  exact h gs 0
theorem flatMap_congr' {α β : Type} {l : List α} {f g : α → List β} (h : ∀ a ∈ l, f a = g a) : l.flatMap f = l.flatMap g := by
  induction l with
  | nil => rfl
  | cons a l ih => rw [List.flatMap_cons, List.flatMap_cons, h a (by simp), ih (fun b hb => h b (by simp [hb]))]
theorem firstOf_snoc {gs : List (List Sb)} {g : List Sb} {i : Nat} (h : i ≤ gs.length) : firstOf (gs ++ [g]) i = firstOf gs i := by
  unfold firstOf; rw [List.take_append_of_le_length h]
theorem firstOf_len (gs : List (List Sb)) : firstOf gs gs.length = total gs := by unfold firstOf; rw [List.take_length]
def entC (es : List (List Sb)) (vs : List Value) : List Value := (List.range es.length).flatMap fun i => [.int .i64 (firstOf es i), vs.getD i undef]
theorem entC_snoc {es : List (List Sb)} {vs : List Value} (h : vs.length = es.length) (g : List Sb) (v : Value) : entC (es ++ [g]) (vs ++ [v]) = entC es vs ++ [.int .i64 (total es), v] := by
  unfold entC
  rw [List.length_append, List.length_singleton, List.range_succ, List.flatMap_append]
  have e1 : (List.range es.length).flatMap (fun i => ([.int .i64 (firstOf (es ++ [g]) i), (vs ++ [v]).getD i undef] : List Value)) = (List.range es.length).flatMap fun i => [.int .i64 (firstOf es i), vs.getD i undef] := flatMap_congr' fun i hi => by
    have hi' : i < es.length := List.mem_range.1 hi
    rw [firstOf_snoc (by omega), List.getD_eq_getElem?_getD, List.getElem?_append_left (by omega), List.getD_eq_getElem?_getD]
  rw [e1]
  congr 1
  rw [List.flatMap_cons, List.flatMap_nil, firstOf_snoc (Nat.le_refl _), firstOf_len, List.getD_eq_getElem?_getD, ← h]
  simp
/-- The entries of a table. -/
structure EntsAt (R : Nat → Prop) (w : World) (ev : Value) (es : List (List Sb)) : Prop where
  ex : ∃ vs : List Value, vs.length = es.length ∧ w.ownsRow 0 74 2 ev es.length (entC es vs) ∧ ∀ (i : Nat) v g, vs[i]? = some v → es[i]? = some g → ∀ w'', Upd (fun b => ¬ R b) w w'' → GrpAt w'' v g
/-- What is found under a writing. -/
structure FoundAt (w : World) (M : Nat) (gs : List (List Sb)) : Prop where
  ex : ∃ D : DataW Unit, w.ownsMap Tryz.prog 9 (plainElem Tryz.prog 3) M gs.length D ∧ IsMap D ∧ (∀ k, has D (.string k) = gs.any (fun g => groupT g == k)) ∧ ∀ (i : Nat) g, gs[i]? = some g → D.atKey (.string (groupT g)) (.lit (.int .i64 0)) = .lit (.int .i64 i)
/-- A table at t: its entries are es, under writings the ones of ms are found, of each number the entry is told by ofl. It writes the blocks S, and reads besides the blocks R. -/
structure TabM (S R : Nat → Prop) (w : World) (t : Nat) (es ms : List (List Sb)) (ofl : List Int) : Prop where
  ex : ∃ ev ov M, w.heap[t]? = some (.cells #[ev, ov, .map (some M), .pointer (some ⟨t, 0, none⟩)] 63 (0, 0)) ∧ EntsAt R w ev es ∧ w.ownsRow 0 3 1 ov ofl.length (ofl.map (Value.int .i64)) ∧ FoundAt w M ms ∧ S M ∧ (∀ b, ev.ownBlock = some b → S b) ∧ (∀ b, ov.ownBlock = some b → S b)
  st : S t
  lt : ∀ k, S k → k < w.heap.size ∧ ¬ R k
  rlt : ∀ k, R k → k < w.heap.size
def TabAt (S R : Nat → Prop) (w : World) (t : Nat) (gs : List (List Sb)) : Prop := TabM S R w t gs gs (ofL gs)
variable {S R : Nat → Prop} {w w' : World} {t : Nat} {es ms : List (List Sb)} {ofl : List Int}
theorem FoundAt.keep {M : Nat} (h : FoundAt w M ms) (hm : w'.heap[M]? = w.heap[M]?) : FoundAt w' M ms := by
  obtain ⟨D, ⟨xs, c, h1, h2⟩, h3⟩ := h.ex
  exact ⟨D, ⟨xs, c, by rw [hm]; exact h1, h2⟩, h3⟩
theorem EntsAt.keep {ev : Value} (h : EntsAt R w ev es) (u : Upd (fun b => ¬ R b ∧ ev.ownBlock ≠ some b) w w') : EntsAt R w' ev es := by
  obtain ⟨vs, h1, h2, h3⟩ := h.ex
  exact ⟨vs, h1, ownsRow_upd h2 u (fun b hb hk => hk.2 hb), fun i v g hv hg w'' u'' => h3 i v g hv hg w'' ((u.mono fun _ _ hk => hk.1).trans' u'')⟩
theorem TabM.keep (h : TabM S R w t es ms ofl) (u : Upd (fun b => ¬ S b ∧ ¬ R b) w w') : TabM S R w' t es ms ofl := by
  obtain ⟨⟨ev, ov, M, h1, h2, h3, h4, h5, h6, h7⟩, hs, hl, hr⟩ := h
  exact ⟨⟨ev, ov, M, u.heap_some h1 (fun hk => hk.1 hs), h2.keep (u.mono fun b _ hk => ⟨hk.2, fun e => hk.1 (h6 b e)⟩), ownsRow_upd h3 u (fun b hb hk => hk.1 (h7 b hb)), h4.keep (u.block M (hl M h5).1 (fun hk => hk.1 h5)), h5, h6, h7⟩, hs, fun k hk => ⟨Nat.lt_of_lt_of_le (hl k hk).1 u.size, (hl k hk).2⟩, fun k hk => Nat.lt_of_lt_of_le (hr k hk) u.size⟩
theorem TabM.below (h : TabM S R w t es ms ofl) (u : Below w.heap.size w w') : TabM S R w' t es ms ofl := h.keep ((Upd.of_below u : Upd (fun _ => False) w w').mono fun _ _ h => h.elim)
/-- More blocks that are read. -/
theorem TabM.more {R' : Nat → Prop} (h : TabM S R w t es ms ofl) (hR : ∀ k, R k → R' k) (hl : ∀ k, R' k → k < w.heap.size ∧ ¬ S k) : TabM S R' w t es ms ofl := by
  obtain ⟨⟨ev, ov, M, h1, ⟨vs, e1, e2, e3⟩, h3, h4, h5, h6, h7⟩, hs, hlt, hr⟩ := h
  exact ⟨⟨ev, ov, M, h1, ⟨vs, e1, e2, fun i v g hv hg w'' u => e3 i v g hv hg w'' (u.mono fun b _ hk hb => hk (hR b hb))⟩, h3, h4, h5, h6, h7⟩, hs, fun k hk => ⟨(hlt k hk).1, fun hk' => (hl k hk').2 hk⟩, fun k hk => (hl k hk).1⟩
end Go.Proofs.YtkgmfbfpmlnfcaaGreatDoor
