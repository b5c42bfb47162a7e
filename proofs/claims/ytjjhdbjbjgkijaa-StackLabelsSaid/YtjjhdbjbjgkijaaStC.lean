/- A machine of package stack: Close (of a frame in which nothing was given). -/
import Derived.Test.YtjjhdbjbjgkijaaStG
import Derived.Defers
import Derived.LoopN
namespace Go.Proofs.Ytjjhdbjbjgkijaa
open Go.RowKit Go.Maps Go.WideMaps

theorem close1_deferred (q : Nat) (p : Value) (u : FrameMode) (w : World) (hc : w.cell? ⟨q, 5, none⟩ = some (.slice none 0 0)) :
    CallsD Try.prog 32 #[.pointer (some ⟨q, 0, none⟩), p] u w fun e u' w' => u' = u ∧ (e = .returned (.tuple #[]) ∧ w' = w) := by
  go_enter_d Try.func32, Try.ntmps32
  go_wp2
  refine wp_loop_rounds 1 ?_
  rw [rounds_succ]
  go_wp2
  go_end0
  exact ⟨rfl, rfl⟩
theorem FrsAt.front {S : Nat → Prop} {w : World} {vv : Value} {fao : Option Addr} {n cap : Nat} {fs : List Frm} {f : Frm} (h : FrsAt S w vv (.slice fao n cap) (fs ++ [f])) : FrsAt S w vv (.slice fao fs.length cap) fs := by
  obtain ⟨cs, h1, h2, h3, h4⟩ := h
  have hl6 : ∀ c ∈ cs, c.length = 6 := by
    intro c hc
    obtain ⟨k, hk, rfl⟩ := List.getElem_of_mem hc
    obtain ⟨c', hc', hfr⟩ := h4 k (fs ++ [f])[k] (List.getElem?_eq_getElem (by omega))
    rw [List.getElem?_eq_getElem hk] at hc'
    cases hc'
    exact hfr.len
  obtain ⟨g, cap', cur, e, hg, c1, c2, c3⟩ := ownsRow_some h1 (by simp)
  simp at e
  obtain ⟨rfl, rfl, rfl⟩ := e
  have ht := ownsRow_take (by simpa using h1) fs.length (by omega)
  have hfl : cs.flatten.take (fs.length * 6) = (cs.take fs.length).flatten := by
    have e : cs.flatten = (cs.take fs.length).flatten ++ (cs.drop fs.length).flatten := by rw [← List.flatten_append, List.take_append_drop]
    have hl : (cs.take fs.length).flatten.length = fs.length * 6 := by
      rw [flatten6_len _ (fun c hc => hl6 c (List.mem_of_mem_take hc)), List.length_take, h3]; simp
    rw [e, List.take_append_of_le_length (by omega), List.take_of_length_le (by omega)]
  rw [hfl] at ht
  refine ⟨cs.take fs.length, ht, fun b hb => h2 b hb, by rw [List.length_take, h3]; simp, fun i g hi => ?_⟩
  have hlt : i < fs.length := (List.getElem?_eq_some_iff.1 hi).1
  obtain ⟨c, hc, hfr⟩ := h4 i g (by rw [List.getElem?_append_left hlt]; exact hi)
  exact ⟨c, by rw [List.getElem?_take, if_pos hlt]; exact hc, hfr⟩
theorem MachAt.closed {S : Nat → Prop} {w : World} {M T : Nat} {vals : List Vl} {fs : List Frm} {f : Frm} {gs : List Int} {v0 v1 v3 : Value} {fao : Option Addr} {n cap : Nat} (h : MachAt S w M T vals (fs ++ [f]) gs)
    (k4 : w.heap[M]? = some (.cells #[v0, v1, .slice fao n cap, v3] 57 (0, 0))) : MachAt S (w.setCell ⟨M, 2, none⟩ (.slice fao fs.length cap)) M T vals fs gs := by
  obtain ⟨vv, fv, G, h0, h1, h2, h3, h4, h5, h6, h7, h8⟩ := h
  rw [k4] at h4
  simp at h4
  obtain ⟨rfl, rfl, rfl, rfl⟩ := h4
  have us : Upd (fun k => k = M) w (w.setCell ⟨M, 2, none⟩ (.slice fao fs.length cap)) := (Upd.refl (fun k => k = M) w).setCell (p := ⟨M, 2, none⟩) (.inl rfl) _
  have tm : ∀ (b : Nat) (t : TypeId) (cur : Array Value), w.heap[b]? = some (.cells cur t (0, 0)) → t ≠ 57 → ¬ b = M := fun b t cur hb ht e => by
    subst e; rw [k4] at hb; simp at hb; exact ht hb.2.symm
  have h7' := h7.front
  refine ⟨_, _, G, fun k hk => Nat.lt_of_lt_of_le (h0 k hk) us.size, h1, h2, h3, heap_set_at k4 2 _, ownsRow_upd h5 us (fun b hb => by obtain ⟨cur, hc⟩ := ownsRow_block h5 hb; exact tm b _ cur hc (by decide)), h6,
    h7'.upd us (fun b hb => ?_) (fun b cur hb _ _ => tm b _ cur hb (by decide)) (fun b _ _ h => h) (fun b h => h), h8.upd us ?_⟩
  · obtain ⟨cs, r, _⟩ := h7'
    obtain ⟨cur, hc⟩ := ownsRow_block r hb
    exact tm b _ cur hc (by decide)
  · obtain ⟨es, ck, hG⟩ := h8.block
    intro e; subst e; rw [k4] at hG; simp at hG
theorem close_none (S : Nat → Prop) (w : World) (M T : Nat) (vals : List Vl) (gs : List Int) (h : MachAt S w M T vals [] gs) :
    Calls Try.prog 19 #[.pointer (some ⟨M, 0, none⟩)] w fun e w' => e = .returned (.tuple #[.int .i64 0, .slice none 0 0, .slice none 0 0, .int .i64 142]) ∧ Below w.heap.size w w' := by
  have hb := (Below.refl w.heap.size w).alloc (Nat.le_refl _) (.cells #[.pointer (some ⟨M, 0, none⟩)] 24)
  have HM := Lib.hid (h.self0 hb)
  obtain ⟨vv, fv, G, k0, k1, k2, k3, k4, k5, k6, k7, k8⟩ := h
  obtain ⟨fao, fcap, rfl, _⟩ := k7.form
  have hlt := heap_lt k4
  have q2 := heap_cell k4 2
  simp at q2
  clear k0 k4 k5 k6 k7 k8
  go_enter_defers Try.func19, Try.ntmps19
  go_wp2_with fail
  refine (absent_at S _ M T _ _ gs HM.out).mono ?_
  rintro e w' ⟨rfl, rfl⟩
  go_wp2
  exact ⟨_, by simp [results, Try.results19, go_sem], rfl, hb⟩
def ClosePost (S : Nat → Prop) (w : World) (M T : Nat) (f : Frm) (vs : List Vl) (fs : List Frm) (gs : List Int) (e : Ending) (w' : World) : Prop :=
  ∃ pv rv, e = .returned (.tuple #[.int .i64 f.op, pv, rv, .int .i64 0]) ∧ ValsAt w' pv f.ps ∧ ValsAt w' rv f.rs ∧ MachAt S w' M T vs fs gs ∧ Upd (fun k => k = M) w w'
set_option maxRecDepth 100000 in
set_option maxHeartbeats 3000000 in
theorem close_at (S : Nat → Prop) (w : World) (M T : Nat) (vals : List Vl) (fs : List Frm) (f : Frm) (gs : List Int) (h : MachAt S w M T vals (fs ++ [f]) gs) (ht : TabAt w T) (hfg : f.g = false) (b0 : f.rs.length ≤ 1000000) (b1 : vals.length ≤ 1000000) (b2 : fs.length ≤ 999999) (b3 : ∀ f' ∈ fs ++ [f], f'.ht ≤ 1000000)
    (vs : List Vl) (er : Int) (htk : takeR f.ht f.dead f.rs.reverse vals = (er, vs)) (hz : er = 0) (hh : vs.length ≤ f.ht) :
    Calls Try.prog 19 #[.pointer (some ⟨M, 0, none⟩)] w (ClosePost S w M T f vs fs gs) := by
  have hmf : ∀ (fn : Fn) (first cap : Array Value) (w : World), (Instr.makeFunc fn first cap).run Try.prog w = .ok (.func fn first cap) w := fun _ _ _ _ => rfl
  have hb := (Below.refl w.heap.size w).alloc (Nat.le_refl _) (.cells #[.pointer (some ⟨M, 0, none⟩)] 24)
  have HM := Lib.hid (h.self0 hb)
  have H0 := Lib.hid h
  obtain ⟨vv, fv, G, k0, k1, k2, k3, k4, k5, k6, k7, k8⟩ := h
  obtain ⟨fb, fcap, fcur, rfl, fc1, fc2, fS, fh, fpv, frv, fgv, f0, f1, f2, f3, f4, f5, f6, f7, f8⟩ := k7.at fs.length f (by simp)
  rw [List.length_append, List.length_singleton] at fc1 k4
  have K4 := Lib.hid k4
  have hlt := heap_lt k4
  have hbl := heap_lt fh
  have q2 := heap_cell k4 2
  simp at q2
  have hvp := Lib.hid (ValsAt.of_own f6.1); have hvr := Lib.hid (ValsAt.of_own f7.1)
  have hpS := Lib.hid f6.2; have hrS := Lib.hid f7.2
  have F6 := Lib.hid f6.1; have F7 := Lib.hid f7.1
  obtain ⟨pao, pcap, rfl, _⟩ := ownsRow_form f6.1
  obtain ⟨rao, rcap, rfl, _⟩ := ownsRow_form f7.1
  have hgv := f8.1 hfg
  subst hgv
  have hTK : takeR (topF (fs ++ [f])).1 (topF (fs ++ [f])).2 f.rs.reverse vals = (er, vs) := by simpa [topF] using htk
  have HTK := Lib.hid hTK
  have HT := Lib.hid (ht.below hb ht.lt)
  have B3 := Lib.hid b3
  have HBB := Lib.hid hb
  clear k0 k4 k5 k6 k7 k8 fh f6 f7 f8 htk hTK ht b3 hb
  unfold maxLen at fc2
  obtain ⟨fop, fps, frs, fht, fdead, fg⟩ := f
  dsimp only at hfg b0 hh f0 f1 f2 f3 f4 f5 hvp hvr F6 F7 hpS hrS ⊢
  subst hfg hz
  have hb2 : Below w.heap.size w ((w.alloc (.cells #[.pointer (some ⟨M, 0, none⟩)] 24)).alloc (.cells #[.int .i64 fop, .slice pao fps.length pcap, .slice rao frs.length rcap, .int .i64 fht, .bool fdead, .slice none 0 0] 78)) := HBB.out.alloc (by simp) _
  have HB2 := Lib.hid hb2
  have z0 := heap_alloc_keep (heap_alloc_at w (.cells #[.pointer (some ⟨M, 0, none⟩)] 24) (b := w.heap.size) rfl) (.cells #[.int .i64 fop, .slice pao fps.length pcap, .slice rao frs.length rcap, .int .i64 fht, .bool fdead, .slice none 0 0] 78)
  have z1 := heap_alloc_at (w.alloc (.cells #[.pointer (some ⟨M, 0, none⟩)] 24)) (.cells #[.int .i64 fop, .slice pao fps.length pcap, .slice rao frs.length rcap, .int .i64 fht, .bool fdead, .slice none 0 0] 78) (b := w.heap.size + 1) (by simp)
  have Z0 := Lib.hid z0; have Z1 := Lib.hid z1
  have HM2 := Lib.hid (H0.out.self0 hb2)
  have HT2 := Lib.hid (HT.out.below (w' := (w.alloc (.cells #[.pointer (some ⟨M, 0, none⟩)] 24)).alloc (.cells #[.int .i64 fop, .slice pao fps.length pcap, .slice rao frs.length rcap, .int .i64 fht, .bool fdead, .slice none 0 0] 78)) (by exact (Below.refl _ _).alloc (Nat.le_refl _) _) HT.out.lt)
  clear hb2 z0 z1
  go_enter_defers Try.func19, Try.ntmps19
  go_wp2_with fail
  refine (absent_at S _ M T _ _ gs HM.out).mono ?_
  rintro e w' ⟨rfl, rfl⟩
  go_wp2_with fail
  refine (take_at S _ M T vals _ gs HM2.out HT2.out (.slice rao frs.length rcap) frs (hvr.out.below HB2.out) (fun _ e => (fun h : ¬ (M = M) => h rfl) ?nm) b0 b1 (by simp; omega) B3.out).mono ?_
  case nm =>
    obtain ⟨cur, hc⟩ := ownsRow_block F7.out e
    exact ne_of_types hc K4.out (by decide)
  rw [HTK.out]
  rintro e w1 ⟨rfl, hm1, hu1⟩
  have x0 := heap_cell (hu1.heap_some Z0.out (by show ¬ w.heap.size = M; omega)) 0
  have y := hu1.heap_some Z1.out (by show ¬ w.heap.size + 1 = M; omega)
  have y0 := heap_cell y 0; have y1 := heap_cell y 1; have y2 := heap_cell y 2; have y3 := heap_cell y 3; have y4 := heap_cell y 4; have y5 := heap_cell y 5
  simp at x0 y0 y1 y2 y3 y4 y5
  have HM1 := Lib.hid hm1; have HU1 := Lib.hid hu1
  obtain ⟨vv1, fv1, G1, j0, j1, j2, j3, j4, j5, j6, j7, j8⟩ := hm1
  obtain ⟨vao, vcap, rfl, _⟩ := ownsRow_form j5
  obtain ⟨fao1, fcap1, rfl, fd1, fd2⟩ := j7.form
  rw [List.length_append, List.length_singleton] at j4 fd1
  have J4 := Lib.hid j4
  have m1 := heap_cell j4 1
  have m2 := heap_cell j4 2
  simp at m1 m2
  unfold maxLen at fd2
  clear hu1 y j0 j4 j5 j6 j7 j8
  go_wp2
  go_quiet (fail)
  go_wp2
  have e0 := Ext.cells (w0 := w1.drewN nq) x0
  have e2 := Ext.cells (w0 := w1.drewN nq) m2
  refine wp_region_calm_tail 7 (by kernel_rfl) (by kernel_rfl) ?_
  simp only [List.take_succ_cons, List.take_zero, List.drop_succ_cons, List.drop_zero]
  repeat (go_big_quiet_step (fail))
  refine wpQuiet_nil ?_
  rintro w2 hb2
  have hb2' : Below w1.heap.size w1 w2 := (⟨rfl, rfl, rfl, Nat.le_refl _, fun _ _ => rfl⟩ : Below w1.heap.size w1 (w1.drewN nq)).trans hb2
  have u2 : Upd (fun _ => False) w1 w2 := Upd.of_below hb2'
  have m4 := u2.heap_some J4.out (fun h => h)
  have M4 := Lib.hid m4
  have c2 := heap_cell m4 2
  have cf := heap_frozen m4 2
  simp at c2
  have n0 := below_cell hb2' y0; have n1 := below_cell hb2' y1; have n2 := below_cell hb2' y2; have n5 := below_cell hb2' y5
  have hMne : M ≠ w.heap.size + 1 := by omega
  have HB3 := Lib.hid hb2'
  clear hb2 hb2' u2 m4 e0 e2 x0 y0 y1 y2 y3 y4 y5 m1 m2
  go_wp2
  go_quiet (fail)
  go_wp2
  refine leaves_cons (f := 32) (args := #[.pointer (some ⟨w.heap.size + 1, 0, none⟩), .pointer (some ⟨w.heap.size, 0, none⟩)]) (by simp) (by simp [go_sem]) ?_
  refine (close1_deferred _ _ .returning _ ?_).mono ?_
  · have h5 : (w2.setCell ⟨M, 2, none⟩ (.slice fao1 fs.length fcap1)).cell? ⟨w.heap.size + 1, 5, none⟩ = some (.slice none 0 0) := by
      rw [World.cell?_setCell_other _ _ _ _ (by simp)]; exact n5
    exact h5
  rintro e u' w'' ⟨rfl, rfl, rfl⟩
  have hu3 : Upd (fun k => k = M) w ((w2.setCell ⟨M, 2, none⟩ (.slice fao1 fs.length fcap1)).drewN nq) :=
    (((Upd.of_below HB2.out).trans' HU1.out).trans' (Upd.of_below HB3.out)).setCell (p := ⟨M, 2, none⟩) (.inl rfl) _ |>.drewN nq
  refine ⟨.tuple #[.int .i64 fop, .slice pao fps.length pcap, .slice rao frs.length rcap, .int .i64 0], by simp [results, Try.results19, go_sem], _, _, rfl, ?_, ?_, ?_, hu3⟩
  · refine valsAt_upd hvp.out hu3 (fun _ b hb => ?_)
    obtain ⟨cur, hc⟩ := ownsRow_block F6.out hb
    exact ne_of_types hc K4.out (by decide)
  · refine valsAt_upd hvr.out hu3 (fun _ b hb => ?_)
    obtain ⟨cur, hc⟩ := ownsRow_block F7.out hb
    exact ne_of_types hc K4.out (by decide)
  · exact ((HM1.out.self0 HB3.out).closed M4.out).self0 ⟨rfl, rfl, rfl, Nat.le_refl _, fun _ _ => rfl⟩
set_option maxRecDepth 100000 in
set_option maxHeartbeats 3000000 in
theorem close_err (S : Nat → Prop) (w : World) (M T : Nat) (vals : List Vl) (fs : List Frm) (f : Frm) (gs : List Int) (h : MachAt S w M T vals (fs ++ [f]) gs) (ht : TabAt w T) (hfg : f.g = false) (b0 : f.rs.length ≤ 1000000) (b1 : vals.length ≤ 1000000) (b2 : fs.length ≤ 999999) (b3 : ∀ f' ∈ fs ++ [f], f'.ht ≤ 1000000)
    (vs : List Vl) (er : Int) (htk : takeR f.ht f.dead f.rs.reverse vals = (er, vs)) (hz : er ≠ 0) :
    Calls Try.prog 19 #[.pointer (some ⟨M, 0, none⟩)] w (TPost S w M T (.tuple #[.int .i64 0, .slice none 0 0, .slice none 0 0, .int .i64 er]) vs (fs ++ [f]) gs) := by
  have hmf : ∀ (fn : Fn) (first cap : Array Value) (w : World), (Instr.makeFunc fn first cap).run Try.prog w = .ok (.func fn first cap) w := fun _ _ _ _ => rfl
  have hb := (Below.refl w.heap.size w).alloc (Nat.le_refl _) (.cells #[.pointer (some ⟨M, 0, none⟩)] 24)
  have HM := Lib.hid (h.self0 hb)
  have H0 := Lib.hid h
  obtain ⟨vv, fv, G, k0, k1, k2, k3, k4, k5, k6, k7, k8⟩ := h
  obtain ⟨fb, fcap, fcur, rfl, fc1, fc2, fS, fh, fpv, frv, fgv, f0, f1, f2, f3, f4, f5, f6, f7, f8⟩ := k7.at fs.length f (by simp)
  rw [List.length_append, List.length_singleton] at fc1 k4
  have K4 := Lib.hid k4
  have hlt := heap_lt k4
  have hbl := heap_lt fh
  have q2 := heap_cell k4 2
  simp at q2
  have hvp := Lib.hid (ValsAt.of_own f6.1); have hvr := Lib.hid (ValsAt.of_own f7.1)
  have hpS := Lib.hid f6.2; have hrS := Lib.hid f7.2
  have F6 := Lib.hid f6.1; have F7 := Lib.hid f7.1
  obtain ⟨pao, pcap, rfl, _⟩ := ownsRow_form f6.1
  obtain ⟨rao, rcap, rfl, _⟩ := ownsRow_form f7.1
  have hgv := f8.1 hfg
  subst hgv
  have hTK : takeR (topF (fs ++ [f])).1 (topF (fs ++ [f])).2 f.rs.reverse vals = (er, vs) := by simpa [topF] using htk
  have HTK := Lib.hid hTK
  have HT := Lib.hid (ht.below hb ht.lt)
  have B3 := Lib.hid b3
  have HBB := Lib.hid hb
  clear k0 k4 k5 k6 k7 k8 fh f6 f7 f8 htk hTK ht b3 hb
  unfold maxLen at fc2
  obtain ⟨fop, fps, frs, fht, fdead, fg⟩ := f
  dsimp only at hfg b0 f0 f1 f2 f3 f4 f5 hvp hvr F6 F7 hpS hrS ⊢
  subst hfg
  have hb2 : Below w.heap.size w ((w.alloc (.cells #[.pointer (some ⟨M, 0, none⟩)] 24)).alloc (.cells #[.int .i64 fop, .slice pao fps.length pcap, .slice rao frs.length rcap, .int .i64 fht, .bool fdead, .slice none 0 0] 78)) := HBB.out.alloc (by simp) _
  have HB2 := Lib.hid hb2
  have z0 := heap_alloc_keep (heap_alloc_at w (.cells #[.pointer (some ⟨M, 0, none⟩)] 24) (b := w.heap.size) rfl) (.cells #[.int .i64 fop, .slice pao fps.length pcap, .slice rao frs.length rcap, .int .i64 fht, .bool fdead, .slice none 0 0] 78)
  have z1 := heap_alloc_at (w.alloc (.cells #[.pointer (some ⟨M, 0, none⟩)] 24)) (.cells #[.int .i64 fop, .slice pao fps.length pcap, .slice rao frs.length rcap, .int .i64 fht, .bool fdead, .slice none 0 0] 78) (b := w.heap.size + 1) (by simp)
  have Z0 := Lib.hid z0; have Z1 := Lib.hid z1
  have HM2 := Lib.hid (H0.out.self0 hb2)
  have HT2 := Lib.hid (HT.out.below (w' := (w.alloc (.cells #[.pointer (some ⟨M, 0, none⟩)] 24)).alloc (.cells #[.int .i64 fop, .slice pao fps.length pcap, .slice rao frs.length rcap, .int .i64 fht, .bool fdead, .slice none 0 0] 78)) (by exact (Below.refl _ _).alloc (Nat.le_refl _) _) HT.out.lt)
  clear hb2 z0 z1
  go_enter_defers Try.func19, Try.ntmps19
  go_wp2_with fail
  refine (absent_at S _ M T _ _ gs HM.out).mono ?_
  rintro e w' ⟨rfl, rfl⟩
  go_wp2_with fail
  refine (take_at S _ M T vals _ gs HM2.out HT2.out (.slice rao frs.length rcap) frs (hvr.out.below HB2.out) (fun _ e => (fun h : ¬ (M = M) => h rfl) ?nm) b0 b1 (by simp; omega) B3.out).mono ?_
  case nm =>
    obtain ⟨cur, hc⟩ := ownsRow_block F7.out e
    exact ne_of_types hc K4.out (by decide)
  rw [HTK.out]
  rintro e w1 ⟨rfl, hm1, hu1⟩
  have HM1 := Lib.hid hm1; have HU1 := Lib.hid hu1
  clear hm1 hu1
  have hz2 : (er != 0) = true := by simpa using hz
  clear hz
  go_wp2
  exact ⟨_, by simp [results, Try.results19, go_sem], rfl, HM1.out, (Upd.of_below HB2.out).trans' HU1.out⟩
set_option maxRecDepth 100000 in
set_option maxHeartbeats 3000000 in
theorem close_left (S : Nat → Prop) (w : World) (M T : Nat) (vals : List Vl) (fs : List Frm) (f : Frm) (gs : List Int) (h : MachAt S w M T vals (fs ++ [f]) gs) (ht : TabAt w T) (hfg : f.g = false) (b0 : f.rs.length ≤ 1000000) (b1 : vals.length ≤ 1000000) (b2 : fs.length ≤ 999999) (b3 : ∀ f' ∈ fs ++ [f], f'.ht ≤ 1000000)
    (vs : List Vl) (er : Int) (htk : takeR f.ht f.dead f.rs.reverse vals = (er, vs)) (hz : er = 0) (hh : f.ht < vs.length) :
    Calls Try.prog 19 #[.pointer (some ⟨M, 0, none⟩)] w (TPost S w M T (.tuple #[.int .i64 0, .slice none 0 0, .slice none 0 0, .int .i64 143]) vs (fs ++ [f]) gs) := by
  have hmf : ∀ (fn : Fn) (first cap : Array Value) (w : World), (Instr.makeFunc fn first cap).run Try.prog w = .ok (.func fn first cap) w := fun _ _ _ _ => rfl
  have hb := (Below.refl w.heap.size w).alloc (Nat.le_refl _) (.cells #[.pointer (some ⟨M, 0, none⟩)] 24)
  have HM := Lib.hid (h.self0 hb)
  have H0 := Lib.hid h
  obtain ⟨vv, fv, G, k0, k1, k2, k3, k4, k5, k6, k7, k8⟩ := h
  obtain ⟨fb, fcap, fcur, rfl, fc1, fc2, fS, fh, fpv, frv, fgv, f0, f1, f2, f3, f4, f5, f6, f7, f8⟩ := k7.at fs.length f (by simp)
  rw [List.length_append, List.length_singleton] at fc1 k4
  have K4 := Lib.hid k4
  have hlt := heap_lt k4
  have hbl := heap_lt fh
  have q2 := heap_cell k4 2
  simp at q2
  have hvp := Lib.hid (ValsAt.of_own f6.1); have hvr := Lib.hid (ValsAt.of_own f7.1)
  have hpS := Lib.hid f6.2; have hrS := Lib.hid f7.2
  have F6 := Lib.hid f6.1; have F7 := Lib.hid f7.1
  obtain ⟨pao, pcap, rfl, _⟩ := ownsRow_form f6.1
  obtain ⟨rao, rcap, rfl, _⟩ := ownsRow_form f7.1
  have hgv := f8.1 hfg
  subst hgv
  have hTK : takeR (topF (fs ++ [f])).1 (topF (fs ++ [f])).2 f.rs.reverse vals = (er, vs) := by simpa [topF] using htk
  have HTK := Lib.hid hTK
  have HT := Lib.hid (ht.below hb ht.lt)
  have B3 := Lib.hid b3
  have HBB := Lib.hid hb
  clear k0 k4 k5 k6 k7 k8 fh f6 f7 f8 htk hTK ht b3 hb
  unfold maxLen at fc2
  obtain ⟨fop, fps, frs, fht, fdead, fg⟩ := f
  dsimp only at hfg b0 hh f0 f1 f2 f3 f4 f5 hvp hvr F6 F7 hpS hrS ⊢
  subst hfg hz
  have hb2 : Below w.heap.size w ((w.alloc (.cells #[.pointer (some ⟨M, 0, none⟩)] 24)).alloc (.cells #[.int .i64 fop, .slice pao fps.length pcap, .slice rao frs.length rcap, .int .i64 fht, .bool fdead, .slice none 0 0] 78)) := HBB.out.alloc (by simp) _
  have HB2 := Lib.hid hb2
  have z0 := heap_alloc_keep (heap_alloc_at w (.cells #[.pointer (some ⟨M, 0, none⟩)] 24) (b := w.heap.size) rfl) (.cells #[.int .i64 fop, .slice pao fps.length pcap, .slice rao frs.length rcap, .int .i64 fht, .bool fdead, .slice none 0 0] 78)
  have z1 := heap_alloc_at (w.alloc (.cells #[.pointer (some ⟨M, 0, none⟩)] 24)) (.cells #[.int .i64 fop, .slice pao fps.length pcap, .slice rao frs.length rcap, .int .i64 fht, .bool fdead, .slice none 0 0] 78) (b := w.heap.size + 1) (by simp)
  have Z0 := Lib.hid z0; have Z1 := Lib.hid z1
  have HM2 := Lib.hid (H0.out.self0 hb2)
  have HT2 := Lib.hid (HT.out.below (w' := (w.alloc (.cells #[.pointer (some ⟨M, 0, none⟩)] 24)).alloc (.cells #[.int .i64 fop, .slice pao fps.length pcap, .slice rao frs.length rcap, .int .i64 fht, .bool fdead, .slice none 0 0] 78)) (by exact (Below.refl _ _).alloc (Nat.le_refl _) _) HT.out.lt)
  clear hb2 z0 z1
  go_enter_defers Try.func19, Try.ntmps19
  go_wp2_with fail
  refine (absent_at S _ M T _ _ gs HM.out).mono ?_
  rintro e w' ⟨rfl, rfl⟩
  go_wp2_with fail
  refine (take_at S _ M T vals _ gs HM2.out HT2.out (.slice rao frs.length rcap) frs (hvr.out.below HB2.out) (fun _ e => (fun h : ¬ (M = M) => h rfl) ?nm) b0 b1 (by simp; omega) B3.out).mono ?_
  case nm =>
    obtain ⟨cur, hc⟩ := ownsRow_block F7.out e
    exact ne_of_types hc K4.out (by decide)
  rw [HTK.out]
  rintro e w1 ⟨rfl, hm1, hu1⟩
  have x0 := heap_cell (hu1.heap_some Z0.out (by show ¬ w.heap.size = M; omega)) 0
  have y := hu1.heap_some Z1.out (by show ¬ w.heap.size + 1 = M; omega)
  have y0 := heap_cell y 0; have y1 := heap_cell y 1; have y2 := heap_cell y 2; have y3 := heap_cell y 3; have y4 := heap_cell y 4; have y5 := heap_cell y 5
  simp at x0 y0 y1 y2 y3 y4 y5
  have HM1 := Lib.hid hm1; have HU1 := Lib.hid hu1
  obtain ⟨vv1, fv1, G1, j0, j1, j2, j3, j4, j5, j6, j7, j8⟩ := hm1
  obtain ⟨vao, vcap, rfl, _⟩ := ownsRow_form j5
  obtain ⟨fao1, fcap1, rfl, fd1, fd2⟩ := j7.form
  rw [List.length_append, List.length_singleton] at j4 fd1
  have J4 := Lib.hid j4
  have m1 := heap_cell j4 1
  have m2 := heap_cell j4 2
  simp at m1 m2
  unfold maxLen at fd2
  clear hu1 y j0 j4 j5 j6 j7 j8
  go_wp2
  go_quiet (fail)
  go_wp2
  exact ⟨_, by simp [results, Try.results19, go_sem], rfl, HM1.out.self0 ⟨rfl, rfl, rfl, Nat.le_refl _, fun _ _ => rfl⟩, ((Upd.of_below HB2.out).trans' HU1.out).drewN nq⟩
end Go.Proofs.Ytjjhdbjbjgkijaa
