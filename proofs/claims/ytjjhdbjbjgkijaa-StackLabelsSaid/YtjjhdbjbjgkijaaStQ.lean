/- A machine of package stack: Pop, one, Take. -/
import Derived.Test.YtjjhdbjbjgkijaaStP
namespace Go.Proofs.Ytjjhdbjbjgkijaa
open Go.RowKit Go.Maps Go.WideMaps

def topF (frs : List Frm) : Nat × Bool := match frs.getLast? with
  | none => (0, false)
  | some f => (f.ht, f.dead)
def popR (ht : Nat) (dead : Bool) (vals : List Vl) : Vl × Int × List Vl :=
  if vals.length ≤ ht then (if dead = true then (⟨4, false, 0, 0⟩, 0, vals) else (zV, 140, vals)) else (vals.getLastD zV, 0, vals.dropLast)
def PopPost (S : Nat → Prop) (w : World) (M T : Nat) (r : Vl × Int × List Vl) (frs : List Frm) (gs : List Int) (e : Ending) (w' : World) : Prop :=
  TPost S w M T (.tuple #[.agg (cellsV r.1).toArray, .int .i64 r.2.1]) r.2.2 frs gs e w'

theorem MachAt.self0 {S : Nat → Prop} {w w' : World} {M T : Nat} {vals : List Vl} {frs : List Frm} {gs : List Int} (h : MachAt S w M T vals frs gs) (hb : Below w.heap.size w w') : MachAt S w' M T vals frs gs :=
  h.upd (R := fun _ => False) (Upd.of_below hb) (fun _ _ h => h)
theorem vals_cells {w : World} {base : Nat} {e : TypeId} {v : Value} {vs : List Vl} {x : Vl} (h : w.ownsRow base e 4 v (vs.length + 1) (flatV (vs ++ [x]))) : ∃ g cap cur, v = .slice (some ⟨g, 0, none⟩) (vs.length + 1) cap ∧ vs.length + 1 ≤ cap ∧ cap ≤ maxLen ∧ w.heap[g]? = some (.cells cur e (0, 0)) ∧
    w.cell? ⟨g, vs.length * 4, none⟩ = some (.int .i64 x.k) ∧ w.cell? ⟨g, vs.length * 4 + 1, none⟩ = some (.bool x.nl) ∧ w.cell? ⟨g, vs.length * 4 + 2, none⟩ = some (.int .i64 x.h) ∧ w.cell? ⟨g, vs.length * 4 + 3, none⟩ = some (.int .i64 x.n) := by
  obtain ⟨g, cap, cur, rfl, hg, h1, h2, hc⟩ := ownsRow_some h (by omega)
  have hf := flatV_at (vs ++ [x]) vs.length (by simp)
  simp only [List.getElem_concat_length] at hf
  obtain ⟨f0, f1, f2, f3⟩ := hf
  refine ⟨g, cap, cur, rfl, h1, h2, hg, ?_, ?_, ?_, ?_⟩
  · rw [hc _ (by omega), Nat.mul_comm]; exact f0
  · rw [hc _ (by omega), Nat.mul_comm]; exact f1
  · rw [hc _ (by omega), Nat.mul_comm]; exact f2
  · rw [hc _ (by omega), Nat.mul_comm]; exact f3
set_option maxRecDepth 100000 in
set_option maxHeartbeats 1000000 in
theorem pop_nil_nil (S : Nat → Prop) (w : World) (M T : Nat) (gs : List Int) (h : MachAt S w M T [] [] gs) :
    Calls Try.prog 18 #[.pointer (some ⟨M, 0, none⟩)] w (PopPost S w M T (zV, 140, []) [] gs) := by
  have HM := Lib.hid (h.self0 ((Below.refl _ _).alloc (Nat.le_refl _) (.cells #[.int .i64 0, .bool false, .int .i64 0, .int .i64 0] 41)))
  have H := Lib.hid h
  have hlt := h.lt
  obtain ⟨vv, fv, G, k0, k1, k2, k3, k4, k5, k6, k7, k8⟩ := h
  obtain ⟨vao, vcap, rfl, _⟩ := ownsRow_form k5
  obtain ⟨fao, fcap, rfl, _⟩ := k7.form
  have q1 := heap_cell k4 1
  have q2 := heap_cell k4 2
  simp at q1 q2
  clear k4 k5 k6 k7 k8
  go_enter Try.func18, Try.ntmps18
  go_wp2_with fail
  refine (absent_at S _ M T [] [] gs HM.out).mono ?_
  rintro e w' ⟨rfl, rfl⟩
  go_wp2
  refine bodyPost_ret (v := .tuple #[.agg #[.int .i64 0, .bool false, .int .i64 0, .int .i64 0], .int .i64 140]) (by simp [results, Try.results18, go_sem]) rfl ?_
  exact ⟨rfl, HM.out, (Upd.refl _ _).alloc _⟩
theorem upd_box4 {w : World} {B : Nat} (v0 v1 v2 v3 : Value) : Upd (fun k => B ≤ k) w ((((w.setCell ⟨B, 0, none⟩ v0).setCell ⟨B, 1, none⟩ v1).setCell ⟨B, 2, none⟩ v2).setCell ⟨B, 3, none⟩ v3) :=
  ((((Upd.refl (fun k => B ≤ k) w).setCell (p := ⟨B, 0, none⟩) (.inl (Nat.le_refl _)) v0).setCell (p := ⟨B, 1, none⟩) (.inl (Nat.le_refl _)) v1).setCell (p := ⟨B, 2, none⟩) (.inl (Nat.le_refl _)) v2).setCell (p := ⟨B, 3, none⟩) (.inl (Nat.le_refl _)) v3
theorem self_set {w : World} {M : Nat} (v : Value) : Upd (fun k => k = M) w (w.setCell ⟨M, 1, none⟩ v) := (Upd.refl (fun k => k = M) w).setCell (p := ⟨M, 1, none⟩) (.inl rfl) v
/-- The machine behind a store of a shorter list of values. -/
theorem MachAt.shorter {S : Nat → Prop} {w : World} {M T : Nat} {vals : List Vl} {frs : List Frm} {gs : List Int} {g n cap : Nat} {fv : Value} {G : Nat} (k0 : ∀ k, S k → k < w.heap.size) (k1 : S M) (k2 : ¬ S T) (k3 : S G)
    (k4 : w.heap[M]? = some (.cells #[.pointer (some ⟨T, 0, none⟩), .slice (some ⟨g, 0, none⟩) n cap, fv, .map (some G)] 57 (0, 0))) (k5 : w.ownsRow 0 41 4 (.slice (some ⟨g, 0, none⟩) n cap) n (flatV vals)) (hn : vals.length = n) (k6 : ∀ b, (Value.slice (some ⟨g, 0, none⟩) n cap).ownBlock = some b → S b)
    (k7 : FrsAt S w (.slice (some ⟨g, 0, none⟩) n cap) fv frs) (k8 : GivenAt w G gs) (m : Nat) (hm : m ≤ n) : MachAt S (w.setCell ⟨M, 1, none⟩ (.slice (some ⟨g, 0, none⟩) m cap)) M T (vals.take m) frs gs := by
  have h5 := ownsRow_take k5 m hm
  have hf : (flatV vals).take (m * 4) = flatV (vals.take m) := by
    have e : flatV vals = flatV (vals.take m) ++ flatV (vals.drop m) := by rw [← flatV_append, List.take_append_drop]
    rw [e, List.take_append_of_le_length (by rw [flatV_len, List.length_take]; omega), List.take_of_length_le (by rw [flatV_len, List.length_take]; omega)]
  rw [hf] at h5
  have hl : (vals.take m).length = m := by rw [List.length_take]; omega
  refine MachAt.self (vv := .slice (some ⟨g, 0, none⟩) n cap) (self_set _) k0 k1 k2 k3 k4 k7 k8 (heap_set_at k4 1 _) (by rw [hl]; exact h5) k6 (fun b h => h)
theorem popped {S : Nat → Prop} {w w1 w' : World} {M T : Nat} {vs : List Vl} {x : Vl} {frs : List Frm} {gs : List Int} {g cap : Nat} {fv : Value} {G : Nat} (k0 : ∀ k, S k → k < w.heap.size) (k1 : S M) (k2 : ¬ S T) (k3 : S G)
    (k4 : w.heap[M]? = some (.cells #[.pointer (some ⟨T, 0, none⟩), .slice (some ⟨g, 0, none⟩) (vs.length + 1) cap, fv, .map (some G)] 57 (0, 0))) (k5 : w.ownsRow 0 41 4 (.slice (some ⟨g, 0, none⟩) (vs.length + 1) cap) (vs ++ [x]).length (flatV (vs ++ [x]))) (k6 : ∀ b, (Value.slice (some ⟨g, 0, none⟩) (vs.length + 1) cap).ownBlock = some b → S b)
    (k7 : FrsAt S w (.slice (some ⟨g, 0, none⟩) (vs.length + 1) cap) fv frs) (k8 : GivenAt w G gs) (hb : Below w.heap.size w w1) (hu : Upd (fun k => w.heap.size ≤ k) (w1.setCell ⟨M, 1, none⟩ (.slice (some ⟨g, 0, none⟩) vs.length cap)) w') : MachAt S w' M T vs frs gs ∧ Upd (fun k => k = M) w w' := by
  have u1 : Upd (fun _ => False) w w1 := Upd.of_below hb
  have no : ∀ b : Nat, ¬ False := fun _ h => h
  refine ⟨?_, ((Upd.of_below hb).trans' (self_set _)).trans (fun k hk => .inr hk) hu⟩
  have h := MachAt.shorter (vals := vs ++ [x]) (fun k hk => Nat.lt_of_lt_of_le (k0 k hk) hb.size) k1 k2 k3 (u1.heap_some k4 (no M)) (ownsRow_upd (by simpa using k5) u1 (fun b _ => no b)) (by simp) k6 (k7.upd u1 (fun b _ => no b) (fun b _ _ _ _ => no b) (fun b _ _ h => h) (fun b h => h)) (k8.upd u1 (no G)) vs.length (by omega)
  rw [List.take_left' rfl] at h
  exact h.upd hu (fun b hb' h => by have := k0 b hb'; omega)
set_option maxRecDepth 100000 in
set_option maxHeartbeats 1000000 in
theorem pop_nil_vals (S : Nat → Prop) (w : World) (M T : Nat) (vs : List Vl) (x : Vl) (gs : List Int) (h : MachAt S w M T (vs ++ [x]) [] gs) (hl : vs.length ≤ 1000000) :
    Calls Try.prog 18 #[.pointer (some ⟨M, 0, none⟩)] w (PopPost S w M T (x, 0, vs) [] gs) := by
  have HM := Lib.hid (h.self0 ((Below.refl _ _).alloc (Nat.le_refl _) (.cells #[.int .i64 0, .bool false, .int .i64 0, .int .i64 0] 41)))
  have H := Lib.hid h
  have hlt := h.lt
  obtain ⟨vv, fv, G, k0, k1, k2, k3, k4, k5, k6, k7, k8⟩ := h
  have K4 := Lib.hid k4; have K5 := Lib.hid k5; have K6 := Lib.hid k6; have K7 := Lib.hid k7; have K8 := Lib.hid k8
  rw [List.length_append] at k5
  obtain ⟨g, vcap, vcur, rfl, hc1, hc2, hg, p0, p1, p2, p3⟩ := vals_cells k5
  obtain ⟨fao, fcap, rfl, _⟩ := k7.form
  have hgl := heap_lt hg
  have q1 := heap_cell k4 1
  have q2 := heap_cell k4 2
  have qf := heap_frozen k4 1
  simp at q1 q2
  clear k4 k5 k6 k7 k8 hg
  obtain ⟨a, b, c, d⟩ := x
  dsimp only at p0 p1 p2 p3
  unfold maxLen at hc2
  go_enter Try.func18, Try.ntmps18
  go_wp2_with fail
  refine (absent_at S _ M T _ _ gs HM.out).mono ?_
  rintro e w' ⟨rfl, rfl⟩
  go_wp2
  refine bodyPost_ret (v := .tuple #[.agg #[.int .i64 a, .bool b, .int .i64 c, .int .i64 d], .int .i64 0]) (by simp [results, Try.results18, go_sem]) rfl ?_
  exact ⟨rfl, popped k0 k1 k2 k3 K4.out K5.out K6.out K7.out K8.out (Below.refl _ _) (((Upd.refl _ _).alloc _).alloc _)⟩
set_option maxRecDepth 100000 in
set_option maxHeartbeats 1000000 in
theorem pop_snoc_vals (S : Nat → Prop) (w : World) (M T : Nat) (vs : List Vl) (x : Vl) (fs : List Frm) (f : Frm) (gs : List Int) (h : MachAt S w M T (vs ++ [x]) (fs ++ [f]) gs) (hh : f.ht ≤ vs.length) (hl : vs.length ≤ 1000000) (hfl : fs.length ≤ 1000000) :
    Calls Try.prog 18 #[.pointer (some ⟨M, 0, none⟩)] w (PopPost S w M T (x, 0, vs) (fs ++ [f]) gs) := by
  have HM := Lib.hid (h.self0 ((Below.refl _ _).alloc (Nat.le_refl _) (.cells #[.int .i64 0, .bool false, .int .i64 0, .int .i64 0] 41)))
  have hlt := h.lt
  obtain ⟨vv, fv, G, k0, k1, k2, k3, k4, k5, k6, k7, k8⟩ := h
  have K4 := Lib.hid k4; have K5 := Lib.hid k5; have K6 := Lib.hid k6; have K7 := Lib.hid k7; have K8 := Lib.hid k8
  rw [List.length_append] at k5
  obtain ⟨g, vcap, vcur, rfl, hc1, hc2, hg, p0, p1, p2, p3⟩ := vals_cells k5
  have hgl := heap_lt hg
  clear hg
  unfold maxLen at hc2
  obtain ⟨a, b, c, d⟩ := x
  dsimp only at p0 p1 p2 p3
  obtain ⟨fb, fcap, fcur, rfl, fc1, fc2, fS, fh, fpv, frv, fgv, f0, f1, f2, f3, f4, f5, f6, f7, f8⟩ := k7.at fs.length f (by simp)
  rw [List.length_append, List.length_singleton] at fc1 K4 K7
  have hbl := heap_lt fh
  have q1 := heap_cell k4 1
  have q2 := heap_cell k4 2
  have qf := heap_frozen k4 1
  simp at q1 q2
  have R4 := Lib.hid fc1
  clear k4 k5 k6 k7 k8 fh f0 f1 f2 f5 f6 f7 f8
  unfold maxLen at fc2
  obtain ⟨fop, fps, frs, fht, fdead, fg⟩ := f
  dsimp only at f3 f4 hh
  go_enter Try.func18, Try.ntmps18
  go_wp2_with fail
  refine (absent_at S _ M T _ _ gs HM.out).mono ?_
  rintro e w' ⟨rfl, rfl⟩
  go_wp2
  go_quiet (fail)
  go_wp2
  refine bodyPost_ret (v := .tuple #[.agg #[.int .i64 a, .bool b, .int .i64 c, .int .i64 d], .int .i64 0]) (by simp [results, Try.results18, go_sem]) rfl ?_
  exact ⟨rfl, popped k0 k1 k2 k3 K4.out K5.out K6.out K7.out K8.out (w1 := (w.alloc (.cells #[.int .i64 0, .bool false, .int .i64 0, .int .i64 0] 41)).drewN nq) (((Below.refl _ _).alloc (Nat.le_refl _) _).trans ⟨rfl, rfl, rfl, Nat.le_refl _, fun _ _ => rfl⟩) ((upd_box4 _ _ _ _).alloc _)⟩
set_option maxRecDepth 100000 in
set_option maxHeartbeats 1000000 in
theorem pop_snoc_dead (S : Nat → Prop) (w : World) (M T : Nat) (vs : List Vl) (fs : List Frm) (f : Frm) (gs : List Int) (h : MachAt S w M T vs (fs ++ [f]) gs) (hh : vs.length ≤ f.ht) (hd : f.dead = true) (hl : f.ht ≤ 1000000) (hfl : fs.length ≤ 1000000) :
    Calls Try.prog 18 #[.pointer (some ⟨M, 0, none⟩)] w (PopPost S w M T (⟨4, false, 0, 0⟩, 0, vs) (fs ++ [f]) gs) := by
  have HM := Lib.hid (h.self0 ((Below.refl _ _).alloc (Nat.le_refl _) (.cells #[.int .i64 0, .bool false, .int .i64 0, .int .i64 0] 41)))
  have hlt := h.lt
  have H := Lib.hid h
  obtain ⟨vv, fv, G, k0, k1, k2, k3, k4, k5, k6, k7, k8⟩ := h
  have K4 := Lib.hid k4; have K5 := Lib.hid k5; have K6 := Lib.hid k6; have K7 := Lib.hid k7; have K8 := Lib.hid k8
  obtain ⟨vao, vcap, rfl, _⟩ := ownsRow_form k5
  obtain ⟨fb, fcap, fcur, rfl, fc1, fc2, fS, fh, fpv, frv, fgv, f0, f1, f2, f3, f4, f5, f6, f7, f8⟩ := k7.at fs.length f (by simp)
  rw [List.length_append, List.length_singleton] at fc1 K4 K7
  have hbl := heap_lt fh
  have q1 := heap_cell k4 1
  have q2 := heap_cell k4 2
  have qf := heap_frozen k4 1
  simp at q1 q2
  have R4 := Lib.hid fc1
  clear k4 k5 k6 k7 k8 fh f0 f1 f2 f5 f6 f7 f8
  unfold maxLen at fc2
  obtain ⟨fop, fps, frs, fht, fdead, fg⟩ := f
  dsimp only at f3 f4 hh hd hl
  subst hd
  go_enter Try.func18, Try.ntmps18
  go_wp2_with fail
  refine (absent_at S _ M T _ _ gs HM.out).mono ?_
  rintro e w' ⟨rfl, rfl⟩
  go_wp2
  go_quiet (fail)
  go_wp2
  refine bodyPost_ret (v := .tuple #[.agg #[.int .i64 4, .bool false, .int .i64 0, .int .i64 0], .int .i64 0]) (by simp [results, Try.results18, go_sem]) rfl ?_
  have hb : Below w.heap.size w ((w.alloc (.cells #[.int .i64 0, .bool false, .int .i64 0, .int .i64 0] 41)).drewN nq) := ((Below.refl _ _).alloc (Nat.le_refl _) _).trans ⟨rfl, rfl, rfl, Nat.le_refl _, fun _ _ => rfl⟩
  have hb2 := fun v0 v1 v2 v3 => (((hb.setCell (p := ⟨w.heap.size, 0, none⟩) (Nat.le_refl _) v0).setCell (p := ⟨w.heap.size, 1, none⟩) (Nat.le_refl _) v1).setCell (p := ⟨w.heap.size, 2, none⟩) (Nat.le_refl _) v2).setCell (p := ⟨w.heap.size, 3, none⟩) (Nat.le_refl _) v3
  exact ⟨rfl, H.out.self0 (hb2 _ _ _ _), Upd.of_below (hb2 _ _ _ _)⟩
set_option maxRecDepth 100000 in
set_option maxHeartbeats 1000000 in
theorem pop_snoc_under (S : Nat → Prop) (w : World) (M T : Nat) (vs : List Vl) (fs : List Frm) (f : Frm) (gs : List Int) (h : MachAt S w M T vs (fs ++ [f]) gs) (hh : vs.length ≤ f.ht) (hd : f.dead = false) (hl : f.ht ≤ 1000000) (hfl : fs.length ≤ 1000000) :
    Calls Try.prog 18 #[.pointer (some ⟨M, 0, none⟩)] w (PopPost S w M T (zV, 140, vs) (fs ++ [f]) gs) := by
  have HM := Lib.hid (h.self0 ((Below.refl _ _).alloc (Nat.le_refl _) (.cells #[.int .i64 0, .bool false, .int .i64 0, .int .i64 0] 41)))
  have hlt := h.lt
  have H := Lib.hid h
  obtain ⟨vv, fv, G, k0, k1, k2, k3, k4, k5, k6, k7, k8⟩ := h
  have K4 := Lib.hid k4; have K5 := Lib.hid k5; have K6 := Lib.hid k6; have K7 := Lib.hid k7; have K8 := Lib.hid k8
  obtain ⟨vao, vcap, rfl, _⟩ := ownsRow_form k5
  obtain ⟨fb, fcap, fcur, rfl, fc1, fc2, fS, fh, fpv, frv, fgv, f0, f1, f2, f3, f4, f5, f6, f7, f8⟩ := k7.at fs.length f (by simp)
  rw [List.length_append, List.length_singleton] at fc1 K4 K7
  have hbl := heap_lt fh
  have q1 := heap_cell k4 1
  have q2 := heap_cell k4 2
  have qf := heap_frozen k4 1
  simp at q1 q2
  have R4 := Lib.hid fc1
  clear k4 k5 k6 k7 k8 fh f0 f1 f2 f5 f6 f7 f8
  unfold maxLen at fc2
  obtain ⟨fop, fps, frs, fht, fdead, fg⟩ := f
  dsimp only at f3 f4 hh hd hl
  subst hd
  go_enter Try.func18, Try.ntmps18
  go_wp2_with fail
  refine (absent_at S _ M T _ _ gs HM.out).mono ?_
  rintro e w' ⟨rfl, rfl⟩
  go_wp2
  go_quiet (fail)
  go_wp2
  refine bodyPost_ret (v := .tuple #[.agg #[.int .i64 0, .bool false, .int .i64 0, .int .i64 0], .int .i64 140]) (by simp [results, Try.results18, go_sem]) rfl ?_
  have hb : Below w.heap.size w ((w.alloc (.cells #[.int .i64 0, .bool false, .int .i64 0, .int .i64 0] 41)).drewN nq) := ((Below.refl _ _).alloc (Nat.le_refl _) _).trans ⟨rfl, rfl, rfl, Nat.le_refl _, fun _ _ => rfl⟩
  have hb2 := fun v0 v1 v2 v3 => (((hb.setCell (p := ⟨w.heap.size, 0, none⟩) (Nat.le_refl _) v0).setCell (p := ⟨w.heap.size, 1, none⟩) (Nat.le_refl _) v1).setCell (p := ⟨w.heap.size, 2, none⟩) (Nat.le_refl _) v2).setCell (p := ⟨w.heap.size, 3, none⟩) (Nat.le_refl _) v3
  exact ⟨rfl, H.out.self0 (hb2 _ _ _ _), Upd.of_below (hb2 _ _ _ _)⟩
end Go.Proofs.Ytjjhdbjbjgkijaa
