/- A machine of package stack: how it lies in memory; New, absent, Push, Height, Frames. -/
import Derived.Test.YtjjhdbjbjgkijaaMatV
import Derived.Maps.OwnSet
import Derived.Maps.Keyed
namespace Go.Proofs.Ytjjhdbjbjgkijaa
open Go.RowKit Go.Maps Go.WideMaps

structure Frm where
  op : Int
  ps : List Vl
  rs : List Vl
  ht : Nat
  dead : Bool
  g : Bool
def BlkVals (S : Nat → Prop) (w : World) (vv v : Value) (l : List Vl) : Prop :=
  w.ownsRow 0 41 4 v l.length (flatV l) ∧ ∀ b, v.ownBlock = some b → S b ∧ vv.ownBlock ≠ some b
def GvOk (g : Bool) (gv : Value) : Prop := (g = false → gv = .slice none 0 0) ∧ ∃ a n c, gv = .slice a n c
def FrmAt (S : Nat → Prop) (w : World) (vv : Value) (f : Frm) (c : List Value) : Prop :=
  ∃ pv rv gv, c = [.int .i64 f.op, pv, rv, .int .i64 f.ht, .bool f.dead, gv] ∧ BlkVals S w vv pv f.ps ∧ BlkVals S w vv rv f.rs ∧ GvOk f.g gv
def FrsAt (S : Nat → Prop) (w : World) (vv fv : Value) (frs : List Frm) : Prop :=
  ∃ cs : List (List Value), w.ownsRow 0 78 6 fv frs.length cs.flatten ∧ (∀ b, fv.ownBlock = some b → S b) ∧ cs.length = frs.length ∧ ∀ (i : Nat) (f : Frm), frs[i]? = some f → ∃ c, cs[i]? = some c ∧ FrmAt S w vv f c
def GivenAt (w : World) (G : Nat) (gs : List Int) : Prop := w.ownsMap Try.prog 3 (unitElem (H := Unit)) G gs.length (setOf (H := Unit) (.agg []) (gs.map (Lit.int .i64)))
def MachAt (S : Nat → Prop) (w : World) (M T : Nat) (vals : List Vl) (frs : List Frm) (gs : List Int) : Prop :=
  ∃ vv fv G, (∀ k, S k → k < w.heap.size) ∧ S M ∧ ¬ S T ∧ S G ∧ w.heap[M]? = some (.cells #[.pointer (some ⟨T, 0, none⟩), vv, fv, .map (some G)] 57 (0, 0)) ∧
    w.ownsRow 0 41 4 vv vals.length (flatV vals) ∧ (∀ b, vv.ownBlock = some b → S b) ∧ FrsAt S w vv fv frs ∧ GivenAt w G gs

theorem flatten6 : ∀ (cs : List (List Value)), (∀ c ∈ cs, c.length = 6) → ∀ (i j : Nat) (c : List Value), cs[i]? = some c → j < 6 → cs.flatten[i * 6 + j]? = c[j]?
  | [], _, i, j, c, h, _ => by simp at h
  | d :: cs, hl, 0, j, c, h, hj => by
    simp at h; subst h
    have := hl d (by simp)
    rw [List.flatten_cons, List.getElem?_append_left (by omega)]
    simp
  | d :: cs, hl, i + 1, j, c, h, hj => by
    have h6 := hl d (by simp)
    rw [List.flatten_cons, List.getElem?_append_right (by omega), show (i + 1) * 6 + j - d.length = i * 6 + j by omega]
    exact flatten6 cs (fun c hc => hl c (by simp [hc])) i j c (by simpa using h) hj
theorem flatten6_len : ∀ (cs : List (List Value)), (∀ c ∈ cs, c.length = 6) → cs.flatten.length = cs.length * 6
  | [], _ => rfl
  | d :: cs, hl => by
    have h6 := hl d (by simp)
    rw [List.flatten_cons, List.length_append, flatten6_len cs (fun c hc => hl c (by simp [hc])), List.length_cons]; omega
theorem FrmAt.len {S : Nat → Prop} {w : World} {vv : Value} {f : Frm} {c : List Value} (h : FrmAt S w vv f c) : c.length = 6 := by
  obtain ⟨_, _, _, rfl, _⟩ := h; rfl
theorem FrsAt.form {S : Nat → Prop} {w : World} {vv fv : Value} {frs : List Frm} (h : FrsAt S w vv fv frs) : ∃ ao cap, fv = .slice ao frs.length cap ∧ frs.length ≤ cap ∧ cap ≤ maxLen := by
  obtain ⟨cs, h1, _⟩ := h
  obtain ⟨ao, cap, e, h2, h3, _⟩ := ownsRow_form h1
  exact ⟨ao, cap, e, h2, h3⟩
/-- The cells of a frame. -/
theorem FrsAt.at {S : Nat → Prop} {w : World} {vv fv : Value} {frs : List Frm} (h : FrsAt S w vv fv frs) (i : Nat) (f : Frm) (hf : frs[i]? = some f) : ∃ Bf cap cur, fv = .slice (some ⟨Bf, 0, none⟩) frs.length cap ∧ frs.length ≤ cap ∧ cap ≤ maxLen ∧ S Bf ∧ w.heap[Bf]? = some (.cells cur 78 (0, 0)) ∧ ∃ pv rv gv,
    w.cell? ⟨Bf, i * 6, none⟩ = some (.int .i64 f.op) ∧ w.cell? ⟨Bf, i * 6 + 1, none⟩ = some pv ∧ w.cell? ⟨Bf, i * 6 + 2, none⟩ = some rv ∧ w.cell? ⟨Bf, i * 6 + 3, none⟩ = some (.int .i64 f.ht) ∧ w.cell? ⟨Bf, i * 6 + 4, none⟩ = some (.bool f.dead) ∧ w.cell? ⟨Bf, i * 6 + 5, none⟩ = some gv ∧
    BlkVals S w vv pv f.ps ∧ BlkVals S w vv rv f.rs ∧ GvOk f.g gv := by
  obtain ⟨cs, h1, h2, h3, h4⟩ := h
  have hi : i < frs.length := (List.getElem?_eq_some_iff.1 hf).1
  obtain ⟨c, hc, pv, rv, gv, rfl, k1, k2, k3⟩ := h4 i f hf
  have hl6 : ∀ c ∈ cs, c.length = 6 := by
    intro c hc
    obtain ⟨j, hj, rfl⟩ := List.getElem_of_mem hc
    obtain ⟨c', hc', hfr⟩ := h4 j frs[j] (List.getElem?_eq_getElem (by omega))
    rw [List.getElem?_eq_getElem hj] at hc'
    cases hc'
    exact hfr.len
  obtain ⟨g, cap, cur, rfl, hg, hcap, hmx, hcell⟩ := ownsRow_some h1 (by omega)
  refine ⟨g, cap, cur, rfl, hcap, hmx, h2 g rfl, hg, pv, rv, gv, ?_, ?_, ?_, ?_, ?_, ?_, k1, k2, k3⟩
  · have := hcell (i * 6) (by omega); rw [this]; exact flatten6 cs hl6 i 0 _ hc (by omega)
  · rw [hcell _ (by omega)]; exact flatten6 cs hl6 i 1 _ hc (by omega)
  · rw [hcell _ (by omega)]; exact flatten6 cs hl6 i 2 _ hc (by omega)
  · rw [hcell _ (by omega)]; exact flatten6 cs hl6 i 3 _ hc (by omega)
  · rw [hcell _ (by omega)]; exact flatten6 cs hl6 i 4 _ hc (by omega)
  · rw [hcell _ (by omega)]; exact flatten6 cs hl6 i 5 _ hc (by omega)
theorem BlkVals.upd {S R : Nat → Prop} {w w' : World} {vv v : Value} {l : List Vl} (h : BlkVals S w vv v l) (u : Upd R w w') (hr : ∀ b, v.ownBlock = some b → ¬ R b) : BlkVals S w' vv v l :=
  ⟨ownsRow_upd h.1 u hr, h.2⟩
theorem GivenAt.upd {R : Nat → Prop} {w w' : World} {G : Nat} {gs : List Int} (h : GivenAt w G gs) (u : Upd R w w') (hr : ¬ R G) : GivenAt w' G gs := by
  obtain ⟨es, ck, h1, h2⟩ := h
  exact ⟨es, ck, u.heap_some h1 hr, h2⟩
theorem GivenAt.block {w : World} {G : Nat} {gs : List Int} (h : GivenAt w G gs) : ∃ es ck, w.heap[G]? = some (.map es ck) := by
  obtain ⟨es, ck, h1, h2⟩ := h
  exact ⟨es, ck, h1⟩
/-- A row's block has its type. -/
theorem ownsRow_block {w : World} {base : Nat} {e : TypeId} {size : Nat} {v : Value} {n : Nat} {xs : List Value} (h : w.ownsRow base e size v n xs) {b : Nat} (hb : v.ownBlock = some b) : ∃ cur, w.heap[b]? = some (.cells cur e (0, 0)) := by
  obtain ⟨h1, (⟨rfl, rfl⟩ | ⟨g, cap, cur, rfl, hg, hr, _⟩)⟩ := h
  · simp [Value.ownBlock] at hb
  · simp [Value.ownBlock] at hb; subst hb; exact ⟨cur, hr⟩
/-- What stands of the frames where only blocks of R turned, none of them a frame's own or of kept values. -/
theorem FrsAt.upd {S S' R : Nat → Prop} {w w' : World} {vv vv' fv : Value} {frs : List Frm} (h : FrsAt S w vv fv frs) (u : Upd R w w') (hf : ∀ b, fv.ownBlock = some b → ¬ R b)
    (hv : ∀ b cur, w.heap[b]? = some (.cells cur 41 (0, 0)) → vv.ownBlock ≠ some b → S b → ¬ R b) (hvv : ∀ b, b < w.heap.size → S b → vv.ownBlock ≠ some b → vv'.ownBlock ≠ some b) (hs : ∀ b, S b → S' b) : FrsAt S' w' vv' fv frs := by
  obtain ⟨cs, h1, h2, h3, h4⟩ := h
  refine ⟨cs, ownsRow_upd h1 u hf, fun b hb => hs b (h2 b hb), h3, fun i f hi => ?_⟩
  obtain ⟨c, hc, pv, rv, gv, rfl, k1, k2, k3⟩ := h4 i f hi
  have go : ∀ v l, BlkVals S w vv v l → BlkVals S' w' vv' v l := fun v l k => by
    refine ⟨ownsRow_upd k.1 u fun b hb => ?_, fun b hb => ⟨hs b (k.2 b hb).1, hvv b ?_ (k.2 b hb).1 (k.2 b hb).2⟩⟩
    · obtain ⟨cur, hcur⟩ := ownsRow_block k.1 hb
      exact hv b cur hcur (k.2 b hb).2 (k.2 b hb).1
    · obtain ⟨cur, hcur⟩ := ownsRow_block k.1 hb
      exact heap_lt hcur
  exact ⟨_, hc, pv, rv, gv, rfl, go _ _ k1, go _ _ k2, k3⟩
/-- A machine where nothing of its own turned. -/
theorem MachAt.upd {S R : Nat → Prop} {w w' : World} {M T : Nat} {vals : List Vl} {frs : List Frm} {gs : List Int} (h : MachAt S w M T vals frs gs) (u : Upd R w w') (hr : ∀ b, S b → ¬ R b) : MachAt S w' M T vals frs gs := by
  obtain ⟨vv, fv, G, h0, h1, h2, h3, h4, h5, h6, h7, h8⟩ := h
  have hfb : ∀ b, fv.ownBlock = some b → S b := by obtain ⟨cs, _, k, _⟩ := h7; exact k
  exact ⟨vv, fv, G, fun k hk => Nat.lt_of_lt_of_le (h0 k hk) u.size, h1, h2, h3, u.heap_some h4 (hr M h1), ownsRow_upd h5 u (fun b hb => hr b (h6 b hb)), h6, h7.upd u (fun b hb => hr b (hfb b hb)) (fun b _ _ _ hs => hr b hs) (fun b _ _ h => h) (fun b h => h), h8.upd u (hr G h3)⟩
/-- The machine's own block turned alone: other values, and other frames. -/
theorem MachAt.self {S : Nat → Prop} {w w' : World} {M T : Nat} {frs : List Frm} {gs : List Int} {vv fv : Value} {G : Nat} (u : Upd (fun k => k = M) w w') (hS : ∀ k, S k → k < w.heap.size) (h1 : S M) (h2 : ¬ S T) (h3 : S G)
    {cs0 : Array Value} (h0 : w.heap[M]? = some (.cells cs0 57 (0, 0))) (h7 : FrsAt S w vv fv frs) (h8 : GivenAt w G gs) {vv' : Value} {vals' : List Vl} (h4 : w'.heap[M]? = some (.cells #[.pointer (some ⟨T, 0, none⟩), vv', fv, .map (some G)] 57 (0, 0)))
    (h5 : w.ownsRow 0 41 4 vv' vals'.length (flatV vals')) (h6 : ∀ b, vv'.ownBlock = some b → S b) (hv : ∀ b, vv.ownBlock ≠ some b → vv'.ownBlock ≠ some b) : MachAt S w' M T vals' frs gs := by
  have key : ∀ (b : Nat) (t : TypeId) (cur : Array Value), w.heap[b]? = some (.cells cur t (0, 0)) → t ≠ 57 → ¬ b = M := fun b t cur hb ht e => by
    subst e; rw [h0] at hb; simp at hb; exact ht hb.2.symm
  refine ⟨vv', fv, G, fun k hk => Nat.lt_of_lt_of_le (hS k hk) u.size, h1, h2, h3, h4, ownsRow_upd h5 u (fun b hb => ?_), h6, h7.upd u (fun b hb => ?_) (fun b cur hb _ _ => key b _ cur hb (by decide)) (fun b _ _ h => hv b h) (fun b h => h), h8.upd u ?_⟩
  · obtain ⟨cur, hc⟩ := ownsRow_block h5 hb; exact key b _ cur hc (by decide)
  · obtain ⟨cs, k1, _⟩ := h7; obtain ⟨cur, hc⟩ := ownsRow_block k1 hb; exact key b _ cur hc (by decide)
  · obtain ⟨es, ck, hg⟩ := h8.block
    intro e; subst e; rw [h0] at hg; simp at hg
theorem MachAt.lt {S : Nat → Prop} {w : World} {M T : Nat} {vals : List Vl} {frs : List Frm} {gs : List Int} (h : MachAt S w M T vals frs gs) : M < w.heap.size := by
  obtain ⟨vv, fv, G, _, h1, h2, h3, h4, _⟩ := h; exact heap_lt h4

/-- What a call leaves that may turn the machine. -/
def MPost (S : Nat → Prop) (w : World) (M T : Nat) (r : Value) (vals : List Vl) (frs : List Frm) (gs : List Int) (e : Ending) (w' : World) : Prop :=
  e = .returned r ∧ ∃ S', MachAt S' w' M T vals frs gs ∧ Fresh S w S' ∧ Upd S w w'
/-- .. that turns its own block alone. -/
def TPost (S : Nat → Prop) (w : World) (M T : Nat) (r : Value) (vals : List Vl) (frs : List Frm) (gs : List Int) (e : Ending) (w' : World) : Prop :=
  e = .returned r ∧ MachAt S w' M T vals frs gs ∧ Upd (fun k => k = M) w w'

theorem absent_at (S : Nat → Prop) (w : World) (M T : Nat) (vals : List Vl) (frs : List Frm) (gs : List Int) (h : MachAt S w M T vals frs gs) : Calls Try.prog 28 #[.pointer (some ⟨M, 0, none⟩)] w fun e w' => e = .returned (.bool false) ∧ w = w' := by
  obtain ⟨vv, fv, G, _, _, _, _, h4, _⟩ := h
  have q0 := heap_cell h4 0
  simp at q0
  clear h4
  go_enter Try.func28, Try.ntmps28
  go_wp2
  go_ret
  exact ⟨rfl, rfl⟩
theorem height_at (S : Nat → Prop) (w : World) (M T : Nat) (vals : List Vl) (frs : List Frm) (gs : List Int) (h : MachAt S w M T vals frs gs) : Calls Try.prog 14 #[.pointer (some ⟨M, 0, none⟩)] w fun e w' => e = .returned (.int .i64 vals.length) ∧ w = w' := by
  have H := Lib.hid h
  obtain ⟨vv, fv, G, _, _, _, _, h4, h5, _⟩ := h
  have q1 := heap_cell h4 1
  simp at q1
  obtain ⟨ao, cap, rfl, _⟩ := ownsRow_form h5
  clear h4 h5
  go_enter Try.func14, Try.ntmps14
  go_wp2_with fail
  refine (absent_at S _ M T vals frs gs H.out).mono ?_
  rintro e w' ⟨rfl, rfl⟩
  go_wp2
  go_ret
  exact ⟨rfl, rfl⟩
theorem frames_at (S : Nat → Prop) (w : World) (M T : Nat) (vals : List Vl) (frs : List Frm) (gs : List Int) (h : MachAt S w M T vals frs gs) : Calls Try.prog 20 #[.pointer (some ⟨M, 0, none⟩)] w fun e w' => e = .returned (.int .i64 frs.length) ∧ w = w' := by
  have H := Lib.hid h
  obtain ⟨vv, fv, G, _, _, _, _, h4, h5, _, h7, _⟩ := h
  have q1 := heap_cell h4 2
  simp at q1
  obtain ⟨ao, cap, rfl, _⟩ := h7.form
  clear h4 h5 h7
  go_enter Try.func20, Try.ntmps20
  go_wp2_with fail
  refine (absent_at S _ M T vals frs gs H.out).mono ?_
  rintro e w' ⟨rfl, rfl⟩
  go_wp2
  go_ret
  exact ⟨rfl, rfl⟩
end Go.Proofs.Ytjjhdbjbjgkijaa
