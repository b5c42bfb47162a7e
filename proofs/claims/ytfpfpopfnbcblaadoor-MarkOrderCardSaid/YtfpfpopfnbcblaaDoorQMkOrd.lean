/- geodelaw23.MarkOrder. -/
import Derived.Test.YtfpfpopfnbcblaaDoorQMkOrdP
import Derived.Test.YtfpfpopfnbcblaaDoorQMkMorePBd
import Derived.Test.YtfpfpopfnbcblaaDoorQInRoundBd
import Derived.Test.YtfpfpopfnbcblaaDoorQRangeHBd
import Derived.Test.YtfpfpopfnbcblaaDoorQMkLoopBd
import Derived.Deep.Cut
import Derived.Deep.CutRange
import Derived.Deep.RegionWith
import Derived.Deep.LoopGhost
import Derived.Carry
namespace Go.Proofs.YtfpfpopfnbcblaaDoor
open Go.RowKit Go.Maps Go.Shelf
attribute [local go_sem] Oper.semAt_some

/-- MarkOrder, from its start in memory. -/
def OrdPost (w : World) (e : Ending) (W : World) : Prop := e = .returned (.bool true) ∧ Below w.heap.size w W
/-- What stays in memory from the first Reach on. -/
structure OrdW (w1 w3 : World) (Z Y : Nat → Prop) (lb : Nat) (aol : Option Addr) (ll ccl : Nat) (L : List Nat) (aot : Option Addr) (ats : List Nat) (W : World) : Prop where
  box : W.heap[lb]? = some (.cells #[.slice aol ll ccl] 27 (0, 0))
  nb : ¬ Z lb ∧ ¬ Y lb
  row : ∀ k a : Nat, L[k]? = some a → ∃ g, aol = some ⟨g, 0, none⟩ ∧ (¬ Z g ∧ ¬ Y g) ∧ W.cell? ⟨g, k, none⟩ = some (.int .i64 (a : Nat))
  ats : ∀ i, i < ats.length → ∃ g, aot = some ⟨g, 0, none⟩ ∧ (¬ Z g ∧ ¬ Y g) ∧ W.cell? ⟨g, i, none⟩ = some (.int .i64 (ats.getD i 0 : Nat))
  b1 : Below w1.heap.size w1 W
  sz : w3.heap.size ≤ W.heap.size
theorem NatsAt.at {W : World} {ao : Option Addr} {n c : Nat} {l : List Nat} (h : NatsAt W (.slice ao n c) l) (k a : Nat) (hk : l[k]? = some a) : ∃ g, ao = some ⟨g, 0, none⟩ ∧ W.cell? ⟨g, k, none⟩ = some (.int .i64 (a : Nat)) := by
  obtain ⟨ao', c', e, h⟩ := h
  simp only [Value.slice.injEq] at e
  rw [e.1]; exact h k a hk
section
variable {w1 w3 W W' : World} {Z Y T : Nat → Prop} {lb : Nat} {aol : Option Addr} {ll ccl : Nat} {L : List Nat} {aot : Option Addr} {ats : List Nat}
theorem OrdW.upd (h : OrdW w1 w3 Z Y lb aol ll ccl L aot ats W) (u : Upd T W W') (hT : ∀ b, T b → Z b ∨ Y b) (hZ : ∀ b, Z b → w1.heap.size ≤ b) (hY : ∀ b, Y b → w1.heap.size ≤ b) : OrdW w1 w3 Z Y lb aol ll ccl L aot ats W' := by
  have hn : ∀ b, ¬ Z b ∧ ¬ Y b → ¬ T b := fun b hb h => (hT b h).elim hb.1 hb.2
  refine ⟨u.heap_some h.box (hn _ h.nb), h.nb, fun k a hk => ?_, fun i hi => ?_, h.b1.trans (u.below (fun b hb => (hT b hb).elim (hZ b) (hY b)) h.b1.size), Nat.le_trans h.sz u.size⟩
  · obtain ⟨g, e, hg, hc⟩ := h.row k a hk
    exact ⟨g, e, hg, u.cell_some hc (hn _ hg)⟩
  · obtain ⟨g, e, hg, hc⟩ := h.ats i hi
    exact ⟨g, e, hg, u.cell_some hc (hn _ hg)⟩
theorem OrdW.below (h : OrdW w1 w3 Z Y lb aol ll ccl L aot ats W) (hb : Below W.heap.size W W') : OrdW w1 w3 Z Y lb aol ll ccl L aot ats W' := by
  have u : Upd (fun _ => False) W W' := Upd.of_below hb
  refine ⟨u.heap_some h.box (fun h => h), h.nb, fun k a hk => ?_, fun i hi => ?_, h.b1.trans (hb.mono h.b1.size), Nat.le_trans h.sz u.size⟩
  · obtain ⟨g, e, hg, hc⟩ := h.row k a hk
    exact ⟨g, e, hg, below_cell hb hc⟩
  · obtain ⟨g, e, hg, hc⟩ := h.ats i hi
    exact ⟨g, e, hg, below_cell hb hc⟩
end
/-- Behind a marking of the second arena. -/
def MkCut (w1 w3 : World) (Z Y : Nat → Prop) (lb : Nat) (aol : Option Addr) (ll ccl : Nat) (L : List Nat) (aot : Option Addr) (ats : List Nat) (p p' : Nat) (bs b1 b : List Blk) (ys : List Nat) (s t : Value) (wx : World) : Prop :=
  ∃ (b' : List Blk) (n : Nat), s = .int .i64 n ∧ t = .int .i64 0 ∧ OrdW w1 w3 Z Y lb aol ll ccl L aot ats wx ∧ InZ Z wx p 600 b1 ∧ InZ Y wx p' 600 b' ∧ content b' = content bs ∧ cntM b' = cntM b + n ∧ (∀ a, MarkX b' a ↔ Rch (UsedC (content bs)) (EF (wordsC (content bs))) (fun x => MarkX b x ∨ x ∈ ys.filterMap toF) a)
set_option maxRecDepth 100000 in
/-- The roots from a place on, and up to it. -/
theorem sl_lo (W : World) (a2 : Option Addr) (n2 c2 k3 : Nat) (h : k3 ≤ n2) : (Instr.slice 23 (.slice a2 n2 c2) (some (.int .i64 k3)) none none).run Tryd.prog W = .ok (sliced a2 k3 n2 c2 1) W := by
  rw [run_slice_l W 23 a2 n2 c2 Tryd.underlying23 .i64 (k3 : Int) (by omega) (by omega)]
  simp [go_sem]
set_option maxRecDepth 100000 in
theorem sl_hi (W : World) (a2 : Option Addr) (n2 c2 k3 : Nat) (h : k3 ≤ c2) : (Instr.slice 23 (.slice a2 n2 c2) none (some (.int .i64 k3)) none).run Tryd.prog W = .ok (sliced a2 0 k3 c2 1) W := by
  rw [run_slice_h W 23 a2 n2 c2 Tryd.underlying23 .i64 (k3 : Int) (by omega) (by omega)]
  simp [go_sem]
theorem rowZ_lo {Z : Nat → Prop} {w W : World} {a2 : Option Addr} {n2 c2 k3 : Nat} {xs : List Nat} (h : RowG w 1 (.slice a2 n2 c2) n2 (u64s xs)) (hb : Below w.heap.size w W) (hZ : ∀ b, Z b → w.heap.size ≤ b) (hk : k3 ≤ n2) :
    RowZ Z W (sliced a2 k3 n2 c2 1) (xs.drop k3) := by
  have hl : xs.length = n2 := by simpa [u64s] using h.1
  refine ⟨_, _, by unfold sliced; rw [List.length_drop, hl], ?_⟩
  by_cases h0 : n2 = k3
  · exact .inl (List.drop_of_length_le (by omega))
  · obtain ⟨b, off, rfl, hlt, hc, hx⟩ := h.at (by decide) (by omega)
    refine .inr ⟨b, off + k3, ?_, fun hz => by have := hZ b hz; omega, fun k x hkx => ?_⟩
    · rw [if_neg (by omega)]; simp [Addr.add]
    · rw [List.getElem?_drop] at hkx
      obtain ⟨hk1, e⟩ := List.getElem?_eq_some_iff.1 hkx
      have h1 := hx (k3 + k) (by omega)
      rw [Addr.add_lit, Nat.add_assoc]
      refine below_cell hb (h1.trans ?_)
      simp [u64s, hkx]
theorem rowZ_hi {Z : Nat → Prop} {w W : World} {a2 : Option Addr} {n2 c2 k3 : Nat} {xs : List Nat} (h : RowG w 1 (.slice a2 n2 c2) n2 (u64s xs)) (hb : Below w.heap.size w W) (hZ : ∀ b, Z b → w.heap.size ≤ b) (hk : k3 ≤ n2) :
    RowZ Z W (sliced a2 0 k3 c2 1) (xs.take k3) := by
  have hl : xs.length = n2 := by simpa [u64s] using h.1
  refine ⟨_, _, by unfold sliced; rw [List.length_take, hl, Nat.min_eq_left hk]; rfl, ?_⟩
  by_cases h0 : k3 = 0
  · exact .inl (by rw [h0]; rfl)
  · obtain ⟨b, off, rfl, hlt, hc, hx⟩ := h.at (by decide) (by omega)
    refine .inr ⟨b, off, ?_, fun hz => by have := hZ b hz; omega, fun k x hkx => ?_⟩
    · rw [if_neg (by omega)]; simp [Addr.add]
    · rw [List.getElem?_take] at hkx
      split at hkx
      · have h1 := hx k (by omega)
        rw [Addr.add_lit]
        refine below_cell hb (h1.trans ?_)
        simp [u64s, hkx]
      · cases hkx
theorem cap_ge {w : World} {a2 : Option Addr} {n2 c2 : Nat} {xs : List Value} (h : RowG w 1 (.slice a2 n2 c2) n2 xs) : n2 ≤ c2 := by
  obtain ⟨_, ⟨h1, h2⟩ | ⟨a, cap, h1, h2, _⟩⟩ := h
  · omega
  · simp only [Value.slice.injEq] at h1; omega
theorem u64_same {b1 bs : List Blk} (h : content b1 = content bs) (k : U64B bs) : U64B b1 := by
  intro b hb y hy
  have h1 : (b.a, b.ws, b.u) ∈ content bs := by rw [← h]; exact List.mem_map.2 ⟨b, hb, rfl⟩
  obtain ⟨c, hc, e⟩ := List.mem_map.1 h1
  simp only [Prod.mk.injEq] at e
  exact k c hc y (by rw [e.2.1]; exact hy)
theorem built_le {l : List BkIn} {t : List Blk × List Nat} (h : builtF l = some t) : l.length ≤ 60 := by
  unfold builtF at h
  split at h
  · cases h
  · omega
theorem sweep_z {Z : Nat → Prop} {W : World} {p m : Nat} {bs : List Blk} (A : InZ Z W p m bs) :
    Calls Tryd.prog 15 #[.pointer (some ⟨p, 0, none⟩)] W fun e W' => ∃ u : Int, e = .returned (.int .i64 u) ∧ ∃ Z' : Nat → Prop, InZ Z' W' p m (sweepF bs) ∧ Upd Z W W' ∧ ∀ b, Z' b → Z b ∨ W.heap.size ≤ b := by
  obtain ⟨S, a, hS⟩ := A
  refine (Sweep_at a).mono ?_
  rintro e w' ⟨rfl, S', h1, h2, h3⟩
  exact ⟨_, rfl, fun b => S' b ∧ b < w'.heap.size, ⟨fun b => S' b ∧ b < w'.heap.size, h1.cut, fun b hb => ⟨hb, hb.2⟩⟩, h3.mono (fun b _ hb => (hS b hb).1), fun b hb => (h2 b hb.1).imp (fun h => (hS b h).1) id⟩
/-- Between two rounds of the last loop. -/
structure OrdI (w0 : World) (S : Nat → Prop) (p cb ib lb : Nat) (aol : Option Addr) (n1 ccl : Nat) (L : List Nat) (bnd : Nat) (bs : List Blk) (pre : List (Nat × Nat)) (W : World) : Prop where
  cap : W.heap[cb]? = some (.cells #[.pointer (some ⟨p, 0, none⟩)] 25 (0, 0))
  ar : ArV S W p 600 bs
  hS : ∀ b, S b → b < bnd
  ibh : W.heap[ib]? = some (.cells #[.int .i64 (pre.length : Nat)] 3 (0, 0))
  box : W.heap[lb]? = some (.cells #[.slice aol n1 ccl] 27 (0, 0))
  row : ∀ k a : Nat, L[k]? = some a → ∃ g, aol = some ⟨g, 0, none⟩ ∧ g < ib ∧ W.cell? ⟨g, k, none⟩ = some (.int .i64 (a : Nat))
  hSi : ∀ b, S b → b < ib
  gei : w0.heap.size ≤ ib
  be : Below w0.heap.size w0 W
  ltc : cb < bnd
  lti : ib < bnd
  ge0 : w0.heap.size ≤ bnd
section
variable {w0 W W' : World} {S : Nat → Prop} {p cb ib lb : Nat} {aol : Option Addr} {n1 ccl : Nat} {L : List Nat} {bnd : Nat} {bs : List Blk} {pre : List (Nat × Nat)}
theorem OrdI.put {l : Nat} {o : Obj} (o' : Obj) (hl : bnd ≤ l) (hh : W.heap[l]? = some o) (ho : o.isCells = false) (h : OrdI w0 S p cb ib lb aol n1 ccl L bnd bs pre W) : OrdI w0 S p cb ib lb aol n1 ccl L bnd bs pre (W.putObj l o') := by
  have u := upd_putObj W l o'
  have hc : ∀ b cs t fr, W.heap[b]? = some (.cells cs t fr) → ¬ b = l := fun b cs t fr hb e => by rw [e, hh] at hb; injection hb with hb; subst hb; simp [Obj.isCells] at ho
  refine ⟨u.heap_some h.cap (hc _ _ _ _ h.cap), h.ar.upd u (fun b hb _ e => by have := h.hS b hb; omega), h.hS, u.heap_some h.ibh (hc _ _ _ _ h.ibh), u.heap_some h.box (hc _ _ _ _ h.box), fun k a hk => ?_, h.hSi, h.gei, ?_, h.ltc, h.lti, h.ge0⟩
  · obtain ⟨g, e, hi, hg⟩ := h.row k a hk
    exact ⟨g, e, hi, mcell_putObj o' hh ho hg⟩
  · refine h.be.grown (grownBy_putObj' W l o') h.be.size (fun k e => ?_)
    cases e
    exact Nat.le_trans h.ge0 hl
theorem OrdI.step (x : Nat × Nat) (h : OrdI w0 S p cb ib lb aol n1 ccl L bnd bs pre W) : OrdI w0 S p cb ib lb aol n1 ccl L bnd bs (pre ++ [x]) (W.setCell ⟨ib, 0, none⟩ (.int .i64 ((pre.length : Int) + 1))) := by
  have u : Upd (fun b => b = ib) W (W.setCell ⟨ib, 0, none⟩ (.int .i64 ((pre.length : Int) + 1))) := (Upd.refl (fun b => b = ib) W).setCell (p := ⟨ib, 0, none⟩) (.inl rfl) _
  have h1 : cb ≠ ib := fun e => by have := h.cap; rw [e, h.ibh] at this; simp at this
  have h2 : lb ≠ ib := fun e => by have := h.box; rw [e, h.ibh] at this; simp at this
  refine ⟨u.heap_some h.cap h1, h.ar.upd u (fun b hb _ e => by have := h.hSi b hb; omega), h.hS, ?_, u.heap_some h.box h2, fun k a hk => ?_, h.hSi, h.gei, h.be.setCell h.gei _, h.ltc, h.lti, h.ge0⟩
  · have h3 := heap_set_at h.ibh 0 (.int .i64 ((pre.length : Int) + 1))
    rw [h3]; simp
  · obtain ⟨g, e, hi, hg⟩ := h.row k a hk
    exact ⟨g, e, hi, u.cell_some hg (fun e => by dsimp only at e; omega)⟩
theorem OrdI.two (h : OrdI w0 S p cb ib lb aol n1 ccl L bnd bs pre W) (o o' : Obj) : OrdI w0 S p cb ib lb aol n1 ccl L bnd bs pre ((W.alloc o).alloc o') := by
  have hbb : Below W.heap.size W ((W.alloc o).alloc o') := ((Below.refl _ _).alloc (Nat.le_refl _) _).alloc (by simp) _
  have u : Upd (fun _ => False) W ((W.alloc o).alloc o') := Upd.of_below hbb
  exact ⟨u.heap_some h.cap (fun h => h), h.ar.below hbb, h.hS, u.heap_some h.ibh (fun h => h), u.heap_some h.box (fun h => h), fun k a hk => by obtain ⟨g, e, hi, hg⟩ := h.row k a hk; exact ⟨g, e, hi, below_cell hbb hg⟩, h.hSi, h.gei, h.be.trans (hbb.mono h.be.size), h.ltc, h.lti, h.ge0⟩
end
theorem range_at {U : List (Nat × Nat)} {L : List Nat} (h : U.map Prod.fst = L) {pre : List (Nat × Nat)} {x : Nat × Nat} (hG : pre ++ [x] <+: U) : L[pre.length]? = some x.1 := by
  obtain ⟨r, rfl⟩ := hG
  rw [← h]
  simp
theorem pre_lt {U : List (Nat × Nat)} {L : List Nat} (h : U.map Prod.fst = L) {pre : List (Nat × Nat)} {x : Nat × Nat} (hG : pre ++ [x] <+: U) {n : Nat} (hn : L.length = n) : pre.length < n := by
  obtain ⟨r, rfl⟩ := hG
  rw [← hn, ← h]
  simp
theorem ord_fin {w w0 W : World} {rb : Nat} (h0 : Below w.heap.size w w0) (q : w0.heap[rb]? = some (.cells #[.bool false] 4 (0, 0))) (hr : w.heap.size = rb) (hb : Below w0.heap.size w0 W) :
    W.cell? ⟨rb, 0, none⟩ = some (.bool false) ∧ W.frozen? ⟨rb, 0, none⟩ = false ∧ (W.setCell ⟨rb, 0, none⟩ (.bool true)).cell? ⟨rb, 0, none⟩ = some (.bool true) ∧ Below w.heap.size w (W.setCell ⟨rb, 0, none⟩ (.bool true)) := by
  have q1 := (Upd.of_below (S := fun _ => False) hb).heap_some q (fun h => h)
  have c := heap_cell q1 0
  simp at c
  exact ⟨c, heap_frozen q1 0, World.cell?_setCell_same' _ _ _ (by rw [c]; rfl), (h0.trans (hb.mono h0.size)).setCell (by dsimp only; omega) _⟩
set_option maxRecDepth 100000 in
set_option maxHeartbeats 40000000 in
theorem order_any (w : World) (ht : Tab w ∧ TzTab w) (l : List BkIn) (v1 v2 : Value) (xs : List Nat) (n2 : Nat) (k1 k2 k3 : Int) (hv : BksAt w v1 l) (hok : ∀ x ∈ l, OkIn x)
    (h2 : RowG w 1 v2 n2 (u64s xs)) (hx : ∀ x ∈ xs, x < 18446744073709551616) (hk1 : k1 < 9223372036854775808) (hk2 : k2 < 9223372036854775808) :
    Calls Tryd.prog 5 #[v1, v2, .int .i64 k1, .int .i64 k2, .int .i64 k3] w (OrdPost w) := by
  have HT := Lib.hid ht; have HV := Lib.hid hv; have HOK := Lib.hid hok; have HX := Lib.hid hx
  have HLX := Lib.hid (show xs.length = n2 by simpa [u64s] using h2.1)
  have H2 := Lib.hid h2; have HK1 := Lib.hid hk1; have HK2 := Lib.hid hk2
  obtain ⟨a2, c2, rfl⟩ := h2.form
  clear ht hv hok hx h2 hk1 hk2
  refine (callsIn_wide (n := 7)).1 ?_
  refine callsIn_of_wp_marks Tryd.func5 rfl trivial ?_ rfl
  refine wpIn_wide.2 ?_
  simp only [Tryd.ntmps5, List.size_toArray, List.length_cons, List.length_nil, Nat.reduceAdd, Nat.reduceSub, Array.replicate_succ, Array.replicate_zero, List.push_toArray, List.append_toArray, List.nil_append, List.cons_append]
  go_wp2_with fail
  obtain ⟨w0, hw0⟩ : ∃ w0, w0 = w.alloc (.cells #[.bool false] 4) := ⟨_, rfl⟩
  obtain ⟨rb, hrb⟩ : ∃ rb, w.heap.size = rb := ⟨_, rfl⟩
  rw [← hw0, hrb]
  have hb0 : Below w.heap.size w w0 := by rw [hw0]; exact (Below.refl _ _).alloc (Nat.le_refl _) _
  have q0 : w0.heap[rb]? = some (.cells #[.bool false] 4 (0, 0)) := by rw [hw0]; exact heap_alloc_at w _ hrb.symm
  have HB0 := Lib.hid hb0; have HQ0 := Lib.hid q0; have HRB := Lib.hid hrb
  have HTT0 := Lib.hid (show Tab w0 ∧ TzTab w0 from ⟨tab_on HT.out.1 hb0, HT.out.2.on hb0⟩)
  have HV0 := Lib.hid (HV.out.on hb0); have H20 := Lib.hid (H2.out.below hb0 (Nat.le_refl _))
  clear hw0 hb0 q0 hrb HT HV H2
  refine (known_any w0 HTT0.out).mono ?_
  rintro e w1 ⟨rfl, hb1⟩
  have HB1 := Lib.hid hb1
  have HTT1 := Lib.hid (show Tab w1 ∧ TzTab w1 from ⟨tab_on HTT0.out.1 hb1, HTT0.out.2.on hb1⟩)
  clear hb1
  have fin := Lib.hid (fun (W : World) (hb : Below w0.heap.size w0 W) => ord_fin HB0.out HQ0.out HRB.out hb)
  have FN := Lib.hid (fin.out w1 HB1.out)
  have f1 := FN.out.1; have f2 := FN.out.2.1
  by_cases g1 : k1 < 1
  · go_wp2
    exact ⟨.bool true, by simp [results, Tryd.results5, go_sem, FN.out.2.2.1], rfl, FN.out.2.2.2⟩
  by_cases g2 : k2 < 1
  · go_wp2
    exact ⟨.bool true, by simp [results, Tryd.results5, go_sem, FN.out.2.2.1], rfl, FN.out.2.2.2⟩
  by_cases g3 : k3 < 0
  · go_wp2
    exact ⟨.bool true, by simp [results, Tryd.results5, go_sem, FN.out.2.2.1], rfl, FN.out.2.2.2⟩
  by_cases g4 : (n2 : Int) < k3
  · go_wp2
    exact ⟨.bool true, by simp [results, Tryd.results5, go_sem, FN.out.2.2.1], rfl, FN.out.2.2.2⟩
  by_cases g5 : (30 : Int) < n2
  · go_wp2
    exact ⟨.bool true, by simp [results, Tryd.results5, go_sem, FN.out.2.2.1], rfl, FN.out.2.2.2⟩
  have d1 : decide (k1 < 1) = false := decide_eq_false g1
  have d2 : decide (k2 < 1) = false := decide_eq_false g2
  have d3 : decide (k3 < 0) = false := decide_eq_false g3
  have d4 : decide ((n2 : Int) < k3) = false := decide_eq_false g4
  have d5 : decide ((30 : Int) < (n2 : Int)) = false := decide_eq_false g5
  have d6 : decide (30 < n2) = false := decide_eq_false (by omega)
  clear f1 f2 FN
  go_wp2_with fail
  clear d1 d2 d3 d4 d5 d6
  obtain ⟨k3, rfl⟩ : ∃ q : Nat, k3 = q := ⟨k3.toNat, by omega⟩
  have HL2 := Lib.hid (show n2 ≤ 30 by omega); have HK3 := Lib.hid (show k3 ≤ n2 by omega)
  obtain ⟨k1, rfl⟩ : ∃ q : Nat, k1 = q := ⟨k1.toNat, by omega⟩
  obtain ⟨k2, rfl⟩ : ∃ q : Nat, k2 = q := ⟨k2.toNat, by omega⟩
  have HG1 := Lib.hid (show 1 ≤ k1 by omega); have HG2 := Lib.hid (show 1 ≤ k2 by omega)
  clear g1 g2 g3 g4 g5
  refine (built_any l v1 w1 (HV0.out.on HB1.out) HOK.out).mono ?_
  have END := Lib.hid fin.out
  rintro e w2 (⟨hn2, rfl, hb2⟩ | ⟨p, q, bs, ats, tv, hbt, rfl, hB⟩)
  · have HN2 := Lib.hid hn2
    have HB2 := Lib.hid (HB1.out.trans (hb2.mono HB1.out.size))
    clear hn2 hb2
    go_wp2_with fail
    refine (built_any l v1 w2 (HV0.out.on HB2.out) HOK.out).mono ?_
    rintro e w3 (⟨_, rfl, hb3⟩ | ⟨p, q, bs, ats, tv, hbt, rfl, hB⟩)
    · have FN := Lib.hid (fin.out w3 (HB2.out.trans (hb3.mono HB2.out.size)))
      have f1 := FN.out.1; have f2 := FN.out.2.1
      clear hb3
      go_wp2
      exact ⟨.bool true, by simp [results, Tryd.results5, go_sem, FN.out.2.2.1], rfl, FN.out.2.2.2⟩
    · rw [HN2.out] at hbt; cases hbt
  · have HBT := Lib.hid hbt; have HBU := Lib.hid hB
    have HB2 := Lib.hid (show Below w0.heap.size w0 w2 from HB1.out.trans (HBU.out.below.mono HB1.out.size))
    clear hbt hB
    go_wp2_with fail
    refine (built_any l v1 w2 (HV0.out.on HB2.out) HOK.out).mono ?_
    rintro e w3 (⟨hn, rfl, _⟩ | ⟨p', q', bs', ats', tv', hbt', rfl, hB'⟩)
    · rw [HBT.out] at hn; cases hn
    · rw [HBT.out] at hbt'
      simp only [Option.some.injEq, Prod.mk.injEq] at hbt'
      obtain ⟨rfl, rfl⟩ := hbt'
      have HBV := Lib.hid hB'
      have HB3 := Lib.hid (show Below w0.heap.size w0 w3 from HB2.out.trans (HBV.out.below.mono HB2.out.size))
      have HBO := Lib.hid (builtF_ok HBT.out)
      clear hB'
      obtain ⟨Z, hz, hzb, htz, _⟩ := HBU.out.inZ
      obtain ⟨Y, hy, hyb, _⟩ := HBV.out.inZ
      have h64 := HBU.out.u64
      have h23 := HBV.out.below
      have h12 := HBU.out.below
      have hzy : ∀ b, Z b → ¬ Y b := fun b h k => by have := (hzb b h).2; have := (hyb b k).1; omega
      have HZ := Lib.hid (hz.below h23); have HY := Lib.hid hy; have HZY := Lib.hid hzy; have H64 := Lib.hid h64
      have HZL := Lib.hid (show ∀ b, Z b → w1.heap.size ≤ b from fun b hb => (hzb b hb).1)
      have HYL := Lib.hid (show ∀ b, Y b → w1.heap.size ≤ b from fun b hb => Nat.le_trans h12.size (hyb b hb).1)
      have HZU := Lib.hid (show ∀ b, Z b → b < w3.heap.size from fun b hb => Nat.lt_of_lt_of_le (hzb b hb).2 h23.size)
      have HYU := Lib.hid (show ∀ b, Y b → b < w3.heap.size from fun b hb => (hyb b hb).2)
      have H13 := Lib.hid (show Below w1.heap.size w1 w3 from h12.trans (h23.mono h12.size))
      have HTV := Lib.hid htz
      obtain ⟨aot, cct, htv⟩ := HBU.out.form
      have HAT := Lib.hid (show ∀ i, i < ats.length → ∃ g, aot = some ⟨g, 0, none⟩ ∧ ¬ Z g ∧ ¬ Y g ∧ w3.cell? ⟨g, i, none⟩ = some (.int .i64 (ats.getD i 0 : Nat)) from fun i hi => by
        obtain ⟨g, c, e, hc⟩ := HBU.out.at i hi
        rw [htv] at e
        simp only [Value.slice.injEq] at e
        have hgl := World.block_lt_of_cell? _ _ hc
        exact ⟨g, e.1, htz g (by rw [htv, e.1]; rfl), fun k => by have := (hyb g k).1; dsimp only at hgl; omega, below_cell h23 hc⟩)
      subst htv
      clear hz hzb htz hy hyb h64 h23 h12 hzy HBU HBV
      go_wp2_with fail
      refine (words_any p w3).mono ?_
      rintro e w4 ⟨rfl, hw4⟩
      have HQ4 := Lib.hid (show w4.cell? ⟨w3.heap.size, 0, none⟩ = some (.pointer (some ⟨p, 0, none⟩)) by rw [hw4]; exact heap_cell (heap_alloc_at w3 _ rfl) 0)
      have HB4 := Lib.hid (show Below w3.heap.size w3 w4 by rw [hw4]; exact (Below.refl _ _).alloc (Nat.le_refl _) _)
      clear hw4
      have HZa := Lib.hid (show ¬ Z w3.heap.size from fun h => by have := HZU.out _ h; omega)
      go_wp2_with fail
      refine (reach_z HTT1.out (HZ.out.below HB4.out) HZL.out (H13.out.trans (HB4.out.mono H13.out.size)) (by decide) H64.out HQ4.out HZa.out _ xs ((H20.out.below (HB3.out.trans (HB4.out.mono HB3.out.size)) (Nat.le_refl _)).u64) HX.out (by have := HLX.out; have := HL2.out; omega)).mono ?_
      rintro e w5 ⟨xv, L, rfl, hX1, hX2, hX3, hb5⟩
      have HD5 := Lib.hid (show Below w3.heap.size w3 w5 from HB4.out.trans (hb5.mono HB4.out.size))
      obtain ⟨aol, ccl, rfl, _⟩ := ownsRow_form hX1
      obtain ⟨ll, hll⟩ : ∃ ll, L.length = ll := ⟨_, rfl⟩
      have HLR := Lib.hid (hX1.lt); have HLN := Lib.hid hll
      have HLC := Lib.hid (NatsAt.of_own hX1)
      rw [hll]
      have HLS := Lib.hid hX2; have HLM := Lib.hid hX3
      clear hb5 hX1 hX2 hX3 HQ4 HZa hll
      go_wp2_with fail
      obtain ⟨w6, hw6⟩ : ∃ w6, w6 = w5.alloc (.cells #[.slice aol ll ccl] 27) := ⟨_, rfl⟩
      obtain ⟨lb, hlb⟩ : ∃ lb, w5.heap.size = lb := ⟨_, rfl⟩
      rw [← hw6, hlb]
      have hd6 : Below w3.heap.size w3 w6 := HD5.out.trans ((show Below w5.heap.size w5 w6 by rw [hw6]; exact (Below.refl _ _).alloc (Nat.le_refl _) _).mono HD5.out.size)
      have h56 : Below w5.heap.size w5 w6 := by rw [hw6]; exact (Below.refl _ _).alloc (Nat.le_refl _) _
      have HO6 := Lib.hid (show OrdW w1 w3 Z Y lb aol ll ccl L aot ats w6 from ⟨by rw [hw6]; exact heap_alloc_at w5 _ hlb.symm, ⟨fun h => by have := HZU.out _ h; have := HD5.out.size; omega, fun h => by have := HYU.out _ h; have := HD5.out.size; omega⟩, fun k a hk => by
          obtain ⟨g, e, hc⟩ := NatsAt.at HLC.out k a hk
          have hg := (HLR.out g (by rw [e]; rfl)).1
          have h4 := HB4.out.size
          exact ⟨g, e, ⟨fun h => by have := HZU.out _ h; omega, fun h => by have := HYU.out _ h; omega⟩, below_cell h56 hc⟩,
        fun i hi => by obtain ⟨g, e, h1, h2, h3⟩ := HAT.out i hi; exact ⟨g, e, ⟨h1, h2⟩, below_cell hd6 h3⟩, H13.out.trans (hd6.mono H13.out.size), hd6.size⟩)
      have HZ6 := Lib.hid (HZ.out.below hd6); have HY6 := Lib.hid (HY.out.below hd6)
      clear hw6 hlb hd6 h56 HZ HY HAT HLC HLR HD5 HB4 H13
      refine (words_any p w6).mono ?_
      rintro e w7 ⟨rfl, hw7⟩
      have HQ7 := Lib.hid (show w7.cell? ⟨w6.heap.size, 0, none⟩ = some (.pointer (some ⟨p, 0, none⟩)) by rw [hw7]; exact heap_cell (heap_alloc_at w6 _ rfl) 0)
      have hb7 : Below w6.heap.size w6 w7 := by rw [hw7]; exact (Below.refl _ _).alloc (Nat.le_refl _) _
      have HZa := Lib.hid (show ¬ Z w6.heap.size from fun h => by have := HZU.out _ h; have := HO6.out.sz; omega)
      have HO7 := Lib.hid (HO6.out.below hb7); have HZ7 := Lib.hid (HZ6.out.below hb7); have HY7 := Lib.hid (HY6.out.below hb7)
      clear hw7 hb7 HO6 HZ6 HY6
      go_wp2_with fail
      refine (mark_z HTT1.out HZ7.out HZL.out HO7.out.b1 (by decide) H64.out HQ7.out HZa.out k1 (by have := HK1.out; omega) HG1.out _ xs (H20.out.rowZ (HB1.out.trans (HO7.out.b1.mono HB1.out.size)) (fun b hb => Nat.le_trans HB1.out.size (HZL.out b hb))) HX.out (by have := HLX.out; have := HL2.out; omega)).mono ?_
      rintro e w8 ⟨b1, n1, rfl, hz8, hu8, hc8, hn8, hm8⟩
      have HO8 := Lib.hid (HO7.out.upd hu8 (fun b hb => .inl hb) HZL.out HYL.out)
      have HY8 := Lib.hid (HY7.out.upd hu8 (fun b hb h => HZY.out b h hb)); have HZ8 := Lib.hid hz8; have HC8 := Lib.hid hc8; have HN8 := Lib.hid hn8; have HM8 := Lib.hid hm8
      clear hz8 hu8 hc8 hn8 hm8 HO7 HZ7 HY7 HQ7 HZa
      go_wp2_with fail
      have hsl := fun W => sl_lo W a2 n2 c2 k3 HK3.out
      obtain ⟨a3, n3, c3, hs3⟩ : ∃ a3 n3 c3, sliced a2 k3 n2 c2 1 = .slice a3 n3 c3 := ⟨_, _, _, rfl⟩
      rw [hs3] at hsl
      have HS3 := Lib.hid hs3
      clear hs3
      have DO := Lib.hid (fun (W : World) (h : Below w8.heap.size w8 W) => And.intro (HO8.out.below h) (And.intro (HZ8.out.below h) (HY8.out.below h)))
      go_cut [22, 23] from 82 (fun s22 s23 wx => MkCut w1 w3 Z Y lb aol ll ccl L aot ats p p' bs b1 bs (xs.drop k3) s22 s23 wx)
      case first =>
        refine wp_onlyN ?_
        go_region_with
          (first
            | (have _q := HQA.out
               refine (mark_z HTT1.out HYA.out HYL.out HOA.out.b1 (by decide) H64.out HQA.out HYa.out k2 (by have := HK2.out; omega) HG2.out _ (xs.drop k3) (by rw [← HS3.out]; exact rowZ_lo H20.out (HB1.out.trans (HOA.out.b1.mono HB1.out.size)) (fun b hb => Nat.le_trans HB1.out.size (HYL.out b hb)) HK3.out) (fun x hx => HX.out x (List.mem_of_mem_drop hx)) (by have := HLX.out; have := HL2.out; rw [List.length_drop]; omega)).mono ?_
               rintro e w10 ⟨b2, n4, rfl, hza, hua, hca, hna, hma⟩
               have FIN := Lib.hid (show MkCut w1 w3 Z Y lb aol ll ccl L aot ats p p' bs b1 bs (xs.drop k3) (.int .i64 (n4 : Nat)) (.int .i64 0) w10 from ⟨b2, n4, rfl, rfl, HOA.out.upd hua (fun b hb => .inr hb) HZL.out HYL.out, HZA.out.upd hua (fun b h hb => HZY.out b h hb), hza, hca, hna, hma⟩)
               clear hza hua hca hna hma _q
               skip)
            | (refine (words_any p' _).mono ?_
               rintro e w9 ⟨rfl, hw9⟩
               have HQA := Lib.hid (show w9.cell? ⟨w8.heap.size, 0, none⟩ = some (.pointer (some ⟨p', 0, none⟩)) by rw [hw9]; exact heap_cell (heap_alloc_at w8.drew _ rfl) 0)
               have D9 := DO.out w9 (by rw [hw9]; exact (Below.refl _ _).drew.alloc (Nat.le_refl _) _)
               have HOA := Lib.hid D9.1; have HZA := Lib.hid D9.2.1; have HYA := Lib.hid D9.2.2
               have HYa := Lib.hid (show ¬ Y w8.heap.size from fun h => by have := HYU.out _ h; have := HO8.out.sz; omega)
               clear hw9 D9
               skip))
        all_goals dsimp only [OnlyN, Exit.then]
        all_goals (go_wp2_with fail)
        all_goals go_meet
        all_goals exact FIN.out
      case rest =>
        obtain ⟨b2, n4, rfl, rfl, ho10, hz10, hy10, hc10, hn10, hm10⟩ := hcut
        have HO10 := Lib.hid ho10; have HZ10 := Lib.hid hz10; have HY10 := Lib.hid hy10; have HC10 := Lib.hid hc10; have HN10 := Lib.hid hn10; have HM10 := Lib.hid hm10
        have H642 := Lib.hid (u64_same hc10 H64.out)
        clear ho10 hz10 hy10 hc10 hn10 hm10 HO8 HZ8 HY8 DO hsl HS3
        go_wp2_with fail
        have hsl := fun W => sl_hi W a2 n2 c2 k3 (Nat.le_trans HK3.out (cap_ge H20.out))
        obtain ⟨a4, n5, c4, hs4⟩ : ∃ a4 n5 c4, sliced a2 0 k3 c2 1 = .slice a4 n5 c4 := ⟨_, _, _, rfl⟩
        rw [hs4] at hsl
        have HS4 := Lib.hid hs4
        clear hs4
        have DO := Lib.hid (fun (W : World) (h : Below wc.heap.size wc W) => And.intro (HO10.out.below h) (And.intro (HZ10.out.below h) (HY10.out.below h)))
        go_cut [24, 25] from 93 (fun s24 s25 wx => MkCut w1 w3 Z Y lb aol ll ccl L aot ats p p' bs b1 b2 (xs.take k3) s24 s25 wx)
        case first =>
          refine wp_onlyN ?_
          go_region_with
            (first
              | (have _q := HQA.out
                 refine (mark_z HTT1.out HYA.out HYL.out HOA.out.b1 (by decide) H642.out HQA.out HYa.out k1 (by have := HK1.out; omega) HG1.out _ (xs.take k3) (by rw [← HS4.out]; exact rowZ_hi H20.out (HB1.out.trans (HOA.out.b1.mono HB1.out.size)) (fun b hb => Nat.le_trans HB1.out.size (HYL.out b hb)) HK3.out) (fun x hx => HX.out x (List.mem_of_mem_take hx)) (by have := HLX.out; have := HL2.out; rw [List.length_take]; omega)).mono ?_
                 rintro e w10 ⟨b3, n6, rfl, hza, hua, hca, hna, hma⟩
                 rw [HC10.out] at hca hma
                 have FIN := Lib.hid (show MkCut w1 w3 Z Y lb aol ll ccl L aot ats p p' bs b1 b2 (xs.take k3) (.int .i64 (n6 : Nat)) (.int .i64 0) w10 from ⟨b3, n6, rfl, rfl, HOA.out.upd hua (fun b hb => .inr hb) HZL.out HYL.out, HZA.out.upd hua (fun b h hb => HZY.out b h hb), hza, hca, hna, hma⟩)
                 clear hza hua hca hna hma _q
                 skip)
              | (refine (words_any p' _).mono ?_
                 rintro e w9 ⟨rfl, hw9⟩
                 have HQA := Lib.hid (show w9.cell? ⟨wc.heap.size, 0, none⟩ = some (.pointer (some ⟨p', 0, none⟩)) by rw [hw9]; exact heap_cell (heap_alloc_at wc.drew _ rfl) 0)
                 have D9 := DO.out w9 (by rw [hw9]; exact (Below.refl _ _).drew.alloc (Nat.le_refl _) _)
                 have HOA := Lib.hid D9.1; have HZA := Lib.hid D9.2.1; have HYA := Lib.hid D9.2.2
                 have HYa := Lib.hid (show ¬ Y wc.heap.size from fun h => by have := HYU.out _ h; have := HO10.out.sz; omega)
                 clear hw9 D9
                 skip))
          all_goals dsimp only [OnlyN, Exit.then]
          all_goals (go_wp2_with fail)
          all_goals go_meet
          all_goals exact FIN.out
        case rest =>
          obtain ⟨b3, n6, rfl, rfl, ho12, hz12, hy12, hc12, hn12, hm12⟩ := hcut
          have m1 := ord_one HBO.out.1 HM8.out
          have m3 := ord_two HBO.out.1 HM10.out hm12
          have m3' : ∀ a, MarkX b3 a ↔ Rch (UsedC (content bs)) (EF (wordsC (content bs))) (fun x => x ∈ xs.filterMap toF) a := fun a => by rw [m3 a, List.take_append_drop]
          have hcn : n1 = n4 + n6 := by
            have h1 := cnt_same hz12.wf hy12.wf m1 m3'
            have h2 := HN8.out; have h3 := HN10.out; have h4 := cnt_none HBO.out.1
            omega
          have hll : n1 = ll := by
            have h1 := HN8.out
            rw [cnt_none HBO.out.1, cnt_marks, marks_eq hz12.wf HLS.out (fun a => (m1 a).trans (HLM.out a).symm), HLN.out] at h1
            omega
          have HMS := Lib.hid (marked_same m1 m3'); have HMK := Lib.hid (marks_eq hz12.wf HLS.out (fun a => (m1 a).trans (HLM.out a).symm))
          subst hll
          have hwr : IntKind.i64.wrap ((n4 : Int) + n6) = (n1 : Int) := by
            have h1 : n1 ≤ 602 := by rw [← HLN.out]; exact sorted_len HLS.out (fun a ha => used_le HBO.out.1.wf ((HLM.out a).1 ha).used)
            rw [IntWalk.i64_in _ ⟨by omega, by omega⟩]; omega
          have kb := heap_cell ho12.box 0
          simp at kb
          have HO12 := Lib.hid ho12; have HZ12 := Lib.hid hz12; have HY12 := Lib.hid hy12; have HC12 := Lib.hid hc12
          clear ho12 hz12 hy12 hc12 hn12 hm12 m1 m3 m3' hcn HO10 HZ10 HY10 DO hsl HS4 HN8 HM8 HN10 HM10
          go_wp2_with fail
          obtain ⟨N, hN⟩ : ∃ N, ats.length = N := ⟨_, rfl⟩
          rw [hN]
          have HNN := Lib.hid hN
          have HN6 := Lib.hid (show N ≤ 60 by rw [← hN, HBO.out.2]; exact built_le HBT.out)
          clear hN hwr kb
          go_loopw [26] (fun t26 wr => ∃ i : Nat, t26 = .int .i64 i ∧ i ≤ N ∧ OrdW w1 w3 Z Y lb aol n1 ccl L aot ats wr ∧ InZ Z wr p 600 b1 ∧ InZ Y wr p' 600 b3) (fun t26 _ => N - (intOf t26).toNat)
          case atStart => exact ⟨0, rfl, Nat.zero_le _, HO12.out, HZ12.out, HY12.out⟩
          case round =>
            clear HO12 HZ12 HY12
            obtain ⟨i, rfl, hi, ho, hz, hy⟩ := hrel
            have HO := Lib.hid ho; have HZ := Lib.hid hz; have HY := Lib.hid hy
            clear ho hz hy
            by_cases hlt : i < N
            · have HLT := Lib.hid hlt
              have hlt' : (i : Int) < N := by omega
              have hi0 : (0 : Int) ≤ i := by omega
              obtain ⟨ag, rfl, _, hag⟩ := HO.out.ats i (by rw [HNN.out]; exact hlt)
              obtain ⟨a, ha⟩ : ∃ a, ats.getD i 0 = a := ⟨_, rfl⟩
              rw [ha] at hag
              have hus := HBO.out.1.us a (by rw [← ha, List.getD_eq_getElem?_getD, List.getElem?_eq_getElem (by rw [HNN.out]; exact hlt)]; exact List.getElem_mem _)
              obtain ⟨SA, aA, _⟩ := HZ.out
              obtain ⟨SB, aB, _⟩ := HY.out
              have CMA := Lib.hid (Marked_s (aA.below (Below.refl _ _).drew) a (ord_used HC8.out hus))
              have CMB := Lib.hid (Marked_s (aB.below (Below.refl _ _).drew) a (ord_used HC12.out hus))
              have hsm := HMS.out a
              obtain ⟨r, hr⟩ : ∃ r, markedAt b3 a = r := ⟨_, rfl⟩
              rw [hsm, hr] at CMA
              rw [hr] at CMB
              have HI6 := Lib.hid (show (i : Int) < 60 by have := HN6.out; omega)
              have hrr : (r != r) = false := by cases r <;> rfl
              clear hlt hi ha hus aA aB hsm hr
              go_wp2_with fail
              go_cut [145] from 133 to 145 (fun s145 wx => s145 = .bool false ∧ wx = wr.drew)
              case first =>
                refine wp_onlyN ?_
                go_region_with
                  (first
                    | (go_at_call_of 12 (Value.pointer (some ⟨p, 0, none⟩))
                       refine CMA.out.mono ?_
                       rintro e w' ⟨rfl, rfl⟩
                       skip)
                    | (go_at_call_of 12 (Value.pointer (some ⟨p', 0, none⟩))
                       refine CMB.out.mono ?_
                       rintro e w' ⟨rfl, rfl⟩
                       skip))
                all_goals dsimp only [OnlyN, Exit.then]
                all_goals (go_wp2_with fail)
                all_goals go_meet
                all_goals exact ⟨rfl, rfl⟩
              case rest =>
                obtain ⟨rfl, rfl⟩ := hcut
                clear hrr
                have HI6' := HI6.out
                go_wp2
                go_roundw
                case rel =>
                  have hd : Below wr.heap.size wr wr.drew := (Below.refl _ _).drew
                  exact ⟨i + 1, by go_num, HLT.out, HO.out.below hd, HZ.out.below hd, HY.out.below hd⟩
                case measure => have := HLT.out; simp [intOf]; omega
            · obtain rfl : i = N := by omega
              have hlt' : ¬ (i : Int) < i := by omega
              clear hlt hi
              go_wp2_with fail
              refine (sweep_z HZ.out).mono ?_
              rintro e w13 ⟨u, rfl, Z', hz13, hu13, hzz⟩
              have HO13 := Lib.hid (HO.out.upd hu13 (fun b hb => .inl hb) HZL.out HYL.out)
              have HZ13 := Lib.hid hz13; have HZZ := Lib.hid hzz; have HSW := Lib.hid hu13.size
              have hsu := sweep_uses HZ.out.wf hz13.wf
              rw [HMK.out] at hsu
              have HSU := Lib.hid hsu
              clear hz13 hu13 hzz hsu hlt' HO HY
              go_wp2_with fail
              obtain ⟨w14, hw14⟩ : ∃ w14, w13.alloc (.cells #[.int .i64 0] 3) = w14 := ⟨_, rfl⟩
              obtain ⟨ib, hib⟩ : ∃ ib, w13.heap.size = ib := ⟨_, rfl⟩
              rw [hw14, hib]
              refine (blocks_any p w14).mono ?_
              rintro e w15 ⟨rfl, hw15⟩
              obtain ⟨cb, hcb⟩ : ∃ cb, w14.heap.size = cb := ⟨_, rfl⟩
              obtain ⟨S, aS, hS⟩ := HZ13.out
              have q14 : w14.heap[ib]? = some (.cells #[.int .i64 0] 3 (0, 0)) := by rw [← hw14]; exact heap_alloc_at w13 _ hib.symm
              have b14 : Below w13.heap.size w13 w14 := by rw [← hw14]; exact (Below.refl _ _).alloc (Nat.le_refl _) _
              have b15 : Below w14.heap.size w14 w15 := by rw [hw15]; exact (Below.refl _ _).alloc (Nat.le_refl _) _
              have q15 : w15.heap[cb]? = some (.cells #[.pointer (some ⟨p, 0, none⟩)] 25 (0, 0)) := by rw [hw15]; exact heap_alloc_at w14 _ hcb.symm
              have b135 : Below w13.heap.size w13 w15 := b14.trans (b15.mono b14.size)
              have u15 : Upd (fun _ => False) w14 w15 := Upd.of_below b15
              have ho15 := HO13.out.below b135
              have hI0 : OrdI w0 S p cb ib lb aol n1 ccl L w15.heap.size (sweepF b1) [] w15 :=
                ⟨q15, aS.below b135, fun b hb => Nat.lt_of_lt_of_le (hS b hb).2 b135.size, u15.heap_some q14 (fun h => h), ho15.box, fun k a hk => by
                  obtain ⟨g, e, _, h⟩ := HO13.out.row k a hk
                  exact ⟨g, e, by have := World.block_lt_of_cell? _ _ h; dsimp only at this; omega, below_cell b135 h⟩, fun b hb => by rw [← hib]; exact (hS b hb).2, by rw [← hib]; exact (HB1.out.trans (HO13.out.b1.mono HB1.out.size)).size, HB1.out.trans (ho15.b1.mono HB1.out.size), heap_lt q15, heap_lt (u15.heap_some q14 (fun h => h)), (HB1.out.trans (ho15.b1.mono HB1.out.size)).size⟩
              rw [hcb]
              have HI0 := Lib.hid hI0
              have HLEN := Lib.hid HLN.out
              clear hw14 hib hw15 hcb aS hS q14 b14 b15 q15 b135 u15 ho15 hI0 HO13 HZ13 HZ
              go_wp2_with fail
              refine (wpIn_wide (n := 7)).1 ?_
              have HIT := Lib.hid (blocks_iter 6 cb p 600 (shape (sweepF b1)) (by omega) w15 (fun _ _ => True) (OrdI w0 S p cb ib lb aol n1 ccl L w15.heap.size (sweepF b1)) (fun _ _ _ => False) (fun pre W h => ⟨heap_cell h.cap 0, ⟨S, _, rfl, h.ar⟩, HTT0.out.2.on h.be⟩))
              refine wpIn_range_atG (F := Fence.wide) (n := 7) rfl (by omega) (gf := 42) (lb := #[.pointer (some ⟨cb, 0, none⟩)]) rfl trivial (enters_of Tryd.func42 (by kernel_rfl) rfl)
                (encs := fun x : Nat × Nat => #[.int .i64 (x.1 : Nat), .int .i64 (x.2 : Nat)]) (fun _ => rfl) (fun _ _ => True) (OrdI w0 S p cb ib lb aol n1 ccl L w15.heap.size (sweepF b1)) (fun _ _ _ => False)
                (fun _ _ => trivial) (fun _ _ _ _ _ _ _ => trivial)
                (fun pre W l o o' hl h ho hi => hi.put o' hl h ho) (fun c pre W l o o' hl h ho hi => hi)
                (fun o o' => HI0.out.two o o') ?act HIT.out ?assign ?body ?done ?stop
              case assign =>
                intro l x W K hK
                gi_wp2
                exact hK
              case body =>
                rintro l pre x W hi hG
                obtain ⟨g0, e0, _, c0⟩ := hi.row pre.length x.1 (range_at HSU.out hG)
                have hql := pre_lt HSU.out hG HLEN.out
                have h602 : n1 ≤ 602 := by rw [← HLEN.out]; exact sorted_len HLS.out (fun a ha => used_le HBO.out.1.wf ((HLM.out a).1 ha).used)
                have k1' := heap_cell hi.ibh 0
                have f1' := heap_frozen hi.ibh 0
                have k2' := heap_cell hi.box 0
                simp at k1' k2'
                subst e0
                have HIN := Lib.hid hi
                obtain ⟨qn, hqn⟩ : ∃ qn, pre.length = qn := ⟨_, rfl⟩
                obtain ⟨a, ha⟩ : ∃ a, x.1 = a := ⟨_, rfl⟩
                rw [hqn] at c0 k1' hql
                rw [ha] at c0
                simp only [ha]
                have HQN := Lib.hid hqn; have HA := Lib.hid ha
                have hq1 : (qn : Int) < n1 := by omega
                have hq0 : (0 : Int) ≤ qn := by omega
                have hq2 : IntKind.i64.wrap ((qn : Int) + 1) = ((qn + 1 : Nat) : Int) := by rw [IntWalk.i64_in _ ⟨by omega, by omega⟩]; omega
                clear hi hG hqn ha hql h602
                have hq3 : ¬ (n1 : Int) ≤ qn := by omega
                have hq4 : decide ((n1 : Int) ≤ qn) = false := decide_eq_false hq3
                have hq5 : ¬ n1 ≤ qn := by omega
                have hq6 : decide (n1 ≤ qn) = false := decide_eq_false hq5
                refine Go.wpIn_block ?_
                refine Go.wpIn_seq ?_
                refine Go.wpIn_seq ?_
                refine wpIn_region_plain (by simp) (fun _ _ h => h) ?_
                simp only
                go_wp2
                dsimp only [OnlyN, Exit.then]
                refine Go.wpIn_cond_false rfl ?_
                refine Go.wpIn_skip ?_
                refine wpIn_region_plain (by simp) (fun _ _ h => h) ?_
                simp only
                go_wp2
                dsimp only [OnlyN, Exit.inBlock, roundWayG]
                have hst := HIN.out.step x
                rw [HQN.out] at hst
                exact ⟨(KeepsOthers.setCell _ _ _).from _, trivial, hst⟩
              case done =>
                rintro D xs2 W hxs hi hK hle
                obtain ⟨c1, hf1, _, _⟩ := ord_fin HB0.out HQ0.out HRB.out hi.be
                have k1' := heap_cell hi.ibh 0
                have k2' := heap_cell hi.box 0
                have hql : xs2.length = n1 := by rw [hxs, ← HLEN.out, ← HSU.out, List.length_map]
                simp at k1' k2'
                rw [hql] at k1'
                have HIN := Lib.hid hi; have HKD := Lib.hid hK; have HLE := Lib.hid hle
                clear hi hK hle hxs hql
                dsimp only [Exit.inBlock, Exit.then]
                go_wp2
                have hK2 := (KeepsOthers.setCell W ⟨rb, 0, none⟩ (.bool true)).same D _ HKD.out rfl
                obtain ⟨_, _, c3', hbf⟩ := ord_fin HB0.out HQ0.out HRB.out HIN.out.be
                have c4' := mcell_putObj (.deferred none) hK2 rfl c3'
                refine ⟨by simp, .inl ⟨_, _, rfl, run_takeDeferred hK2, ?_⟩⟩
                refine ⟨.bool true, by simp [results, Tryd.results5, go_sem, c4'], rfl, ?_⟩
                exact hbf.grown (grownBy_putObj' _ D _) hbf.size (fun k e => by cases e; have := HLE.out; have := HIN.out.ge0; have := HB0.out.size; omega)
              case stop =>
                rintro D c pre W _ h
                exact h.elim
end Go.Proofs.YtfpfpopfnbcblaaDoor
