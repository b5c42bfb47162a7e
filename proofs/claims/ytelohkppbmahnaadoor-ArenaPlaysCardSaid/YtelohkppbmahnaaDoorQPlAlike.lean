/- geodelaw20.alike: the arena and the document's one answer alike. -/
import Derived.Test.YtelohkppbmahnaaDoorQMkBitsBd
import Derived.Test.YtelohkppbmahnaaDoorQPlNextBd
import Derived.Test.YtelohkppbmahnaaDoorQInRoundBd
import Derived.Deep.CutRange
import Derived.Deep.RegionHeldLaw
namespace Go.Proofs.YtelohkppbmahnaaDoor
open Go.RowKit

theorem Pr.capB {w0 W : World} {p q m : Nat} {bs : List Blk} (H : Pr w0 p q m bs bs W) : Calls Tryd.prog 40 #[.pointer (some ⟨p, 0, none⟩)] W fun e w' => e = .returned (.int .i64 (m : Nat)) ∧ Below W.heap.size W w' :=
  (Cap_n H.arn).mono fun _ _ ⟨he, hw⟩ => ⟨he, hw ▸ Below.refl _ _⟩
theorem Pr.usedB {w0 W : World} {p q m : Nat} {bs : List Blk} (H : Pr w0 p q m bs bs W) : Calls Tryd.prog 23 #[.pointer (some ⟨p, 0, none⟩)] W fun e w' => e = .returned (.int .i64 (usedSum bs : Nat)) ∧ Below W.heap.size W w' :=
  (Used_n H.arn).mono fun _ _ ⟨he, hw⟩ => ⟨he, hw ▸ Below.refl _ _⟩
theorem Pr.roomB {w0 W : World} {p q m : Nat} {bs : List Blk} (H : Pr w0 p q m bs bs W) : Calls Tryd.prog 24 #[.pointer (some ⟨p, 0, none⟩)] W fun e w' => e = .returned (.int .i64 (roomOf bs : Nat)) ∧ Below W.heap.size W w' := by
  obtain ⟨S, a⟩ := H.arv
  exact (Room_at a).mono fun e w' ⟨he, hb⟩ => ⟨he, hb⟩
theorem Pr.rusedB {w0 W : World} {p q m : Nat} {bs : List Blk} (H : Pr w0 p q m bs bs W) : Calls Tryd.prog 39 #[.pointer (some ⟨q, 0, none⟩)] W fun e w' => e = .returned (.int .i64 (usedSum bs : Nat)) ∧ Below W.heap.size W w' := by
  obtain ⟨S2, rs, h, e⟩ := H.ra
  have := rUsed_at h
  rw [e] at this; exact this
theorem Pr.rroomB {w0 W : World} {p q m : Nat} {bs : List Blk} (H : Pr w0 p q m bs bs W) : Calls Tryd.prog 41 #[.pointer (some ⟨q, 0, none⟩)] W fun e w' => e = .returned (.int .i64 (roomOf bs : Nat)) ∧ Below W.heap.size W w' := by
  obtain ⟨S2, rs, h, e⟩ := H.ra
  have := rRoom_at h
  rw [e] at this; exact this
variable {w0 W : World} {p q m : Nat} {bs : List Blk}
/-- In the range over the used blocks: B = the boxes (a, r, the answer), nb = the box of n, cb = what Blocks holds. -/
structure AlI (W : World) (p q m : Nat) (bs : List Blk) (nb cb : Nat) (pre : List (Nat × Nat)) (wr : World) : Prop where
  b0 : wr.heap[W.heap.size]? = some (.cells #[.pointer (some ⟨p, 0, none⟩)] 24 (0, 0))
  b1 : wr.heap[W.heap.size + 1]? = some (.cells #[.pointer (some ⟨q, 0, none⟩)] 26 (0, 0))
  b2 : wr.heap[W.heap.size + 1 + 1]? = some (.cells #[.bool false] 4 (0, 0))
  bn : ∃ k : Nat, wr.heap[nb]? = some (.cells #[.int .i64 k] 3 (0, 0)) ∧ k ≤ bs.length ∧ usedsF (shape (bs.take k)) = pre
  bc : wr.heap[cb]? = some (.cells #[.pointer (some ⟨p, 0, none⟩)] 24 (0, 0))
  bel : Below W.heap.size W wr
/-- The same, n's box told. -/
structure AlK (W : World) (p q : Nat) (nb cb k : Nat) (wr : World) : Prop where
  b0 : wr.heap[W.heap.size]? = some (.cells #[.pointer (some ⟨p, 0, none⟩)] 24 (0, 0))
  b1 : wr.heap[W.heap.size + 1]? = some (.cells #[.pointer (some ⟨q, 0, none⟩)] 26 (0, 0))
  b2 : wr.heap[W.heap.size + 1 + 1]? = some (.cells #[.bool false] 4 (0, 0))
  bn : wr.heap[nb]? = some (.cells #[.int .i64 k] 3 (0, 0))
  bc : wr.heap[cb]? = some (.cells #[.pointer (some ⟨p, 0, none⟩)] 24 (0, 0))
  bel : Below W.heap.size W wr
theorem AlK.below {nb cb k : Nat} {wr wr' : World} (h : AlK W p q nb cb k wr) (hb : Below wr.heap.size wr wr') : AlK W p q nb cb k wr' := by
  have u : Upd (fun _ => False) wr wr' := Upd.of_below hb
  exact ⟨u.heap_some h.b0 (fun h => h), u.heap_some h.b1 (fun h => h), u.heap_some h.b2 (fun h => h), u.heap_some h.bn (fun h => h), u.heap_some h.bc (fun h => h), h.bel.trans (hb.mono h.bel.size)⟩
theorem AlK.inc {nb cb k : Nat} {wr : World} (h : AlK W p q nb cb k wr) (hn : W.heap.size ≤ nb) (k' : Nat) : AlK W p q nb cb k' (wr.setCell ⟨nb, 0, none⟩ (.int .i64 (k' : Nat))) := by
  have u : Upd (fun b => b = nb) wr (wr.setCell ⟨nb, 0, none⟩ (.int .i64 (k' : Nat))) := upd_set _ _ _ _
  have hne : ∀ b cs t fr, wr.heap[b]? = some (.cells cs t fr) → t ≠ 3 → ¬ b = nb := fun b cs t fr hb ht e => by
    rw [e, h.bn] at hb; simp at hb; exact ht hb.2.1.symm
  have hs := heap_set_at h.bn 0 (.int .i64 (k' : Nat))
  exact ⟨u.heap_some h.b0 (hne _ _ _ _ h.b0 (by decide)), u.heap_some h.b1 (hne _ _ _ _ h.b1 (by decide)), u.heap_some h.b2 (hne _ _ _ _ h.b2 (by decide)), by simpa using hs, u.heap_some h.bc (hne _ _ _ _ h.bc (by decide)), h.bel.setCell hn _⟩
/-- What n's box holds. -/
def nBox (nb : Nat) (wr : World) : Nat := match wr.cell? ⟨nb, 0, none⟩ with
  | some v => (intOf v).toNat
  | none => 0
theorem AlK.nBox {nb cb k : Nat} {wr : World} (h : AlK W p q nb cb k wr) : Go.Proofs.YtelohkppbmahnaaDoor.nBox nb wr = k := by
  have := heap_cell h.bn 0
  simp at this
  unfold Go.Proofs.YtelohkppbmahnaaDoor.nBox
  rw [this]; simp [intOf]
theorem AlI.below {nb cb : Nat} {pre : List (Nat × Nat)} {wr wr' : World} (h : AlI W p q m bs nb cb pre wr) (hb : Below wr.heap.size wr wr') : AlI W p q m bs nb cb pre wr' := by
  have u : Upd (fun _ => False) wr wr' := Upd.of_below hb
  obtain ⟨k, k1, k2, k3⟩ := h.bn
  exact ⟨u.heap_some h.b0 (fun h => h), u.heap_some h.b1 (fun h => h), u.heap_some h.b2 (fun h => h), ⟨k, u.heap_some k1 (fun h => h), k2, k3⟩, u.heap_some h.bc (fun h => h), h.bel.trans (hb.mono h.bel.size)⟩
theorem AlI.put {nb cb : Nat} {pre : List (Nat × Nat)} {wr : World} {l : Nat} {o : Obj} (h : AlI W p q m bs nb cb pre wr) (o' : Obj) (hl : W.heap.size ≤ l) (hh : wr.heap[l]? = some o) (ho : o.isCells = false) : AlI W p q m bs nb cb pre (wr.putObj l o') := by
  have u : Upd (fun b => b = l) wr (wr.putObj l o') := (Upd.refl _ wr).grown (grownBy_putObj' wr l o') (fun k e => by cases e; exact .inl rfl)
  have hc : ∀ b cs t fr, wr.heap[b]? = some (.cells cs t fr) → ¬ b = l := fun b cs t fr hb e => by rw [e, hh] at hb; injection hb with hb; subst hb; simp [Obj.isCells] at ho
  obtain ⟨k, k1, k2, k3⟩ := h.bn
  exact ⟨u.heap_some h.b0 (hc _ _ _ _ h.b0), u.heap_some h.b1 (hc _ _ _ _ h.b1), u.heap_some h.b2 (hc _ _ _ _ h.b2), ⟨k, u.heap_some k1 (hc _ _ _ _ k1), k2, k3⟩, u.heap_some h.bc (hc _ _ _ _ h.bc), h.bel.grown (grownBy_putObj' wr l o') h.bel.size (fun q e => by cases e; exact hl)⟩
/-- A block of the document's arena, in memory. -/
theorem Pr.rowAt (H : Pr w0 p q m bs bs W) {k : Nat} {b : Blk} (hb : bs[k]? = some b) : ∃ g L c rg, bs.length = L ∧ k < L ∧ L ≤ 1048576 ∧ W.cell? ⟨q, 1, none⟩ = some (.slice (some ⟨g, 0, none⟩) L c)
    ∧ W.cell? ⟨g, k * 4, none⟩ = some (.int .i64 (b.a : Nat)) ∧ W.cell? ⟨g, k * 4 + 1, none⟩ = some (.slice (some ⟨rg, 0, none⟩) b.n b.n) ∧ W.cell? ⟨g, k * 4 + 2, none⟩ = some (.bool b.u) ∧ W.cell? ⟨g, k * 4 + 3, none⟩ = some (.bool b.m)
    ∧ ∀ t, t < b.n → W.cell? ⟨rg, t, none⟩ = some (.int .u64 (b.ws.getD t 0 : Nat)) := by
  obtain ⟨S2, rs, hra, hrb⟩ := H.ra
  obtain ⟨ao, c, R⟩ := hra.rowC
  subst hrb
  obtain ⟨r, hr, rfl⟩ := blks_at hb
  obtain ⟨g, rfl, k0, k1, k2, k3⟩ := R.at' k r hr
  exact ⟨g, rs.length, c, r.g, by simp [blks], (List.getElem?_eq_some_iff.1 hr).1, hra.len, R.c1, k0, k1, k2, k3, fun t ht => hra.word (List.mem_of_getElem? hr) ht⟩
theorem upd_keepsFromP {U : Nat → Prop} {B : Nat} {W W' : World} (u : Upd U W W') (hU : ∀ b, U b → b < B) : KeepsFrom B W W' :=
  ⟨u.size, fun k o hB hk _ => u.heap_some hk (fun h => by have := hU k h; omega)⟩
set_option pp.deepTerms true in
set_option pp.maxSteps 100000 in
set_option maxRecDepth 100000 in
set_option maxHeartbeats 4000000 in
theorem alike_any (H0 : Pr w0 p q m bs bs W) (ht : TzTab W) :
    Calls Tryd.prog 20 #[.pointer (some ⟨p, 0, none⟩), .pointer (some ⟨q, 0, none⟩)] W fun e W' => e = .returned (.bool true) ∧ Below W.heap.size W W' := by
  have H := Lib.hid H0; have HT := Lib.hid ht
  obtain ⟨S2, rs, hra, hrb⟩ := H0.ra
  have hcap := hra.hd
  obtain ⟨v, hp, _, _⟩ := hcap
  have cw := heap_cell hp 0
  simp at cw
  have HP := Lib.hid hp
  clear hp hra H0 ht
  refine (callsIn_wide (n := 7)).1 ?_
  refine callsIn_of_wp_marks Tryd.func20 rfl trivial ?_ rfl
  refine wpIn_wide.2 ?_
  simp only [Tryd.ntmps20, List.size_toArray, List.length_cons, List.length_nil, Nat.reduceAdd, Nat.reduceSub, Array.replicate_succ, Array.replicate_zero, List.push_toArray, List.append_toArray, List.nil_append, List.cons_append]
  go_upto_region 1 with fail
  obtain ⟨W1, hW1⟩ : ∃ W1, W1 = ((W.alloc (.cells #[.pointer (some ⟨p, 0, none⟩)] 24)).alloc (.cells #[.pointer (some ⟨q, 0, none⟩)] 26)).alloc (.cells #[.bool false] 4) := ⟨_, rfl⟩
  rw [← hW1]
  have b1 : Below W.heap.size W W1 := by rw [hW1]; exact (((Below.refl _ _).alloc (Nat.le_refl _) _).alloc (by simp) _).alloc (by simp; omega) _
  have q0 : W1.heap[W.heap.size]? = some (.cells #[.pointer (some ⟨p, 0, none⟩)] 24 (0, 0)) := by rw [hW1]; exact heap_alloc_keep (heap_alloc_keep (heap_alloc_at _ _ rfl) _) _
  have q1 : W1.heap[W.heap.size + 1]? = some (.cells #[.pointer (some ⟨q, 0, none⟩)] 26 (0, 0)) := by rw [hW1]; exact heap_alloc_keep (heap_alloc_at _ _ (by simp)) _
  have q2 : W1.heap[W.heap.size + 1 + 1]? = some (.cells #[.bool false] 4 (0, 0)) := by rw [hW1]; exact heap_alloc_at _ _ (by simp)
  have H1 := Lib.hid (H.out.then b1)
  have cw := below_cell b1 cw
  have e0 := Ext.cells (w0 := W1) (heap_cell q0 0); have e1 := Ext.cells (w0 := W1) (heap_cell q1 0); have e2 := Ext.cells (w0 := W1) cw
  simp at e0 e1
  have D1 := Lib.hid (fun x : Ext W1 => (H1.out.then x.2).capB)
  have D2 := Lib.hid (fun x : Ext W1 => (H1.out.then x.2).usedB)
  have D3 := Lib.hid (fun x : Ext W1 => (H1.out.then x.2).rusedB)
  have D4 := Lib.hid (fun x : Ext W1 => (H1.out.then x.2).roomB)
  have D5 := Lib.hid (fun x : Ext W1 => (H1.out.then x.2).rroomB)
  have HQ0 := Lib.hid q0; have HQ1 := Lib.hid q1; have HQ2 := Lib.hid q2; have HB1 := Lib.hid b1
  clear hW1 b1 q0 q1 q2 cw
  refine wp_region_calm (by kernel_rfl) (by kernel_rfl) ?_
  repeat (go_big_quiet_step (first | exact Ext.call _ (D1.out _) | exact Ext.call _ (D2.out _) | exact Ext.call _ (D3.out _) | exact Ext.call _ (D4.out _) | exact Ext.call _ (D5.out _)))
  refine wpQuiet_nil ?_
  rintro _ ⟨x0, rfl⟩
  obtain ⟨w2, hw2⟩ : ∃ w2, x0.val = w2 := ⟨_, rfl⟩
  have b2 := x0.2
  rw [hw2] at b2 ⊢
  have u2 : Upd (fun _ => False) W1 w2 := Upd.of_below b2
  have q0 := u2.heap_some HQ0.out (fun h => h); have q1 := u2.heap_some HQ1.out (fun h => h); have q2 := u2.heap_some HQ2.out (fun h => h)
  have H2 := Lib.hid (H1.out.then b2)
  have HB2 := Lib.hid (HB1.out.trans (b2.mono HB1.out.size))
  have HQ0 := Lib.hid q0; have HQ1 := Lib.hid q1; have HQ2 := Lib.hid q2
  have a0 := heap_cell q0 0
  simp at a0
  clear e0 e1 e2 D1 D2 D3 D4 D5 hw2 b2 u2 q0 q1 q2 H1
  go_upto_region 4 with fail
  obtain ⟨nb, hnb⟩ : ∃ nb, w2.heap.size = nb := ⟨_, rfl⟩
  obtain ⟨W3, hW3⟩ : ∃ W3, W3 = w2.alloc (.cells #[.int .i64 0] 3) := ⟨_, rfl⟩
  rw [← hW3, hnb]
  have b3 : Below w2.heap.size w2 W3 := by rw [hW3]; exact (Below.refl _ _).alloc (Nat.le_refl _) _
  have qn : W3.heap[nb]? = some (.cells #[.int .i64 0] 3 (0, 0)) := by rw [hW3]; exact heap_alloc_at _ _ hnb.symm
  have a0 := below_cell b3 a0
  obtain ⟨cb, hcb⟩ : ∃ cb, W3.heap.size = cb := ⟨_, rfl⟩
  obtain ⟨W5, hW5⟩ : ∃ W5, W3.alloc (.cells #[.pointer (some ⟨p, 0, none⟩)] 24) = W5 := ⟨_, rfl⟩
  have b5 : Below W3.heap.size W3 W5 := by rw [← hW5]; exact (Below.refl _ _).alloc (Nat.le_refl _) _
  have b25 : Below w2.heap.size w2 W5 := b3.trans (b5.mono b3.size)
  have u25 : Upd (fun _ => False) w2 W5 := Upd.of_below b25
  have hI0 : AlI W p q m bs nb cb [] W5 :=
    ⟨u25.heap_some HQ0.out (fun h => h), u25.heap_some HQ1.out (fun h => h), u25.heap_some HQ2.out (fun h => h),
      ⟨0, (Upd.of_below (S := fun _ => False) b5).heap_some qn (fun h => h), Nat.zero_le _, rfl⟩, by rw [← hW5]; exact heap_alloc_at _ _ hcb.symm, HB2.out.trans (b25.mono HB2.out.size)⟩
  have HI0 := Lib.hid hI0; have HW5 := Lib.hid hW5; have HCB := Lib.hid hcb
  have hnw : W.heap.size ≤ nb ∧ nb < cb := by
    have h1 := HB2.out.size
    have h2 : W3.heap.size = w2.heap.size + 1 := by rw [hW3]; simp
    omega
  have HNW := Lib.hid hnw
  clear hW3 hnb b3 qn hcb hW5 b5 b25 u25 hI0 hnw HQ0 HQ1 HQ2 H2 HB2 HB1 HP
  go_wp2_with (go_at_call 22; refine (blocks_any p _).mono ?_; rintro e w1 ⟨rfl, rfl⟩)
  rw [HW5.out, HCB.out]
  refine (wpIn_wide (n := 7)).1 ?_
  have hin : ∀ o o', AlI W p q m bs nb cb [] ((W5.alloc o).alloc o') := fun o o' =>
    HI0.out.below (((Below.refl _ _).alloc (Nat.le_refl _) _).alloc (by simp) _)
  have HIN := Lib.hid hin
  have HIT := Lib.hid (blocks_iter 6 cb p m (shape bs) (by omega) W5 (fun _ _ => True) (fun pre W' => AlI W p q m bs nb cb pre W') (fun _ _ _ => False) (fun pre W' h => ⟨heap_cell h.bc 0, by obtain ⟨S, a⟩ := (H.out.then h.bel).arv; exact ⟨S, bs, rfl, a⟩, HT.out.on h.bel⟩))
  clear hin
  have hltl : ∀ l, W5.heap.size ≤ l → W.heap.size ≤ l := fun l hl => by
    have h1 := HI0.out.bel.size
    omega
  have HLTL := Lib.hid hltl
  clear hltl a0
  refine wpIn_range_atG (F := Fence.wide) (n := 7) rfl (by omega) (gf := 47) (lb := #[.pointer (some ⟨cb, 0, none⟩)]) rfl trivial (enters_of Tryd.func47 (by kernel_rfl) rfl)
    (encs := fun x : Nat × Nat => #[.int .i64 (x.1 : Nat), .int .i64 (x.2 : Nat)]) (fun _ => rfl) (fun _ _ => True) (fun pre W' => AlI W p q m bs nb cb pre W') (fun _ _ _ => False)
    (fun _ _ => trivial) (fun _ _ _ _ _ _ _ => trivial)
    (fun pre W l o o' hl h ho hi => hi.put o' (HLTL.out l hl) h ho) (fun c pre W l o o' hl h ho hi => hi)
    (fun o o' => HIN.out o o') (fun x => { tmps := #[.pointer (some ⟨p, 0, none⟩), .pointer (some ⟨q, 0, none⟩), .pointer (some ⟨W.heap.size, 0, none⟩), .pointer (some ⟨W.heap.size + 1, 0, none⟩), .pointer (some ⟨W.heap.size + 1 + 1, 0, none⟩), .pointer (some ⟨nb, 0, none⟩), .int .i64 (x.1 : Nat), .int .i64 (x.2 : Nat), undef, undef, undef, .pointer (some ⟨p, 0, none⟩), .int .i64 (m : Nat), .pointer (some ⟨q, 0, none⟩), .pointer (some ⟨q, 0, none⟩), .pointer (some ⟨q, 0, none⟩), .int .i64 (m : Nat), .bool false, .bool false, .pointer (some ⟨p, 0, none⟩), .int .i64 (usedSum bs : Nat), .pointer (some ⟨q, 0, none⟩), .int .i64 (usedSum bs : Nat), .bool false, .bool false, .bool false, .pointer (some ⟨p, 0, none⟩), .int .i64 (roomOf bs : Nat), .pointer (some ⟨q, 0, none⟩), .int .i64 (roomOf bs : Nat), .bool false, .bool false, .pointer (some ⟨p, 0, none⟩), .func (.func 47) #[] #[.pointer (some ⟨cb, 0, none⟩)], .int .i64 (x.1 : Nat), .int .i64 (x.2 : Nat), undef, undef, undef, undef, undef, undef, undef, undef, undef, undef, undef, undef, undef, undef, undef, undef, undef, undef, undef, undef, undef, undef, undef, undef, undef, undef, undef, undef, undef, undef, undef, undef, undef, undef, undef, undef, undef, undef, undef, undef, undef, undef, undef, undef, undef, undef, undef, undef, undef, undef, undef, undef, undef, undef, undef, undef, undef, undef, undef, undef, undef, undef, undef, undef, undef, undef, undef, undef, undef, undef, undef, undef, undef, undef, undef, undef, undef, undef, undef, undef, undef, undef, undef, undef, undef, undef, undef, undef, undef, undef, undef, undef, undef, undef, undef, undef, undef, undef, undef, undef, undef, undef, undef, undef, undef, undef, undef, undef, undef, undef, undef, undef, undef, undef, undef, undef, undef, undef, undef, undef, undef, undef, undef, undef, undef, undef, undef, undef, undef, undef, undef], defers := [] })
    HIT.out ?assign ?body ?done ?stop
  case assign =>
    intro l x W K hK
    refine Go.wpIn_seq ?_
    refine wpIn_region_plain (by simp) (fun _ _ h => h) ?_
    go_wp2_with fail
    dsimp only [OnlyN, Exit.then]
    refine wpIn_region_plain (by simp) (fun _ _ h => h) ?_
    go_wp2_with fail
    dsimp only [OnlyN, Exit.then]
    exact hK
  case stop => intro D c pre W' _ h; exact h.elim
  case body =>
    rintro l pre x W' hi hG
    dsimp only
    obtain ⟨k0, hn0, hk0, hpre⟩ := hi.bn
    obtain ⟨kx, b, hkk, hbx, hbu, hba, hbn, hfree, ht1, ht2⟩ := next_used bs k0 x hk0 (by rw [hpre]; exact hG)
    have HI := Lib.hid hi; have HBX := Lib.hid hbx; have HBU := Lib.hid hbu; have HBA := Lib.hid hba; have HBN := Lib.hid hbn; have HFR := Lib.hid hfree; have HT2 := Lib.hid ht2; have HKK := Lib.hid hkk
    have HPRE := Lib.hid hpre
    have hN0 := heap_cell hn0 0
    simp at hN0
    have HN0 := Lib.hid hN0; have HNH := Lib.hid hn0
    clear hi hbx hbu hba hbn hfree ht1 ht2 hkk hpre hk0 hn0 hN0 hG
    gi_wp2
    gi_loopw [] (fun wr => ∃ k : Nat, k0 ≤ k ∧ k ≤ kx ∧ AlK W p q nb cb k wr ∧ Upd (fun b => b = nb) W' wr) (fun wr => kx - nBox nb wr)
    case atStart => exact ⟨k0, Nat.le_refl _, HKK.out, ⟨HI.out.b0, HI.out.b1, HI.out.b2, HNH.out, HI.out.bc, HI.out.bel⟩, Upd.refl _ _⟩
    case round =>
      obtain ⟨k, hk1, hk2, hK, hU⟩ := hrel
      have HU := Lib.hid hU
      clear hU
      obtain ⟨S2, rs, hra, hrb⟩ := (H.out.then hK.bel).ra
      obtain ⟨ao, c, R⟩ := hra.rowC
      obtain ⟨L, hL⟩ : ∃ L, rs.length = L := ⟨_, rfl⟩
      have hLb : bs.length = L := by rw [← hrb, ← hL]; unfold blks; simp
      have hkx : kx < L := by rw [← hLb]; exact (List.getElem?_eq_some_iff.1 HBX.out).1
      obtain ⟨r, hr⟩ : ∃ r, rs[k]? = some r := ⟨rs[k]'(by omega), by simp⟩
      have hrk : bs[k]? = some r.b := by rw [← hrb]; unfold blks; rw [List.getElem?_map, hr]; rfl
      obtain ⟨g, rfl, _, _, k2, _⟩ := R.at' k r hr
      have c1 := R.c1
      rw [hL] at c1
      have L6 := Lib.hid (show L ≤ 1048576 by rw [← hL]; exact hra.len)
      have n0 := heap_cell hK.bn 0
      have r0 := heap_cell hK.b1 0
      simp at n0 r0
      have e1 := Ext.cells (w0 := wr) n0; have e2 := Ext.cells (w0 := wr) r0; have e3 := Ext.cells (w0 := wr) c1
      have hkL : (k : Int) < L := by omega
      have hk0' : (0 : Int) ≤ k := by omega
      have hkL2 : decide ((k : Int) < (L : Int)) = true := decide_eq_true hkL
      have HKR := Lib.hid hK; have HKX := Lib.hid hkx; have HRK := Lib.hid hrk; have HK2 := Lib.hid hk2; have HK1 := Lib.hid hk1
      rcases Nat.lt_or_ge k kx with hlt | hge
      · have hu : r.b.u = false := HFR.out k r.b hk1 hlt hrk
        rw [hu] at k2
        have e4 := Ext.cells (w0 := wr) k2
        have HLT := Lib.hid hlt
        clear hK hra hrb R hL hLb hkx hr hrk c1 n0 r0 k2 hk1 hk2 hlt hu
        refine Go.wpIn_seq ?_
        refine Go.wpIn_seq ?_
        refine wpIn_quiet_round (by kernel_rfl) (by simp) (fun _ _ h => h) (by kernel_rfl) ?_
        repeat (go_big_quiet_step (fail))
        refine wpQuiet_nil ?_
        intro wy hby
        have hKy := HKR.out.below hby
        have n0 := heap_cell hKy.bn 0
        have nz := heap_frozen hKy.bn 0
        simp at n0
        have hkn : k ≤ 1048576 := by have := L6.out; have := HKX.out; have := HLT.out; omega
        have HKY := Lib.hid (hKy.inc HNW.out.1 (k + 1))
        have HUY := Lib.hid ((HU.out.trans' (Upd.of_below hby)).setCell (p := ⟨nb, 0, none⟩) (.inl rfl) (.int .i64 ((k + 1 : Nat) : Int)))
        have HNB := Lib.hid hKy.nBox
        clear hKy hby e1 e2 e3 e4
        dsimp only [Exit.then]
        refine Go.wpIn_cond_true rfl ?_
        refine Go.wpIn_skip ?_
        dsimp only [Exit.then]
        refine Go.wpIn_block ?_
        refine wpIn_region_plain (by simp) (fun _ _ h => h) ?_
        go_wp2_with fail
        dsimp only [OnlyN, Exit.then, Exit.inBlock]
        go_roundw
        case rel => exact ⟨k + 1, by have := HK1.out; omega, HLT.out, HKY.out, HUY.out⟩
        case measure =>
          have e5 := HKY.out.nBox
          rw [show ((k + 1 : Nat) : Int) = (k : Int) + 1 from rfl] at e5
          rw [e5, HKR.out.nBox]; have := HLT.out; omega
      · obtain rfl : k = kx := by omega
        have hu : r.b.u = true := by have := HBX.out; rw [hrk] at this; simp at this; rw [this]; exact HBU.out
        rw [hu] at k2
        have e4 := Ext.cells (w0 := wr) k2
        clear hK hra hrb R hL hLb hkx hr hrk c1 n0 r0 k2 hk1 hk2 hge hu
        refine Go.wpIn_seq ?_
        refine Go.wpIn_seq ?_
        refine wpIn_quiet_round (by kernel_rfl) (by simp) (fun _ _ h => h) (by kernel_rfl) ?_
        repeat (go_big_quiet_step (fail))
        refine wpQuiet_nil ?_
        intro wy hby
        have HKY := Lib.hid (HKR.out.below hby)
        have HUY := Lib.hid (HU.out.trans' (Upd.of_below hby))
        clear hby e1 e2 e3 e4
        dsimp only [Exit.then]
        refine Go.wpIn_cond_false rfl ?_
        gi_wp2
        obtain ⟨S2, rs, hra, hrb⟩ := (H.out.then HKY.out.bel).ra
        obtain ⟨ao, c, R⟩ := hra.rowC
        obtain ⟨L, hL⟩ : ∃ L, rs.length = L := ⟨_, rfl⟩
        have hLb : bs.length = L := by rw [← hrb, ← hL]; unfold blks; simp
        have hkx : k < L := by rw [← hLb]; exact (List.getElem?_eq_some_iff.1 HBX.out).1
        obtain ⟨r, hr⟩ : ∃ r, rs[k]? = some r := ⟨rs[k]'(by omega), by simp [hL, hkx]⟩
        have hrk : bs[k]? = some r.b := by rw [← hrb]; unfold blks; rw [List.getElem?_map, hr]; rfl
        have hrb2 : r.b = b := by have := HBX.out; rw [hrk] at this; simpa using this
        obtain ⟨g, rfl, k1, k2, k3, k4⟩ := R.at' k r hr
        have hw := hra.wd r (List.mem_of_getElem? hr)
        have c1 := R.c1
        rw [hL] at c1
        rw [hrb2, HBA.out] at k1
        rw [hrb2, HBN.out] at k2
        rw [hrb2] at k4 hw
        obtain ⟨xa, hxa⟩ : ∃ xa, x.1 = xa := ⟨_, rfl⟩
        obtain ⟨xn, hxn⟩ : ∃ xn, x.2 = xn := ⟨_, rfl⟩
        obtain ⟨rg, hrg⟩ : ∃ rg, r.g = rg := ⟨_, rfl⟩
        obtain ⟨bm, hbm⟩ : ∃ bm, b.m = bm := ⟨_, rfl⟩
        rw [hxa] at k1; rw [hxn, hrg] at k2; rw [hbm] at k4; rw [hrg] at hw
        rw [hxa, hxn]
        have n0 := heap_cell HKY.out.bn 0
        have r0 := heap_cell HKY.out.b1 0
        have a0 := heap_cell HKY.out.b0 0
        simp at n0 r0 a0
        have e1 := Ext.cells (w0 := wy) n0; have e2 := Ext.cells (w0 := wy) r0; have e3 := Ext.cells (w0 := wy) c1
        have e4 := Ext.cells (w0 := wy) a0; have e5 := Ext.cells (w0 := wy) k1; have e6 := Ext.cells (w0 := wy) k2; have e7 := Ext.cells (w0 := wy) k4
        have hkL : (k : Int) < L := by omega
        have hkL2 : decide ((k : Int) < (L : Int)) = true := decide_eq_true hkL
        have hkL3 : ¬ (L : Int) ≤ (k : Int) := by omega
        have hkL4 : decide ((L : Int) ≤ (k : Int)) = false := decide_eq_false hkL3
        have hk0' : (0 : Int) ≤ k := by omega
        have HXA := Lib.hid hxa; have HXN := Lib.hid hxn; have HBM := Lib.hid hbm; have HW := Lib.hid hw; have HKX := Lib.hid hkx
        have hxa6 : 1 ≤ xa ∧ xa + xn ≤ 1048577 := by
          have h1 := H.out.wf.span.mem b (List.mem_of_getElem? HBX.out)
          have h2 := H.out.wf.small
          have h3 : endOf m ≤ m + 1 := by unfold endOf; split <;> omega
          rw [HBA.out, HBN.out, hxa, hxn] at h1
          omega
        have hbk := blkAt_some H.out.wf.span (List.mem_of_getElem? HBX.out) HBU.out
        rw [HBA.out, hxa] at hbk
        have hsz : sizeF bs (xa : Int) = xn := by unfold sizeF; rw [hbk]; dsimp only; rw [HBN.out, hxn]
        have hus : usedAt bs (xa : Int) = true := (usedAt_iff _ _).2 ⟨b, List.mem_of_getElem? HBX.out, HBU.out, by rw [HBA.out, hxa]⟩
        have hmk : markedAt bs xa = bm := by
          have hmi := markedAt_iff (bs := bs) (x := xa)
          cases bm
          · cases hmm : markedAt bs xa
            · rfl
            · obtain ⟨c, hc, hcm, hca⟩ := hmi.1 hmm
              obtain ⟨i, hi, hic⟩ := List.getElem_of_mem hc
              have hci : bs[i]? = some c := by rw [List.getElem?_eq_getElem hi, hic]
              have := span_ix H.out.wf.span hci HBX.out (by rw [HBA.out, hxa]; exact hca)
              rw [this, HBX.out] at hci
              simp only [Option.some.injEq] at hci
              rw [hci, hcm] at hbm; cases hbm
          · exact hmi.2 ⟨b, List.mem_of_getElem? HBX.out, hbm, by rw [HBA.out, hxa]⟩
        have hwb := HKY.out.bel
        have D1 := Lib.hid (fun y : Ext wy => show Calls Tryd.prog 42 #[.pointer (some ⟨p, 0, none⟩), .int .i64 (xa : Nat)] y.val fun e w' => e = .returned (.int .i64 (xn : Nat)) ∧ Below y.val.heap.size y.val w' from
          (Size_n (H.out.then (hwb.trans (y.2.mono hwb.size))).arn (xa : Int) (by omega) (by omega)).mono fun e w' ⟨he, hw⟩ => ⟨by rw [hsz] at he; exact he, hw ▸ Below.refl _ _⟩)
        have D2 := Lib.hid (fun y : Ext wy => show Calls Tryd.prog 43 #[.pointer (some ⟨p, 0, none⟩), .int .i64 (xa : Nat)] y.val fun e w' => e = .returned (.bool bm) ∧ Below y.val.heap.size y.val w' from by
          obtain ⟨S, a⟩ := (H.out.then (hwb.trans (y.2.mono hwb.size))).arv
          exact (Marked_s a xa hus).mono fun e w' ⟨he, hw⟩ => ⟨by rw [hmk] at he; exact he, hw ▸ Below.refl _ _⟩)
        have HX6 := Lib.hid hxa6; have HBK := Lib.hid hbk
        clear hra hrb R hL hLb hkx hr hrk hrb2 k1 k2 k3 k4 hw c1 hxa hxn hrg hbm n0 r0 a0 hxa6 hbk hsz hus hmk hwb
        refine wpIn_quiet_round (by kernel_rfl) (by simp) (fun _ _ h => h) (by kernel_rfl) ?_
        cases bm
        all_goals
          repeat (go_big_quiet_step (first | exact Ext.call _ (D1.out _) | exact Ext.call _ (D2.out _)))
          refine wpQuiet_nil ?_
          intro wz hbz
          have HKZ := Lib.hid (HKY.out.below hbz)
          have HUZ := Lib.hid (HUY.out.trans' (Upd.of_below hbz))
          clear hbz e1 e2 e3 e4 e5 e6 e7 D1 D2
          gi_wp2
          gi_loopw [8] (fun t8 wr => ∃ t : Nat, t8 = .int .i64 (t : Nat) ∧ t ≤ xn ∧ AlK W p q nb cb k wr ∧ Upd (fun b => b = nb) W' wr) (fun t8 _ => xn - (intOf t8).toNat)
          case atStart => exact ⟨0, rfl, Nat.zero_le _, HKZ.out, HUZ.out⟩
          case round =>
            obtain ⟨t, rfl, ht, hK, hU⟩ := hrel
            have HUT := Lib.hid hU
            clear hU
            have HKT := Lib.hid hK
            have a0 := heap_cell hK.b0 0
            simp at a0
            by_cases htn : t < xn
            · have ht1 : (t : Int) < xn := by omega
              have ht2 : decide ((t : Int) < (xn : Int)) = true := decide_eq_true ht1
              have HTN := Lib.hid htn
              clear hK ht htn
              refine Go.wpIn_seq ?_
              refine Go.wpIn_seq ?_
              refine wpIn_region_plain (by simp) (fun _ _ h => h) ?_
              go_wp2_with fail
              dsimp only [OnlyN, Exit.then]
              refine Go.wpIn_cond_true rfl ?_
              refine Go.wpIn_skip ?_
              dsimp only [Exit.then]
              refine Go.wpIn_seq ?_
              refine Go.wpIn_block ?_
              refine Go.wpIn_seq ?_
              refine wpIn_region_plain (by simp) (fun _ _ h => h) ?_
              go_wp2_with fail
              obtain ⟨g9, L9, c9, rg9, z1, z2, z3, z4, z5, z6, z7, z8, z9⟩ := (H.out.then HKT.out.bel).rowAt HBX.out
              rw [HBN.out, HXN.out] at z6
              have z9 := z9 t (by rw [HBN.out, HXN.out]; exact HTN.out)
              obtain ⟨v9, hv9⟩ : ∃ v9, b.ws.getD t 0 = v9 := ⟨_, rfl⟩
              rw [hv9] at z9
              have hget : getF bs (xa : Int) (t : Int) = (v9, 0) := by
                unfold getF; rw [HBK.out]; dsimp only
                rw [if_pos ⟨by omega, by rw [HBN.out, HXN.out]; exact_mod_cast HTN.out⟩, ← hv9]; simp
              have HGET := Lib.hid hget
              have b0 := heap_cell HKT.out.b1 0
              have n0 := heap_cell HKT.out.bn 0
              simp at b0 n0
              have y1 := Ext.cells (w0 := wr) b0; have y2 := Ext.cells (w0 := wr) n0; have y3 := Ext.cells (w0 := wr) z4; have y4 := Ext.cells (w0 := wr) z6; have y5 := Ext.cells (w0 := wr) z9
              have hkL9 : (k : Int) < L9 := by omega
              have hk09 : (0 : Int) ≤ k := by omega
              have ht09 : (0 : Int) ≤ t := by omega
              have ht19 : (t : Int) < xn := ht1
              clear z1 z2 z3 z5 z7 z8 hv9 hget b0 n0 z4 z6 z9
              refine (Get_n (H.out.then HKT.out.bel).arn (xa : Int) (t : Int) (by have := HX6.out; omega) (by have := HX6.out; omega)).mono ?_
              rintro e w9 ⟨rfl, rfl⟩
              rw [HGET.out]
              go_wp2_with fail
              dsimp only [OnlyN, Exit.then]
              refine Go.wpIn_seq ?_
              refine wpIn_quiet_round (by kernel_rfl) (by simp) (fun _ _ h => h) (by kernel_rfl) ?_
              repeat (go_big_quiet_step (fail))
              refine wpQuiet_nil ?_
              intro wv hbv
              have HKV := Lib.hid (HKT.out.below hbv)
              have HUV := Lib.hid (HUT.out.trans' (Upd.of_below hbv))
              clear hbv y1 y2 y3 y4 y5
              dsimp only [Exit.then]
              refine Go.wpIn_cond_false rfl ?_
              refine Go.wpIn_skip ?_
              dsimp only [Exit.then, Exit.inBlock]
              have ht6 : (t : Int) < 1048577 := by have := HTN.out; have := HX6.out; omega
              refine wpIn_region_plain (by simp) (fun _ _ h => h) ?_
              go_wp2_with fail
              dsimp only [OnlyN, Exit.then, Exit.inBlock]
              go_roundw
              case rel => exact ⟨t + 1, by go_num, HTN.out, HKV.out, HUV.out⟩
              case measure => have := HTN.out; simp [intOf]; omega
            · obtain rfl : t = xn := by omega
              have ht1 : ¬ (t : Int) < t := by omega
              clear hK ht htn
              refine Go.wpIn_seq ?_
              refine Go.wpIn_seq ?_
              refine wpIn_region_plain (by simp) (fun _ _ h => h) ?_
              go_wp2_with fail
              dsimp only [OnlyN, Exit.then]
              refine Go.wpIn_cond_false rfl ?_
              refine Go.wpIn_exit ?_
              dsimp only [Exit.then, Exit.inBlock]
              rw [if_pos rfl]
              have HKT := HKT.out
              apply_assumption
              have n0 := heap_cell HKT.bn 0
              have nz := heap_frozen HKT.bn 0
              simp at n0
              have hk6 : (k : Int) < 1048577 := by have := L6.out; have := HKX.out; omega
              refine wpIn_region_plain (by simp) (fun _ _ h => h) ?_
              go_wp2_with fail
              dsimp only [OnlyN, Exit.then, Exit.inBlock]
              have hI := HKT.inc HNW.out.1 (k + 1)
              refine ⟨upd_keepsFromP (HUT.out.setCell (p := ⟨nb, 0, none⟩) (.inl rfl) _) (fun b hb => ?_), trivial, ?_⟩
              · subst hb
                obtain ⟨_, hn, _⟩ := HI0.out.bn
                exact heap_lt hn
              · refine ⟨hI.b0, hI.b1, hI.b2, ⟨k + 1, hI.bn, ?_, ?_⟩, hI.bc, hI.bel⟩
                · exact (List.getElem?_eq_some_iff.1 HBX.out).1
                · rw [HT2.out, HPRE.out]
  case done =>
    rintro D xs W' hS hi hD hDl
    dsimp only [Exit.inBlock, Exit.then]
    have HI := Lib.hid hi; have HD := Lib.hid hD; have HDL := Lib.hid hDl; have HS := Lib.hid hS
    clear hi hD hDl hS
    apply_assumption
    obtain ⟨k0, qn, hk0, hpre⟩ := HI.out.bn
    have hfree := rest_free bs k0 (by rw [hpre, HS.out])
    have HFR := Lib.hid hfree; have HK0 := Lib.hid hk0
    have HN0 := Lib.hid qn
    clear hfree hk0 qn hpre
    go_wp2
    go_loopw [] (fun wr => ∃ k : Nat, k0 ≤ k ∧ k ≤ bs.length ∧ AlK W p q nb cb k wr ∧ Upd (fun b => b = nb) W' wr) (fun wr => bs.length - nBox nb wr)
    case atStart => exact ⟨k0, Nat.le_refl _, HK0.out, ⟨HI.out.b0, HI.out.b1, HI.out.b2, HN0.out, HI.out.bc, HI.out.bel⟩, Upd.refl _ _⟩
    case round =>
      obtain ⟨k, hk1, hk2, hK, hU⟩ := hrel
      have HU := Lib.hid hU; have HK := Lib.hid hK
      clear hU
      rcases Nat.lt_or_ge k bs.length with hlt | hge
      · have hb : bs[k]? = some bs[k] := List.getElem?_eq_getElem hlt
        obtain ⟨g9, L9, c9, rg9, z1, z2, z3, z4, z5, z6, z7, z8, z9⟩ := (H.out.then hK.bel).rowAt hb
        rw [HFR.out k _ hk1 hb] at z7
        have b0 := heap_cell hK.b1 0
        have n0 := heap_cell hK.bn 0
        have nz := heap_frozen hK.bn 0
        simp at b0 n0
        have hkL9 : (k : Int) < L9 := by omega
        have hkL8 : decide ((k : Int) < (L9 : Int)) = true := decide_eq_true hkL9
        have hk09 : (0 : Int) ≤ k := by omega
        have y1 := Ext.cells (w0 := wr) b0; have y2 := Ext.cells (w0 := wr) n0; have y3 := Ext.cells (w0 := wr) z4; have y4 := Ext.cells (w0 := wr) z7
        have hk6 : (k : Int) < 1048577 := by omega
        have HLT := Lib.hid hlt; have HK1 := Lib.hid hk1
        clear hK hk1 hk2 hlt hb z1 z2 z3 z5 z6 z8 z9 b0 n0 z4 z7
        refine Go.wp_seq ?_
        refine Go.wp_seq ?_
        refine wp_region_calm (by kernel_rfl) (by kernel_rfl) ?_
        repeat (go_big_quiet_step (fail))
        refine wpQuiet_nil ?_
        rintro _ ⟨x0, rfl⟩
        have hKy := HK.out.below x0.2
        have HUY := Lib.hid ((HU.out.trans' (Upd.of_below x0.2)).setCell (p := ⟨nb, 0, none⟩) (.inl rfl) (.int .i64 ((k + 1 : Nat) : Int)))
        have HKY := Lib.hid (hKy.inc HNW.out.1 (k + 1))
        have n0 := heap_cell hKy.bn 0
        have nz := heap_frozen hKy.bn 0
        simp at n0
        clear y1 y2 y3 y4 hKy
        go_wp2_with fail
        go_roundw
        case rel => exact ⟨k + 1, by have := HK1.out; omega, HLT.out, HKY.out, HUY.out⟩
        case measure =>
          have e5 := HKY.out.nBox
          rw [show ((k + 1 : Nat) : Int) = (k : Int) + 1 from rfl] at e5
          rw [e5, HK.out.nBox]; have := HLT.out; omega
      · obtain ⟨S2, rs, hra, hrb⟩ := (H.out.then hK.bel).ra
        obtain ⟨ao, c, R⟩ := hra.rowC
        obtain ⟨L, hL⟩ : ∃ L, rs.length = L := ⟨_, rfl⟩
        have hLb : bs.length = L := by rw [← hrb, ← hL]; unfold blks; simp
        obtain rfl : k = L := by omega
        have c1 := R.c1
        rw [hL] at c1
        have b0 := heap_cell hK.b1 0
        have n0 := heap_cell hK.bn 0
        simp at b0 n0
        have y1 := Ext.cells (w0 := wr) b0; have y2 := Ext.cells (w0 := wr) n0; have y3 := Ext.cells (w0 := wr) c1
        have hkL9 : ¬ (k : Int) < k := by omega
        have hkL8 : decide ((k : Int) < (k : Int)) = false := decide_eq_false hkL9
        have hkL7 : ((k : Int) == (k : Int)) = true := by simp
        clear hK hk1 hk2 hge hra hrb R hL hLb b0 n0 c1
        refine Go.wp_seq ?_
        refine Go.wp_seq ?_
        refine wp_region_calm (by kernel_rfl) (by kernel_rfl) ?_
        repeat (go_big_quiet_step (fail))
        refine wpQuiet_nil ?_
        rintro _ ⟨x0, rfl⟩
        have HKY := Lib.hid (HK.out.below x0.2)
        have HUY := Lib.hid (HU.out.trans' (Upd.of_below x0.2))
        have c1 := y3 x0
        clear y1 y2 y3
        obtain ⟨wy, hwy⟩ : ∃ wy, x0.val = wy := ⟨_, rfl⟩
        rw [hwy] at HKY HUY c1 ⊢
        clear hwy x0
        have b0 := heap_cell HKY.out.b1 0
        have n0 := heap_cell HKY.out.bn 0
        have t0 := heap_cell HKY.out.b2 0
        have tz := heap_frozen HKY.out.b2 0
        simp at b0 n0 t0
        go_wp2_with fail
        go_still_tail 7, (by kernel_rfl)
        change wpList _ _ _ _ _ wy.drew
        go_wp2
        have hKD : wy.heap[D]? = some (.deferred (some [])) := by
          rw [HUY.out.block D (heap_lt HD.out) (fun e => by
            have hn := HN0.out
            rw [← e, HD.out] at hn; simp at hn)]
          exact HD.out
        have hK2 := (KeepsOthers.setCell wy.drew ⟨W.heap.size + 1 + 1, 0, none⟩ (.bool true)).same D _ hKD rfl
        refine ⟨by simp, .inl ⟨_, _, rfl, run_takeDeferred hK2, ?_⟩⟩
        have c1 : (wy.drew.setCell ⟨W.heap.size + 1 + 1, 0, none⟩ (.bool true)).cell? ⟨W.heap.size + 1 + 1, 0, none⟩ = some (.bool true) := World.cell?_setCell_same' _ _ _ (by show (wy.cell? _).isSome = true; rw [t0]; rfl)
        have c2 : ((wy.setCell ⟨W.heap.size + 1 + 1, 0, none⟩ (.bool true)).drew.putObj D (.deferred none)).cell? ⟨W.heap.size + 1 + 1, 0, none⟩ = some (.bool true) := cell_kept c1 (grownBy_putObj' _ D (.deferred none)) (fun r e => by cases e; exact ⟨_, hK2, rfl⟩)
        refine ⟨.bool true, by simp [results, Tryd.results20, go_sem, c2], rfl, ?_⟩
        have hdl := HDL.out
        have h5 := HI0.out.bel.size
        exact ((HKY.out.bel.drew).setCell (by show W.heap.size ≤ W.heap.size + 1 + 1; omega) _).grown (grownBy_putObj' _ D _) (by have := HKY.out.bel.size; simp; exact this) (fun k e => by cases e; omega)
end Go.Proofs.YtelohkppbmahnaaDoor
