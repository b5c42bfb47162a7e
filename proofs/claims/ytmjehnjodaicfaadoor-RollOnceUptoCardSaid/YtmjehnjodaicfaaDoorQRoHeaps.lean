/- package kind: Heaps: the closure that gathers, and what is handed back. -/
import Derived.Test.YtmjehnjodaicfaaDoorQRoMap
namespace Go.Proofs.YtmjehnjodaicfaaDoor
open Go.RowKit

/-- What the gathering closure keeps: a box p with a row of its own. -/
structure FoundJ (p B : Nat) (s : List Hp) (n : Nat) (T : Nat → Prop) (w : World) : Prop where
  ex : ∃ v, w.heap[p]? = some (.cells #[v] 41 (0, 0)) ∧ w.ownsRow B 26 2 v s.length (flatH s) ∧ v.ownBlock ≠ some p ∧ (∀ b, T b ↔ (b = p ∨ v.ownBlock = some b))
  cnt : s.length + n ≤ 1000000
  le : B ≤ w.heap.size
def gather (s : List Hp) (h : Hp) : Hp × List Hp := (h, s ++ [h])
set_option maxRecDepth 100000 in
set_option maxHeartbeats 8000000 in
theorem found_ok (p B : Nat) (hp : B ≤ p) : FnOk Tryd.prog cellsH (fun _ => True) 66 #[.pointer (some ⟨p, 0, none⟩)] gather (FoundJ p B) B where
  enter := fun _ _ => rfl
  lt := fun h => ⟨fun b hb => by
    obtain ⟨v, h1, h2, h3, h4⟩ := h.ex
    rcases (h4 b).1 hb with rfl | e
    · exact heap_lt h1
    · exact (h2.lt b e).2, h.le⟩
  keep := fun h u => ⟨by
    obtain ⟨v, h1, h2, h3, h4⟩ := h.ex
    exact ⟨v, u.heap_some h1 (fun hk => hk.2 ((h4 p).2 (.inl rfl))), ownsRow_upd h2 u (fun b hb hk => hk.2 ((h4 b).2 (.inr hb))), h3, h4⟩, h.cnt, Nat.le_trans h.le u.size⟩
  less := fun h hm => ⟨h.ex, by have := h.cnt; omega, h.le⟩
  call := by
    intro s n T w x _ hj
    obtain ⟨v, hb, ho, hne, hT⟩ := hj.ex
    obtain ⟨i0, hi, hz0, hz1, hz2⟩ := info_parts Tryd.infoHeap
    have Hi := Lib.hid hi; have Hz0 := Lib.hid hz0; have Hz1 := Lib.hid hz1; have Hz2 := Lib.hid hz2
    rw [show cellsH x = [.int .i64 x.k, .int .i64 x.n] from rfl]
    show Calls Tryd.prog 66 #[.agg #[.int .i64 x.k, .int .i64 x.n], .pointer (some ⟨p, 0, none⟩)] w _
    obtain ⟨W0, hW⟩ : ∃ W0 : World, W0 = (((w.alloc (.cells #[.int .i64 x.k, .int .i64 x.n] 26)).alloc (.cells #[.int .i64 0, .int .i64 0] 26)).alloc (.cells #[.int .i64 x.k, .int .i64 x.n] 26)) := ⟨_, rfl⟩
    have hsz : W0.heap.size = w.heap.size + 3 := by rw [hW]; simp
    have z0 : W0.heap[w.heap.size]? = some (.cells #[.int .i64 x.k, .int .i64 x.n] 26 (0, 0)) := by rw [hW]; exact heap_alloc_keep (heap_alloc_keep (heap_alloc_at _ _ rfl) _) _
    have z1 : W0.heap[w.heap.size + 1]? = some (.cells #[.int .i64 0, .int .i64 0] 26 (0, 0)) := by rw [hW]; exact heap_alloc_keep (heap_alloc_at _ _ (by simp)) _
    have z2 : W0.heap[w.heap.size + 1 + 1]? = some (.cells (cellsH x).toArray 26 (0, 0)) := by rw [hW]; exact heap_alloc_at _ _ (by simp)
    have zp : W0.heap[p]? = some (.cells #[v] 41 (0, 0)) := by rw [hW]; exact heap_alloc_keep (heap_alloc_keep (heap_alloc_keep hb _) _) _
    have u0 : Upd T w W0 := by rw [hW]; exact (((Upd.refl _ w).alloc _).alloc _).alloc _
    have ho0 : W0.ownsRow B 26 2 v s.length (flatH s) := by rw [hW]; exact ((ho.alloc _).alloc _).alloc _
    have hcp := heap_cell hb 0
    simp at hcp
    obtain ⟨ao, cap, rfl, _⟩ := ownsRow_form ho
    have hcq := cell_alloc (cell_alloc hcp (.cells #[.int .i64 x.k, .int .i64 x.n] 26)) (.cells #[.int .i64 0, .int .i64 0] 26)
    have hpw := heap_lt hb
    have hlen := hj.cnt
    have HO := Lib.hid ho0; have HW := Lib.hid hW; have HSZ := Lib.hid hsz; have Z0 := Lib.hid z0; have Z1 := Lib.hid z1; have Z2 := Lib.hid z2; have ZP := Lib.hid zp; have HU := Lib.hid u0; have HJ := Lib.hid hj; have HNE := Lib.hid hne; have HT := Lib.hid hT; have HPW := Lib.hid hpw; have HOw := Lib.hid ho
    have HR := Lib.hid (row_cells (cs := cellsH x) z2)
    clear hb ho hne hT hi hz0 hz1 hz2 hW hsz z0 z1 z2 zp u0 ho0 hj hpw
    go_enter Tryd.func66, Tryd.ntmps66
    go_wp2_with (at_builtin; rw [← HW.out]; refine wpList_append_own2 _ rfl _ _ 41 rfl B 26 i0 _ 2 16 Tryd.underlying41 Hi.out Hz0.out Hz1.out Hz2.out rfl (by decide) _ _ _ rfl HO.out ⟨w.heap.size + 1 + 1, 0, none⟩ 1 1 (cellsH x) rfl rfl HR.out (one_H x) (by simp [maxLen]; omega) (by omega) (by have := HJ.out.le; rw [HSZ.out]; omega) (by decide) ?_)
    intro v2 w2 o2 gr2 mv2
    have g0 := gr2.block (w.heap.size) (by rw [HSZ.out]; omega) (fun e => by have := (HOw.out.lt _ e.symm).2; omega)
    have g1 := gr2.block (w.heap.size + 1) (by rw [HSZ.out]; omega) (fun e => by have := (HOw.out.lt _ e.symm).2; omega)
    have gp := gr2.block p (by rw [HSZ.out]; have := HPW.out; omega) (fun e => HNE.out e.symm)
    rw [Z0.out] at g0
    rw [Z1.out] at g1
    rw [ZP.out] at gp
    have c00 := heap_cell g0 0; have c01 := heap_cell g0 1
    have c10 := heap_cell g1 0; have c11 := heap_cell g1 1
    have cp0 := heap_cell gp 0
    have f1 := fun i => heap_frozen g1 i
    have fp := fun i => heap_frozen gp i
    simp at c00 c01 c10 c11 cp0
    obtain ⟨ao2, cap2, rfl, _⟩ := ownsRow_form o2
    have HO2 := Lib.hid o2; have HG := Lib.hid gr2; have HM := Lib.hid mv2; have G0 := Lib.hid g0; have G1 := Lib.hid g1; have GP := Lib.hid gp
    clear o2 gr2 mv2 g0 g1 gp hcp hcq
    have hn0 : ¬ p = w.heap.size := by have := HPW.out; omega
    have hn0' : ¬ w.heap.size = p := by have := HPW.out; omega
    have hn1 : ¬ p = w.heap.size + 1 := by have := HPW.out; omega
    have hn1' : ¬ w.heap.size + 1 = p := by have := HPW.out; omega
    go_wp2
    refine bodyPost_ret (v := .agg #[.int .i64 x.k, .int .i64 x.n]) (by simp [results, Tryd.results66, go_sem, c10, c11, hn0, hn0', hn1, hn1']) rfl ?_
    have q1 : p < w.heap.size := HPW.out
    have hT := HT.out
    have u2 : Upd T w w2 := HU.out.grown HG.out (fun k hk => .inl ((hT k).2 (.inr hk)))
    have uf := ((u2.setCell (p := ⟨p, 0, none⟩) (.inl ((hT p).2 (.inl rfl))) (.slice ao2 (s.length + 1) cap2)).setCell (p := ⟨w.heap.size + 1, 0, none⟩) (.inr (by simp)) (.int .i64 x.k)).setCell (p := ⟨w.heap.size + 1, 1, none⟩) (.inr (by simp)) (.int .i64 x.n)
    have zp := heap_set_off (heap_set_off (heap_set_at GP.out 0 (.slice ao2 (s.length + 1) cap2)) (a := ⟨w.heap.size + 1, 0, none⟩) hn1 (.int .i64 x.k)) (a := ⟨w.heap.size + 1, 1, none⟩) hn1 (.int .i64 x.n)
    have hmv := HM.out
    have hb2 : ∀ b, (Value.slice ao2 (s.length + 1) cap2).ownBlock = some b → b ≠ p ∧ b ≠ w.heap.size + 1 := fun b hb => by
      rcases hmv with e | e
      · rw [e] at hb
        exact ⟨fun e1 => HNE.out (by rw [← e1]; exact hb), fun e1 => by have := (HOw.out.lt b hb).2; omega⟩
      · have := e b hb; rw [HSZ.out] at this; omega
    have us : Upd (fun b => b = p ∨ b = w.heap.size + 1) w2 (((w2.setCell ⟨p, 0, none⟩ (.slice ao2 (s.length + 1) cap2)).setCell ⟨w.heap.size + 1, 0, none⟩ (.int .i64 x.k)).setCell ⟨w.heap.size + 1, 1, none⟩ (.int .i64 x.n)) :=
      (((Upd.refl _ w2).setCell (.inl (.inl rfl)) _).setCell (.inl (.inr rfl)) _).setCell (.inl (.inr rfl)) _
    refine ⟨fun b => b = p ∨ (Value.slice ao2 (s.length + 1) cap2).ownBlock = some b, rfl, ⟨⟨.slice ao2 (s.length + 1) cap2, by simpa using zp, ?_, fun e => (hb2 p e).1 rfl, fun b => Iff.rfl⟩, by simp [gather]; omega, Nat.le_trans HJ.out.le uf.size⟩, uf, fun b hb => ?_⟩
    · have h := ownsRow_upd HO2.out us (fun b hb hk => by rcases hk with hk | hk; exact (hb2 b hb).1 hk; exact (hb2 b hb).2 hk)
      simpa [gather, flatH] using h
    · rcases hb with rfl | hb
      · exact .inl ((hT _).2 (.inl rfl))
      · rcases hmv with e | e
        · rw [e] at hb; exact .inl ((hT _).2 (.inr hb))
        · have := e b hb; rw [HSZ.out] at this; exact .inr (by omega)
/-- All heap types of a declared type, as Map meets them. -/
def heapsOf (x : Sb) : List Hp := (mapSub gather [] x).2
set_option maxRecDepth 100000 in
set_option maxHeartbeats 8000000 in
theorem heaps_any (cs : List Value) (x : Sb) (w : World) (hs : SubAt w cs x) (hm : Small x) (hc : cnt x ≤ 1000000) :
    Calls Tryd.prog 61 #[.agg cs.toArray] w fun e w' => ∃ p, e = .returned (.func (.func 67) #[] #[.pointer (some ⟨p, 0, none⟩)]) ∧ w.heap.size ≤ p ∧ Below w.heap.size w w' ∧ ∃ v, w'.heap[p]? = some (.cells #[v] 41 (0, 0)) ∧ w'.ownsRow w.heap.size 26 2 v (heapsOf x).length (flatH (heapsOf x)) ∧ v.ownBlock ≠ some p := by
  obtain ⟨vs, vp, vr, vf, rfl, _, _, _, _⟩ := hs.ex
  have hmf : ∀ (fn : Fn) (first cap : Array Value) (w : World), (Instr.makeFunc fn first cap).run Tryd.prog w = .ok (.func fn first cap) w := fun _ _ _ _ => rfl
  obtain ⟨W0, hW⟩ : ∃ W0 : World, W0 = ((w.alloc (.cells #[.bool x.fin, vs, .int .i64 x.k, vp, vr, vf] 48)).alloc (.cells #[.slice none 0 0] 41)) := ⟨_, rfl⟩
  have hb0 : Below w.heap.size w W0 := by rw [hW]; exact ((Below.refl _ _).alloc (Nat.le_refl _) _).alloc (by simp) _
  have hsz : W0.heap.size = w.heap.size + 2 := by rw [hW]; simp
  have z1 : W0.heap[w.heap.size + 1]? = some (.cells #[.slice none 0 0] 41 (0, 0)) := by rw [hW]; exact heap_alloc_at _ _ (by simp)
  have hj : FoundJ (w.heap.size + 1) (w.heap.size + 1) [] (cnt x + 0) (fun b => b = w.heap.size + 1) W0 :=
    ⟨⟨_, z1, owns_zero _ _ _ _, by simp [Value.ownBlock], fun b => by simp [Value.ownBlock]⟩, by simpa using hc, by omega⟩
  have hmap := map_any (found_ok (w.heap.size + 1) (w.heap.size + 1) (Nat.le_refl _)) [.bool x.fin, vs, .int .i64 x.k, vp, vr, vf] x [] 0 (fun b => b = w.heap.size + 1) W0
    (fun w' hu => hs.below (hb0.trans (hu.below (B := w.heap.size) (fun k hk => by omega) hb0.size)) (Nat.le_refl _)) hm ⟨fun _ _ => trivial, fun _ _ _ => trivial, fun _ _ _ => trivial, fun _ _ _ => trivial⟩ hj
  have HM := Lib.hid hmap; have HW := Lib.hid hW; have HB := Lib.hid hb0; have HSZ := Lib.hid hsz
  clear hmap hW hb0 hsz z1 hj hs hm hc
  go_enter Tryd.func61, Tryd.ntmps61
  go_wp2_with fail
  rw [← HW.out]
  refine HM.out.mono ?_
  rintro e w1 ⟨ds, rfl, T1, _, hj1, hu1, _⟩
  have hbw : Below w.heap.size w w1 := HB.out.trans (hu1.below (B := w.heap.size) (fun k hk => by omega) HB.out.size)
  obtain ⟨v, b1, o1, n1, _⟩ := hj1.ex
  have HBW := Lib.hid hbw; have B1 := Lib.hid b1; have O1 := Lib.hid o1; have N1 := Lib.hid n1
  clear hj1 hu1 hbw b1 o1 n1
  go_wp2
  go_ret
  exact ⟨w.heap.size + 1, rfl, by omega, HBW.out, v, B1.out, ownsRow_low O1.out (by omega), N1.out⟩
end Go.Proofs.YtmjehnjodaicfaaDoor
