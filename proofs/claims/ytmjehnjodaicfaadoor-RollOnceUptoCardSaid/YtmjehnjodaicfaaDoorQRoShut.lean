/- package roll: the closure of roll. -/
import Derived.Test.YtmjehnjodaicfaaDoorQRoGrp
namespace Go.Proofs.YtmjehnjodaicfaaDoor
open Go.RowKit

/-- A list of numbers in memory. -/
def IntsAt (w : World) (v : Value) (l : List Int) : Prop := RowAt w 1 v l.length (l.map (Value.int .i64))
theorem IntsAt.at {w : World} {ao : Option Addr} {cap : Nat} {l : List Int} (h : IntsAt w (.slice ao l.length cap) l) {i : Nat} {x : Int} (hi : l[i]? = some x) : ∃ b off, ao = some ⟨b, off, none⟩ ∧ b < w.heap.size ∧ w.cell? ⟨b, off + i, none⟩ = some (.int .i64 x) := by
  have hlt := (List.getElem?_eq_some_iff.1 hi).1
  obtain ⟨b, off, rfl, hb, _, hc⟩ := RowAt.at h (by decide) (by omega)
  exact ⟨b, off, rfl, hb, by rw [hc i (by omega)]; simp [hi]⟩
/-- What the closure of roll gives of a heap type. -/
def shut (ids : List Int) (gn : Nat) (ok : Bool) (h : Hp) : Hp × Bool :=
  if h.k ≠ 13 then (h, ok) else if h.n < ids.length then (⟨15, ids.getD h.n.toNat 0⟩, ok) else (⟨14, h.n - ids.length⟩, ok && decide (h.n - ids.length < gn))
def DIdx (h : Hp) : Prop := h.k = 13 → 0 ≤ h.n ∧ h.n < 4294967296
structure ShutJ (W0 : World) (B bo : Nat) (ok : Bool) (n : Nat) (T : Nat → Prop) (w : World) : Prop where
  be : Below B W0 w
  box : w.heap[bo]? = some (.cells #[.bool ok] 4 (0, 0))
  t : ∀ b, T b ↔ b = bo
  le : B ≤ w.heap.size
theorem upd_swap (W : World) (o o' : Obj) {S : Nat → Prop} (h : S W.heap.size) : Upd S (W.alloc o) (W.alloc o') :=
  ⟨rfl, rfl, rfl, by simp, fun k hk hs => by
    have h1 : k < W.heap.size := by
      have h2 : k ≠ W.heap.size := fun e => hs (by rw [e]; exact h)
      simp at hk; omega
    rw [Below.heap_alloc _ _ _ h1, Below.heap_alloc _ _ _ h1]⟩
set_option maxRecDepth 100000 in
set_option maxHeartbeats 8000000 in
theorem shut_ok (W0 : World) (B bi bo bg : Nat) (vi vg : Value) (ids : List Int) (gn : Nat) (g : List Value) (hB : B ≤ W0.heap.size) (hbo : B ≤ bo) (hi : W0.heap[bi]? = some (.cells #[vi] 32 (0, 0))) (hg : W0.heap[bg]? = some (.cells #[vg] 33 (0, 0))) (hiB : bi < B) (hgB : bg < B)
    (hv : ∀ w, Below B W0 w → IntsAt w vi ids) (hgv : ∃ ao cap, vg = .slice ao gn cap) (hin : ids.length ≤ 1000000) (hgn : gn ≤ 1000000) :
    FnOk Tryd.prog cellsH DIdx 50 #[.pointer (some ⟨bi, 0, none⟩), .pointer (some ⟨bo, 0, none⟩), .pointer (some ⟨bg, 0, none⟩)] (shut ids gn) (ShutJ W0 B bo) B where
  enter := fun _ _ => rfl
  lt := fun h => ⟨fun b hb => by rw [(h.t b).1 hb]; exact heap_lt h.box, h.le⟩
  keep := fun h u => ⟨h.be.trans (u.below (fun k hk => hk.1) h.le), u.heap_some h.box (fun hk => hk.2 ((h.t _).2 rfl)), h.t, Nat.le_trans h.le u.size⟩
  less := fun h _ => ⟨h.be, h.box, h.t, h.le⟩
  call := by
    intro ok n T w x hd hj
    obtain ⟨ag, cg, rfl⟩ := hgv
    have hints := hv w hj.be
    obtain ⟨ai, ci, rfl⟩ := RowAt.form hints
    obtain ⟨k, m⟩ := x
    rw [show cellsH ⟨k, m⟩ = [.int .i64 k, .int .i64 m] from rfl]
    show Calls Tryd.prog 50 #[.agg #[.int .i64 k, .int .i64 m], .pointer (some ⟨bi, 0, none⟩), .pointer (some ⟨bo, 0, none⟩), .pointer (some ⟨bg, 0, none⟩)] w _
    have zi : w.heap[bi]? = some (.cells #[.slice ai ids.length ci] 32 (0, 0)) := by rw [hj.be.block bi hiB]; exact hi
    have zg : w.heap[bg]? = some (.cells #[.slice ag gn cg] 33 (0, 0)) := by rw [hj.be.block bg hgB]; exact hg
    have zo := hj.box
    obtain ⟨W1, hW⟩ : ∃ W1 : World, W1 = ((w.alloc (.cells #[.int .i64 k, .int .i64 m] 26)).alloc (.cells #[.int .i64 0, .int .i64 0] 26)) := ⟨_, rfl⟩
    have yi : W1.heap[bi]? = some (.cells #[.slice ai ids.length ci] 32 (0, 0)) := by rw [hW]; exact heap_alloc_keep (heap_alloc_keep zi _) _
    have yg : W1.heap[bg]? = some (.cells #[.slice ag gn cg] 33 (0, 0)) := by rw [hW]; exact heap_alloc_keep (heap_alloc_keep zg _) _
    have yo : W1.heap[bo]? = some (.cells #[.bool ok] 4 (0, 0)) := by rw [hW]; exact heap_alloc_keep (heap_alloc_keep zo _) _
    have y0 : W1.heap[w.heap.size]? = some (.cells #[.int .i64 k, .int .i64 m] 26 (0, 0)) := by rw [hW]; exact heap_alloc_keep (heap_alloc_at _ _ rfl) _
    have y1 : W1.heap[w.heap.size + 1]? = some (.cells #[.int .i64 0, .int .i64 0] 26 (0, 0)) := by rw [hW]; exact heap_alloc_at _ _ (by simp)
    have hin' : IntsAt W1 (.slice ai ids.length ci) ids := by rw [hW]; exact RowAt.keep hints fun _ _ h => cell_alloc (cell_alloc h _) _
    have u0 : Upd T w W1 := by rw [hW]; exact ((Upd.refl _ w).alloc _).alloc _
    have cI := heap_cell yi 0; have cG := heap_cell yg 0; have cO := heap_cell yo 0
    have c00 := heap_cell y0 0; have c01 := heap_cell y0 1; have c10 := heap_cell y1 0; have c11 := heap_cell y1 1
    have f1 := fun i => heap_frozen y1 i
    have fO := fun i => heap_frozen yo i
    have hbow := heap_lt zo
    have n0 : ¬ bo = w.heap.size := by omega
    have n0' : ¬ w.heap.size = bo := by omega
    have n1 : ¬ bo = w.heap.size + 1 := by omega
    have n1' : ¬ w.heap.size + 1 = bo := by omega
    have ngo : ¬ bg = bo := by omega
    have ngo' : ¬ bo = bg := by omega
    have nio : ¬ bi = bo := by omega
    have nio' : ¬ bo = bi := by omega
    simp at cI cG cO c00 c01 c10 c11
    -- the end: what was written are the box of what is told, and ok
    have fin : ∀ (ok' : Bool) (W' : World), Upd (fun b => b = bo ∨ b = w.heap.size + 1) W1 W' → W'.heap[bo]? = some (.cells #[.bool ok'] 4 (0, 0)) → ∃ T', ShutJ W0 B bo ok' n T' W' ∧ Upd T w W' ∧ Fresh T w T' := fun ok' W' u hb => by
      have uf : Upd T w W' := u0.trans (S1 := fun b => b = bo ∨ b = w.heap.size + 1) (fun b hb => by
        rcases hb with rfl | rfl
        · exact .inl ((hj.t _).2 rfl)
        · exact .inr (by omega)) u
      exact ⟨T, ⟨hj.be.trans (uf.below (fun b hb => by rw [(hj.t b).1 hb]; exact hbo) hj.le), hb, hj.t, Nat.le_trans hj.le uf.size⟩, uf, Fresh.refl _ _⟩
    have FIN := Lib.hid fin; have HBOW := Lib.hid hbow; have HW := Lib.hid hW; have YO := Lib.hid yo; have HZO := Lib.hid zo; have Y1 := Lib.hid y1; have HIN := Lib.hid hin'; have HD := Lib.hid hd
    clear fin hbow zi zg zo yi yg yo y0 y1 hin' u0 hd hints hi hg hiB hgB hv hj hB hbo
    rw [hW] at cI cG cO c00 c01 c10 c11
    rw [hW] at f1 fO
    by_cases hk : k = 13
    · subst hk
      obtain ⟨hm0, hm1⟩ := HD.out rfl
      dsimp only at hm0 hm1
      obtain ⟨mi, rfl⟩ : ∃ mi : Nat, m = mi := ⟨m.toNat, by omega⟩
      by_cases hlt : (mi : Int) < ids.length
      · obtain ⟨y, hy⟩ : ∃ y, ids[mi]? = some y := ⟨ids[mi]'(by omega), by simp⟩
        obtain ⟨b1, o1, e1, _, p0⟩ := IntsAt.at HIN.out hy
        subst e1
        rw [HW.out] at p0
        have HY := Lib.hid hy
        clear hy
        go_enter Tryd.func50, Tryd.ntmps50
        go_wp2
        refine bodyPost_ret (v := .agg #[.int .i64 15, .int .i64 y]) (by simp [results, Tryd.results50, go_sem]) rfl ?_
        have hs : shut ids gn ok ⟨13, mi⟩ = (⟨15, y⟩, ok) := by
          unfold shut; rw [if_neg (by simp), if_pos hlt]; simp [HY.out]
        rw [hs]
        have hf := FIN.out ok ((w.alloc (.cells #[.int .i64 13, .int .i64 mi] 26)).alloc (.cells #[.int .i64 15, .int .i64 y] 26)) (by rw [HW.out]; exact upd_swap _ _ _ (.inr (by simp))) (by exact heap_alloc_keep (heap_alloc_keep HZO.out _) _)
        obtain ⟨T', h1, h2, h3⟩ := hf
        exact ⟨T', rfl, h1, h2, h3⟩
      · have hge : ¬ (mi : Int) < ids.length := hlt
        cases ok
        · go_enter Tryd.func50, Tryd.ntmps50
          go_wp2
          refine bodyPost_ret (v := .agg #[.int .i64 14, .int .i64 ((mi : Int) - ids.length)]) (by simp [results, Tryd.results50, go_sem, n1, n1']) rfl ?_
          have hs : shut ids gn false ⟨13, mi⟩ = (⟨14, (mi : Int) - ids.length⟩, false) := by
            unfold shut; rw [if_neg (by simp), if_neg (show ¬ (mi : Int) < ids.length by omega)]; simp
          rw [hs]
          rw [← HW.out]
          have hf := FIN.out false (((W1.setCell ⟨bo, 0, none⟩ (.bool false)).setCell ⟨w.heap.size + 1, 0, none⟩ (.int .i64 14)).setCell ⟨w.heap.size + 1, 1, none⟩ (.int .i64 ((mi : Int) - ids.length))) ((((Upd.refl _ W1).setCell (.inl (.inl rfl)) _).setCell (.inl (.inr rfl)) _).setCell (.inl (.inr rfl)) _) (by have h := heap_set_off (heap_set_off (heap_set_at YO.out 0 (.bool false)) (a := ⟨w.heap.size + 1, 0, none⟩) n1 (.int .i64 14)) (a := ⟨w.heap.size + 1, 1, none⟩) n1 (.int .i64 ((mi : Int) - ids.length)); simpa using h)
          exact ⟨rfl, hf⟩
        · by_cases hgl : (mi : Int) - ids.length < gn
          · go_enter Tryd.func50, Tryd.ntmps50
            go_wp2
            refine bodyPost_ret (v := .agg #[.int .i64 14, .int .i64 ((mi : Int) - ids.length)]) (by simp [results, Tryd.results50, go_sem, n1, n1']) rfl ?_
            have hs : shut ids gn true ⟨13, mi⟩ = (⟨14, (mi : Int) - ids.length⟩, true) := by
              unfold shut; rw [if_neg (by simp), if_neg (show ¬ (mi : Int) < ids.length by omega)]; simp; omega
            rw [hs]
            rw [← HW.out]
            have hf := FIN.out true (((W1.setCell ⟨bo, 0, none⟩ (.bool true)).setCell ⟨w.heap.size + 1, 0, none⟩ (.int .i64 14)).setCell ⟨w.heap.size + 1, 1, none⟩ (.int .i64 ((mi : Int) - ids.length))) ((((Upd.refl _ W1).setCell (.inl (.inl rfl)) _).setCell (.inl (.inr rfl)) _).setCell (.inl (.inr rfl)) _) (by have h := heap_set_off (heap_set_off (heap_set_at YO.out 0 (.bool true)) (a := ⟨w.heap.size + 1, 0, none⟩) n1 (.int .i64 14)) (a := ⟨w.heap.size + 1, 1, none⟩) n1 (.int .i64 ((mi : Int) - ids.length)); simpa using h)
            exact ⟨rfl, hf⟩
          · go_enter Tryd.func50, Tryd.ntmps50
            go_wp2
            refine bodyPost_ret (v := .agg #[.int .i64 14, .int .i64 ((mi : Int) - ids.length)]) (by simp [results, Tryd.results50, go_sem, n1, n1']) rfl ?_
            have hs : shut ids gn true ⟨13, mi⟩ = (⟨14, (mi : Int) - ids.length⟩, false) := by
              unfold shut; rw [if_neg (by simp), if_neg (show ¬ (mi : Int) < ids.length by omega)]; simp; omega
            rw [hs]
            rw [← HW.out]
            have hf := FIN.out false (((W1.setCell ⟨bo, 0, none⟩ (.bool false)).setCell ⟨w.heap.size + 1, 0, none⟩ (.int .i64 14)).setCell ⟨w.heap.size + 1, 1, none⟩ (.int .i64 ((mi : Int) - ids.length))) ((((Upd.refl _ W1).setCell (.inl (.inl rfl)) _).setCell (.inl (.inr rfl)) _).setCell (.inl (.inr rfl)) _) (by have h := heap_set_off (heap_set_off (heap_set_at YO.out 0 (.bool false)) (a := ⟨w.heap.size + 1, 0, none⟩) n1 (.int .i64 14)) (a := ⟨w.heap.size + 1, 1, none⟩) n1 (.int .i64 ((mi : Int) - ids.length)); simpa using h)
            exact ⟨rfl, hf⟩
    · have hk' : (k == 13) = false := by simpa using hk
      have hk2 : (k != 13) = true := by simpa using hk
      go_enter Tryd.func50, Tryd.ntmps50
      go_wp2
      refine bodyPost_ret (v := .agg #[.int .i64 k, .int .i64 m]) (by simp [results, Tryd.results50, go_sem]) rfl ?_
      have hs : shut ids gn ok ⟨k, m⟩ = (⟨k, m⟩, ok) := by
        unfold shut; rw [if_pos hk]
      rw [hs]
      have hf := FIN.out ok ((w.alloc (.cells #[.int .i64 k, .int .i64 m] 26)).alloc (.cells #[.int .i64 k, .int .i64 m] 26)) (by rw [HW.out]; exact upd_swap _ _ _ (.inr (by simp))) (by exact heap_alloc_keep (heap_alloc_keep HZO.out _) _)
      obtain ⟨T', h1, h2, h3⟩ := hf
      exact ⟨T', rfl, h1, h2, h3⟩
end Go.Proofs.YtmjehnjodaicfaaDoor
