import Derived.Test.YtlcfkfijomnmnaaGreatDoorQRoAlikeBd
import Derived.Lib.BufferRead
namespace Go.Proofs.YtlcfkfijomnmnaaGreatDoor
open Lib (hid)
section
open Go.RowKit Go.Shelf
def GrpAt (w : World) (v : Value) (g : List Sb) : Prop := ∃ cs : List (List Value), cs.length = g.length ∧ (∀ c ∈ cs, c.length = 6) ∧ RowAt w 6 v g.length cs.flatten ∧ ∀ (i : Nat) c x, cs[i]? = some c → g[i]? = some x → SubAt w c x
theorem flatten_at {cs : List (List Value)} (h6 : ∀ c ∈ cs, c.length = 6) : ∀ (i : Nat) (c : List Value), cs[i]? = some c → ∀ j, j < 6 → cs.flatten[i * 6 + j]? = c[j]? := by
  induction cs with
  | nil => intro i c h; simp at h
  | cons d cs ih =>
    intro i c h j hj
    cases i with
    | zero =>
      simp at h; subst h
      rw [List.flatten_cons, List.getElem?_append_left (by rw [h6 _ (by simp)]; omega)]; simp
    | succ i =>
      have hd := h6 d (by simp)
      rw [List.flatten_cons, List.getElem?_append_right (by rw [hd, Nat.add_mul]; omega), hd, show (i + 1) * 6 + j - 6 = i * 6 + j by rw [Nat.add_mul]; omega]
      exact ih (fun c hc => h6 c (by simp [hc])) i c (by simpa using h) j hj
theorem GrpAt.form {w : World} {v : Value} {g : List Sb} (h : GrpAt w v g) : ∃ ao cap, v = .slice ao g.length cap := by
  obtain ⟨_, _, _, h, _⟩ := h; exact RowAt.form h
theorem GrpAt.keep {w w' : World} {v : Value} {g : List Sb} (h : GrpAt w v g) (hk : ∀ p u, w.cell? p = some u → w'.cell? p = some u) : GrpAt w' v g := by
  obtain ⟨cs, h1, h2, h3, h4⟩ := h
  exact ⟨cs, h1, h2, h3.keep hk, fun i c x hc hx => (h4 i c x hc hx).keep hk⟩
theorem GrpAt.below {w w' : World} {B : Nat} {v : Value} {g : List Sb} (h : GrpAt w v g) (hb : Below B w w') (hB : w.heap.size ≤ B) : GrpAt w' v g :=
  h.keep fun p u hp => by rw [hb.cell (Nat.lt_of_lt_of_le (World.block_lt_of_cell? _ _ hp) hB)]; exact hp
theorem GrpAt.at {w : World} {ao : Option Addr} {cap : Nat} {g : List Sb} (h : GrpAt w (.slice ao g.length cap) g) {i : Nat} {x : Sb} (hi : g[i]? = some x) : ∃ b off, ao = some ⟨b, off, none⟩ ∧ b < w.heap.size ∧ ∃ a1 c1 a2 c2 a3 c3 a4 c4, SubAt w [.bool x.fin, .slice a1 x.sups.length c1, .int .i64 x.k, .slice a2 x.ps.length c2, .slice a3 x.rs.length c3, .slice a4 x.fs.length c4] x ∧
    w.cell? ⟨b, off + i * 6, none⟩ = some (.bool x.fin) ∧ w.cell? ⟨b, off + i * 6 + 1, none⟩ = some (.slice a1 x.sups.length c1) ∧ w.cell? ⟨b, off + i * 6 + 2, none⟩ = some (.int .i64 x.k) ∧ w.cell? ⟨b, off + i * 6 + 3, none⟩ = some (.slice a2 x.ps.length c2) ∧ w.cell? ⟨b, off + i * 6 + 4, none⟩ = some (.slice a3 x.rs.length c3) ∧ w.cell? ⟨b, off + i * 6 + 5, none⟩ = some (.slice a4 x.fs.length c4) := by
  have hlt := (List.getElem?_eq_some_iff.1 hi).1
  obtain ⟨cs, h1, h2, h3, h4⟩ := h
  obtain ⟨b, off, rfl, hb, _, hc⟩ := RowAt.at h3 (by decide) (by omega)
  obtain ⟨c, hci⟩ : ∃ c, cs[i]? = some c := ⟨cs[i]'(by omega), by simp⟩
  have hs := h4 i c x hci hi
  obtain ⟨vs, vp, vr, vf, rfl, k1, k2, k3, k4⟩ := hs.ex
  obtain ⟨a1, c1, rfl⟩ := RowAt.form k1
  obtain ⟨a2, c2, rfl⟩ := RowAt.form k2
  obtain ⟨a3, c3, rfl⟩ := RowAt.form k3
  obtain ⟨a4, c4, rfl⟩ := RowAt.form k4
  have at' : ∀ j, j < 6 → w.cell? ⟨b, off + i * 6 + j, none⟩ = ([.bool x.fin, .slice a1 x.sups.length c1, .int .i64 x.k, .slice a2 x.ps.length c2, .slice a3 x.rs.length c3, .slice a4 x.fs.length c4] : List Value)[j]? := fun j hj => by
    rw [Nat.add_assoc, hc (i * 6 + j) (by omega)]; exact flatten_at h2 i _ hci j hj
  exact ⟨b, off, rfl, hb, a1, c1, a2, c2, a3, c3, a4, c4, hs, at' 0 (by omega), at' 1 (by omega), at' 2 (by omega), at' 3 (by omega), at' 4 (by omega), at' 5 (by omega)⟩
structure Sm (x : Sb) : Prop where
  small : Small x
  cnt : cnt x ≤ 1000000
  heaps : (heapsOf x).length ≤ 1000000
set_option maxRecDepth 100000 in
set_option maxHeartbeats 4000000 in
theorem equalFunc_any (a b : Value) (g : List Sb) (w : World) (ha : GrpAt w a g) (hb : GrpAt w b g) (hl : g.length ≤ 1000000) (hs : ∀ x ∈ g, Sm x) :
    Calls Tryz.prog 136 #[a, b, .func (.func 137) #[] #[]] w fun e w' => e = .returned (.bool true) ∧ Below w.heap.size w w' := by
  obtain ⟨ao, ca, rfl⟩ := ha.form
  obtain ⟨bo, cb, rfl⟩ := hb.form
  have HA := hid ha; have HB := hid hb; have HS := hid hs; have HL := hid hl
  clear ha hb hs hl
  go_enter Tryz.func136, Tryz.ntmps136
  go_wp2
  go_loopw [17] (fun t17 wr => ∃ i : Nat, t17 = .int .i64 i ∧ i ≤ g.length ∧ Below w.heap.size w wr) (fun t17 _ => g.length - (intOf t17).toNat)
  case atStart => exact ⟨0, rfl, Nat.zero_le _, Below.refl _ _⟩
  case round =>
    obtain ⟨i, rfl, hi, hbe⟩ := hrel
    by_cases hlt : i < g.length
    · obtain ⟨x, hx⟩ : ∃ x, g[i]? = some x := ⟨g[i], by simp [hlt]⟩
      obtain ⟨b1, o1, e1, _, a1, c1, a2, c2, a3, c3, a4, c4, sa, p0, p1, p2, p3, p4, p5⟩ := (HA.out.below hbe (Nat.le_refl _)).at hx
      obtain ⟨b2, o2, e2, _, d1, f1, d2, f2, d3, f3, d4, f4, sb, q0, q1, q2, q3, q4, q5⟩ := (HB.out.below hbe (Nat.le_refl _)).at hx
      subst e1 e2
      have hlt' : (i : Int) < g.length := by omega
      have hi6 : (i : Int) < 1000000 := by have := HL.out; omega
      have hm := HS.out x (List.mem_of_getElem? hx)
      have SA := hid sa; have SB := hid sb; have HM := hid hm; have HBE := hid hbe; have HLT := hid hlt
      clear sa sb hm hbe hlt hx hi
      go_wp2_with fail
      refine (alike1_any _ _ x _ (SA.out.below (((Below.refl _ _).alloc (Nat.le_refl _) _).alloc (by simp) _) (Nat.le_refl _)) (SB.out.below (((Below.refl _ _).alloc (Nat.le_refl _) _).alloc (by simp) _) (Nat.le_refl _)) HM.out.small HM.out.cnt HM.out.heaps).mono ?_
      rintro e w1 ⟨rfl, hb1⟩
      have hb2 : Below w.heap.size w w1 := by
        have h0 : Below w.heap.size w ((wr.alloc (.cells #[.bool x.fin, .slice a1 x.sups.length c1, .int .i64 x.k, .slice a2 x.ps.length c2, .slice a3 x.rs.length c3, .slice a4 x.fs.length c4] 46)).alloc (.cells #[.bool x.fin, .slice d1 x.sups.length f1, .int .i64 x.k, .slice d2 x.ps.length f2, .slice d3 x.rs.length f3, .slice d4 x.fs.length f4] 46)) := (HBE.out.alloc HBE.out.size _).alloc (by have := HBE.out.size; simp; omega) _
        exact h0.trans (hb1.mono h0.size)
      have HB2 := hid hb2
      clear hb1 hb2 p0 p1 p2 p3 p4 p5 q0 q1 q2 q3 q4 q5
      go_wp2
      go_roundw
      case rel => exact ⟨i + 1, by go_num, HLT.out, HB2.out⟩
      case measure => have := HLT.out; simp [intOf]; omega
    · obtain rfl : i = g.length := by omega
      have hlt' : ¬ (g.length : Int) < g.length := by omega
      go_wp2
      go_ret
      exact ⟨rfl, hbe⟩
set_option maxRecDepth 100000 in
theorem alike_any (a b : Value) (g : List Sb) (w : World) (ha : GrpAt w a g) (hb : GrpAt w b g) (hl : g.length ≤ 1000000) (hs : ∀ x ∈ g, Sm x) :
    Calls Tryz.prog 114 #[a, b] w fun e w' => e = .returned (.bool true) ∧ Below w.heap.size w w' := by
  have HC := hid (equalFunc_any a b g w ha hb hl hs)
  clear ha hb hl hs
  go_enter Tryz.func114, Tryz.ntmps114
  go_wp2_with fail
  refine HC.out.mono ?_
  rintro e w1 ⟨rfl, hb⟩
  have HB := hid hb
  clear hb
  go_wp2
  go_ret
  exact ⟨rfl, HB.out⟩
end
section
open Go.RowKit
def IntsAt (w : World) (v : Value) (l : List Int) : Prop := RowAt w 1 v l.length (l.map (Value.int .i64))
theorem IntsAt.at {w : World} {ao : Option Addr} {cap : Nat} {l : List Int} (h : IntsAt w (.slice ao l.length cap) l) {i : Nat} {x : Int} (hi : l[i]? = some x) : ∃ b off, ao = some ⟨b, off, none⟩ ∧ b < w.heap.size ∧ w.cell? ⟨b, off + i, none⟩ = some (.int .i64 x) := by
  have hlt := (List.getElem?_eq_some_iff.1 hi).1
  obtain ⟨b, off, rfl, hb, _, hc⟩ := RowAt.at h (by decide) (by omega)
  exact ⟨b, off, rfl, hb, by rw [hc i (by omega)]; simp [hi]⟩
def shut (ids : List Int) (gn : Nat) (ok : Bool) (h : Hp) : Hp × Bool :=
  if h.k ≠ 13 then (h, ok) else if h.n < ids.length then (⟨15, ids.getD h.n.toNat 0⟩, ok) else (⟨14, h.n - ids.length⟩, ok && decide (h.n - ids.length < gn))
def DIdx (h : Hp) : Prop := h.k = 13 → 0 ≤ h.n ∧ h.n < 4294967296
structure ShutJ (W0 : World) (B bo : Nat) (ok : Bool) (n : Nat) (T : Nat → Prop) (w : World) : Prop where
  be : Below B W0 w
  box : w.heap[bo]? = some (.cells #[.bool ok] 4 (0, 0))
  t : ∀ b, T b ↔ b = bo
  le : B ≤ w.heap.size
theorem upd_swap (W : World) (o o' : Obj) {S : Nat → Prop} (h : S W.heap.size) : Upd S (W.alloc o) (W.alloc o') :=
  ⟨rfl, rfl, rfl, by simp, fun k hk hs => by
    have h1 : k < W.heap.size := by
      have h2 : k ≠ W.heap.size := fun e => hs (by rw [e]; exact h)
      simp at hk; omega
    rw [Below.heap_alloc _ _ _ h1, Below.heap_alloc _ _ _ h1]⟩
set_option maxRecDepth 100000 in
set_option maxHeartbeats 8000000 in
theorem shut_ok (W0 : World) (B bi bo bg : Nat) (vi vg : Value) (ids : List Int) (gn : Nat) (_ : List Value) (_ : B ≤ W0.heap.size) (hbo : B ≤ bo) (hi : W0.heap[bi]? = some (.cells #[vi] 25 (0, 0))) (hg : W0.heap[bg]? = some (.cells #[vg] 47 (0, 0))) (hiB : bi < B) (hgB : bg < B)
    (hv : ∀ w, Below B W0 w → IntsAt w vi ids) (hgv : ∃ ao cap, vg = .slice ao gn cap) (hin : ids.length ≤ 1000000) (hgn : gn ≤ 1000000) :
    FnOk Tryz.prog cellsH DIdx 112 #[.pointer (some ⟨bi, 0, none⟩), .pointer (some ⟨bo, 0, none⟩), .pointer (some ⟨bg, 0, none⟩)] (shut ids gn) (ShutJ W0 B bo) B where
  enter := fun _ _ => rfl
  lt := fun h => ⟨fun b hb => by rw [(h.t b).1 hb]; exact heap_lt h.box, h.le⟩
  keep := fun h u => ⟨h.be.trans (u.below (fun k hk => hk.1) h.le), u.heap_some h.box (fun hk => hk.2 ((h.t _).2 rfl)), h.t, Nat.le_trans h.le u.size⟩
  less := fun h _ => ⟨h.be, h.box, h.t, h.le⟩
  call := by
    intro ok n T w x hd hj
    obtain ⟨ag, cg, rfl⟩ := hgv
    have hints := hv w hj.be
    obtain ⟨ai, ci, rfl⟩ := RowAt.form hints
    obtain ⟨k, m⟩ := x
    rw [show cellsH ⟨k, m⟩ = [.int .i64 k, .int .i64 m] from rfl]
    show Calls Tryz.prog 112 #[.agg #[.int .i64 k, .int .i64 m], .pointer (some ⟨bi, 0, none⟩), .pointer (some ⟨bo, 0, none⟩), .pointer (some ⟨bg, 0, none⟩)] w _
    have zi : w.heap[bi]? = some (.cells #[.slice ai ids.length ci] 25 (0, 0)) := by rw [hj.be.block bi hiB]; exact hi
    have zg : w.heap[bg]? = some (.cells #[.slice ag gn cg] 47 (0, 0)) := by rw [hj.be.block bg hgB]; exact hg
    have zo := hj.box
    obtain ⟨W1, hW⟩ : ∃ W1 : World, W1 = ((w.alloc (.cells #[.int .i64 k, .int .i64 m] 33)).alloc (.cells #[.int .i64 0, .int .i64 0] 33)) := ⟨_, rfl⟩
    have yi : W1.heap[bi]? = some (.cells #[.slice ai ids.length ci] 25 (0, 0)) := by rw [hW]; exact heap_alloc_keep (heap_alloc_keep zi _) _
    have yg : W1.heap[bg]? = some (.cells #[.slice ag gn cg] 47 (0, 0)) := by rw [hW]; exact heap_alloc_keep (heap_alloc_keep zg _) _
    have yo : W1.heap[bo]? = some (.cells #[.bool ok] 4 (0, 0)) := by rw [hW]; exact heap_alloc_keep (heap_alloc_keep zo _) _
    have y0 : W1.heap[w.heap.size]? = some (.cells #[.int .i64 k, .int .i64 m] 33 (0, 0)) := by rw [hW]; exact heap_alloc_keep (heap_alloc_at _ _ rfl) _
    have y1 : W1.heap[w.heap.size + 1]? = some (.cells #[.int .i64 0, .int .i64 0] 33 (0, 0)) := by rw [hW]; exact heap_alloc_at _ _ (by simp)
    have hin' : IntsAt W1 (.slice ai ids.length ci) ids := by rw [hW]; exact RowAt.keep hints fun _ _ h => cell_alloc (cell_alloc h _) _
    have u0 : Upd T w W1 := by rw [hW]; exact ((Upd.refl _ w).alloc _).alloc _
    have cI := heap_cell yi 0; have cG := heap_cell yg 0; have cO := heap_cell yo 0
    have c00 := heap_cell y0 0; have c01 := heap_cell y0 1; have c10 := heap_cell y1 0; have c11 := heap_cell y1 1
    have f1 := fun i => heap_frozen y1 i
    have fO := fun i => heap_frozen yo i
    have hbow := heap_lt zo
    have n0 : ¬ bo = w.heap.size := by omega
    have n0' : ¬ w.heap.size = bo := by omega
    have n1 : ¬ bo = w.heap.size + 1 := by omega
    have n1' : ¬ w.heap.size + 1 = bo := by omega
    have ngo : ¬ bg = bo := by omega
    have ngo' : ¬ bo = bg := by omega
    have nio : ¬ bi = bo := by omega
    have nio' : ¬ bo = bi := by omega
    simp at cI cG cO c00 c01 c10 c11
    -- the end: what was written are the box of what is told, and ok
    have fin : ∀ (ok' : Bool) (W' : World), Upd (fun b => b = bo ∨ b = w.heap.size + 1) W1 W' → W'.heap[bo]? = some (.cells #[.bool ok'] 4 (0, 0)) → ∃ T', ShutJ W0 B bo ok' n T' W' ∧ Upd T w W' ∧ Fresh T w T' := fun ok' W' u hb => by
      have uf : Upd T w W' := u0.trans (S1 := fun b => b = bo ∨ b = w.heap.size + 1) (fun b hb => by
        rcases hb with rfl | rfl
        · exact .inl ((hj.t _).2 rfl)
        · exact .inr (by omega)) u
      exact ⟨T, ⟨hj.be.trans (uf.below (fun b hb => by rw [(hj.t b).1 hb]; exact hbo) hj.le), hb, hj.t, Nat.le_trans hj.le uf.size⟩, uf, Fresh.refl _ _⟩
    have FIN := hid fin; have HBOW := hid hbow; have HW := hid hW; have YO := hid yo; have HZO := hid zo; have Y1 := hid y1; have HIN := hid hin'; have HD := hid hd
    clear fin hbow zi zg zo yi yg yo y0 y1 hin' u0 hd hints hi hg hiB hgB hv hj hbo
    rw [hW] at cI cG cO c00 c01 c10 c11
    rw [hW] at f1 fO
    by_cases hk : k = 13
    · subst hk
      obtain ⟨hm0, hm1⟩ := HD.out rfl
      dsimp only at hm0 hm1
      obtain ⟨mi, rfl⟩ : ∃ mi : Nat, m = mi := ⟨m.toNat, by omega⟩
      by_cases hlt : (mi : Int) < ids.length
      · obtain ⟨y, hy⟩ : ∃ y, ids[mi]? = some y := ⟨ids[mi]'(by omega), by simp⟩
        obtain ⟨b1, o1, e1, _, p0⟩ := IntsAt.at HIN.out hy
        subst e1
        rw [HW.out] at p0
        have HY := hid hy
        clear hy
        go_enter Tryz.func112, Tryz.ntmps112
        go_wp2
        refine bodyPost_ret (v := .agg #[.int .i64 15, .int .i64 y]) (by simp [results, Tryz.results112, go_sem]) rfl ?_
        have hs : shut ids gn ok ⟨13, mi⟩ = (⟨15, y⟩, ok) := by
          unfold shut; rw [if_neg (by simp), if_pos hlt]; simp [HY.out]
        rw [hs]
        have hf := FIN.out ok ((w.alloc (.cells #[.int .i64 13, .int .i64 mi] 33)).alloc (.cells #[.int .i64 15, .int .i64 y] 33)) (by rw [HW.out]; exact upd_swap _ _ _ (.inr (by simp))) (by exact heap_alloc_keep (heap_alloc_keep HZO.out _) _)
        obtain ⟨T', h1, h2, h3⟩ := hf
        exact ⟨T', rfl, h1, h2, h3⟩
      · have hge : ¬ (mi : Int) < ids.length := hlt
        cases ok
        · go_enter Tryz.func112, Tryz.ntmps112
          go_wp2
          refine bodyPost_ret (v := .agg #[.int .i64 14, .int .i64 ((mi : Int) - ids.length)]) (by simp [results, Tryz.results112, go_sem]) rfl ?_
          have hs : shut ids gn false ⟨13, mi⟩ = (⟨14, (mi : Int) - ids.length⟩, false) := by
            unfold shut; rw [if_neg (by simp), if_neg (show ¬ (mi : Int) < ids.length by omega)]; simp
          rw [hs]
          rw [← HW.out]
          have hf := FIN.out false (((W1.setCell ⟨bo, 0, none⟩ (.bool false)).setCell ⟨w.heap.size + 1, 0, none⟩ (.int .i64 14)).setCell ⟨w.heap.size + 1, 1, none⟩ (.int .i64 ((mi : Int) - ids.length))) ((((Upd.refl _ W1).setCell (.inl (.inl rfl)) _).setCell (.inl (.inr rfl)) _).setCell (.inl (.inr rfl)) _) (by have h := heap_set_off (heap_set_off (heap_set_at YO.out 0 (.bool false)) (a := ⟨w.heap.size + 1, 0, none⟩) n1 (.int .i64 14)) (a := ⟨w.heap.size + 1, 1, none⟩) n1 (.int .i64 ((mi : Int) - ids.length)); simpa using h)
          exact ⟨rfl, hf⟩
        · by_cases hgl : (mi : Int) - ids.length < gn
          · go_enter Tryz.func112, Tryz.ntmps112
            go_wp2
            refine bodyPost_ret (v := .agg #[.int .i64 14, .int .i64 ((mi : Int) - ids.length)]) (by simp [results, Tryz.results112, go_sem]) rfl ?_
            have hs : shut ids gn true ⟨13, mi⟩ = (⟨14, (mi : Int) - ids.length⟩, true) := by
              unfold shut; rw [if_neg (by simp), if_neg (show ¬ (mi : Int) < ids.length by omega)]; simp; omega
            rw [hs]
            rw [← HW.out]
            have hf := FIN.out true (((W1.setCell ⟨bo, 0, none⟩ (.bool true)).setCell ⟨w.heap.size + 1, 0, none⟩ (.int .i64 14)).setCell ⟨w.heap.size + 1, 1, none⟩ (.int .i64 ((mi : Int) - ids.length))) ((((Upd.refl _ W1).setCell (.inl (.inl rfl)) _).setCell (.inl (.inr rfl)) _).setCell (.inl (.inr rfl)) _) (by have h := heap_set_off (heap_set_off (heap_set_at YO.out 0 (.bool true)) (a := ⟨w.heap.size + 1, 0, none⟩) n1 (.int .i64 14)) (a := ⟨w.heap.size + 1, 1, none⟩) n1 (.int .i64 ((mi : Int) - ids.length)); simpa using h)
            exact ⟨rfl, hf⟩
          · go_enter Tryz.func112, Tryz.ntmps112
            go_wp2
            refine bodyPost_ret (v := .agg #[.int .i64 14, .int .i64 ((mi : Int) - ids.length)]) (by simp [results, Tryz.results112, go_sem]) rfl ?_
            have hs : shut ids gn true ⟨13, mi⟩ = (⟨14, (mi : Int) - ids.length⟩, false) := by
              unfold shut; rw [if_neg (by simp), if_neg (show ¬ (mi : Int) < ids.length by omega)]; simp; omega
            rw [hs]
            rw [← HW.out]
            have hf := FIN.out false (((W1.setCell ⟨bo, 0, none⟩ (.bool false)).setCell ⟨w.heap.size + 1, 0, none⟩ (.int .i64 14)).setCell ⟨w.heap.size + 1, 1, none⟩ (.int .i64 ((mi : Int) - ids.length))) ((((Upd.refl _ W1).setCell (.inl (.inl rfl)) _).setCell (.inl (.inr rfl)) _).setCell (.inl (.inr rfl)) _) (by have h := heap_set_off (heap_set_off (heap_set_at YO.out 0 (.bool false)) (a := ⟨w.heap.size + 1, 0, none⟩) n1 (.int .i64 14)) (a := ⟨w.heap.size + 1, 1, none⟩) n1 (.int .i64 ((mi : Int) - ids.length)); simpa using h)
            exact ⟨rfl, hf⟩
    · have hk' : (k == 13) = false := by simpa using hk
      have hk2 : (k != 13) = true := by simpa using hk
      go_enter Tryz.func112, Tryz.ntmps112
      go_wp2
      refine bodyPost_ret (v := .agg #[.int .i64 k, .int .i64 m]) (by simp [results, Tryz.results112, go_sem]) rfl ?_
      have hs : shut ids gn ok ⟨k, m⟩ = (⟨k, m⟩, ok) := by
        unfold shut; rw [if_pos hk]
      rw [hs]
      have hf := FIN.out ok ((w.alloc (.cells #[.int .i64 k, .int .i64 m] 33)).alloc (.cells #[.int .i64 k, .int .i64 m] 33)) (by rw [HW.out]; exact upd_swap _ _ _ (.inr (by simp))) (by exact heap_alloc_keep (heap_alloc_keep HZO.out _) _)
      obtain ⟨T', h1, h2, h3⟩ := hf
      exact ⟨T', rfl, h1, h2, h3⟩
end
section
open Go.RowKit
theorem Tryz.infoSub : (Tryz.prog.info? 46).map (fun i => (i.zero, i.size, i.bytes)) = some (some (.agg #[.bool false, .slice none 0 0, .int .i64 0, .slice none 0 0, .slice none 0 0, .slice none 0 0]), 6, 112) := by kernel_rfl
def rollG (ids : List Int) (g : List Sb) : List Sb × Bool := mapS (mapSub (shut ids g.length)) true g
theorem one_S {ds : List Value} {w : World} {x : Sb} (h : SubAt w ds x) : ds.length = 6 ∧ ∀ u ∈ ds, u.oneCell' = true := by
  obtain ⟨vs, vp, vr, vf, rfl, k1, k2, k3, k4⟩ := h.ex
  obtain ⟨a1, c1, rfl⟩ := RowAt.form k1
  obtain ⟨a2, c2, rfl⟩ := RowAt.form k2
  obtain ⟨a3, c3, rfl⟩ := RowAt.form k3
  obtain ⟨a4, c4, rfl⟩ := RowAt.form k4
  refine ⟨rfl, ?_⟩
  intro u hu
  simp at hu
  rcases hu with rfl | rfl | rfl | rfl | rfl | rfl <;> rfl
structure RolI (w W0 : World) (ids : List Int) (gn : Nat) (u : Value) (i : Nat) (ys : List Sb) (ok : Bool) (W : World) : Prop where
  ex : ∃ cs : List (List Value), cs.length = i ∧ (∀ c ∈ cs, c.length = 6) ∧ W.ownsRow (w.heap.size + 3) 46 6 u i cs.flatten ∧ ∀ (j : Nat) c x, cs[j]? = some c → ys[j]? = some x → ∀ w'', Upd (fun b => b < w.heap.size + 3 ∨ u.ownBlock = some b) W w'' → SubAt w'' c x
  j : ShutJ W0 (w.heap.size + 2) (w.heap.size + 2) ok 0 (fun b => b = w.heap.size + 2) W
  be : Below w.heap.size w W
theorem rol_step {w W0 wr w1 w2 : World} {ids : List Int} {gn i : Nat} {u8 v2 : Value} {ys : List Sb} {ok ok2 : Bool} {cs : List (List Value)} {ds : List Value} {x2 : Sb} {o o' : Obj} (hI : RolI w W0 ids gn u8 i ys ok wr)
    (hcl : cs.length = i) (hc6 : ∀ c ∈ cs, c.length = 6) (hown : wr.ownsRow (w.heap.size + 3) 46 6 u8 i cs.flatten)
    (hsubs : ∀ (j : Nat) c x, cs[j]? = some c → ys[j]? = some x → ∀ w'', Upd (fun b => b < w.heap.size + 3 ∨ u8.ownBlock = some b) wr w'' → SubAt w'' c x) (hyl : ys.length = i)
    (hsub : ∀ w'', Upd (fun b => b < (wr.alloc o).heap.size ∨ b = w.heap.size + 2) w1 w'' → SubAt w'' ds x2) (hd6 : ds.length = 6) (hu1 : Upd (fun b => b = w.heap.size + 2) (wr.alloc o) w1)
    (hj1 : ShutJ W0 (w.heap.size + 2) (w.heap.size + 2) ok2 0 (fun b => b = w.heap.size + 2) w1) (o2 : w2.ownsRow (w.heap.size + 3) 46 6 v2 (i + 1) (cs.flatten ++ ds)) (gr2 : (w1.alloc o').grownBy w2 u8.ownBlock) (mv2 : MovedUp (w1.alloc o') u8 v2)
   : RolI w W0 ids gn v2 (i + 1) (ys ++ [x2]) ok2 w2 := by
  have hob : ∀ k, u8.ownBlock = some k → w.heap.size + 3 ≤ k ∧ k < wr.heap.size := fun k hk => hown.lt k hk
  have hs1 := hu1.size
  simp at hs1
  have u01 : Upd (fun b => b < w.heap.size + 3 ∨ u8.ownBlock = some b) wr w1 := ((Upd.refl _ wr).alloc o).trans (S1 := fun b => b = w.heap.size + 2) (fun b hb => .inl (.inl (by omega))) hu1
  have u02 : Upd (fun b => b < w.heap.size + 3 ∨ u8.ownBlock = some b) wr w2 := (u01.alloc o').grown gr2 (fun k hk => .inl (.inr hk))
  have u12 : Upd (fun b => b < (wr.alloc o).heap.size ∨ b = w.heap.size + 2) w1 w2 := ((Upd.refl _ w1).alloc o').grown gr2 (fun k hk => .inl (.inl (by have := (hob k hk).2; simp; omega)))
  have hmv : ∀ b, v2.ownBlock = some b → u8.ownBlock = some b ∨ w1.heap.size ≤ b := fun b hb => by
    rcases mv2 with e | e
    · exact .inl (by rw [← e]; exact hb)
    · have := e b hb; simp at this; exact .inr (by omega)
  have hw3 : w.heap.size + 3 ≤ wr.heap.size + 1 := by have := heap_lt hI.j.box; omega
  refine ⟨⟨cs ++ [ds], by simp [hcl], ?_, by simpa using o2, ?_⟩, ?_, ?_⟩
  · intro c hc
    simp at hc
    rcases hc with hc | rfl
    · exact hc6 c hc
    · exact hd6
  · intro j c x hc hx w'' hu
    by_cases hj : j < i
    · rw [List.getElem?_append_left (by omega)] at hc hx
      refine hsubs j c x hc hx w'' (u02.trans (fun b hb => ?_) hu)
      rcases hb with hb | hb
      · exact .inl (.inl hb)
      · rcases hmv b hb with h | h
        · exact .inl (.inr h)
        · exact .inr (by omega)
    · have hj2 : j = i := by
        have := (List.getElem?_eq_some_iff.1 hc).1
        simp at this; omega
      subst hj2
      rw [List.getElem?_append_right (by omega)] at hc hx
      simp [hcl, hyl] at hc hx
      subst hc hx
      refine hsub w'' (u12.trans (fun b hb => ?_) hu)
      rcases hb with hb | hb
      · exact .inl (.inl (by simp; omega))
      · rcases hmv b hb with h | h
        · exact .inl (.inl (by have := (hob b h).2; simp; omega))
        · exact .inr h
  · have uk : Upd (fun b => w.heap.size + 2 ≤ b ∧ ¬ b = w.heap.size + 2) w1 w2 := ((Upd.refl _ w1).alloc o').grown gr2 (fun k hk => .inl ⟨by have := (hob k hk).1; omega, by have := (hob k hk).1; omega⟩)
    exact ⟨hj1.be.trans (uk.below (fun k hk => hk.1) hj1.le), uk.heap_some hj1.box (fun h => h.2 rfl), hj1.t, Nat.le_trans hj1.le uk.size⟩
  · have hb1 : Below w.heap.size w w1 := hI.be.trans (((Below.refl _ wr).alloc hI.be.size o).trans (hu1.below (fun k hk => by omega) (by have := hI.be.size; simp; omega)))
    exact (hb1.alloc hb1.size o').grown gr2 (by have := hb1.size; simp; omega) (fun k hk => by have := (hob k hk).1; omega)
set_option maxRecDepth 100000 in
set_option maxHeartbeats 8000000 in
theorem roll_any (v1 v2 : Value) (ids : List Int) (g : List Sb) (w : World) (h1 : IntsAt w v1 ids) (h2 : GrpAt w v2 g) (hin : ids.length ≤ 1000000) (hgn : g.length ≤ 1000000) (hs : ∀ x ∈ g, Sm x) (hd : ∀ x ∈ g, DS DIdx x) :
    Calls Tryz.prog 69 #[v1, v2] w fun e w' => ∃ u, e = .returned (.tuple #[u, .bool (rollG ids g).2]) ∧ (∀ w'', Upd (fun b => b < w.heap.size) w' w'' → GrpAt w'' u (rollG ids g).1) ∧ Below w.heap.size w w' := by
  obtain ⟨a1, c1, rfl⟩ := RowAt.form h1
  obtain ⟨a2, c2, rfl⟩ := h2.form
  have hmf : ∀ (fn : Fn) (first cap : Array Value) (w : World), (Instr.makeFunc fn first cap).run Tryz.prog w = .ok (.func fn first cap) w := fun _ _ _ _ => rfl
  obtain ⟨i0, hi, hz0, hz1, hz2⟩ := info_parts Tryz.infoSub
  have Hi := hid hi; have Hz0 := hid hz0; have Hz1 := hid hz1; have Hz2 := hid hz2
  obtain ⟨W0, hW⟩ : ∃ W0 : World, W0 = (((w.alloc (.cells #[.slice a1 ids.length c1] 25)).alloc (.cells #[.slice a2 g.length c2] 47)).alloc (.cells #[.bool true] 4)) := ⟨_, rfl⟩
  have z0 : W0.heap[w.heap.size]? = some (.cells #[.slice a1 ids.length c1] 25 (0, 0)) := by rw [hW]; exact heap_alloc_keep (heap_alloc_keep (heap_alloc_at _ _ rfl) _) _
  have z1 : W0.heap[w.heap.size + 1]? = some (.cells #[.slice a2 g.length c2] 47 (0, 0)) := by rw [hW]; exact heap_alloc_keep (heap_alloc_at _ _ (by simp)) _
  have z2 : W0.heap[w.heap.size + 2]? = some (.cells #[.bool true] 4 (0, 0)) := by rw [hW]; exact heap_alloc_at _ _ (by simp)
  have hb0 : Below w.heap.size w W0 := by rw [hW]; exact ((((Below.refl _ _).alloc (Nat.le_refl _) _).alloc (by simp) _).alloc (by simp; omega) _)
  have hsz : W0.heap.size = w.heap.size + 3 := by rw [hW]; simp
  have FS := shut_ok W0 (w.heap.size + 2) w.heap.size (w.heap.size + 2) (w.heap.size + 1) _ _ ids g.length [] (by omega) (Nat.le_refl _) z0 z1 (by omega) (by omega) (fun w' hw => RowAt.below h1 (hb0.trans (hw.mono (by omega))) (Nat.le_refl _)) ⟨_, _, rfl⟩ hin hgn
  have cG := heap_cell z1 0
  simp at cG
  rw [hW] at cG
  have H1 := hid h1; have H2 := hid h2; have HIN := hid hin; have HGN := hid hgn; have HS := hid hs; have HD := hid hd; have HW := hid hW; have HB0 := hid hb0; have HSZ := hid hsz; have HFS := hid FS; have Z2 := hid z2
  clear hi hz0 hz1 hz2 h1 h2 hin hgn hs hd hW z0 z1 z2 hb0 hsz FS
  go_enter Tryz.func69, Tryz.ntmps69
  go_wp2
  rw [← HW.out]
  go_loopw [8, 14] (fun t8 t14 wr => ∃ i : Nat, t14 = .int .i64 i ∧ i ≤ g.length ∧ RolI w W0 ids g.length t8 i (mapS (mapSub (shut ids g.length)) true (g.take i)).1 (mapS (mapSub (shut ids g.length)) true (g.take i)).2 wr) (fun _ t14 _ => g.length - (intOf t14).toNat)
  case atStart => exact ⟨0, rfl, Nat.zero_le _, ⟨[], rfl, by simp, owns_zero _ _ _ _, by simp⟩, ⟨Below.refl _ _, Z2.out, fun b => Iff.rfl, by rw [HSZ.out]; omega⟩, HB0.out⟩
  case round =>
    obtain ⟨i, rfl, hi, hI⟩ := hrel
    by_cases hlt : i < g.length
    · obtain ⟨x, hx⟩ : ∃ x, g[i]? = some x := ⟨g[i], by simp [hlt]⟩
      obtain ⟨b2, o2, e2, hb2, d1, f1, d2, f2, d3, f3, d4, f4, sb, q0, q1, q2, q3, q4, q5⟩ := H2.out.at hx
      subst e2
      rw [← hI.be.cell (by simpa using hb2)] at q0 q1 q2 q3 q4 q5
      have hlt' : (i : Int) < g.length := by omega
      have hi6 : (i : Int) < 1000000 := by have := HGN.out; omega
      have hstep := mapS_take (φ := mapSub (shut ids g.length)) true g i x hx
      obtain ⟨ys, hys⟩ : ∃ ys, (mapS (mapSub (shut ids g.length)) true (g.take i)).1 = ys := ⟨_, rfl⟩
      obtain ⟨ok, hok⟩ : ∃ ok, (mapS (mapSub (shut ids g.length)) true (g.take i)).2 = ok := ⟨_, rfl⟩
      rw [hys, hok] at hstep hI
      have hmem := List.mem_of_getElem? hx
      have hyl : ys.length = i := by rw [← hys, mapS_len, List.length_take]; omega
      have C := map_any HFS.out _ x ok 0 (fun b => b = w.heap.size + 2) (wr.alloc (.cells #[.bool x.fin, .slice d1 x.sups.length f1, .int .i64 x.k, .slice d2 x.ps.length f2, .slice d3 x.rs.length f3, .slice d4 x.fs.length f4] 46))
        (fun w' hu => sb.below (hI.be.trans (((Below.refl _ _).alloc hI.be.size _).trans (hu.below (B := w.heap.size) (fun k hk => by omega) (by have := hI.be.size; simp; omega)))) (Nat.le_refl _)) (HS.out x hmem).small (HD.out x hmem)
        (HFS.out.keep (n := cnt x + 0) ⟨hI.j.be, hI.j.box, hI.j.t, hI.j.le⟩ ((Upd.refl _ wr).alloc _))
      have HC := hid C; have HI := hid hI; have HST := hid hstep; have HLT := hid hlt; have HYL := hid hyl
      clear C hI hstep hlt hyl hys hok hmem hx hi sb
      go_wp2_with fail
      refine HC.out.mono ?_
      rintro e w1 ⟨ds, rfl, T1, hsub, hj1, hu1, hf1⟩
      obtain ⟨cs, hcl, hc6, hown, hsubs⟩ := HI.out.ex
      obtain ⟨ok2, hok2⟩ : ∃ ok2, (mapSub (shut ids g.length) ok x).2 = ok2 := ⟨_, rfl⟩
      obtain ⟨x2, hx2⟩ : ∃ x2, (mapSub (shut ids g.length) ok x).1 = x2 := ⟨_, rfl⟩
      have hst := HST.out
      rw [hx2] at hsub hst
      rw [hok2] at hj1 hst
      have hT1 : T1 = fun b => b = w.heap.size + 2 := funext fun b => propext (hj1.t b)
      subst hT1
      have hsz1 := hu1.size
      simp at hsz1
      have hsub1 := hsub w1 (Upd.refl _ _)
      have hds := one_S hsub1
      have hown1 : w1.ownsRow (w.heap.size + 3) 46 6 u8 i cs.flatten := ownsRow_upd (hown.alloc _) hu1 (fun b hb e => by have := (hown.lt b hb).1; omega)
      obtain ⟨vs, vp, vr, vf, rfl, k1, k2, k3, k4⟩ := hsub1.ex
      obtain ⟨a5, c5, rfl⟩ := RowAt.form k1
      obtain ⟨a6, c6, rfl⟩ := RowAt.form k2
      obtain ⟨a7, c7, rfl⟩ := RowAt.form k3
      obtain ⟨a8, c8, rfl⟩ := RowAt.form k4
      obtain ⟨ds, hdse⟩ : ∃ ds : List Value, ds = [.bool x2.fin, .slice a5 x2.sups.length c5, .int .i64 x2.k, .slice a6 x2.ps.length c6, .slice a7 x2.rs.length c7, .slice a8 x2.fs.length c8] := ⟨_, rfl⟩
      rw [← hdse] at hsub hds
      have hlen := hds.1
      have HR := hid (row_cells (cs := ds) (heap_alloc_at w1 (.cells ds.toArray 46) rfl))
      have hgn := HGN.out
      have hlt2 := HLT.out
      have hbs := HI.out.be.size
      have HDS := hid hds; have HSUB := hid hsub; have HO1 := hid hown1; have HU1 := hid hu1; have HJ1 := hid hj1; have HSZ1 := hid hsz1; have HST2 := hid hst; have HOW := hid hown; have HSB := hid hsubs; have HC6 := hid hc6; have HCL := hid hcl; have HLN := hid hlen; have HB1 := hid hbs; have HDE := hid hdse
      rw [hdse] at HR
      clear hds hsub hown1 hu1 hj1 hf1 hst hown hsubs hc6 hcl hsub1 k1 k2 k3 k4 hok2 hx2 HC HST q0 q1 q2 q3 q4 q5 cG hdse hlen
      go_wp2_with (at_builtin; refine wpList_append_own2 _ rfl _ _ 47 rfl (w.heap.size + 3) 46 i0 _ 6 112 Tryz.underlying47 Hi.out Hz0.out Hz1.out Hz2.out rfl (by decide) _ _ _ rfl (HO1.out.alloc _) ⟨w1.heap.size, 0, none⟩ 1 1 [.bool x2.fin, .slice a5 x2.sups.length c5, .int .i64 x2.k, .slice a6 x2.ps.length c6, .slice a7 x2.rs.length c7, .slice a8 x2.fs.length c8] rfl rfl HR.out (by rw [← HDE.out]; exact HDS.out.2) (by simp [maxLen]; omega) (by omega) (by have h1 := (HJ1.out).le; have h2 := heap_lt HJ1.out.box; simp; omega) (by decide) ?_)
      intro v2 w2 o2 gr2 mv2
      rw [← HDE.out] at o2
      have O2 := hid o2; have GR2 := hid gr2; have MV2 := hid mv2
      clear o2 gr2 mv2
      go_wp2
      go_roundw
      case rel =>
        refine ⟨i + 1, by go_num, HLT.out, ?_⟩
        rw [HST2.out]
        exact rol_step HI.out HCL.out HC6.out HOW.out HSB.out HYL.out HSUB.out HDS.out.1 HU1.out HJ1.out O2.out GR2.out MV2.out
      case measure => have := HLT.out; simp [intOf]; omega
    · obtain rfl : i = g.length := by omega
      have hlt' : ¬ (g.length : Int) < g.length := by omega
      rw [List.take_length] at hI
      have hb := heap_cell hI.j.box 0
      simp at hb
      have HI := hid hI
      clear hI
      go_wp2
      go_quiet (fail)
      go_wp2
      refine bodyPost_ret (v := .tuple #[u8, .bool (mapS (mapSub (shut ids g.length)) true g).2]) (by simp [results, Tryz.results69, go_sem]) rfl ?_
      refine ⟨u8, rfl, fun w'' hu => ?_, ⟨HI.out.be.os, HI.out.be.tape, HI.out.be.output, HI.out.be.size, HI.out.be.block⟩⟩
      obtain ⟨cs, hcl, hc6, hown, hsubs⟩ := HI.out.ex
      have hu' : Upd (fun b => b < w.heap.size) wr w'' := ⟨hu.os, hu.tape, hu.output, hu.size, hu.block⟩
      have hgl : (rollG ids g).1.length = g.length := mapS_len _ _
      refine ⟨cs, by rw [hgl]; exact hcl, hc6, by rw [hgl]; exact RowAt.of_own (ownsRow_upd hown hu' (fun b hb e => by have := (hown.lt b hb).1; omega)), fun j c x hc hx => hsubs j c x hc hx w'' (hu'.mono fun b _ hb => .inl (by omega))⟩
end
section
open Go.RowKit
def OwnC (B : Bs) (w : World) (v : Value) (l : List UInt8) : Prop := OwnB B w v l ∨ ∃ g fr, v = .slice (some ⟨g, 0, none⟩) l.length l.length ∧ w.heap[g]? = some (.cells (Lib.byteCells l).toArray 5 fr)
theorem OwnC.alloc {B : Bs} {w : World} {v : Value} {l : List UInt8} (h : OwnC B w v l) (o : Obj) : OwnC B (w.alloc o) v l := by
  rcases h with h | ⟨g, fr, rfl, h⟩
  · exact .inl (h.alloc o)
  · exact .inr ⟨g, fr, rfl, heap_alloc_keep h o⟩
theorem OwnC.drew {B : Bs} {w : World} {v : Value} {l : List UInt8} (h : OwnC B w v l) : OwnC B w.drew v l := by
  rcases h with h | ⟨g, fr, rfl, h⟩
  · exact .inl h.drew
  · exact .inr ⟨g, fr, rfl, h⟩
theorem OwnC.form {B : Bs} {w : World} {v : Value} {l : List UInt8} (h : OwnC B w v l) : ∃ ao cap, v = .slice ao l.length cap := by
  rcases h with h | ⟨g, fr, rfl, h⟩
  · exact h.form
  · exact ⟨_, _, rfl⟩
theorem OwnC.add {B : Bs} {w : World} {v : Value} {l : List UInt8} (h : OwnC B w v l) {c : Nat} (hc : w.heap.size ≤ c) : OwnC (B.add c) w v l := by
  rcases h with h | ⟨g, fr, rfl, h⟩
  · exact .inl (h.add (h.lt hc))
  · exact .inr ⟨g, fr, rfl, h⟩
section
variable {B : Bs} {w : World} {v : Value} {l : List UInt8}
theorem full_cells {g : Nat} {fr : Nat × Nat} (h : w.heap[g]? = some (.cells (Lib.byteCells l).toArray 5 fr)) : ∀ j u, (Lib.byteCells l)[j]? = some u → w.cell? ((⟨g, 0, none⟩ : Addr).add j) = some u := fun j u hj => by
  rw [Addr.add_lit, Nat.zero_add, heap_cell h]; simpa using hj
theorem run_ap_str_c (ty : TypeId) (hown : OwnC B w v l) (f : Fit B w) (s : ByteArray) (hs : 0 < s.size) (hb : l.length + s.size ≤ 1000000000) :
    ∃ v' w', (Builtin.append_ #[197, 9] ty #[v, .string s]).run Tryz.prog w = .ok v' w' ∧ OwnB B w' v' (l ++ s.data.toList) ∧ Wr B w w' := by
  rcases hown with h | ⟨g, fr, rfl, h⟩
  · obtain ⟨v', w', h1, h2, h3, _⟩ := run_ap_str (B := B) ty h f s hb
    exact ⟨v', w', h1, h2, h3⟩
  · obtain ⟨i, hi, hz, hsize, hby⟩ := info_parts Tryz.infoU8
    have hlen : (Lib.byteCells l).length = l.length := by simp [Lib.byteCells]
    have hr := Lib.run_append_grow_string (P := Tryz.prog) w 197 9 ty 5 i (.int .u8 0) Tryz.underlying197 Tryz.underlying9 hi hz ⟨g, 0, none⟩ l.length l.length (Lib.byteCells l) (by rw [hsize]; simpa using hlen) (full_cells h) s (by omega) (by omega) (by rw [hby]; exact growslice_fits (by omega) (by omega))
    have hge := grownCap_ge w (l.length + s.size) l.length 5
    have hcm : grownCap w (l.length + s.size) l.length 5 ≤ maxLen := grownCap_le_maxLen w (l.length + s.size) l.length 5 (by unfold maxLen; omega)
    refine ⟨_, _, hr, ⟨⟨?_, .inr ⟨w.heap.size, _, _, ?_, f.le, heap_alloc_new w.drew _, ?_, hcm, ?_, ?_⟩⟩, fun k hk hq => ?_⟩, (Wr.refl B w).drew.alloc (f.on (Wr.refl B w).drew) _⟩
    · simp [Lib.byteCells]
    · rw [List.length_append]; rfl
    · rw [List.length_append]; exact hge
    · have hz1 : (Value.int IntKind.u8 0).cells.size = 1 := rfl
      have hge' := hge
      simp only [Array.size_append, List.size_toArray, size_zeroCells, hz1, hlen, Lib.strCells_length]
      omega
    · simp only [Array.toList_append, List.append_assoc]
      rw [byteCells_append, ← strCells_bytes, ← List.append_assoc, show (l ++ s.data.toList).length * 1 = (Lib.byteCells l ++ Lib.strCells s).length by simp [Lib.byteCells, Lib.strCells_length, List.length_append]]
      exact List.take_left
    · have := f.lt k hq
      simp [Value.ownBlock] at hk; omega
theorem run_ap_row_c (ty : TypeId) (hown : OwnC B w v l) (f : Fit B w) (ad : Addr) (c : Nat) (news : List UInt8) (hne : 0 < news.length) (hc : ∀ j u, (Lib.byteCells news)[j]? = some u → w.cell? (ad.add j) = some u) (hb : l.length + news.length ≤ 1000000000) :
    ∃ v' w', (Builtin.append_ #[197, 197] ty #[v, .slice (some ad) news.length c]).run Tryz.prog w = .ok v' w' ∧ OwnB B w' v' (l ++ news) ∧ Wr B w w' := by
  rcases hown with h | ⟨g, fr, rfl, h⟩
  · obtain ⟨v', w', h1, h2, h3, _⟩ := run_ap_row (B := B) ty h f ad c news hc hb
    exact ⟨v', w', h1, h2, h3⟩
  · obtain ⟨i, hi, hz, hsize, hby⟩ := info_parts Tryz.infoU8
    obtain ⟨v', w', hr, r1, r2⟩ := run_append_arg_grows (P := Tryz.prog) w 197 ty 5 i (.int .u8 0) 1 1 Tryz.underlying197 hi hz hsize hby rfl (by decide) ⟨g, 0, none⟩ l.length l.length (Lib.byteCells l) (by simp [Lib.byteCells]) (full_cells h) ad news.length c (Lib.byteCells news) (by simp [Lib.byteCells]) hc (by omega) (by unfold maxLen; omega) (by omega)
    have hrow : w'.ownsRow w.heap.size 5 1 v' (l ++ news).length (Lib.byteCells (l ++ news)) := by rw [byteCells_append, List.length_append]; exact r1
    refine ⟨v', w', hr, ⟨ownsRow_low hrow f.le, fun k hk hq => by have := (hrow.lt k hk).1; have := f.lt k hq; omega⟩, (Wr.refl B w).next f ⟨r2.os, r2.tape, r2.output, r2.size, fun k hk => r2.block k hk (by simp)⟩⟩
theorem wpList_ap_str_c {ops : Array Oper} {rest : List Oper} {o : Oper} {a : Act} {Q : Exit → Act → World → Prop} (hgd : o.guard = none) (sl x : Operand) (ho : o.op = .call { callee := .builtin .append, args := #[sl, x], argTypes := #[197, 9] })
    (hs : a.eval sl = v) (hown : OwnC B w v l) (s : ByteArray) (hx : a.eval x = .string s) (f : Fit B w) (hs0 : 0 < s.size) (hb : l.length + s.size ≤ 1000000000)
    (h : ∀ v' w', OwnB B w' v' (l ++ s.data.toList) → Wr B w w' → wpList Tryz.prog ops Q rest (a.put o.dst v') w') : wpList Tryz.prog ops Q (o :: rest) a w := by
  refine wpList_plain hgd fun K hK => ?_
  obtain ⟨v', w', hr, h2, h3⟩ := run_ap_str_c (B := B) o.type hown f s hs0 hb
  unfold Oper.wp execOp
  simp only [ho, resolve, invoke, builtin, Sem.run_bind, Sem.run_pure, Result.andThen_ok, List.map_toArray, List.map_cons, List.map_nil, hs, hx, hr]
  exact hK _ _ (h v' w' h2 h3)
theorem step_ap_row_c {ops : Array Oper} {o : Oper} {a : Act} {K : Act → World → Prop} {Q : Exit → Act → World → Prop} {E : Prop} (hg : o.guard = none) (sl x : Operand) (ho : o.op = .call { callee := .builtin .append, args := #[sl, x], argTypes := #[197, 197] })
    (hs : a.eval sl = v) (hown : OwnC B w v l) (ad : Addr) (m c : Nat) (news : List UInt8) (hx : a.eval x = .slice (some ad) m c) (hm : m = news.length) (h0 : 0 < news.length) (hc : ∀ j u, (Lib.byteCells news)[j]? = some u → w.cell? (ad.add j) = some u) (f : Fit B w) (hb : l.length + news.length ≤ 1000000000)
    (hK : ∀ v' w', OwnB B w' v' (l ++ news) → Wr B w w' → K (a.put o.dst v') w') :
    if Region.wanted o (yielded ops a.tmps) = true then Oper.wp Tryz.prog o a w K Q else E := by
  subst hm
  rw [if_pos (by simp [Region.wanted, hg])]
  obtain ⟨v', w', hr, h2, h3⟩ := run_ap_row_c (B := B) o.type hown f ad c news h0 hc hb
  unfold Oper.wp
  simp [execOp, ho, resolve, invoke, builtin, hs, hx, hr, Result.andThen]
  exact hK v' w' h2 h3
theorem run_string (hown : OwnB B w v l) : (convert 197 9 v).run Tryz.prog w = .ok (.string ⟨l.toArray⟩) w := by
  rcases hown.row.2 with ⟨rfl, h0⟩ | ⟨g, cap, cur, rfl, hg⟩
  · have : l = [] := List.eq_nil_of_length_eq_zero h0
    subst this
    exact Lib.run_convert_nil_bytes w 197 9 5 0 Tryz.underlying197 Tryz.underlying5 Tryz.underlying9
  · exact run_convert_bytes_back w 197 9 5 ⟨g, 0, none⟩ cap l Tryz.underlying197 Tryz.underlying5 Tryz.underlying9 (fun j hj => hown.row.cells (g := g) rfl j _ (by simp [Lib.byteCells, hj]))
end
end
end Go.Proofs.YtlcfkfijomnmnaaGreatDoor
