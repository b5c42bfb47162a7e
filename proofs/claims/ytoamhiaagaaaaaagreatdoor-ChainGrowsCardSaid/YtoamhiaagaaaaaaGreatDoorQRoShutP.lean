/- package roll: groups of declared types in memory; alike of two that are the same. -/
import Derived.Test.YtoamhiaagaaaaaaGreatDoorQRoAlikeP
namespace Go.Proofs.YtoamhiaagaaaaaaGreatDoor
open Go.RowKit Go.Shelf

/-- A group in memory: a row of n types, 6 cells each, at a slice. -/
def GrpAt (w : World) (v : Value) (g : List Sb) : Prop := ∃ cs : List (List Value), cs.length = g.length ∧ (∀ c ∈ cs, c.length = 6) ∧ RowAt w 6 v g.length cs.flatten ∧ ∀ (i : Nat) c x, cs[i]? = some c → g[i]? = some x → SubAt w c x
theorem flatten_at {cs : List (List Value)} (h6 : ∀ c ∈ cs, c.length = 6) : ∀ (i : Nat) (c : List Value), cs[i]? = some c → ∀ j, j < 6 → cs.flatten[i * 6 + j]? = c[j]? := by
  induction cs with
  | nil => intro i c h; simp at h
  | cons d cs ih =>
    intro i c h j hj
    cases i with
    | zero =>
      simp at h; subst h
      rw [List.flatten_cons, List.getElem?_append_left (by rw [h6 _ (by simp)]; omega)]; simp
    | succ i =>
      have hd := h6 d (by simp)
      rw [List.flatten_cons, List.getElem?_append_right (by rw [hd, Nat.add_mul]; omega), hd, show (i + 1) * 6 + j - 6 = i * 6 + j by rw [Nat.add_mul]; omega]
      exact ih (fun c hc => h6 c (by simp [hc])) i c (by simpa using h) j hj
theorem GrpAt.nil (w : World) : GrpAt w (.slice none 0 0) [] := ⟨[], rfl, by simp, RowAt.nil w 6, by simp⟩
theorem GrpAt.form {w : World} {v : Value} {g : List Sb} (h : GrpAt w v g) : ∃ ao cap, v = .slice ao g.length cap := by
  obtain ⟨_, _, _, h, _⟩ := h; exact RowAt.form h
theorem GrpAt.keep {w w' : World} {v : Value} {g : List Sb} (h : GrpAt w v g) (hk : ∀ p u, w.cell? p = some u → w'.cell? p = some u) : GrpAt w' v g := by
  obtain ⟨cs, h1, h2, h3, h4⟩ := h
  exact ⟨cs, h1, h2, h3.keep hk, fun i c x hc hx => (h4 i c x hc hx).keep hk⟩
theorem GrpAt.below {w w' : World} {B : Nat} {v : Value} {g : List Sb} (h : GrpAt w v g) (hb : Below B w w') (hB : w.heap.size ≤ B) : GrpAt w' v g :=
  h.keep fun p u hp => by rw [hb.cell (Nat.lt_of_lt_of_le (World.block_lt_of_cell? _ _ hp) hB)]; exact hp
/-- The i-th type's six cells. -/
theorem GrpAt.at {w : World} {ao : Option Addr} {cap : Nat} {g : List Sb} (h : GrpAt w (.slice ao g.length cap) g) {i : Nat} {x : Sb} (hi : g[i]? = some x) : ∃ b off, ao = some ⟨b, off, none⟩ ∧ b < w.heap.size ∧ ∃ a1 c1 a2 c2 a3 c3 a4 c4, SubAt w [.bool x.fin, .slice a1 x.sups.length c1, .int .i64 x.k, .slice a2 x.ps.length c2, .slice a3 x.rs.length c3, .slice a4 x.fs.length c4] x ∧
    w.cell? ⟨b, off + i * 6, none⟩ = some (.bool x.fin) ∧ w.cell? ⟨b, off + i * 6 + 1, none⟩ = some (.slice a1 x.sups.length c1) ∧ w.cell? ⟨b, off + i * 6 + 2, none⟩ = some (.int .i64 x.k) ∧ w.cell? ⟨b, off + i * 6 + 3, none⟩ = some (.slice a2 x.ps.length c2) ∧ w.cell? ⟨b, off + i * 6 + 4, none⟩ = some (.slice a3 x.rs.length c3) ∧ w.cell? ⟨b, off + i * 6 + 5, none⟩ = some (.slice a4 x.fs.length c4) := by
  have hlt := (List.getElem?_eq_some_iff.1 hi).1
  obtain ⟨cs, h1, h2, h3, h4⟩ := h
  obtain ⟨b, off, rfl, hb, _, hc⟩ := RowAt.at h3 (by decide) (by omega)
  obtain ⟨c, hci⟩ : ∃ c, cs[i]? = some c := ⟨cs[i]'(by omega), by simp⟩
  have hs := h4 i c x hci hi
  obtain ⟨vs, vp, vr, vf, rfl, k1, k2, k3, k4⟩ := hs.ex
  obtain ⟨a1, c1, rfl⟩ := RowAt.form k1
  obtain ⟨a2, c2, rfl⟩ := RowAt.form k2
  obtain ⟨a3, c3, rfl⟩ := RowAt.form k3
  obtain ⟨a4, c4, rfl⟩ := RowAt.form k4
  have at' : ∀ j, j < 6 → w.cell? ⟨b, off + i * 6 + j, none⟩ = ([.bool x.fin, .slice a1 x.sups.length c1, .int .i64 x.k, .slice a2 x.ps.length c2, .slice a3 x.rs.length c3, .slice a4 x.fs.length c4] : List Value)[j]? := fun j hj => by
    rw [Nat.add_assoc, hc (i * 6 + j) (by omega)]; exact flatten_at h2 i _ hci j hj
  exact ⟨b, off, rfl, hb, a1, c1, a2, c2, a3, c3, a4, c4, hs, at' 0 (by omega), at' 1 (by omega), at' 2 (by omega), at' 3 (by omega), at' 4 (by omega), at' 5 (by omega)⟩
/-- Types of a size that the walks bear. -/
structure Sm (x : Sb) : Prop where
  small : Small x
  cnt : cnt x ≤ 1000000
  heaps : (heapsOf x).length ≤ 1000000
set_option maxRecDepth 100000 in
set_option maxHeartbeats 4000000 in
theorem equalFunc_any (a b : Value) (g : List Sb) (w : World) (ha : GrpAt w a g) (hb : GrpAt w b g) (hl : g.length ≤ 1000000) (hs : ∀ x ∈ g, Sm x) :
    Calls Tryz.prog 115 #[a, b, .func (.func 116) #[] #[]] w fun e w' => e = .returned (.bool true) ∧ Below w.heap.size w w' := by
  obtain ⟨ao, ca, rfl⟩ := ha.form
  obtain ⟨bo, cb, rfl⟩ := hb.form
  have HA := Lib.hid ha; have HB := Lib.hid hb; have HS := Lib.hid hs; have HL := Lib.hid hl
  clear ha hb hs hl
  go_enter Tryz.func115, Tryz.ntmps115
  go_wp2
  go_loopw [17] (fun t17 wr => ∃ i : Nat, t17 = .int .i64 i ∧ i ≤ g.length ∧ Below w.heap.size w wr) (fun t17 _ => g.length - (intOf t17).toNat)
  case atStart => exact ⟨0, rfl, Nat.zero_le _, Below.refl _ _⟩
  case round =>
    obtain ⟨i, rfl, hi, hbe⟩ := hrel
    by_cases hlt : i < g.length
    · obtain ⟨x, hx⟩ : ∃ x, g[i]? = some x := ⟨g[i], by simp [hlt]⟩
      obtain ⟨b1, o1, e1, _, a1, c1, a2, c2, a3, c3, a4, c4, sa, p0, p1, p2, p3, p4, p5⟩ := (HA.out.below hbe (Nat.le_refl _)).at hx
      obtain ⟨b2, o2, e2, _, d1, f1, d2, f2, d3, f3, d4, f4, sb, q0, q1, q2, q3, q4, q5⟩ := (HB.out.below hbe (Nat.le_refl _)).at hx
      subst e1 e2
      have hlt' : (i : Int) < g.length := by omega
      have hi6 : (i : Int) < 1000000 := by have := HL.out; omega
      have hm := HS.out x (List.mem_of_getElem? hx)
      have SA := Lib.hid sa; have SB := Lib.hid sb; have HM := Lib.hid hm; have HBE := Lib.hid hbe; have HLT := Lib.hid hlt
      clear sa sb hm hbe hlt hx hi
      go_wp2_with fail
      refine (alike1_any _ _ x _ (SA.out.below (((Below.refl _ _).alloc (Nat.le_refl _) _).alloc (by simp) _) (Nat.le_refl _)) (SB.out.below (((Below.refl _ _).alloc (Nat.le_refl _) _).alloc (by simp) _) (Nat.le_refl _)) HM.out.small HM.out.cnt HM.out.heaps).mono ?_
      rintro e w1 ⟨rfl, hb1⟩
      have hb2 : Below w.heap.size w w1 := by
        have h0 : Below w.heap.size w ((wr.alloc (.cells #[.bool x.fin, .slice a1 x.sups.length c1, .int .i64 x.k, .slice a2 x.ps.length c2, .slice a3 x.rs.length c3, .slice a4 x.fs.length c4] 48)).alloc (.cells #[.bool x.fin, .slice d1 x.sups.length f1, .int .i64 x.k, .slice d2 x.ps.length f2, .slice d3 x.rs.length f3, .slice d4 x.fs.length f4] 48)) := (HBE.out.alloc HBE.out.size _).alloc (by have := HBE.out.size; simp; omega) _
        exact h0.trans (hb1.mono h0.size)
      have HB2 := Lib.hid hb2
      clear hb1 hb2 p0 p1 p2 p3 p4 p5 q0 q1 q2 q3 q4 q5
      go_wp2
      go_roundw
      case rel => exact ⟨i + 1, by go_num, HLT.out, HB2.out⟩
      case measure => have := HLT.out; simp [intOf]; omega
    · obtain rfl : i = g.length := by omega
      have hlt' : ¬ (g.length : Int) < g.length := by omega
      go_wp2
      go_ret
      exact ⟨rfl, hbe⟩
set_option maxRecDepth 100000 in
theorem alike_any (a b : Value) (g : List Sb) (w : World) (ha : GrpAt w a g) (hb : GrpAt w b g) (hl : g.length ≤ 1000000) (hs : ∀ x ∈ g, Sm x) :
    Calls Tryz.prog 91 #[a, b] w fun e w' => e = .returned (.bool true) ∧ Below w.heap.size w w' := by
  have HC := Lib.hid (equalFunc_any a b g w ha hb hl hs)
  clear ha hb hl hs
  go_enter Tryz.func91, Tryz.ntmps91
  go_wp2_with fail
  refine HC.out.mono ?_
  rintro e w1 ⟨rfl, hb⟩
  have HB := Lib.hid hb
  clear hb
  go_wp2
  go_ret
  exact ⟨rfl, HB.out⟩
end Go.Proofs.YtoamhiaagaaaaaaGreatDoor

/- package roll: the closure of roll. -/
namespace Go.Proofs.YtoamhiaagaaaaaaGreatDoor
open Go.RowKit

/-- A list of numbers in memory. -/
def IntsAt (w : World) (v : Value) (l : List Int) : Prop := RowAt w 1 v l.length (l.map (Value.int .i64))
theorem IntsAt.at {w : World} {ao : Option Addr} {cap : Nat} {l : List Int} (h : IntsAt w (.slice ao l.length cap) l) {i : Nat} {x : Int} (hi : l[i]? = some x) : ∃ b off, ao = some ⟨b, off, none⟩ ∧ b < w.heap.size ∧ w.cell? ⟨b, off + i, none⟩ = some (.int .i64 x) := by
  have hlt := (List.getElem?_eq_some_iff.1 hi).1
  obtain ⟨b, off, rfl, hb, _, hc⟩ := RowAt.at h (by decide) (by omega)
  exact ⟨b, off, rfl, hb, by rw [hc i (by omega)]; simp [hi]⟩
/-- What the closure of roll gives of a heap type. -/
def shut (ids : List Int) (gn : Nat) (ok : Bool) (h : Hp) : Hp × Bool :=
  if h.k ≠ 13 then (h, ok) else if h.n < ids.length then (⟨15, ids.getD h.n.toNat 0⟩, ok) else (⟨14, h.n - ids.length⟩, ok && decide (h.n - ids.length < gn))
def DIdx (h : Hp) : Prop := h.k = 13 → 0 ≤ h.n ∧ h.n < 4294967296
structure ShutJ (W0 : World) (B bo : Nat) (ok : Bool) (n : Nat) (T : Nat → Prop) (w : World) : Prop where
  be : Below B W0 w
  box : w.heap[bo]? = some (.cells #[.bool ok] 4 (0, 0))
  t : ∀ b, T b ↔ b = bo
  le : B ≤ w.heap.size
theorem upd_swap (W : World) (o o' : Obj) {S : Nat → Prop} (h : S W.heap.size) : Upd S (W.alloc o) (W.alloc o') :=
  ⟨rfl, rfl, rfl, by simp, fun k hk hs => by
    have h1 : k < W.heap.size := by
      have h2 : k ≠ W.heap.size := fun e => hs (by rw [e]; exact h)
      simp at hk; omega
    rw [Below.heap_alloc _ _ _ h1, Below.heap_alloc _ _ _ h1]⟩
set_option maxRecDepth 100000 in
set_option maxHeartbeats 8000000 in
theorem shut_ok (W0 : World) (B bi bo bg : Nat) (vi vg : Value) (ids : List Int) (gn : Nat) (_ : List Value) (_ : B ≤ W0.heap.size) (hbo : B ≤ bo) (hi : W0.heap[bi]? = some (.cells #[vi] 36 (0, 0))) (hg : W0.heap[bg]? = some (.cells #[vg] 38 (0, 0))) (hiB : bi < B) (hgB : bg < B)
    (hv : ∀ w, Below B W0 w → IntsAt w vi ids) (hgv : ∃ ao cap, vg = .slice ao gn cap) (hin : ids.length ≤ 1000000) (hgn : gn ≤ 1000000) :
    FnOk Tryz.prog cellsH DIdx 89 #[.pointer (some ⟨bi, 0, none⟩), .pointer (some ⟨bo, 0, none⟩), .pointer (some ⟨bg, 0, none⟩)] (shut ids gn) (ShutJ W0 B bo) B where
  enter := fun _ _ => rfl
  lt := fun h => ⟨fun b hb => by rw [(h.t b).1 hb]; exact heap_lt h.box, h.le⟩
  keep := fun h u => ⟨h.be.trans (u.below (fun k hk => hk.1) h.le), u.heap_some h.box (fun hk => hk.2 ((h.t _).2 rfl)), h.t, Nat.le_trans h.le u.size⟩
  less := fun h _ => ⟨h.be, h.box, h.t, h.le⟩
  call := by
    intro ok n T w x hd hj
    obtain ⟨ag, cg, rfl⟩ := hgv
    have hints := hv w hj.be
    obtain ⟨ai, ci, rfl⟩ := RowAt.form hints
    obtain ⟨k, m⟩ := x
    rw [show cellsH ⟨k, m⟩ = [.int .i64 k, .int .i64 m] from rfl]
    show Calls Tryz.prog 89 #[.agg #[.int .i64 k, .int .i64 m], .pointer (some ⟨bi, 0, none⟩), .pointer (some ⟨bo, 0, none⟩), .pointer (some ⟨bg, 0, none⟩)] w _
    have zi : w.heap[bi]? = some (.cells #[.slice ai ids.length ci] 36 (0, 0)) := by rw [hj.be.block bi hiB]; exact hi
    have zg : w.heap[bg]? = some (.cells #[.slice ag gn cg] 38 (0, 0)) := by rw [hj.be.block bg hgB]; exact hg
    have zo := hj.box
    obtain ⟨W1, hW⟩ : ∃ W1 : World, W1 = ((w.alloc (.cells #[.int .i64 k, .int .i64 m] 26)).alloc (.cells #[.int .i64 0, .int .i64 0] 26)) := ⟨_, rfl⟩
    have yi : W1.heap[bi]? = some (.cells #[.slice ai ids.length ci] 36 (0, 0)) := by rw [hW]; exact heap_alloc_keep (heap_alloc_keep zi _) _
    have yg : W1.heap[bg]? = some (.cells #[.slice ag gn cg] 38 (0, 0)) := by rw [hW]; exact heap_alloc_keep (heap_alloc_keep zg _) _
    have yo : W1.heap[bo]? = some (.cells #[.bool ok] 4 (0, 0)) := by rw [hW]; exact heap_alloc_keep (heap_alloc_keep zo _) _
    have y0 : W1.heap[w.heap.size]? = some (.cells #[.int .i64 k, .int .i64 m] 26 (0, 0)) := by rw [hW]; exact heap_alloc_keep (heap_alloc_at _ _ rfl) _
    have y1 : W1.heap[w.heap.size + 1]? = some (.cells #[.int .i64 0, .int .i64 0] 26 (0, 0)) := by rw [hW]; exact heap_alloc_at _ _ (by simp)
    have hin' : IntsAt W1 (.slice ai ids.length ci) ids := by rw [hW]; exact RowAt.keep hints fun _ _ h => cell_alloc (cell_alloc h _) _
    have u0 : Upd T w W1 := by rw [hW]; exact ((Upd.refl _ w).alloc _).alloc _
    have cI := heap_cell yi 0; have cG := heap_cell yg 0; have cO := heap_cell yo 0
    have c00 := heap_cell y0 0; have c01 := heap_cell y0 1; have c10 := heap_cell y1 0; have c11 := heap_cell y1 1
    have f1 := fun i => heap_frozen y1 i
    have fO := fun i => heap_frozen yo i
    have hbow := heap_lt zo
    have n0 : ¬ bo = w.heap.size := by omega
    have n0' : ¬ w.heap.size = bo := by omega
    have n1 : ¬ bo = w.heap.size + 1 := by omega
    have n1' : ¬ w.heap.size + 1 = bo := by omega
    have ngo : ¬ bg = bo := by omega
    have ngo' : ¬ bo = bg := by omega
    have nio : ¬ bi = bo := by omega
    have nio' : ¬ bo = bi := by omega
    simp at cI cG cO c00 c01 c10 c11
    -- the end: what was written are the box of what is told, and ok
    have fin : ∀ (ok' : Bool) (W' : World), Upd (fun b => b = bo ∨ b = w.heap.size + 1) W1 W' → W'.heap[bo]? = some (.cells #[.bool ok'] 4 (0, 0)) → ∃ T', ShutJ W0 B bo ok' n T' W' ∧ Upd T w W' ∧ Fresh T w T' := fun ok' W' u hb => by
      have uf : Upd T w W' := u0.trans (S1 := fun b => b = bo ∨ b = w.heap.size + 1) (fun b hb => by
        rcases hb with rfl | rfl
        · exact .inl ((hj.t _).2 rfl)
        · exact .inr (by omega)) u
      exact ⟨T, ⟨hj.be.trans (uf.below (fun b hb => by rw [(hj.t b).1 hb]; exact hbo) hj.le), hb, hj.t, Nat.le_trans hj.le uf.size⟩, uf, Fresh.refl _ _⟩
    have FIN := Lib.hid fin; have HBOW := Lib.hid hbow; have HW := Lib.hid hW; have YO := Lib.hid yo; have HZO := Lib.hid zo; have Y1 := Lib.hid y1; have HIN := Lib.hid hin'; have HD := Lib.hid hd
    clear fin hbow zi zg zo yi yg yo y0 y1 hin' u0 hd hints hi hg hiB hgB hv hj hbo
    rw [hW] at cI cG cO c00 c01 c10 c11
    rw [hW] at f1 fO
    by_cases hk : k = 13
    · subst hk
      obtain ⟨hm0, hm1⟩ := HD.out rfl
      dsimp only at hm0 hm1
      obtain ⟨mi, rfl⟩ : ∃ mi : Nat, m = mi := ⟨m.toNat, by omega⟩
      by_cases hlt : (mi : Int) < ids.length
      · obtain ⟨y, hy⟩ : ∃ y, ids[mi]? = some y := ⟨ids[mi]'(by omega), by simp⟩
        obtain ⟨b1, o1, e1, _, p0⟩ := IntsAt.at HIN.out hy
        subst e1
        rw [HW.out] at p0
        have HY := Lib.hid hy
        clear hy
        go_enter Tryz.func89, Tryz.ntmps89
        go_wp2
        refine bodyPost_ret (v := .agg #[.int .i64 15, .int .i64 y]) (by simp [results, Tryz.results89, go_sem]) rfl ?_
        have hs : shut ids gn ok ⟨13, mi⟩ = (⟨15, y⟩, ok) := by
          unfold shut; rw [if_neg (by simp), if_pos hlt]; simp [HY.out]
        rw [hs]
        have hf := FIN.out ok ((w.alloc (.cells #[.int .i64 13, .int .i64 mi] 26)).alloc (.cells #[.int .i64 15, .int .i64 y] 26)) (by rw [HW.out]; exact upd_swap _ _ _ (.inr (by simp))) (by exact heap_alloc_keep (heap_alloc_keep HZO.out _) _)
        obtain ⟨T', h1, h2, h3⟩ := hf
        exact ⟨T', rfl, h1, h2, h3⟩
      · have hge : ¬ (mi : Int) < ids.length := hlt
        cases ok
        · go_enter Tryz.func89, Tryz.ntmps89
          go_wp2
          refine bodyPost_ret (v := .agg #[.int .i64 14, .int .i64 ((mi : Int) - ids.length)]) (by simp [results, Tryz.results89, go_sem]) rfl ?_
          have hs : shut ids gn false ⟨13, mi⟩ = (⟨14, (mi : Int) - ids.length⟩, false) := by
            unfold shut; rw [if_neg (by simp), if_neg (show ¬ (mi : Int) < ids.length by omega)]; simp
          rw [hs]
          rw [← HW.out]
          have hf := FIN.out false (((W1.setCell ⟨bo, 0, none⟩ (.bool false)).setCell ⟨w.heap.size + 1, 0, none⟩ (.int .i64 14)).setCell ⟨w.heap.size + 1, 1, none⟩ (.int .i64 ((mi : Int) - ids.length))) ((((Upd.refl _ W1).setCell (.inl (.inl rfl)) _).setCell (.inl (.inr rfl)) _).setCell (.inl (.inr rfl)) _) (by have h := heap_set_off (heap_set_off (heap_set_at YO.out 0 (.bool false)) (a := ⟨w.heap.size + 1, 0, none⟩) n1 (.int .i64 14)) (a := ⟨w.heap.size + 1, 1, none⟩) n1 (.int .i64 ((mi : Int) - ids.length)); simpa using h)
          exact ⟨rfl, hf⟩
        · by_cases hgl : (mi : Int) - ids.length < gn
          · go_enter Tryz.func89, Tryz.ntmps89
            go_wp2
            refine bodyPost_ret (v := .agg #[.int .i64 14, .int .i64 ((mi : Int) - ids.length)]) (by simp [results, Tryz.results89, go_sem]) rfl ?_
            have hs : shut ids gn true ⟨13, mi⟩ = (⟨14, (mi : Int) - ids.length⟩, true) := by
              unfold shut; rw [if_neg (by simp), if_neg (show ¬ (mi : Int) < ids.length by omega)]; simp; omega
            rw [hs]
            rw [← HW.out]
            have hf := FIN.out true (((W1.setCell ⟨bo, 0, none⟩ (.bool true)).setCell ⟨w.heap.size + 1, 0, none⟩ (.int .i64 14)).setCell ⟨w.heap.size + 1, 1, none⟩ (.int .i64 ((mi : Int) - ids.length))) ((((Upd.refl _ W1).setCell (.inl (.inl rfl)) _).setCell (.inl (.inr rfl)) _).setCell (.inl (.inr rfl)) _) (by have h := heap_set_off (heap_set_off (heap_set_at YO.out 0 (.bool true)) (a := ⟨w.heap.size + 1, 0, none⟩) n1 (.int .i64 14)) (a := ⟨w.heap.size + 1, 1, none⟩) n1 (.int .i64 ((mi : Int) - ids.length)); simpa using h)
            exact ⟨rfl, hf⟩
          · go_enter Tryz.func89, Tryz.ntmps89
            go_wp2
            refine bodyPost_ret (v := .agg #[.int .i64 14, .int .i64 ((mi : Int) - ids.length)]) (by simp [results, Tryz.results89, go_sem]) rfl ?_
            have hs : shut ids gn true ⟨13, mi⟩ = (⟨14, (mi : Int) - ids.length⟩, false) := by
              unfold shut; rw [if_neg (by simp), if_neg (show ¬ (mi : Int) < ids.length by omega)]; simp; omega
            rw [hs]
            rw [← HW.out]
            have hf := FIN.out false (((W1.setCell ⟨bo, 0, none⟩ (.bool false)).setCell ⟨w.heap.size + 1, 0, none⟩ (.int .i64 14)).setCell ⟨w.heap.size + 1, 1, none⟩ (.int .i64 ((mi : Int) - ids.length))) ((((Upd.refl _ W1).setCell (.inl (.inl rfl)) _).setCell (.inl (.inr rfl)) _).setCell (.inl (.inr rfl)) _) (by have h := heap_set_off (heap_set_off (heap_set_at YO.out 0 (.bool false)) (a := ⟨w.heap.size + 1, 0, none⟩) n1 (.int .i64 14)) (a := ⟨w.heap.size + 1, 1, none⟩) n1 (.int .i64 ((mi : Int) - ids.length)); simpa using h)
            exact ⟨rfl, hf⟩
    · have hk' : (k == 13) = false := by simpa using hk
      have hk2 : (k != 13) = true := by simpa using hk
      go_enter Tryz.func89, Tryz.ntmps89
      go_wp2
      refine bodyPost_ret (v := .agg #[.int .i64 k, .int .i64 m]) (by simp [results, Tryz.results89, go_sem]) rfl ?_
      have hs : shut ids gn ok ⟨k, m⟩ = (⟨k, m⟩, ok) := by
        unfold shut; rw [if_pos hk]
      rw [hs]
      have hf := FIN.out ok ((w.alloc (.cells #[.int .i64 k, .int .i64 m] 26)).alloc (.cells #[.int .i64 k, .int .i64 m] 26)) (by rw [HW.out]; exact upd_swap _ _ _ (.inr (by simp))) (by exact heap_alloc_keep (heap_alloc_keep HZO.out _) _)
      obtain ⟨T', h1, h2, h3⟩ := hf
      exact ⟨T', rfl, h1, h2, h3⟩
end Go.Proofs.YtoamhiaagaaaaaaGreatDoor
