import Derived.Test.YtpddbaijnjbfdaaGreatDoorQMaClimbPBd
namespace Go.Proofs.YtpddbaijnjbfdaaGreatDoor
open Lib (hid)
open Go.RowKit Go.Maps Go.WideMaps
theorem keyed_int : Keyed Tryz.prog 3 := int_keyed Tryz.underlying3
theorem zeroUnit (w : World) : (zeroValue 261).run Tryz.prog w = .ok (.agg #[]) w := by kernel_rfl
theorem key_mk (n : Int) (hn : -9223372036854775808 ≤ n ∧ n ≤ 9223372036854775807) : keyOf Tryz.prog 3 (.int .i64 n) = some (.int .i64 n) :=
  keyOf_int_mk Tryz.underlying3 (by simp [Lit.wf, IntKind.min, IntKind.max, IntKind.bits, IntKind.signed]; omega)
theorem has_zs (Z : List Nat) (n : Nat) : Maps.has (setOf (H := Unit) (.agg []) (Z.map fun z : Nat => Lit.int .i64 (z : Int))) (.int .i64 (n : Int)) = Z.contains n := by
  rw [has_setOf _ _ _ (by simp [WideAt.IsKeyLit]), List.any_map]
  induction Z with
  | nil => rfl
  | cons a r ih =>
    rw [List.any_cons, List.contains_cons, ih]
    congr 1
    show decide (IntKind.i64 = IntKind.i64 ∧ (a : Int) = (n : Int)) = (n == a)
    by_cases e : a = n
    · subst e; simp
    · have e' : ¬ n = a := fun h => e h.symm
      have e2 : ¬ (a : Int) = (n : Int) := by omega
      simp [e', e2]
def SeenAt (w : World) (B id : Nat) (v : Value) (Z : List Nat) : Prop :=
  (v = .map none ∧ Z = [id]) ∨ ∃ M, v = .map (some M) ∧ B ≤ M ∧ w.ownsMap Tryz.prog 3 (unitElem (H := Unit)) M Z.length (setOf (H := Unit) (.agg []) (Z.map fun z : Nat => Lit.int .i64 (z : Int)))
structure ClW (W0 : World) (B : Nat) (ts : List Sb) (b : Hp) (id : Nat) (T Z : List Nat) (at? : Option Nat) (t7 t8 : Value) (wr : World) : Prop where
  be : Below B W0 wr
  row : wr.ownsRow B 3 1 t7 T.length (T.map fun z : Nat => Value.int .i64 (z : Int))
  seen : SeenAt wr B id t8 Z
  p : ClP ts b id T Z at?
theorem SeenAt.below {w w' : World} {B id : Nat} {v : Value} {Z : List Nat} (h : SeenAt w B id v Z) (hb : Below w.heap.size w w') : SeenAt w' B id v Z := by
  rcases h with h | ⟨M, e, hM, D, c, h1, h2⟩
  · exact .inl h
  · exact .inr ⟨M, e, hM, D, c, by rw [hb.block M (heap_lt h1)]; exact h1, h2⟩
theorem ownsRow_below {w w' : World} {B : Nat} {e : TypeId} {size n : Nat} {v : Value} {xs : List Value} (h : w.ownsRow B e size v n xs) (hb : Below w.heap.size w w') : w'.ownsRow B e size v n xs :=
  ownsRow_upd h (Upd.of_below hb : Upd (fun _ => False) w w') (fun _ _ h => h)
theorem ClW.below {W0 wr w' : World} {B : Nat} {ts : List Sb} {b : Hp} {id : Nat} {T Z : List Nat} {a : Option Nat} {t7 t8 : Value} (h : ClW W0 B ts b id T Z a t7 t8 wr) (hB : B ≤ wr.heap.size) (hb : Below wr.heap.size wr w') : ClW W0 B ts b id T Z a t7 t8 w' :=
  ⟨h.be.trans (hb.mono hB), ownsRow_below h.row hb, h.seen.below hb, h.p⟩
theorem SubAt.sups {w : World} {a b : Value} {r : List Value} {y : Sb} (h : SubAt w (a :: b :: r) y) : HpsAt w b y.sups := by
  obtain ⟨vs, vp, vr, vf, e, h1, _⟩ := h.ex
  simp only [List.cons.injEq] at e
  rw [e.2.1]; exact h1
theorem SubAt.out {w : World} {ds : List Value} {y : Sb} (h : SubAt w ds y) : ∃ a1 c1 a2 c2 a3 c3 a4 c4, ds = [.bool y.fin, .slice a1 y.sups.length c1, .int .i64 y.k, .slice a2 y.ps.length c2, .slice a3 y.rs.length c3, .slice a4 y.fs.length c4] := by
  obtain ⟨vs, vp, vr, vf, rfl, k1, k2, k3, k4⟩ := h.ex
  obtain ⟨a1, c1, rfl⟩ := RowAt.form k1
  obtain ⟨a2, c2, rfl⟩ := RowAt.form k2
  obtain ⟨a3, c3, rfl⟩ := RowAt.form k3
  obtain ⟨a4, c4, rfl⟩ := RowAt.form k4
  exact ⟨a1, c1, a2, c2, a3, c3, a4, c4, rfl⟩
theorem TypC.cnt_len {gs : List (List Sb)} (hok : TabOk gs) {y : Sb} (hy : y ∈ tabL gs) : y.sups.length ≤ 1000000 := by
  obtain ⟨id, hid⟩ := List.getElem?_of_mem hy
  obtain ⟨j, k, g, x, h1, _, _, _, h2, rfl⟩ := tabL_loc hid
  have := ((hok.good g (List.mem_of_getElem? h1)).sm x (List.mem_of_getElem? h2)).small.sups
  simpa [mapP] using this
structure ClJ (W0 : World) (B : Nat) (ts : List Sb) (b : Hp) (id z : Nat) (y : Sb) (N : Nat) (w1 : World) (i : Nat) (T Z : List Nat) (t7 t8 : Value) (wr : World) : Prop where
  cl : ClW W0 B ts b id T Z (some z) t7 t8 wr
  met : ∀ h ∈ y.sups.take i, ∀ k : Nat, h.n = (k : Int) → k ∈ Z
  zin : z ∈ Z
  up : Upd (fun c => c < N) w1 wr
  k7 : ∀ c, t7.ownBlock = some c → c < N ∨ w1.heap.size ≤ c
  k8 : ∀ M, t8 = .map (some M) → M < N ∨ w1.heap.size ≤ M
section
theorem ownsMap_below {w w' : World} {M n : Nat} {D : DataW Unit} (h : w.ownsMap Tryz.prog 3 (unitElem (H := Unit)) M n D) (hb : Below w.heap.size w w') : w'.ownsMap Tryz.prog 3 (unitElem (H := Unit)) M n D := by
  obtain ⟨es, c, h1, h2⟩ := h
  exact ⟨es, c, by rw [hb.block M (heap_lt h1)]; exact h1, h2⟩
theorem met_next {y : Sb} {i m : Nat} {Z : List Nat} (hm : ∀ h ∈ y.sups.take i, ∀ k : Nat, h.n = (k : Int) → k ∈ Z) (hh : y.sups[i]? = some ⟨15, m⟩) (hin : m ∈ Z) : ∀ h ∈ y.sups.take (i + 1), ∀ k : Nat, h.n = (k : Int) → k ∈ Z := fun h hmem k hk => by
  rw [List.take_add_one, hh] at hmem
  simp at hmem
  rcases hmem with hmem | rfl
  · exact hm h hmem k hk
  · dsimp only at hk
    have : m = k := by omega
    rw [← this]; exact hin
variable {W0 w1 wr w6 : World} {B id z N i m : Nat} {ts : List Sb} {b : Hp} {y : Sb} {T Z : List Nat} {t7 t8 : Value}
theorem ClJ.skip (h : ClJ W0 B ts b id z y N w1 i T Z t7 t8 wr) (hB : B ≤ wr.heap.size) (hh : y.sups[i]? = some ⟨15, m⟩) (hin : m ∈ Z) {M : Nat} (hb : Below wr.heap.size wr w6) (hm6 : w6.ownsMap Tryz.prog 3 (unitElem (H := Unit)) M Z.length (setOf (H := Unit) (.agg []) (Z.map fun z : Nat => Lit.int .i64 (z : Int)))) (hMB : B ≤ M) (hM : M < N ∨ w1.heap.size ≤ M) :
    ClJ W0 B ts b id z y N w1 (i + 1) T Z t7 (.map (some M)) w6 :=
  ⟨⟨h.cl.be.trans (hb.mono hB), ownsRow_below h.cl.row hb, .inr ⟨M, rfl, hMB, hm6⟩, h.cl.p⟩, met_next h.met hh hin, h.zin, h.up.trans' (Upd.of_below hb), h.k7, fun M' e => by cases e; exact hM⟩
theorem ClJ.push (h : ClJ W0 B ts b id z y N w1 i T Z t7 t8 wr) (hB : B ≤ wr.heap.size) (hh : y.sups[i]? = some ⟨15, m⟩) (hin : m ∉ Z) (hy : ts[z]? = some y) (hc : Clo ts) {M : Nat} (hb : Below wr.heap.size wr w6) (hm6 : w6.ownsMap Tryz.prog 3 (unitElem (H := Unit)) M Z.length (setOf (H := Unit) (.agg []) (Z.map fun z : Nat => Lit.int .i64 (z : Int)))) (hMB : B ≤ M) (hM : M < N ∨ w1.heap.size ≤ M)
    {w7 w8 : World} {o : Obj} {t7' : Value} (hm7 : w7.ownsMap Tryz.prog 3 (unitElem (H := Unit)) M (Z.length + 1) ((setOf (H := Unit) (.agg []) (Z.map fun z : Nat => Lit.int .i64 (z : Int))).put (.int .i64 (m : Int)) (.agg []))) (g7 : w6.grownBy w7 (some M))
    (o8 : w8.ownsRow B 3 1 t7' (T.length + 1) ((T.map fun z : Nat => Value.int .i64 (z : Int)) ++ [.int .i64 m])) (g8 : (w7.alloc o).grownBy w8 t7.ownBlock) (mv : MovedUp (w7.alloc o) t7 t7') :
    ClJ W0 B ts b id z y N w1 (i + 1) (T ++ [m]) (Z ++ [m]) t7' (.map (some M)) w8 := by
  have r6 := ownsRow_below h.cl.row hb
  obtain ⟨es, ck, hmb, _⟩ := hm6
  have hne : ∀ c, t7.ownBlock = some c → c ≠ M := fun c hc e => row_ne_map r6 hmb (by rw [hc, e])
  have be6 : Below B W0 w6 := h.cl.be.trans (hb.mono hB)
  have hB6 : B ≤ w6.heap.size := Nat.le_trans hB hb.size
  have u67 : Upd (fun c => c = M) w6 w7 := (Upd.refl _ _).grown g7 (fun k hk => by cases hk; exact .inl rfl)
  have be7 : Below B W0 w7 := be6.trans (u67.below (fun k hk => by subst hk; exact hMB) hB6)
  have hown7 : ∀ c, t7.ownBlock = some c → B ≤ c := fun c hc => (r6.lt c hc).1
  have u78 : Upd (fun c => t7.ownBlock = some c) w7 w8 := ((Upd.refl _ w7).alloc o).grown g8 (fun k hk => .inl hk)
  have be8 : Below B W0 w8 := be7.trans (u78.below (fun k hk => hown7 k hk) (Nat.le_trans hB6 u67.size))
  have hs1 : w1.heap.size ≤ wr.heap.size := h.up.size
  refine ⟨⟨be8, by simpa using o8, .inr ⟨M, rfl, hMB, ?_⟩, ?_⟩, met_next (fun h' hh' k hk => by simp; exact .inl (h.met h' hh' k hk)) hh (by simp), by simp [h.zin], ?_, fun c hc => ?_, fun M' e => by cases e; exact hM⟩
  · rw [List.map_append, List.map_singleton, setOf_snoc, List.length_append, List.length_singleton]
    obtain ⟨es7, c7, hb7, h7⟩ := hm7
    refine ⟨es7, c7, ?_, h7⟩
    rw [u78.block M (heap_lt hb7) (fun e => hne M e rfl)]; exact hb7
  · exact h.cl.p.push h.zin hy (List.mem_of_getElem? hh) rfl hc hin
  · refine (((h.up.trans' (Upd.of_below hb)).trans (S1 := fun c => c = M) (fun k hk => ?_) u67).trans (S1 := fun c => t7.ownBlock = some c) (fun k hk => ?_) u78)
    · subst hk; exact hM
    · exact h.k7 k hk
  · rcases mv with e | e
    · rw [e] at hc; exact h.k7 c hc
    · have h1 := e c hc
      simp at h1
      have h2 := u67.size; have h3 := hb.size
      exact .inr (by omega)
end
set_option maxRecDepth 100000 in
set_option maxHeartbeats 16000000 in
theorem climbs_any {S R : Nat → Prop} {t : Nat} {gs : List (List Sb)} (w : World) (ht : TabK S R w t gs) (id : Nat) (hid : id < total gs) (b : Hp) (r : Bool) (hr : r = true ↔ ClimbP (tabL gs) id b) :
    Calls Tryz.prog 140 #[.pointer (some ⟨t, 0, none⟩), .int .i64 id, .agg #[.int .i64 b.k, .int .i64 b.n]] w fun e w' => e = .returned (.bool r) ∧ Below w.heap.size w w' := by
  obtain ⟨bk, bn⟩ := b
  dsimp only
  obtain ⟨W0, hW⟩ : ∃ W0 : World, W0 = w.alloc (.cells #[.int .i64 bk, .int .i64 bn] 75) := ⟨_, rfl⟩
  have hB : Below w.heap.size w W0 := by rw [hW]; exact (Below.refl _ _).alloc (by simp) _
  have hsz : W0.heap.size = w.heap.size + 1 := by rw [hW]; simp
  have z0 : W0.heap[w.heap.size]? = some (.cells #[.int .i64 bk, .int .i64 bn] 75 (0, 0)) := by rw [hW]; exact heap_alloc_at _ _ rfl
  have htl := ht.ok.total
  have hcl := ht.c.clo
  have hC0 : ClW W0 (w.heap.size + 1) (tabL gs) ⟨bk, bn⟩ id [id] [id] none (.slice (some ⟨w.heap.size + 1, 0, none⟩) 1 1) (.map none) (W0.alloc (.cells #[.int .i64 id] 3)) := by
    rw [← hsz]
    refine ⟨(Below.refl _ _).alloc (Nat.le_refl _) _, ⟨rfl, .inr ⟨_, 1, #[.int .i64 id], rfl, Nat.le_refl _, heap_alloc_at _ _ rfl, Nat.le_refl _, by unfold maxLen; omega, rfl, rfl⟩⟩, .inl ⟨rfl, rfl⟩, ClP.start (by rw [tabL_len]; exact hid)⟩
  have HW := Lib.hid hW; have HB := Lib.hid hB; have Z0 := Lib.hid z0; have HT := Lib.hid (ht.below hB); have HR := Lib.hid hr; have HC0 := Lib.hid hC0; have HCL := Lib.hid hcl; have HTO := Lib.hid ht.ok; have HID := Lib.hid hid; have HTL := Lib.hid htl; have HSZ := Lib.hid hsz
  clear hB z0 ht hr hC0 hcl hsz hid htl
  obtain ⟨i0, hi, hz0, hz1, hz2⟩ := info_parts Tryz.infoInt
  have Hi := Lib.hid hi; have Hz0 := Lib.hid hz0; have Hz1 := Lib.hid hz1; have Hz2 := Lib.hid hz2
  clear hi hz0 hz1 hz2
  have qT : ∀ (w : World) (r : Option Nat), (binOp .eql 260 (.map r) (.map none)).run Tryz.prog w = .ok (.bool r.isNone) w := fun w r => run_eql_map_nil w _ _ _ r Tryz.underlying260
  have hmm := @run_makeMap Tryz.prog
  go_enter Tryz.func140, Tryz.ntmps140
  go_wp2
  rw [← hW]
  clear hW
  go_loopg [7, 8] (2 * (total gs + 1) + 1) (fun k t7 t8 wr => ∃ T Z : List Nat, 2 * (total gs + 1 - Z.length) + T.length ≤ k ∧ ClW W0 (w.heap.size + 1) (tabL gs) ⟨bk, bn⟩ id T Z none t7 t8 wr)
  case atStart => exact ⟨[id], [id], by simp; omega, HC0.out⟩
  case round =>
    obtain ⟨T, Z, hk, hI⟩ := hrel
    obtain ⟨w5, rfl⟩ : ∃ w5 : World, w5 = wr := ⟨_, rfl⟩
    have hsw : w.heap.size + 1 ≤ w5.heap.size := by have := hI.be.size; have := HSZ.out; omega
    have hBw : Below w.heap.size w w5 := HB.out.trans (hI.be.mono (Nat.le_succ _))
    rcases List.eq_nil_or_concat T with rfl | ⟨T0, z, hTz⟩
    · obtain ⟨ao, co, rfl, _⟩ := ownsRow_form hI.row
      have hno := hI.p.none
      have hr0 : r = false := by
        cases r
        · rfl
        · exact absurd (HR.out.1 rfl) hno
      subst hr0
      have HBE := Lib.hid hBw
      clear hI hk hno hBw hsw
      go_wp2
      go_ret
      exact ⟨rfl, HBE.out⟩
    · rw [List.concat_eq_append] at hTz
      subst hTz
      obtain ⟨n, hn⟩ : ∃ n, T0.length = n := ⟨_, rfl⟩
      have hl : (T0 ++ [z]).length = n + 1 := by simp [hn]
      have row := hI.row
      rw [hl] at row hk
      obtain ⟨g, cap, cur, rfl, hgb, hnc, hcm, hcell⟩ := ownsRow_some row (by omega)
      have c7 : w5.cell? ⟨g, n, none⟩ = some (.int .i64 z) := by rw [hcell n (by omega), List.getElem?_map, ← hn]; simp
      have row0 := ownsRow_take row n (by omega)
      have hI1 : ClW W0 (w.heap.size + 1) (tabL gs) ⟨bk, bn⟩ id T0 Z (some z) (.slice (some ⟨g, 0, none⟩) n cap) u8 w5 := by
        refine ⟨hI.be, ?_, hI.seen, hI.p.pop⟩
        rw [hn]
        have : ((T0 ++ [z]).map fun z : Nat => Value.int .i64 (z : Int)).take (n * 1) = T0.map fun z : Nat => Value.int .i64 (z : Int) := by
          rw [Nat.mul_one, List.map_append, List.take_append_of_le_length (by simp [hn]), List.take_of_length_le (by simp [hn])]
        rw [← this]; exact row0
      have hzin : z ∈ Z := hI.p.sub z (by simp)
      have hzl : z < total gs := by have := hI.p.lt z hzin; rwa [tabL_len] at this
      obtain ⟨y, hy⟩ : ∃ y, (tabL gs)[z]? = some y := ⟨(tabL gs)[z]'(by rw [tabL_len]; exact hzl), by simp⟩
      have zb := (hI.be.block _ (by have := heap_lt Z0.out; omega)).trans Z0.out
      have c0 := heap_cell zb 0; have c1 := heap_cell zb 1
      simp at c0 c1
      have hub := hI.p.up z hzin
      unfold maxLen at hcm
      have hgl : g < w5.heap.size := heap_lt hgb
      have HK := Lib.hid hk; have HN := Lib.hid hn; have HI1 := Lib.hid hI1; have HZIN := Lib.hid hzin; have HY := Lib.hid hy; have HUB := Lib.hid hub; have HBW := Lib.hid hBw; have HSW := Lib.hid hsw; have ZB := Lib.hid zb; have HGL := Lib.hid hgl
      clear hI hk row hcell row0 hI1 hzin hy hub hBw hsw zb hgb hl hn hgl
      by_cases hbk : bk = 15
      · subst hbk
        by_cases hbn : bn = (z : Int)
        · subst hbn
          have hr1 : r = true := HR.out.2 ⟨z, HUB.out, .inl ⟨rfl, rfl⟩⟩
          subst hr1
          go_wp2
          go_ret
          exact ⟨rfl, HBW.out⟩
        · have hbn' : (bn == (z : Int)) = false := by simpa using hbn
          have HBN := Lib.hid hbn
          clear hbn
          go_wp2_with fail
          refine (get_k (HT.out.below (HI1.out.be.mono (by have := HSZ.out; omega))) HY.out).mono ?_
          rintro e w1 ⟨ds, rfl, hsub, hb1⟩
          obtain ⟨a1, l1, a2, l2, a3, l3, a4, l4, rfl⟩ := (hsub w1 (Upd.refl _ _)).out
          obtain ⟨W2, hW2⟩ : ∃ W2, W2 = w1.alloc (.cells #[.bool y.fin, .slice a1 y.sups.length l1, .int .i64 y.k, .slice a2 y.ps.length l2, .slice a3 y.rs.length l3, .slice a4 y.fs.length l4] 46) := ⟨_, rfl⟩
          have hbe2 : Below w5.heap.size w5 W2 := by rw [hW2]; exact hb1.alloc hb1.size _
          have y0 : W2.heap[w1.heap.size]? = some (.cells #[.bool y.fin, .slice a1 y.sups.length l1, .int .i64 y.k, .slice a2 y.ps.length l2, .slice a3 y.rs.length l3, .slice a4 y.fs.length l4] 46 (0, 0)) := by rw [hW2]; exact heap_alloc_at _ _ rfl
          have b0 : W2.heap[w.heap.size]? = some (.cells #[.int .i64 15, .int .i64 bn] 75 (0, 0)) := (hbe2.block _ (by have := HSW.out; omega)).trans ZB.out
          have u12 : Upd (fun c => c < w5.heap.size) w1 W2 := by rw [hW2]; exact (Upd.refl _ _).alloc _
          have hI2 := HI1.out.below HSW.out hbe2
          have HSUB := Lib.hid hsub; have HB1 := Lib.hid hb1; have HBE2 := Lib.hid hbe2; have Y0 := Lib.hid y0; have B0 := Lib.hid b0; have U12 := Lib.hid u12; have HI2 := Lib.hid hI2; have HW2 := Lib.hid hW2
          clear hsub hb1 hbe2 u12 hI2 hW2 c0 c1
          have d0 := heap_cell b0 0; have d1 := heap_cell b0 1
          have s0 := heap_cell y0 0; have s1 := heap_cell y0 1; have s2 := heap_cell y0 2; have s3 := heap_cell y0 3; have s4 := heap_cell y0 4; have s5 := heap_cell y0 5
          simp at d0 d1 s0 s1 s2 s3 s4 s5
          rw [HW2.out] at d0 d1 s0 s1 s2 s3 s4 s5
          clear y0 b0
          go_wp2
          go_quiet (fail)
          go_wp2
          rw [← HW2.out]
          clear d0 d1 s0 s1 s2 s3 s4 s5
          have hnh : ¬ Hits (tabL gs) ⟨15, bn⟩ z := by
            rintro (⟨_, h⟩ | ⟨h, _⟩)
            · exact HBN.out h
            · exact h rfl
          have HNH := Lib.hid hnh
          have hx3 : Below W2.heap.size W2 (W2.drewN nq) := ⟨rfl, rfl, rfl, Nat.le_refl _, fun _ _ => rfl⟩
          clear hnh
          have hI3 := HI2.out.below (Nat.le_trans HSW.out HBE2.out.size) hx3
          have hJ0 : ClJ W0 (w.heap.size + 1) (tabL gs) ⟨15, bn⟩ id z y w5.heap.size w1 0 T0 Z (.slice (some ⟨g, 0, none⟩) n cap) u8 (W2.drewN nq) := by
            refine ⟨hI3, fun h hh => by simp at hh, HZIN.out, U12.out.trans' (Upd.of_below hx3), fun c hc => ?_, fun M hM => ?_⟩
            · simp [Value.ownBlock] at hc
              have := HGL.out
              exact .inl (by omega)
            · rcases HI1.out.seen with ⟨e, _⟩ | ⟨M', e, _, hm⟩
              · rw [e] at hM; cases hM
              · rw [e] at hM; cases hM
                exact .inl hm.lt
          have HJ0 := Lib.hid hJ0; have HX3 := Lib.hid hx3
          clear hI3 hJ0 hx3
          go_loopw [7, 8, 60] (fun t7 t8 t60 wr => ∃ (T' Z' : List Nat) (i : Nat), t60 = .int .i64 i ∧ i ≤ y.sups.length ∧ 2 * (total gs + 1 - Z'.length) + T'.length < gk ∧ ClJ W0 (w.heap.size + 1) (tabL gs) ⟨15, bn⟩ id z y w5.heap.size w1 i T' Z' t7 t8 wr) (fun _ _ t60 _ => y.sups.length - (intOf t60).toNat)
          case atStart => exact ⟨T0, Z, 0, rfl, Nat.zero_le _, by have h1 := HK.out; have h2 := HN.out; omega, HJ0.out⟩
          case round =>
            obtain ⟨T', Z', i, rfl, hi, hk2, hJ⟩ := hrel
            have HK2 := Lib.hid hk2
            clear hk2
            by_cases hlt : i < y.sups.length
            · obtain ⟨⟨hk, hn⟩, hh⟩ : ∃ h, y.sups[i]? = some h := ⟨y.sups[i], by simp [hlt]⟩
              have hymem := List.mem_of_getElem? HY.out
              obtain ⟨hk15, hn0, hnl⟩ := (HCL.out y hymem).sups _ (List.mem_of_getElem? hh)
              dsimp only at hk15 hn0 hnl
              subst hk15
              rw [tabL_len] at hnl
              obtain ⟨m, rfl⟩ : ∃ m : Nat, hn = m := ⟨hn.toNat, by omega⟩
              have hm : m < total gs := by omega
              have hrow := SubAt.sups (HSUB.out wr hJ.up)
              obtain ⟨sb, so, e1, _, p0, p1⟩ := hps_at hrow hh
              subst e1
              dsimp only at p0 p1
              have zb := (hJ.cl.be.block _ (by have := heap_lt Z0.out; have := HSZ.out; omega)).trans Z0.out
              have f0 := heap_cell zb 0; have f1 := heap_cell zb 1
              simp at f0 f1
              have f0' := cell_alloc f0 (.cells #[.int .i64 15, .int .i64 m] 75); have f1' := cell_alloc f1 (.cells #[.int .i64 15, .int .i64 m] 75)
              have hlt' : (i : Int) < y.sups.length := by omega
              have hi6 : (i : Int) < 1000000 := by have := TypC.cnt_len HTO.out hymem; omega
              have hup : UpTo (tabL gs) id m := HUB.out.step HY.out (List.mem_of_getElem? hh) rfl
              have hsw3 : w.heap.size + 1 ≤ wr.heap.size := by have := hJ.cl.be.size; have := HSZ.out; omega
              have HZIN3 := Lib.hid hJ.zin; have HJ := Lib.hid hJ; have HLT := Lib.hid hlt; have HH := Lib.hid hh; have HM := Lib.hid hm; have HUP := Lib.hid hup; have HSW3 := Lib.hid hsw3; have ZB3 := Lib.hid zb; have HYM := Lib.hid hymem
              clear hJ hlt hh hm hup hsw3 zb hymem hn0 hnl hrow f0 f1 hi
              by_cases hmn : (m : Int) = bn
              · subst hmn
                have hr1 : r = true := HR.out.2 ⟨m, HUP.out, .inl ⟨rfl, rfl⟩⟩
                subst hr1
                go_wp2
                go_ret
                exact ⟨rfl, HB.out.trans ((HJ.out.cl.be.alloc HSW3.out _).mono (Nat.le_succ _))⟩
              · have hmn' : ((m : Int) == bn) = false := by simpa using hmn
                have HMN := Lib.hid hmn
                clear hmn
                rcases HJ.out.cl.seen with ⟨e8, eZ⟩ | ⟨M, e8, hMB, hm8⟩
                · subst e8
                  have HMK := Lib.hid (World.ownsMap_made (wr.alloc (.cells #[.int .i64 15, .int .i64 m] 75)) Tryz.prog 3 (unitElem (H := Unit)))
                  have HKI := Lib.hid (key_mk id ⟨by omega, by have := HID.out; have := HTL.out; omega⟩)
                  obtain ⟨w6, hrun, hm6, g6⟩ := HMK.out.update keyed_int Tryz.underlying260 (by unfold maxLen; omega) HKI.out unitElem_mk
                  have hq : (wr.alloc (.cells #[.int .i64 15, .int .i64 m] 75)).heap.size = wr.heap.size + 1 := by simp
                  rw [hq] at hrun hm6 g6
                  have hb6 : Below wr.heap.size wr w6 := (((Below.refl _ _).alloc (Nat.le_refl _) _).alloc (by simp) _).grown g6 (by simp; omega) (fun k hk => by cases hk; exact Nat.le_succ _)
                  have zx : w6.heap[wr.heap.size]? = some (.cells #[.int .i64 15, .int .i64 m] 75 (0, 0)) := (g6.block _ (by simp; omega) (by simp)).trans (heap_alloc_keep (heap_alloc_at _ _ rfl) _)
                  have x0 := heap_cell zx 0; have x1 := heap_cell zx 1
                  simp at x0 x1
                  have x0' := cell_alloc x0 (.cells #[] 261); have x1' := cell_alloc x1 (.cells #[] 261)
                  have hMB : w.heap.size + 1 ≤ wr.heap.size + 1 := by have := HSW3.out; omega
                  have hM : wr.heap.size + 1 < w5.heap.size ∨ w1.heap.size ≤ wr.heap.size + 1 := .inr (by have := HJ.out.up.size; omega)
                  have HRUN := Lib.hid hrun; have HM6 := Lib.hid (show w6.ownsMap Tryz.prog 3 (unitElem (H := Unit)) (wr.heap.size + 1) Z'.length (setOf (H := Unit) (.agg []) (Z'.map fun z : Nat => Lit.int .i64 (z : Int))) by rw [eZ]; exact hm6); have HB6 := Lib.hid hb6; have HMB := Lib.hid hMB; have HM8 := Lib.hid hM; have ZX := Lib.hid zx; have HNX := Lib.hid (show wr.heap.size ≠ wr.heap.size + 1 by omega)
                  clear hrun hm6 g6 hq hb6 zx hMB hM eZ
                  go_wp2
                  rw [HRUN.out]
                  dsimp only [Result.andThen, Oper.upon]
                  have HKM := Lib.hid (key_mk m ⟨by omega, by have := HM.out; have := HTL.out; omega⟩)
                  have hbX : Below wr.heap.size wr (World.alloc w6 (.cells #[] 261)) := HB6.out.alloc HB6.out.size _
                  have hmX : (World.alloc w6 (.cells #[] 261)).ownsMap Tryz.prog 3 (unitElem (H := Unit)) (wr.heap.size + 1) Z'.length (setOf (H := Unit) (.agg []) (Z'.map fun z : Nat => Lit.int .i64 (z : Int))) := ownsMap_below HM6.out ((Below.refl _ _).alloc (Nat.le_refl _) _)
                  have HBX := Lib.hid hbX; have HMX := Lib.hid hmX
                  clear hbX hmX
                  by_cases hin : m ∈ Z'
                  · have hh1 : Maps.has (setOf (H := Unit) (.agg []) (Z'.map fun z : Nat => Lit.int .i64 (z : Int))) (.int .i64 (m : Int)) = true := by rw [has_zs]; simpa using hin
                    have HHAS := Lib.hid hh1; have HIN := Lib.hid hin
                    clear hh1 hin
                    go_wp2_with (at_lookup; refine wpList_lookup_own_unit _ rfl _ _ 260 rfl 3 261 keyed_int Tryz.underlying260 (zeroUnit _) (wr.heap.size + 1) Z'.length _ rfl HM6.out _ _ rfl HKM.out ?_; rw [HHAS.out])
                    go_roundw
                    case rel => exact ⟨T', Z', i + 1, by go_num, HLT.out, HK2.out, HJ.out.skip HSW3.out HH.out HIN.out HBX.out HMX.out HMB.out HM8.out⟩
                    case measure => have := HLT.out; simp [intOf]; omega
                  · have hh1 : Maps.has (setOf (H := Unit) (.agg []) (Z'.map fun z : Nat => Lit.int .i64 (z : Int))) (.int .i64 (m : Int)) = false := by rw [has_zs]; simpa using hin
                    have hzlen : Z'.length ≤ total gs := by have := HJ.out.cl.p.len'; rwa [tabL_len] at this
                    have hzlen2 : Z'.length + 1 ≤ total gs := by
                      have := (HJ.out.cl.p.push HZIN3.out HY.out (List.mem_of_getElem? HH.out) rfl HCL.out hin).len'
                      rw [tabL_len] at this; simpa using this
                    have HHAS := Lib.hid hh1; have HIN := Lib.hid hin; have HZL := Lib.hid hzlen; have HZL2 := Lib.hid hzlen2
                    clear hh1 hin hzlen hzlen2
                    go_wp2_with (first | (at_lookup; refine wpList_lookup_own_unit _ rfl _ _ 260 rfl 3 261 keyed_int Tryz.underlying260 (zeroUnit _) (wr.heap.size + 1) Z'.length _ rfl HM6.out _ _ rfl HKM.out ?_; rw [HHAS.out]) | (at_mapUpdate; refine wpList_mapUpdate_own _ rfl _ _ _ 260 rfl 3 261 keyed_int Tryz.underlying260 (unitElem (H := Unit)) (wr.heap.size + 1) Z'.length _ rfl HMX.out (by have := HZL.out; have := HTL.out; unfold maxLen; omega) _ _ _ rfl rfl HKM.out _ [] unitElem_mk ?_))
                    intro w7 hm7 g7
                    obtain ⟨ao7, cp7, e7, _⟩ := ownsRow_form HJ.out.cl.row
                    subst e7
                    have rX := ownsRow_below HJ.out.cl.row HBX.out
                    have hmb := HMX.out
                    have uX7 : Upd (fun c => c = (wr.heap.size + 1)) (World.alloc w6 (.cells #[] 261)) w7 := (Upd.refl _ _).grown g7 (fun k hk => by cases hk; exact .inl rfl)
                    have r7 : w7.ownsRow (w.heap.size + 1) 3 1 (.slice ao7 T'.length cp7) T'.length (T'.map fun z : Nat => Value.int .i64 (z : Int)) := ownsRow_upd rX uX7 (fun c hc e => by
                      obtain ⟨es, ck, hmb1, _⟩ := hmb
                      exact row_ne_map rX hmb1 (by rw [hc, e]))
                    have zx7 : w7.heap[wr.heap.size]? = some (.cells #[.int .i64 15, .int .i64 m] 75 (0, 0)) := (uX7.block _ (by have := HBX.out.size; simp; have := heap_lt ZX.out; omega) (fun e => HNX.out e)).trans (heap_alloc_keep ZX.out _)
                    have v1 := heap_cell zx7 1
                    simp at v1
                    have hlen7 : T'.length ≤ 10000 := by have h1 := HJ.out.cl.p.tl; have h2 := HZL.out; have h3 := HTL.out; omega
                    have hs7 : w.heap.size + 1 ≤ w7.heap.size := by have h1 := HSW3.out; have h2 := HBX.out.size; have h3 := uX7.size; omega
                    have HM7 := Lib.hid hm7; have G7 := Lib.hid g7; have R7 := Lib.hid r7; have HL7 := Lib.hid hlen7; have HS7 := Lib.hid hs7
                    have HR2 := Lib.hid (row_cells (cs := [.int .i64 (m : Int)]) (heap_alloc_at w7 (.cells #[.int .i64 (m : Int)] 3) rfl))
                    clear hm7 g7 rX hmb uX7 r7 zx7 hlen7 hs7
                    go_wp2_with (at_builtin; refine wpList_append_own2 _ rfl _ _ 23 rfl (w.heap.size + 1) 3 i0 _ 1 8 Tryz.underlying23 Hi.out Hz0.out Hz1.out Hz2.out rfl (by decide) _ _ _ rfl (R7.out.alloc _) ⟨w7.heap.size, 0, none⟩ 1 1 [.int .i64 (m : Int)] rfl rfl HR2.out (by intro u hu; simp at hu; rcases hu with rfl; rfl) (by have := HL7.out; unfold maxLen; omega) (by have := HL7.out; omega) (by have := HS7.out; simp; omega) (by decide) ?_)
                    intro v8 w8 o8 g8 mv8
                    have O8 := Lib.hid o8; have G8 := Lib.hid g8; have MV8 := Lib.hid mv8
                    clear o8 g8 mv8 v1
                    go_wp2
                    go_roundw
                    case rel => exact ⟨T' ++ [m], Z' ++ [m], i + 1, by go_num, HLT.out, by have h1 := HK2.out; have h2 := HZL2.out; simp; omega, HJ.out.push HSW3.out HH.out HIN.out HY.out HCL.out HBX.out HMX.out HMB.out HM8.out HM7.out G7.out O8.out G8.out MV8.out⟩
                    case measure => have := HLT.out; simp [intOf]; omega
                · subst e8
                  have hM : M < w5.heap.size ∨ w1.heap.size ≤ M := HJ.out.k8 M rfl
                  have hb6 : Below wr.heap.size wr (wr.alloc (.cells #[.int .i64 15, .int .i64 m] 75)) := (Below.refl _ _).alloc (Nat.le_refl _) _
                  have hm6 := ownsMap_below hm8 hb6
                  have HM6 := Lib.hid hm6; have HB6 := Lib.hid hb6; have HMB := Lib.hid hMB; have HM8 := Lib.hid hM; have ZX := Lib.hid (show (wr.alloc (.cells #[.int .i64 15, .int .i64 m] 75)).heap[wr.heap.size]? = some (.cells #[.int .i64 15, .int .i64 m] 75 (0, 0)) from heap_alloc_at _ _ rfl); have HNX := Lib.hid (show wr.heap.size ≠ M by have := hm8.lt; omega)
                  clear hm6 hb6 hMB hM hm8
                  have HKM := Lib.hid (key_mk m ⟨by omega, by have := HM.out; have := HTL.out; omega⟩)
                  have hbX : Below wr.heap.size wr (World.alloc (wr.alloc (.cells #[.int .i64 15, .int .i64 m] 75)) (.cells #[] 261)) := HB6.out.alloc HB6.out.size _
                  have hmX : (World.alloc (wr.alloc (.cells #[.int .i64 15, .int .i64 m] 75)) (.cells #[] 261)).ownsMap Tryz.prog 3 (unitElem (H := Unit)) M Z'.length (setOf (H := Unit) (.agg []) (Z'.map fun z : Nat => Lit.int .i64 (z : Int))) := ownsMap_below HM6.out ((Below.refl _ _).alloc (Nat.le_refl _) _)
                  have HBX := Lib.hid hbX; have HMX := Lib.hid hmX
                  clear hbX hmX
                  by_cases hin : m ∈ Z'
                  · have hh1 : Maps.has (setOf (H := Unit) (.agg []) (Z'.map fun z : Nat => Lit.int .i64 (z : Int))) (.int .i64 (m : Int)) = true := by rw [has_zs]; simpa using hin
                    have HHAS := Lib.hid hh1; have HIN := Lib.hid hin
                    clear hh1 hin
                    go_wp2_with (at_lookup; refine wpList_lookup_own_unit _ rfl _ _ 260 rfl 3 261 keyed_int Tryz.underlying260 (zeroUnit _) M Z'.length _ rfl HM6.out _ _ rfl HKM.out ?_; rw [HHAS.out])
                    go_roundw
                    case rel => exact ⟨T', Z', i + 1, by go_num, HLT.out, HK2.out, HJ.out.skip HSW3.out HH.out HIN.out HBX.out HMX.out HMB.out HM8.out⟩
                    case measure => have := HLT.out; simp [intOf]; omega
                  · have hh1 : Maps.has (setOf (H := Unit) (.agg []) (Z'.map fun z : Nat => Lit.int .i64 (z : Int))) (.int .i64 (m : Int)) = false := by rw [has_zs]; simpa using hin
                    have hzlen : Z'.length ≤ total gs := by have := HJ.out.cl.p.len'; rwa [tabL_len] at this
                    have hzlen2 : Z'.length + 1 ≤ total gs := by
                      have := (HJ.out.cl.p.push HZIN3.out HY.out (List.mem_of_getElem? HH.out) rfl HCL.out hin).len'
                      rw [tabL_len] at this; simpa using this
                    have HHAS := Lib.hid hh1; have HIN := Lib.hid hin; have HZL := Lib.hid hzlen; have HZL2 := Lib.hid hzlen2
                    clear hh1 hin hzlen hzlen2
                    go_wp2_with (first | (at_lookup; refine wpList_lookup_own_unit _ rfl _ _ 260 rfl 3 261 keyed_int Tryz.underlying260 (zeroUnit _) M Z'.length _ rfl HM6.out _ _ rfl HKM.out ?_; rw [HHAS.out]) | (at_mapUpdate; refine wpList_mapUpdate_own _ rfl _ _ _ 260 rfl 3 261 keyed_int Tryz.underlying260 (unitElem (H := Unit)) M Z'.length _ rfl HMX.out (by have := HZL.out; have := HTL.out; unfold maxLen; omega) _ _ _ rfl rfl HKM.out _ [] unitElem_mk ?_))
                    intro w7 hm7 g7
                    obtain ⟨ao7, cp7, e7, _⟩ := ownsRow_form HJ.out.cl.row
                    subst e7
                    have rX := ownsRow_below HJ.out.cl.row HBX.out
                    have hmb := HMX.out
                    have uX7 : Upd (fun c => c = M) (World.alloc (wr.alloc (.cells #[.int .i64 15, .int .i64 m] 75)) (.cells #[] 261)) w7 := (Upd.refl _ _).grown g7 (fun k hk => by cases hk; exact .inl rfl)
                    have r7 : w7.ownsRow (w.heap.size + 1) 3 1 (.slice ao7 T'.length cp7) T'.length (T'.map fun z : Nat => Value.int .i64 (z : Int)) := ownsRow_upd rX uX7 (fun c hc e => by
                      obtain ⟨es, ck, hmb1, _⟩ := hmb
                      exact row_ne_map rX hmb1 (by rw [hc, e]))
                    have zx7 : w7.heap[wr.heap.size]? = some (.cells #[.int .i64 15, .int .i64 m] 75 (0, 0)) := (uX7.block _ (by have := HBX.out.size; simp; have := heap_lt ZX.out; omega) (fun e => HNX.out e)).trans (heap_alloc_keep ZX.out _)
                    have v1 := heap_cell zx7 1
                    simp at v1
                    have hlen7 : T'.length ≤ 10000 := by have h1 := HJ.out.cl.p.tl; have h2 := HZL.out; have h3 := HTL.out; omega
                    have hs7 : w.heap.size + 1 ≤ w7.heap.size := by have h1 := HSW3.out; have h2 := HBX.out.size; have h3 := uX7.size; omega
                    have HM7 := Lib.hid hm7; have G7 := Lib.hid g7; have R7 := Lib.hid r7; have HL7 := Lib.hid hlen7; have HS7 := Lib.hid hs7
                    have HR2 := Lib.hid (row_cells (cs := [.int .i64 (m : Int)]) (heap_alloc_at w7 (.cells #[.int .i64 (m : Int)] 3) rfl))
                    clear hm7 g7 rX hmb uX7 r7 zx7 hlen7 hs7
                    go_wp2_with (at_builtin; refine wpList_append_own2 _ rfl _ _ 23 rfl (w.heap.size + 1) 3 i0 _ 1 8 Tryz.underlying23 Hi.out Hz0.out Hz1.out Hz2.out rfl (by decide) _ _ _ rfl (R7.out.alloc _) ⟨w7.heap.size, 0, none⟩ 1 1 [.int .i64 (m : Int)] rfl rfl HR2.out (by intro u hu; simp at hu; rcases hu with rfl; rfl) (by have := HL7.out; unfold maxLen; omega) (by have := HL7.out; omega) (by have := HS7.out; simp; omega) (by decide) ?_)
                    intro v8 w8 o8 g8 mv8
                    have O8 := Lib.hid o8; have G8 := Lib.hid g8; have MV8 := Lib.hid mv8
                    clear o8 g8 mv8 v1
                    go_wp2
                    go_roundw
                    case rel => exact ⟨T' ++ [m], Z' ++ [m], i + 1, by go_num, HLT.out, by have h1 := HK2.out; have h2 := HZL2.out; simp; omega, HJ.out.push HSW3.out HH.out HIN.out HY.out HCL.out HBX.out HMX.out HMB.out HM8.out HM7.out G7.out O8.out G8.out MV8.out⟩
                    case measure => have := HLT.out; simp [intOf]; omega
            · obtain rfl : i = y.sups.length := by omega
              have hlt' : ¬ (y.sups.length : Int) < y.sups.length := by omega
              have hcl := hJ.cl
              have hp := hcl.p.close HY.out HNH.out (by have := hJ.met; rwa [List.take_length] at this)
              have HCL3 := Lib.hid (⟨hcl.be, hcl.row, hcl.seen, hp⟩ : ClW W0 (w.heap.size + 1) (tabL gs) ⟨15, bn⟩ id T' Z' none u7 u8 wr)
              clear hJ hcl hp hi hlt
              go_wp2
              go_roundg (2 * (total gs + 1 - Z'.length) + T'.length)
              case measure => exact HK2.out
              case rel => exact ⟨T', Z', Nat.le_refl _, HCL3.out⟩
      · have hbk' : (bk == 15) = false := by simpa using hbk
        have hbk2 : (bk != 15) = true := by simpa using hbk
        have HBK := Lib.hid hbk
        clear hbk
        go_wp2_with fail
        refine (get_k (HT.out.below (HI1.out.be.mono (by have := HSZ.out; omega))) HY.out).mono ?_
        rintro e w1 ⟨ds, rfl, hsub, hb1⟩
        obtain ⟨a1, l1, a2, l2, a3, l3, a4, l4, rfl⟩ := (hsub w1 (Upd.refl _ _)).out
        obtain ⟨W2, hW2⟩ : ∃ W2, W2 = w1.alloc (.cells #[.bool y.fin, .slice a1 y.sups.length l1, .int .i64 y.k, .slice a2 y.ps.length l2, .slice a3 y.rs.length l3, .slice a4 y.fs.length l4] 46) := ⟨_, rfl⟩
        have hbe2 : Below w5.heap.size w5 W2 := by rw [hW2]; exact hb1.alloc hb1.size _
        have y0 : W2.heap[w1.heap.size]? = some (.cells #[.bool y.fin, .slice a1 y.sups.length l1, .int .i64 y.k, .slice a2 y.ps.length l2, .slice a3 y.rs.length l3, .slice a4 y.fs.length l4] 46 (0, 0)) := by rw [hW2]; exact heap_alloc_at _ _ rfl
        have b0 : W2.heap[w.heap.size]? = some (.cells #[.int .i64 bk, .int .i64 bn] 75 (0, 0)) := (hbe2.block _ (by have := HSW.out; omega)).trans ZB.out
        have u12 : Upd (fun c => c < w5.heap.size) w1 W2 := by rw [hW2]; exact (Upd.refl _ _).alloc _
        have hI2 := HI1.out.below HSW.out hbe2
        have HSUB := Lib.hid hsub; have HB1 := Lib.hid hb1; have HBE2 := Lib.hid hbe2; have Y0 := Lib.hid y0; have B0 := Lib.hid b0; have U12 := Lib.hid u12; have HI2 := Lib.hid hI2; have HW2 := Lib.hid hW2
        clear hsub hb1 hbe2 u12 hI2 hW2 c0 c1
        have d0 : ∀ x : Ext W2, x.val.cell? ⟨w.heap.size, 0, none⟩ = some (.int .i64 bk) := Ext.cells (heap_cell b0 0)
        have s0 : ∀ x : Ext W2, x.val.cell? ⟨w1.heap.size, 0, none⟩ = some (.bool y.fin) := Ext.cells (heap_cell y0 0)
        have s1 : ∀ x : Ext W2, x.val.cell? ⟨w1.heap.size, 1, none⟩ = some (.slice a1 y.sups.length l1) := Ext.cells (heap_cell y0 1)
        have s2 : ∀ x : Ext W2, x.val.cell? ⟨w1.heap.size, 2, none⟩ = some (.int .i64 y.k) := Ext.cells (heap_cell y0 2)
        have s3 : ∀ x : Ext W2, x.val.cell? ⟨w1.heap.size, 3, none⟩ = some (.slice a2 y.ps.length l2) := Ext.cells (heap_cell y0 3)
        have s4 : ∀ x : Ext W2, x.val.cell? ⟨w1.heap.size, 4, none⟩ = some (.slice a3 y.rs.length l3) := Ext.cells (heap_cell y0 4)
        have s5 : ∀ x : Ext W2, x.val.cell? ⟨w1.heap.size, 5, none⟩ = some (.slice a4 y.fs.length l4) := Ext.cells (heap_cell y0 5)
        clear y0 b0
        obtain ⟨bb, hbb⟩ : ∃ bb, belowB (kindK y.k) bk = bb := ⟨_, rfl⟩
        have HBB := Lib.hid hbb
        clear hbb
        cases bb
        · go_wp2
          rw [← HW2.out]
          refine wp_region_calm (by kernel_rfl) (by kernel_rfl) ?_
          repeat (go_big_quiet_step (first | (go_at_call 142; exact Ext.call _ (kindOf_any _ _ _ _ _ _ _)) | (go_at_call 143; exact Ext.call _ ((below_any _ _ _).mono (by rintro e w' ⟨rfl, rfl⟩; exact ⟨by rw [HBB.out], Below.refl _ _⟩)))))
          refine wpQuiet_nil ?_
          rintro _ ⟨x, rfl⟩
          clear d0 s0 s2 s3 s4 s5
          go_wp2
          clear s1
          have hnh : ¬ Hits (tabL gs) ⟨bk, bn⟩ z := by
            rintro (⟨h, _⟩ | ⟨_, s, hs, h⟩)
            · exact HBK.out h
            · rw [HY.out] at hs
              obtain rfl := Option.some.inj hs
              rw [HBB.out] at h; cases h
          have HNH := Lib.hid hnh
          have hx3 : Below W2.heap.size W2 x.val := x.2
          clear hnh
          have hI3 := HI2.out.below (Nat.le_trans HSW.out HBE2.out.size) hx3
          have hJ0 : ClJ W0 (w.heap.size + 1) (tabL gs) ⟨bk, bn⟩ id z y w5.heap.size w1 0 T0 Z (.slice (some ⟨g, 0, none⟩) n cap) u8 x.val := by
            refine ⟨hI3, fun h hh => by simp at hh, HZIN.out, U12.out.trans' (Upd.of_below hx3), fun c hc => ?_, fun M hM => ?_⟩
            · simp [Value.ownBlock] at hc
              have := HGL.out
              exact .inl (by omega)
            · rcases HI1.out.seen with ⟨e, _⟩ | ⟨M', e, _, hm⟩
              · rw [e] at hM; cases hM
              · rw [e] at hM; cases hM
                exact .inl hm.lt
          have HJ0 := Lib.hid hJ0; have HX3 := Lib.hid hx3
          clear hI3 hJ0 hx3
          go_loopw [7, 8, 60] (fun t7 t8 t60 wr => ∃ (T' Z' : List Nat) (i : Nat), t60 = .int .i64 i ∧ i ≤ y.sups.length ∧ 2 * (total gs + 1 - Z'.length) + T'.length < gk ∧ ClJ W0 (w.heap.size + 1) (tabL gs) ⟨bk, bn⟩ id z y w5.heap.size w1 i T' Z' t7 t8 wr) (fun _ _ t60 _ => y.sups.length - (intOf t60).toNat)
          case atStart => exact ⟨T0, Z, 0, rfl, Nat.zero_le _, by have h1 := HK.out; have h2 := HN.out; omega, HJ0.out⟩
          case round =>
            obtain ⟨T', Z', i, rfl, hi, hk2, hJ⟩ := hrel
            have HK2 := Lib.hid hk2
            clear hk2
            by_cases hlt : i < y.sups.length
            · obtain ⟨⟨hk, hn⟩, hh⟩ : ∃ h, y.sups[i]? = some h := ⟨y.sups[i], by simp [hlt]⟩
              have hymem := List.mem_of_getElem? HY.out
              obtain ⟨hk15, hn0, hnl⟩ := (HCL.out y hymem).sups _ (List.mem_of_getElem? hh)
              dsimp only at hk15 hn0 hnl
              subst hk15
              rw [tabL_len] at hnl
              obtain ⟨m, rfl⟩ : ∃ m : Nat, hn = m := ⟨hn.toNat, by omega⟩
              have hm : m < total gs := by omega
              have hrow := SubAt.sups (HSUB.out wr hJ.up)
              obtain ⟨sb, so, e1, _, p0, p1⟩ := hps_at hrow hh
              subst e1
              dsimp only at p0 p1
              have zb := (hJ.cl.be.block _ (by have := heap_lt Z0.out; have := HSZ.out; omega)).trans Z0.out
              have f0 := heap_cell zb 0; have f1 := heap_cell zb 1
              simp at f0 f1
              have f0' := cell_alloc f0 (.cells #[.int .i64 15, .int .i64 m] 75); have f1' := cell_alloc f1 (.cells #[.int .i64 15, .int .i64 m] 75)
              have hlt' : (i : Int) < y.sups.length := by omega
              have hi6 : (i : Int) < 1000000 := by have := TypC.cnt_len HTO.out hymem; omega
              have hup : UpTo (tabL gs) id m := HUB.out.step HY.out (List.mem_of_getElem? hh) rfl
              have hsw3 : w.heap.size + 1 ≤ wr.heap.size := by have := hJ.cl.be.size; have := HSZ.out; omega
              have HZIN3 := Lib.hid hJ.zin; have HJ := Lib.hid hJ; have HLT := Lib.hid hlt; have HH := Lib.hid hh; have HM := Lib.hid hm; have HUP := Lib.hid hup; have HSW3 := Lib.hid hsw3; have ZB3 := Lib.hid zb; have HYM := Lib.hid hymem
              clear hJ hlt hh hm hup hsw3 zb hymem hn0 hnl hrow f0 f1 hi
              have h15 : ((15 : Int) == bk) = false := by have := HBK.out; simp; omega
              clear hbk' hbk2
              rcases HJ.out.cl.seen with ⟨e8, eZ⟩ | ⟨M, e8, hMB, hm8⟩
              · subst e8
                have HMK := Lib.hid (World.ownsMap_made (wr.alloc (.cells #[.int .i64 15, .int .i64 m] 75)) Tryz.prog 3 (unitElem (H := Unit)))
                have HKI := Lib.hid (key_mk id ⟨by omega, by have := HID.out; have := HTL.out; omega⟩)
                obtain ⟨w6, hrun, hm6, g6⟩ := HMK.out.update keyed_int Tryz.underlying260 (by unfold maxLen; omega) HKI.out unitElem_mk
                have hq : (wr.alloc (.cells #[.int .i64 15, .int .i64 m] 75)).heap.size = wr.heap.size + 1 := by simp
                rw [hq] at hrun hm6 g6
                have hb6 : Below wr.heap.size wr w6 := (((Below.refl _ _).alloc (Nat.le_refl _) _).alloc (by simp) _).grown g6 (by simp; omega) (fun k hk => by cases hk; exact Nat.le_succ _)
                have zx : w6.heap[wr.heap.size]? = some (.cells #[.int .i64 15, .int .i64 m] 75 (0, 0)) := (g6.block _ (by simp; omega) (by simp)).trans (heap_alloc_keep (heap_alloc_at _ _ rfl) _)
                have x0 := heap_cell zx 0; have x1 := heap_cell zx 1
                simp at x0 x1
                have x0' := cell_alloc x0 (.cells #[] 261); have x1' := cell_alloc x1 (.cells #[] 261)
                have hMB : w.heap.size + 1 ≤ wr.heap.size + 1 := by have := HSW3.out; omega
                have hM : wr.heap.size + 1 < w5.heap.size ∨ w1.heap.size ≤ wr.heap.size + 1 := .inr (by have := HJ.out.up.size; omega)
                have HRUN := Lib.hid hrun; have HM6 := Lib.hid (show w6.ownsMap Tryz.prog 3 (unitElem (H := Unit)) (wr.heap.size + 1) Z'.length (setOf (H := Unit) (.agg []) (Z'.map fun z : Nat => Lit.int .i64 (z : Int))) by rw [eZ]; exact hm6); have HB6 := Lib.hid hb6; have HMB := Lib.hid hMB; have HM8 := Lib.hid hM; have ZX := Lib.hid zx; have HNX := Lib.hid (show wr.heap.size ≠ wr.heap.size + 1 by omega)
                clear hrun hm6 g6 hq hb6 zx hMB hM eZ
                go_wp2
                rw [HRUN.out]
                dsimp only [Result.andThen, Oper.upon]
                have HKM := Lib.hid (key_mk m ⟨by omega, by have := HM.out; have := HTL.out; omega⟩)
                have hbX : Below wr.heap.size wr (World.alloc w6 (.cells #[] 261)) := HB6.out.alloc HB6.out.size _
                have hmX : (World.alloc w6 (.cells #[] 261)).ownsMap Tryz.prog 3 (unitElem (H := Unit)) (wr.heap.size + 1) Z'.length (setOf (H := Unit) (.agg []) (Z'.map fun z : Nat => Lit.int .i64 (z : Int))) := ownsMap_below HM6.out ((Below.refl _ _).alloc (Nat.le_refl _) _)
                have HBX := Lib.hid hbX; have HMX := Lib.hid hmX
                clear hbX hmX
                by_cases hin : m ∈ Z'
                · have hh1 : Maps.has (setOf (H := Unit) (.agg []) (Z'.map fun z : Nat => Lit.int .i64 (z : Int))) (.int .i64 (m : Int)) = true := by rw [has_zs]; simpa using hin
                  have HHAS := Lib.hid hh1; have HIN := Lib.hid hin
                  clear hh1 hin
                  go_wp2_with (at_lookup; refine wpList_lookup_own_unit _ rfl _ _ 260 rfl 3 261 keyed_int Tryz.underlying260 (zeroUnit _) (wr.heap.size + 1) Z'.length _ rfl HM6.out _ _ rfl HKM.out ?_; rw [HHAS.out])
                  go_roundw
                  case rel => exact ⟨T', Z', i + 1, by go_num, HLT.out, HK2.out, HJ.out.skip HSW3.out HH.out HIN.out HBX.out HMX.out HMB.out HM8.out⟩
                  case measure => have := HLT.out; simp [intOf]; omega
                · have hh1 : Maps.has (setOf (H := Unit) (.agg []) (Z'.map fun z : Nat => Lit.int .i64 (z : Int))) (.int .i64 (m : Int)) = false := by rw [has_zs]; simpa using hin
                  have hzlen : Z'.length ≤ total gs := by have := HJ.out.cl.p.len'; rwa [tabL_len] at this
                  have hzlen2 : Z'.length + 1 ≤ total gs := by
                    have := (HJ.out.cl.p.push HZIN3.out HY.out (List.mem_of_getElem? HH.out) rfl HCL.out hin).len'
                    rw [tabL_len] at this; simpa using this
                  have HHAS := Lib.hid hh1; have HIN := Lib.hid hin; have HZL := Lib.hid hzlen; have HZL2 := Lib.hid hzlen2
                  clear hh1 hin hzlen hzlen2
                  go_wp2_with (first | (at_lookup; refine wpList_lookup_own_unit _ rfl _ _ 260 rfl 3 261 keyed_int Tryz.underlying260 (zeroUnit _) (wr.heap.size + 1) Z'.length _ rfl HM6.out _ _ rfl HKM.out ?_; rw [HHAS.out]) | (at_mapUpdate; refine wpList_mapUpdate_own _ rfl _ _ _ 260 rfl 3 261 keyed_int Tryz.underlying260 (unitElem (H := Unit)) (wr.heap.size + 1) Z'.length _ rfl HMX.out (by have := HZL.out; have := HTL.out; unfold maxLen; omega) _ _ _ rfl rfl HKM.out _ [] unitElem_mk ?_))
                  intro w7 hm7 g7
                  obtain ⟨ao7, cp7, e7, _⟩ := ownsRow_form HJ.out.cl.row
                  subst e7
                  have rX := ownsRow_below HJ.out.cl.row HBX.out
                  have hmb := HMX.out
                  have uX7 : Upd (fun c => c = (wr.heap.size + 1)) (World.alloc w6 (.cells #[] 261)) w7 := (Upd.refl _ _).grown g7 (fun k hk => by cases hk; exact .inl rfl)
                  have r7 : w7.ownsRow (w.heap.size + 1) 3 1 (.slice ao7 T'.length cp7) T'.length (T'.map fun z : Nat => Value.int .i64 (z : Int)) := ownsRow_upd rX uX7 (fun c hc e => by
                    obtain ⟨es, ck, hmb1, _⟩ := hmb
                    exact row_ne_map rX hmb1 (by rw [hc, e]))
                  have zx7 : w7.heap[wr.heap.size]? = some (.cells #[.int .i64 15, .int .i64 m] 75 (0, 0)) := (uX7.block _ (by have := HBX.out.size; simp; have := heap_lt ZX.out; omega) (fun e => HNX.out e)).trans (heap_alloc_keep ZX.out _)
                  have v1 := heap_cell zx7 1
                  simp at v1
                  have hlen7 : T'.length ≤ 10000 := by have h1 := HJ.out.cl.p.tl; have h2 := HZL.out; have h3 := HTL.out; omega
                  have hs7 : w.heap.size + 1 ≤ w7.heap.size := by have h1 := HSW3.out; have h2 := HBX.out.size; have h3 := uX7.size; omega
                  have HM7 := Lib.hid hm7; have G7 := Lib.hid g7; have R7 := Lib.hid r7; have HL7 := Lib.hid hlen7; have HS7 := Lib.hid hs7
                  have HR2 := Lib.hid (row_cells (cs := [.int .i64 (m : Int)]) (heap_alloc_at w7 (.cells #[.int .i64 (m : Int)] 3) rfl))
                  clear hm7 g7 rX hmb uX7 r7 zx7 hlen7 hs7
                  go_wp2_with (at_builtin; refine wpList_append_own2 _ rfl _ _ 23 rfl (w.heap.size + 1) 3 i0 _ 1 8 Tryz.underlying23 Hi.out Hz0.out Hz1.out Hz2.out rfl (by decide) _ _ _ rfl (R7.out.alloc _) ⟨w7.heap.size, 0, none⟩ 1 1 [.int .i64 (m : Int)] rfl rfl HR2.out (by intro u hu; simp at hu; rcases hu with rfl; rfl) (by have := HL7.out; unfold maxLen; omega) (by have := HL7.out; omega) (by have := HS7.out; simp; omega) (by decide) ?_)
                  intro v8 w8 o8 g8 mv8
                  have O8 := Lib.hid o8; have G8 := Lib.hid g8; have MV8 := Lib.hid mv8
                  clear o8 g8 mv8 v1
                  go_wp2
                  go_roundw
                  case rel => exact ⟨T' ++ [m], Z' ++ [m], i + 1, by go_num, HLT.out, by have h1 := HK2.out; have h2 := HZL2.out; simp; omega, HJ.out.push HSW3.out HH.out HIN.out HY.out HCL.out HBX.out HMX.out HMB.out HM8.out HM7.out G7.out O8.out G8.out MV8.out⟩
                  case measure => have := HLT.out; simp [intOf]; omega
              · subst e8
                have hM : M < w5.heap.size ∨ w1.heap.size ≤ M := HJ.out.k8 M rfl
                have hb6 : Below wr.heap.size wr (wr.alloc (.cells #[.int .i64 15, .int .i64 m] 75)) := (Below.refl _ _).alloc (Nat.le_refl _) _
                have hm6 := ownsMap_below hm8 hb6
                have HM6 := Lib.hid hm6; have HB6 := Lib.hid hb6; have HMB := Lib.hid hMB; have HM8 := Lib.hid hM; have ZX := Lib.hid (show (wr.alloc (.cells #[.int .i64 15, .int .i64 m] 75)).heap[wr.heap.size]? = some (.cells #[.int .i64 15, .int .i64 m] 75 (0, 0)) from heap_alloc_at _ _ rfl); have HNX := Lib.hid (show wr.heap.size ≠ M by have := hm8.lt; omega)
                clear hm6 hb6 hMB hM hm8
                have HKM := Lib.hid (key_mk m ⟨by omega, by have := HM.out; have := HTL.out; omega⟩)
                have hbX : Below wr.heap.size wr (World.alloc (wr.alloc (.cells #[.int .i64 15, .int .i64 m] 75)) (.cells #[] 261)) := HB6.out.alloc HB6.out.size _
                have hmX : (World.alloc (wr.alloc (.cells #[.int .i64 15, .int .i64 m] 75)) (.cells #[] 261)).ownsMap Tryz.prog 3 (unitElem (H := Unit)) M Z'.length (setOf (H := Unit) (.agg []) (Z'.map fun z : Nat => Lit.int .i64 (z : Int))) := ownsMap_below HM6.out ((Below.refl _ _).alloc (Nat.le_refl _) _)
                have HBX := Lib.hid hbX; have HMX := Lib.hid hmX
                clear hbX hmX
                by_cases hin : m ∈ Z'
                · have hh1 : Maps.has (setOf (H := Unit) (.agg []) (Z'.map fun z : Nat => Lit.int .i64 (z : Int))) (.int .i64 (m : Int)) = true := by rw [has_zs]; simpa using hin
                  have HHAS := Lib.hid hh1; have HIN := Lib.hid hin
                  clear hh1 hin
                  go_wp2_with (at_lookup; refine wpList_lookup_own_unit _ rfl _ _ 260 rfl 3 261 keyed_int Tryz.underlying260 (zeroUnit _) M Z'.length _ rfl HM6.out _ _ rfl HKM.out ?_; rw [HHAS.out])
                  go_roundw
                  case rel => exact ⟨T', Z', i + 1, by go_num, HLT.out, HK2.out, HJ.out.skip HSW3.out HH.out HIN.out HBX.out HMX.out HMB.out HM8.out⟩
                  case measure => have := HLT.out; simp [intOf]; omega
                · have hh1 : Maps.has (setOf (H := Unit) (.agg []) (Z'.map fun z : Nat => Lit.int .i64 (z : Int))) (.int .i64 (m : Int)) = false := by rw [has_zs]; simpa using hin
                  have hzlen : Z'.length ≤ total gs := by have := HJ.out.cl.p.len'; rwa [tabL_len] at this
                  have hzlen2 : Z'.length + 1 ≤ total gs := by
                    have := (HJ.out.cl.p.push HZIN3.out HY.out (List.mem_of_getElem? HH.out) rfl HCL.out hin).len'
                    rw [tabL_len] at this; simpa using this
                  have HHAS := Lib.hid hh1; have HIN := Lib.hid hin; have HZL := Lib.hid hzlen; have HZL2 := Lib.hid hzlen2
                  clear hh1 hin hzlen hzlen2
                  go_wp2_with (first | (at_lookup; refine wpList_lookup_own_unit _ rfl _ _ 260 rfl 3 261 keyed_int Tryz.underlying260 (zeroUnit _) M Z'.length _ rfl HM6.out _ _ rfl HKM.out ?_; rw [HHAS.out]) | (at_mapUpdate; refine wpList_mapUpdate_own _ rfl _ _ _ 260 rfl 3 261 keyed_int Tryz.underlying260 (unitElem (H := Unit)) M Z'.length _ rfl HMX.out (by have := HZL.out; have := HTL.out; unfold maxLen; omega) _ _ _ rfl rfl HKM.out _ [] unitElem_mk ?_))
                  intro w7 hm7 g7
                  obtain ⟨ao7, cp7, e7, _⟩ := ownsRow_form HJ.out.cl.row
                  subst e7
                  have rX := ownsRow_below HJ.out.cl.row HBX.out
                  have hmb := HMX.out
                  have uX7 : Upd (fun c => c = M) (World.alloc (wr.alloc (.cells #[.int .i64 15, .int .i64 m] 75)) (.cells #[] 261)) w7 := (Upd.refl _ _).grown g7 (fun k hk => by cases hk; exact .inl rfl)
                  have r7 : w7.ownsRow (w.heap.size + 1) 3 1 (.slice ao7 T'.length cp7) T'.length (T'.map fun z : Nat => Value.int .i64 (z : Int)) := ownsRow_upd rX uX7 (fun c hc e => by
                    obtain ⟨es, ck, hmb1, _⟩ := hmb
                    exact row_ne_map rX hmb1 (by rw [hc, e]))
                  have zx7 : w7.heap[wr.heap.size]? = some (.cells #[.int .i64 15, .int .i64 m] 75 (0, 0)) := (uX7.block _ (by have := HBX.out.size; simp; have := heap_lt ZX.out; omega) (fun e => HNX.out e)).trans (heap_alloc_keep ZX.out _)
                  have v1 := heap_cell zx7 1
                  simp at v1
                  have hlen7 : T'.length ≤ 10000 := by have h1 := HJ.out.cl.p.tl; have h2 := HZL.out; have h3 := HTL.out; omega
                  have hs7 : w.heap.size + 1 ≤ w7.heap.size := by have h1 := HSW3.out; have h2 := HBX.out.size; have h3 := uX7.size; omega
                  have HM7 := Lib.hid hm7; have G7 := Lib.hid g7; have R7 := Lib.hid r7; have HL7 := Lib.hid hlen7; have HS7 := Lib.hid hs7
                  have HR2 := Lib.hid (row_cells (cs := [.int .i64 (m : Int)]) (heap_alloc_at w7 (.cells #[.int .i64 (m : Int)] 3) rfl))
                  clear hm7 g7 rX hmb uX7 r7 zx7 hlen7 hs7
                  go_wp2_with (at_builtin; refine wpList_append_own2 _ rfl _ _ 23 rfl (w.heap.size + 1) 3 i0 _ 1 8 Tryz.underlying23 Hi.out Hz0.out Hz1.out Hz2.out rfl (by decide) _ _ _ rfl (R7.out.alloc _) ⟨w7.heap.size, 0, none⟩ 1 1 [.int .i64 (m : Int)] rfl rfl HR2.out (by intro u hu; simp at hu; rcases hu with rfl; rfl) (by have := HL7.out; unfold maxLen; omega) (by have := HL7.out; omega) (by have := HS7.out; simp; omega) (by decide) ?_)
                  intro v8 w8 o8 g8 mv8
                  have O8 := Lib.hid o8; have G8 := Lib.hid g8; have MV8 := Lib.hid mv8
                  clear o8 g8 mv8 v1
                  go_wp2
                  go_roundw
                  case rel => exact ⟨T' ++ [m], Z' ++ [m], i + 1, by go_num, HLT.out, by have h1 := HK2.out; have h2 := HZL2.out; simp; omega, HJ.out.push HSW3.out HH.out HIN.out HY.out HCL.out HBX.out HMX.out HMB.out HM8.out HM7.out G7.out O8.out G8.out MV8.out⟩
                  case measure => have := HLT.out; simp [intOf]; omega
            · obtain rfl : i = y.sups.length := by omega
              have hlt' : ¬ (y.sups.length : Int) < y.sups.length := by omega
              have hcl := hJ.cl
              have hp := hcl.p.close HY.out HNH.out (by have := hJ.met; rwa [List.take_length] at this)
              have HCL3 := Lib.hid (⟨hcl.be, hcl.row, hcl.seen, hp⟩ : ClW W0 (w.heap.size + 1) (tabL gs) ⟨bk, bn⟩ id T' Z' none u7 u8 wr)
              clear hJ hcl hp hi hlt
              go_wp2
              go_roundg (2 * (total gs + 1 - Z'.length) + T'.length)
              case measure => exact HK2.out
              case rel => exact ⟨T', Z', Nat.le_refl _, HCL3.out⟩
        · go_wp2
          rw [← HW2.out]
          refine wp_region_calm (by kernel_rfl) (by kernel_rfl) ?_
          repeat (go_big_quiet_step (first | (go_at_call 142; exact Ext.call _ (kindOf_any _ _ _ _ _ _ _)) | (go_at_call 143; exact Ext.call _ ((below_any _ _ _).mono (by rintro e w' ⟨rfl, rfl⟩; exact ⟨by rw [HBB.out], Below.refl _ _⟩)))))
          refine wpQuiet_nil ?_
          rintro _ ⟨x, rfl⟩
          have hr1 : r = true := HR.out.2 ⟨z, HUB.out, .inr ⟨HBK.out, y, HY.out, HBB.out⟩⟩
          subst hr1
          go_wp2
          go_ret
          exact ⟨rfl, HBW.out.trans ((HBE2.out.trans (x.2.mono HBE2.out.size)).mono HBW.out.size)⟩
end Go.Proofs.YtpddbaijnjbfdaaGreatDoor
