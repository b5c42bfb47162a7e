import Derived.Test.YtpddbaijnjbfdaaGreatDoorQRfSubBd
namespace Go.Proofs.YtpddbaijnjbfdaaGreatDoor
open Lib (hid)
section
open Go.RowKit
section
variable {P : Program} {ops : Array Oper} {o : Oper} {a : Act} {w : World} {K : Act → World → Prop} {Q : Exit → Act → World → Prop} {E : Prop}
end
end
section
open Go.RowKit
theorem wpList_append_row {P : Program} (w : World) {ops : Array Oper} {rest : List Oper} {o : Oper} {a : Act} {Q : Exit → Act → World → Prop} (hgd : o.guard = none) (s x : Operand) (t : TypeId)
    (ho : o.op = .call { callee := .builtin .append, args := #[s, x], argTypes := #[t, t] })
    (base : Nat) (e : TypeId) (i : TypeInfo) (z : Value) (size bytes : Nat) (ht : P.underlying t = some (.slice e)) (hi : P.info? e = some i) (hz : i.zero = some z)
    (hsize : i.size = size) (hby : i.bytes = bytes) (hzs : z.cells.size = size) (hsz : 0 < size)
    (v : Value) (n : Nat) (xs : List Value) (hs : a.eval s = v) (hown : w.ownsRow base e size v n xs)
    (y : Value) (m : Nat) (news : List Value) (hx : a.eval x = y) (hrow : RowAt w size y m news) (h1 : ∀ u ∈ news, u.oneCell' = true)
    (h63 : n + m ≤ maxLen) (hbytes : (n + m) * bytes ≤ 140737488355328) (hbase : base ≤ w.heap.size)
    (h : ∀ v' w', w'.ownsRow base e size v' (n + m) (xs ++ news) → w.grownBy w' v.ownBlock → wpList P ops Q rest (a.put o.dst v') w') : wpList P ops Q (o :: rest) a w := by
  obtain ⟨hl, ⟨rfl, rfl⟩ | ⟨ad, cap, rfl, hc, hnews⟩⟩ := hrow
  · refine wpList_plain hgd fun K hK => ?_
    have hr := run_append_owned_none (P := P) (w := w) base t o.type e i size ht hi v n xs hown
    unfold Oper.wp execOp
    simp only [ho, resolve, invoke, builtin, Sem.run_bind, Sem.run_pure, Result.andThen_ok, List.map_toArray, List.map_cons, List.map_nil, hs, hx, hr]
    refine hK _ _ (h v w ?_ ⟨rfl, rfl, rfl, Nat.le_refl _, fun _ _ _ => rfl⟩)
    have hn : news = [] := List.eq_nil_of_length_eq_zero (by simpa using hl)
    subst hn
    simpa using hown
  · exact wpList_append_own w hgd s x t ho base e i z size bytes ht hi hz hsize hby hzs hsz v n xs hs hown ad m cap news hx hl hnews h1 h63 hbytes hbase (fun v' w' r1 r2 _ => h v' w' r1 r2)
theorem step_append_row {P : Program} {ops : Array Oper} {o : Oper} {a : Act} {w : World} {K : Act → World → Prop} {Q : Exit → Act → World → Prop} {E : Prop} (hg : o.guard = none) (s x : Operand) (t : TypeId) (hop : o.op = Op.call { callee := Callee.builtin Builtin.append, args := #[s, x], argTypes := #[t, t] })
    (base : Nat) (e : TypeId) (i : TypeInfo) (z : Value) (size bytes : Nat) (ht : P.underlying t = some (.slice e)) (hi : P.info? e = some i) (hz : i.zero = some z)
    (hsize : i.size = size) (hby : i.bytes = bytes) (hzs : z.cells.size = size) (hsz : 0 < size)
    (v : Value) (n : Nat) (xs : List Value) (hs : a.eval s = v) (hown : w.ownsRow base e size v n xs)
    (y : Value) (m : Nat) (news : List Value) (hx : a.eval x = y) (hrow : RowAt w size y m news) (h1 : ∀ u ∈ news, u.oneCell' = true)
    (h63 : n + m ≤ maxLen) (hbytes : (n + m) * bytes ≤ 140737488355328) (hbase : base ≤ w.heap.size)
    (hK : ∀ v' w', w'.ownsRow base e size v' (n + m) (xs ++ news) → w.grownBy w' v.ownBlock → K (a.put o.dst v') w') :
    if Region.wanted o (yielded ops a.tmps) = true then Oper.wp P o a w K Q else E := by
  have hw : Region.wanted o (yielded ops a.tmps) = true := by simp [Region.wanted, hg]
  rw [if_pos hw]
  obtain ⟨hl, ⟨rfl, rfl⟩ | ⟨ad, cap, rfl, hc, hnews⟩⟩ := hrow
  · have hr := run_append_owned_none (P := P) (w := w) base t o.type e i size ht hi v n xs hown
    unfold Oper.wp
    simp [execOp, hop, resolve, invoke, builtin, hs, hx, hr, Result.andThen]
    refine hK v w ?_ ⟨rfl, rfl, rfl, Nat.le_refl _, fun _ _ _ => rfl⟩
    have hn : news = [] := List.eq_nil_of_length_eq_zero (by simpa using hl)
    subst hn
    simpa using hown
  · obtain ⟨v', w', hr, r1, r2, _⟩ := run_append_own (P := P) w base t o.type e i z size bytes ht hi hz hsize hby hzs hsz v n xs hown ad m cap news hl hnews h1 h63 hbytes hbase
    unfold Oper.wp
    simp [execOp, hop, resolve, invoke, builtin, hs, hx, hr, Result.andThen]
    exact hK v' w' r1 r2
theorem own_ne {w : World} {b1 b2 : Nat} {e1 e2 : TypeId} {s1 s2 : Nat} {v1 v2 : Value} {n1 n2 : Nat} {x1 x2 : List Value} (h1 : w.ownsRow b1 e1 s1 v1 n1 x1) (h2 : w.ownsRow b2 e2 s2 v2 n2 x2) (he : e1 ≠ e2) : v1.ownBlock = none ∨ v1.ownBlock ≠ v2.ownBlock := by
  rcases h1.2 with ⟨rfl, _⟩ | ⟨g, cap, cur, rfl, _, hg, _⟩
  · exact .inl rfl
  · right
    rcases h2.2 with ⟨rfl, _⟩ | ⟨g2, cap2, cur2, rfl, _, hg2, _⟩
    · simp [Value.ownBlock]
    · intro e
      simp [Value.ownBlock] at e
      subst e
      rw [hg] at hg2
      simp at hg2
      exact he hg2.2
theorem owns_e (W : World) {B : Nat} (hB : B ≤ W.heap.size) (e : TypeId) (size : Nat) {b : Nat} (hb : b = W.heap.size) : (W.alloc (.cells #[] e)).ownsRow B e size (.slice (some ⟨b, 0, none⟩) 0 0) 0 [] := by
  subst hb
  exact ⟨by simp, .inr ⟨W.heap.size, 0, #[], rfl, hB, World.alloc_heap_new _ _, Nat.le_refl _, by simp [maxLen], by simp, by simp⟩⟩
theorem row_litA {w : World} {q c n : Nat} {T : TypeId} {xs : List Value} (h : w.heap[q]? = some (.cells xs.toArray T (0, 0))) (hl : xs.length = n * c) : RowAt w c (.slice (some ⟨q, 0, none⟩) n n) n xs := by
  refine ⟨hl, .inr ⟨_, n, rfl, Nat.le_refl _, fun j u hj => ?_⟩⟩
  rw [Addr.add_lit, Nat.zero_add, heap_cell h]
  simpa using hj
theorem flatH_one (l : List Hp) : ∀ u ∈ flatH l, u.oneCell' = true := fun u hu => by
  obtain ⟨h, _, hh⟩ := List.mem_flatMap.1 hu
  simp [cellsH] at hh
  rcases hh with rfl | rfl <;> rfl
theorem flatV_one (l : List Vl) : ∀ u ∈ flatV l, u.oneCell' = true := fun u hu => by
  obtain ⟨h, _, hh⟩ := List.mem_flatMap.1 hu
  simp [cellsV] at hh
  rcases hh with rfl | rfl | rfl | rfl <;> rfl
end
section
open Go.RowKit
set_option maxRecDepth 100000 in
set_option maxHeartbeats 4000000 in
theorem rHeaps_any (cs : List Value) (s : Sb) (w : World) (hs : SubAt w cs s) (hc : cnt s ≤ 1000000) : Calls Tryz.prog 61 #[.agg cs.toArray] w fun e w' => ∃ u, e = .returned u ∧ w'.ownsRow w.heap.size 75 2 u (heapsR s).length (flatH (heapsR s)) ∧ Below w.heap.size w w' := by
  obtain ⟨vs, vp, vr, vf, rfl, h1, h2, h3, h4⟩ := hs.ex
  obtain ⟨so, sc, rfl⟩ := RowAt.form h1
  obtain ⟨ps, pc, rfl⟩ := RowAt.form h2
  obtain ⟨rs, rc, rfl⟩ := RowAt.form h3
  obtain ⟨fs, fc, rfl⟩ := RowAt.form h4
  obtain ⟨fin, sups, k, lp, lr, lf⟩ := s
  dsimp only at h1 h2 h3 h4 ⊢
  obtain ⟨i0, hi, hz0, hz1, hz2⟩ := info_parts Tryz.infoHeap
  obtain ⟨i1, hi', hz0', hz1', hz2'⟩ := info_parts Tryz.infoVal
  have Hi := hid hi; have Hz0 := hid hz0; have Hz1 := hid hz1; have Hz2 := hid hz2
  have Hi' := hid hi'; have Hz0' := hid hz0'; have Hz1' := hid hz1'; have Hz2' := hid hz2'
  obtain ⟨ns, hns⟩ : ∃ n, sups.length = n := ⟨_, rfl⟩
  obtain ⟨np, hnp⟩ : ∃ n, lp.length = n := ⟨_, rfl⟩
  obtain ⟨nr, hnr⟩ : ∃ n, lr.length = n := ⟨_, rfl⟩
  obtain ⟨nf, hnf⟩ : ∃ n, lf.length = n := ⟨_, rfl⟩
  have HNS := hid hns; have HNF := hid hnf; have HNP := hid hnp; have HNR := hid hnr
  have hcc : ns + (np + (nr + nf)) ≤ 1000000 := by simp only [cnt] at hc; omega
  obtain ⟨W0, hW⟩ : ∃ W0 : World, W0 = (w.alloc (.cells #[.bool fin, .slice so ns sc, .int .i64 k, .slice ps np pc, .slice rs nr rc, .slice fs nf fc] 46)) := ⟨_, rfl⟩
  have hB : Below w.heap.size w W0 := by rw [hW]; exact ((Below.refl _ _).alloc (by simp) _)
  have hws : W0.heap.size = w.heap.size + 1 := by rw [hW]; simp
  have b0_0 : ∀ x : Ext W0, x.val.cell? ⟨w.heap.size, 0, none⟩ = some (.bool fin) := Ext.cells (by rw [hW]; exact heap_cell (heap_alloc_at _ _ (by simp)) 0)
  have b0_1 : ∀ x : Ext W0, x.val.cell? ⟨w.heap.size, 1, none⟩ = some (.slice so ns sc) := Ext.cells (by rw [hW]; exact heap_cell (heap_alloc_at _ _ (by simp)) 1)
  have b0_2 : ∀ x : Ext W0, x.val.cell? ⟨w.heap.size, 2, none⟩ = some (.int .i64 k) := Ext.cells (by rw [hW]; exact heap_cell (heap_alloc_at _ _ (by simp)) 2)
  have b0_3 : ∀ x : Ext W0, x.val.cell? ⟨w.heap.size, 3, none⟩ = some (.slice ps np pc) := Ext.cells (by rw [hW]; exact heap_cell (heap_alloc_at _ _ (by simp)) 3)
  have b0_4 : ∀ x : Ext W0, x.val.cell? ⟨w.heap.size, 4, none⟩ = some (.slice rs nr rc) := Ext.cells (by rw [hW]; exact heap_cell (heap_alloc_at _ _ (by simp)) 4)
  have b0_5 : ∀ x : Ext W0, x.val.cell? ⟨w.heap.size, 5, none⟩ = some (.slice fs nf fc) := Ext.cells (by rw [hW]; exact heap_cell (heap_alloc_at _ _ (by simp)) 5)
  have r1 : ∀ x : Ext W0, RowAt x.val 2 (.slice so ns sc) ns (flatH sups) := fun x => by have h := RowAt.ext (RowAt.below h1 hB (Nat.le_refl _)) x; rw [hns] at h; exact h
  have r2 : ∀ x : Ext W0, RowAt x.val 4 (.slice ps np pc) np (flatV lp) := fun x => by have h := RowAt.ext (RowAt.below h2 hB (Nat.le_refl _)) x; rw [hnp] at h; exact h
  have r3 : ∀ x : Ext W0, RowAt x.val 4 (.slice rs nr rc) nr (flatV lr) := fun x => by have h := RowAt.ext (RowAt.below h3 hB (Nat.le_refl _)) x; rw [hnr] at h; exact h
  have r4 : ∀ x : Ext W0, FlsAt x.val (.slice fs lf.length fc) lf := fun x => RowAt.ext (RowAt.below h4 hB (Nat.le_refl _)) x
  have R1 := hid r1; have R2 := hid r2; have R3 := hid r3; have R4 := hid r4
  have HW := hid hW; have HB := hid hB; have HWS := hid hws; have HCC := hid hcc
  rw [hns, hnp, hnr, hnf]
  clear h1 h2 h3 h4 r1 r2 r3 r4 hW hB hws hcc hs hc hns hnp hnr hnf hi hz0 hz1 hz2 hi' hz0' hz1' hz2'
  go_enter Tryz.func61, Tryz.ntmps61
  go_wp2_with (at_builtin; rw [← HW.out]; refine wpList_append_row _ rfl _ _ 44 rfl W0.heap.size 75 i0 _ 2 16 Tryz.underlying44 Hi.out Hz0.out Hz1.out Hz2.out rfl (by decide) _ 0 [] rfl (owns_e W0 (Nat.le_refl _) _ _ HWS.out.symm) _ ns (flatH sups) rfl (R1.out ⟨_, (Below.refl _ _).alloc (Nat.le_refl _) _⟩) (flatH_one _) (by have := HCC.out; unfold maxLen; omega) (by have := HCC.out; omega) (by simp) ?_)
  intro v2 w2 o2 g2
  obtain ⟨ao2, co2, rfl, _⟩ := ownsRow_form o2
  have hb2 : Below W0.heap.size W0 w2 := ((Below.refl _ _).alloc (Nat.le_refl _) _).grown g2 (by simp) (fun k hk => by simp [Value.ownBlock] at hk; rw [← hk, HWS.out]; omega)
  obtain ⟨x2, rfl⟩ : ∃ x : Ext W0, w2 = x.val := ⟨⟨w2, hb2⟩, rfl⟩
  have O2 := hid o2
  clear o2 g2 hb2
  have z2 : x2.val.heap[w.heap.size]? = some (.cells #[.bool fin, .slice so ns sc, .int .i64 k, .slice ps np pc, .slice rs nr rc, .slice fs nf fc] 46 (0, 0)) := x2.heap (by rw [HW.out]; exact heap_alloc_at _ _ rfl)
  have Z2 := hid z2
  have q2 : RowAt (x2.val.drew.alloc (.cells #[] 77)) 4 (.slice ps np pc) np (flatV lp) := R2.out ⟨_, (x2.2.drew).alloc x2.size _⟩
  have Q2 := hid q2
  have o2d : x2.val.drew.ownsRow W0.heap.size 75 2 (.slice ao2 ns co2) ns (flatH sups) := O2.out
  have O2d := hid o2d
  have pf3 : ∀ w3, (x2.val.drew.alloc (.cells #[] 77)).grownBy w3 (Value.slice (some ⟨x2.val.heap.size, 0, none⟩) 0 0).ownBlock → w3.ownsRow W0.heap.size 75 2 (.slice ao2 ns co2) ns (flatH sups) := fun w3 g3 => by
    have ha := o2d.alloc (.cells #[] 77)
    refine ha.kept g3 ?_
    have hb : (x2.val.drew.alloc (.cells #[] 77)).ownsRow W0.heap.size 77 4 (.slice (some ⟨x2.val.heap.size, 0, none⟩) 0 0) 0 [] := owns_e x2.val.drew x2.size _ _ rfl
    exact own_ne ha hb (by decide)
  have PF3 := hid pf3
  clear o2d pf3
  have KZ1 := hid (show x2.val.drew.cell? ⟨w.heap.size, 3, none⟩ = some (.slice ps np pc) ∧ x2.val.drew.cell? ⟨w.heap.size, 4, none⟩ = some (.slice rs nr rc) from ⟨b0_3 ⟨_, x2.2.drew⟩, b0_4 ⟨_, x2.2.drew⟩⟩)
  have KZ2 := hid (show (x2.val.drew.alloc (.cells #[] 77)).cell? ⟨w.heap.size, 3, none⟩ = some (.slice ps np pc) ∧ (x2.val.drew.alloc (.cells #[] 77)).cell? ⟨w.heap.size, 4, none⟩ = some (.slice rs nr rc) from ⟨b0_3 ⟨_, x2.2.drew.alloc x2.size _⟩, b0_4 ⟨_, x2.2.drew.alloc x2.size _⟩⟩)
  clear z2 q2
  go_wp2
  go_region_held_law (fun w' => w'.cell? ⟨w.heap.size, 3, none⟩ = some (.slice ps np pc) ∧ w'.cell? ⟨w.heap.size, 4, none⟩ = some (.slice rs nr rc)) (first | exact KZ1.out | exact KZ2.out | exact KZ3.out | exact KZ4.out)
    (first
      | (refine step_append_row rfl _ _ 36 rfl W0.heap.size 77 i1 _ 4 32 Tryz.underlying36 Hi'.out Hz0'.out Hz1'.out Hz2'.out rfl (by decide) _ 0 [] rfl (owns_e x2.val.drew x2.size _ _ rfl) (.slice ps np pc) np (flatV lp) rfl Q2.out (flatV_one _) (by have := HCC.out; unfold maxLen; omega) (by have := HCC.out; omega) (by have := x2.size; simp; omega) ?_
         intro v3 w3 o3 g3
         obtain ⟨ao3, co3, rfl, _⟩ := ownsRow_form o3
         have hb3 : Below W0.heap.size W0 w3 := ((x2.2.drew).alloc x2.size _).grown g3 (by have := x2.size; simp; omega) (fun k hk => by have h : some x2.val.heap.size = some k := hk; have h1 := Option.some.inj h; have h2 := x2.size; omega)
         have p3 := PF3.out w3 g3
         have HB3 := hid hb3; have O3 := hid o3; have P3 := hid p3
         have KZ3 := hid (show w3.cell? ⟨w.heap.size, 3, none⟩ = some (.slice ps np pc) ∧ w3.cell? ⟨w.heap.size, 4, none⟩ = some (.slice rs nr rc) from ⟨b0_3 ⟨w3, hb3⟩, b0_4 ⟨w3, hb3⟩⟩)
         have Q3 := hid (show RowAt w3 4 (.slice rs nr rc) nr (flatV lr) from R3.out ⟨w3, hb3⟩)
         clear o3 g3 hb3 p3)
      | (refine step_append_row rfl _ _ 36 rfl W0.heap.size 77 i1 _ 4 32 Tryz.underlying36 Hi'.out Hz0'.out Hz1'.out Hz2'.out rfl (by decide) _ _ _ rfl O3.out (.slice rs nr rc) nr (flatV lr) rfl Q3.out (flatV_one _) (by have := HCC.out; unfold maxLen; omega) (by have := HCC.out; omega) HB3.out.size ?_
         intro v4 w4 o4 g4
         obtain ⟨ao4, co4, rfl, _⟩ := ownsRow_form o4
         have hb4 : Below W0.heap.size W0 w4 := HB3.out.grown g4 HB3.out.size (fun k hk => (O3.out.lt k hk).1)
         have p4 := P3.out.kept g4 (own_ne P3.out O3.out (by decide))
         have HB4 := hid hb4; have O4 := hid o4; have P4 := hid p4
         have KZ4 := hid (show w4.cell? ⟨w.heap.size, 3, none⟩ = some (.slice ps np pc) ∧ w4.cell? ⟨w.heap.size, 4, none⟩ = some (.slice rs nr rc) from ⟨b0_3 ⟨w4, hb4⟩, b0_4 ⟨w4, hb4⟩⟩)
         clear o4 g4 hb4 p4))
  go_wp2
  have st0 : w4.ownsRow W0.heap.size 77 4 (.slice ao4 (np + nr) co4) (np + nr + 0) (flatV (lp ++ lr ++ (lf.map Fl.v).take 0)) := by
    have h := O4.out
    simp only [Nat.zero_add, List.nil_append] at h
    rw [List.take_zero, List.append_nil, flatV, List.flatMap_append]
    exact h
  have ST0 := hid st0
  clear st0 KZ1 KZ2 KZ3 KZ4 O2d PF3 Q2 Q3 O2 P3 O3
  go_loopw [4, 5] (fun t4 t5 wr => ∃ i : Nat, t5 = .int .i64 i ∧ i ≤ nf ∧ wr.ownsRow W0.heap.size 77 4 t4 (np + nr + i) (flatV (lp ++ lr ++ (lf.map Fl.v).take i)) ∧ wr.ownsRow W0.heap.size 75 2 (.slice ao2 ns co2) ns (flatH sups) ∧ Below W0.heap.size W0 wr) (fun _ t5 _ => nf - (intOf t5).toNat)
  case atStart => exact ⟨0, rfl, Nat.zero_le _, ST0.out, P4.out, HB4.out⟩
  case round =>
    obtain ⟨i, rfl, hi, hv, hh, hbe⟩ := hrel
    obtain ⟨aov, cov, rfl, _⟩ := ownsRow_form hv
    have c5 := b0_5 ⟨wr, hbe⟩
    have hfl := R4.out ⟨wr, hbe⟩
    dsimp only at c5 hfl
    have HV := hid hv; have HH := hid hh; have HBE := hid hbe
    clear hv hh hbe
    by_cases hlt : i < nf
    · obtain ⟨⟨yp, ⟨yk, yl, yh, yn⟩, ym⟩, hy⟩ : ∃ y, lf[i]? = some y := ⟨lf[i]'(by rw [HNF.out]; exact hlt), by simp⟩
      obtain ⟨b, off, rfl, _, p0, p1, p2, p3, p4, p5⟩ := fls_at hfl hy
      dsimp only at p0 p1 p2 p3 p4 p5
      have hlt' : (i : Int) < nf := by omega
      have hi6 : (i : Int) < 1000000 := by have := HCC.out; omega
      have HY := hid hy; have HI := hid hlt
      have hrw : RowAt (wr.alloc (.cells #[.int .i64 yk, .bool yl, .int .i64 yh, .int .i64 yn] 77)) 4 (.slice (some ⟨wr.heap.size, 0, none⟩) 1 1) 1 [.int .i64 yk, .bool yl, .int .i64 yh, .int .i64 yn] := row_litA (heap_alloc_at _ _ rfl) rfl
      have HRW := hid hrw
      clear hfl hy hlt hi hrw
      go_wp2_with (at_builtin; refine wpList_append_row _ rfl _ _ 36 rfl W0.heap.size 77 i1 _ 4 32 Tryz.underlying36 Hi'.out Hz0'.out Hz1'.out Hz2'.out rfl (by decide) _ _ _ rfl (HV.out.alloc _) _ 1 _ rfl HRW.out (by intro u hu; simp at hu; rcases hu with rfl | rfl | rfl | rfl <;> rfl) (by have := HCC.out; have := HI.out; unfold maxLen; omega) (by have := HCC.out; have := HI.out; omega) (by have := HBE.out.size; simp; omega) ?_)
      intro v5 w5 o5 g5
      have hb5 : Below W0.heap.size W0 w5 := (HBE.out.alloc HBE.out.size _).grown g5 (by have := HBE.out.size; simp; omega) (fun k hk => (HV.out.lt k hk).1)
      have h5 := (HH.out.alloc (.cells #[.int .i64 yk, .bool yl, .int .i64 yh, .int .i64 yn] 77)).kept g5 (own_ne HH.out HV.out (by decide))
      have O5 := hid o5; have HB5 := hid hb5; have H5 := hid h5
      clear o5 g5 hb5 h5
      go_wp2
      go_roundw
      case rel =>
        refine ⟨i + 1, by go_num, HI.out, ?_, H5.out, HB5.out⟩
        have h := O5.out
        have e : (lf.map Fl.v)[i]? = some ⟨yk, yl, yh, yn⟩ := by rw [List.getElem?_map, HY.out]; rfl
        rw [List.take_add_one, e]
        simpa [flatV, cellsV, List.flatMap_append, List.append_assoc, Nat.add_assoc] using h
      case measure => have := HI.out; simp [intOf]; omega
    · obtain rfl : i = nf := by omega
      have hlt' : ¬ (i : Int) < i := by omega
      have hv2 : wr.ownsRow W0.heap.size 77 4 (.slice aov (np + nr + i) cov) (np + nr + i) (flatV (valsR ⟨fin, sups, k, lp, lr, lf⟩)) := by
        have h := HV.out
        rw [List.take_of_length_le (by rw [List.length_map, HNF.out]; exact Nat.le_refl _)] at h
        exact h
      obtain ⟨L, hL⟩ : ∃ L, valsR ⟨fin, sups, k, lp, lr, lf⟩ = L := ⟨_, rfl⟩
      have hLl : L.length = np + nr + i := by rw [← hL]; simp only [valsR, List.length_append, List.length_map, HNP.out, HNR.out, HNF.out]
      rw [hL] at hv2
      obtain ⟨n, hn⟩ : ∃ n, np + nr + i = n := ⟨_, rfl⟩
      rw [hn] at hv2 hLl ⊢
      have HV2 := hid hv2; have HLL := hid hLl; have HL := hid hL; have HN := hid hn
      have hn6 : (n : Int) ≤ 1000000 := by have := HCC.out; omega
      clear hv2 hLl hL hlt hi hfl hn HV
      have hval : valsR ⟨fin, sups, k, lp, lr, lf⟩ = L := HL.out
      go_wp2
      have st1 : wr.ownsRow W0.heap.size 75 2 (.slice ao2 ns co2) (ns + (refsV (L.take 0)).length) (flatH (sups ++ refsV (L.take 0))) := by
        have h := HH.out
        simpa [refsV] using h
      have ST1 := hid st1
      clear st1 HH
      go_loopw [3, 6] (fun t3 t6 wz => ∃ j : Nat, t6 = .int .i64 j ∧ j ≤ n ∧ wz.ownsRow W0.heap.size 75 2 t3 (ns + (refsV (L.take j)).length) (flatH (sups ++ refsV (L.take j))) ∧ wz.ownsRow W0.heap.size 77 4 (.slice aov n cov) n (flatV L) ∧ Below W0.heap.size W0 wz) (fun _ t6 _ => n - (intOf t6).toNat)
      case atStart => exact ⟨0, rfl, Nat.zero_le _, ST1.out, HV2.out, HBE.out⟩
      case round =>
        obtain ⟨j, rfl, hj, hh, hv, hbe⟩ := hrel
        obtain ⟨aoh, coh, rfl, _⟩ := ownsRow_form hh
        have hvl := RowAt.of_own hv
        have HV := hid hv; have HH := hid hh; have HBZ := hid hbe
        clear hv hh hbe
        by_cases hlt : j < n
        · obtain ⟨⟨yk, yl, yh, yn⟩, hy⟩ : ∃ y, L[j]? = some y := ⟨L[j]'(by rw [HLL.out]; exact hlt), by simp⟩
          rw [← HLL.out] at hvl
          obtain ⟨b, off, hbo, _, p0, p1, p2, p3⟩ := vals_at hvl hy
          dsimp only at p0 p1 p2 p3
          subst hbo
          have hlt' : (j : Int) < n := by omega
          have hj6 : (j : Int) < 1000000 := by omega
          have hrl := refsV_len (L.take j)
          rw [List.length_take] at hrl
          have HRL := hid (show (refsV (L.take j)).length ≤ j from Nat.le_trans hrl (Nat.min_le_left _ _))
          have HY := hid hy; have HJ := hid hlt
          clear hvl hy hlt hj hrl
          by_cases hk : yk = 3
          · subst hk
            have hrw : RowAt (wr.alloc (.cells #[.int .i64 yh, .int .i64 yn] 75)) 2 (.slice (some ⟨wr.heap.size, 0, none⟩) 1 1) 1 [.int .i64 yh, .int .i64 yn] := row_litA (heap_alloc_at _ _ rfl) rfl
            have HRW := hid hrw
            clear hrw
            go_wp2_with (at_builtin; refine wpList_append_row _ rfl _ _ 44 rfl W0.heap.size 75 i0 _ 2 16 Tryz.underlying44 Hi.out Hz0.out Hz1.out Hz2.out rfl (by decide) _ _ _ rfl (HH.out.alloc _) _ 1 _ rfl HRW.out (by intro u hu; simp at hu; rcases hu with rfl | rfl <;> rfl) (by have := HCC.out; have := HRL.out; have := HJ.out; unfold maxLen; omega) (by have := HCC.out; have := HRL.out; have := HJ.out; omega) (by have := HBZ.out.size; simp; omega) ?_)
            intro v5 w5 o5 g5
            have hb5 : Below W0.heap.size W0 w5 := (HBZ.out.alloc HBZ.out.size _).grown g5 (by have := HBZ.out.size; simp; omega) (fun k hk => (HH.out.lt k hk).1)
            have h5 := (HV.out.alloc (.cells #[.int .i64 yh, .int .i64 yn] 75)).kept g5 (own_ne HV.out HH.out (by decide))
            have O5 := hid o5; have HB5 := hid hb5; have H5 := hid h5
            clear o5 g5 hb5 h5
            go_wp2
            go_roundw
            case rel =>
              refine ⟨j + 1, by go_num, HJ.out, ?_, H5.out, HB5.out⟩
              have h := O5.out
              rw [refsV_take HY.out, if_pos rfl]
              simpa [flatH, cellsH, List.flatMap_append, List.append_assoc, Nat.add_assoc] using h
            case measure => have := HJ.out; simp [intOf]; omega
          · have hkb : (yk == 3) = false := by simpa using hk
            have HK := hid hk
            clear hk
            go_wp2
            go_roundw
            case rel =>
              refine ⟨j + 1, by go_num, HJ.out, ?_, HV.out, HBZ.out⟩
              rw [refsV_take HY.out, if_neg HK.out]
              exact HH.out
            case measure => have := HJ.out; simp [intOf]; omega
        · obtain rfl : j = n := by omega
          have hlt' : ¬ (j : Int) < j := by omega
          have htl : L.take j = L := List.take_of_length_le (by rw [HLL.out]; exact Nat.le_refl _)
          have hhs := HH.out
          rw [htl] at hhs
          have HTL := hid htl
          have HHS := hid hhs
          clear hhs hlt hj hvl HV htl
          go_wp2
          go_ret
          refine ⟨.slice aoh (ns + (refsV (L.take j)).length) coh, rfl, ?_, HB.out.trans (HBZ.out.mono HB.out.size)⟩
          rw [HTL.out]
          have h := ownsRow_low HHS.out HB.out.size
          unfold heapsR
          rw [HL.out, List.length_append, HNS.out]
          exact h
end
section
open Go.RowKit
structure OutS (b0 ob : Nat) (x : Sb) (w : World) (vs vp vr vf : Value) : Prop where
  hp : w.heap[ob]? = some (.cells #[.bool x.fin, vs, .int .i64 x.k, vp, vr, vf] 46 (0, 0))
  os : w.ownsRow b0 75 2 vs x.sups.length (flatH x.sups)
  op : w.ownsRow b0 77 4 vp x.ps.length (flatV x.ps)
  or : w.ownsRow b0 77 4 vr x.rs.length (flatV x.rs)
  of : w.ownsRow b0 115 6 vf x.fs.length (flatF x.fs)
  ne : vp.ownBlock = none ∨ vp.ownBlock ≠ vr.ownBlock
theorem OutS.same {b0 ob : Nat} {x : Sb} {w w' : World} {vs vp vr vf : Value} (h : OutS b0 ob x w vs vp vr vf) (u : Upd (fun _ => False) w w') : OutS b0 ob x w' vs vp vr vf :=
  ⟨u.heap_some h.hp (fun q => q), ownsRow_upd h.os u (fun _ _ q => q), ownsRow_upd h.op u (fun _ _ q => q), ownsRow_upd h.or u (fun _ _ q => q), ownsRow_upd h.of u (fun _ _ q => q), h.ne⟩
theorem outh_sups {b0 ob : Nat} {x : Sb} {w w9 : World} {vs vp vr vf : Value} {ob' : Obj} (h : OutS b0 ob x w vs vp vr vf) (gr : (w.drew.alloc ob').grownBy w9 vs.ownBlock) : w9.heap[ob]? = some (.cells #[.bool x.fin, vs, .int .i64 x.k, vp, vr, vf] 46 (0, 0)) := by
  have hn : ∀ k, vs.ownBlock = some k → k ≠ ob := fun k hk e => by subst e; exact row_ne h.os h.hp (by decide) hk
  have u9 : Upd (fun k => vs.ownBlock = some k) w w9 := ((Upd.refl _ w).drew.alloc ob').grown gr (fun k hk => .inl hk)
  exact u9.heap_some h.hp (fun hk => hn _ hk rfl)
theorem out_sups {b0 ob : Nat} {x : Sb} {w w9 : World} {vs vp vr vf v9 : Value} {ob' : Obj} {y : Hp} (h : OutS b0 ob x w vs vp vr vf) (gr : (w.drew.alloc ob').grownBy w9 vs.ownBlock) (o9 : w9.ownsRow b0 75 2 v9 (x.sups.length + 1) (flatH x.sups ++ cellsH y)) (_ : v9.ownBlock = vs.ownBlock ∨ v9.ownBlock = some (w.drew.alloc ob').heap.size) :
    OutS b0 ob ⟨x.fin, x.sups ++ [y], x.k, x.ps, x.rs, x.fs⟩ (w9.setCell ⟨ob, 1, none⟩ v9) v9 vp vr vf := by
  have hn : ∀ k, vs.ownBlock = some k → k ≠ ob := fun k hk e => by subst e; exact row_ne h.os h.hp (by decide) hk
  have u9 : Upd (fun k => vs.ownBlock = some k) w w9 := ((Upd.refl _ w).drew.alloc ob').grown gr (fun k hk => .inl hk)
  have f9 : w9.heap[ob]? = some (.cells #[.bool x.fin, vs, .int .i64 x.k, vp, vr, vf] 46 (0, 0)) := u9.heap_some h.hp (fun hk => hn _ hk rfl)
  have hn9 : ∀ k, v9.ownBlock = some k → k ≠ ob := fun k hk e => by subst e; exact row_ne o9 f9 (by decide) hk
  have u : Upd (fun k => vs.ownBlock = some k ∨ k = ob) w (w9.setCell ⟨ob, 1, none⟩ v9) := (u9.mono fun _ _ hk => .inl hk).setCell (.inl (.inr rfl)) v9
  have sz : (w.drew.alloc ob').heap.size = w.heap.size + 1 := by simp
  exact ⟨by have q := heap_set_at f9 1 v9; simpa using q, (by have q := ownsRow_upd o9 ((Upd.refl (fun k => k = ob) w9).setCell (p := ⟨ob, 1, none⟩) (.inl rfl) v9) hn9; rw [List.length_append, List.length_singleton, flatH, List.flatMap_append]; simpa [flatH] using q), (ownsRow_upd h.op u (fun b hb hk => hk.elim (fun hk => (own_ne h.op h.os (by decide)).elim (fun e => by rw [e] at hb; cases hb) (fun e => e (hb.trans hk.symm))) (fun e => by subst e; exact row_ne h.op h.hp (by decide) hb))), (ownsRow_upd h.or u (fun b hb hk => hk.elim (fun hk => (own_ne h.or h.os (by decide)).elim (fun e => by rw [e] at hb; cases hb) (fun e => e (hb.trans hk.symm))) (fun e => by subst e; exact row_ne h.or h.hp (by decide) hb))), (ownsRow_upd h.of u (fun b hb hk => hk.elim (fun hk => (own_ne h.of h.os (by decide)).elim (fun e => by rw [e] at hb; cases hb) (fun e => e (hb.trans hk.symm))) (fun e => by subst e; exact row_ne h.of h.hp (by decide) hb))), h.ne⟩
theorem outh_ps {b0 ob : Nat} {x : Sb} {w w9 : World} {vs vp vr vf : Value} {ob' : Obj} (h : OutS b0 ob x w vs vp vr vf) (gr : (w.drew.alloc ob').grownBy w9 vp.ownBlock) : w9.heap[ob]? = some (.cells #[.bool x.fin, vs, .int .i64 x.k, vp, vr, vf] 46 (0, 0)) := by
  have hn : ∀ k, vp.ownBlock = some k → k ≠ ob := fun k hk e => by subst e; exact row_ne h.op h.hp (by decide) hk
  have u9 : Upd (fun k => vp.ownBlock = some k) w w9 := ((Upd.refl _ w).drew.alloc ob').grown gr (fun k hk => .inl hk)
  exact u9.heap_some h.hp (fun hk => hn _ hk rfl)
theorem out_ps {b0 ob : Nat} {x : Sb} {w w9 : World} {vs vp vr vf v9 : Value} {ob' : Obj} {y : Vl} (h : OutS b0 ob x w vs vp vr vf) (gr : (w.drew.alloc ob').grownBy w9 vp.ownBlock) (o9 : w9.ownsRow b0 77 4 v9 (x.ps.length + 1) (flatV x.ps ++ cellsV y)) (mv : v9.ownBlock = vp.ownBlock ∨ v9.ownBlock = some (w.drew.alloc ob').heap.size) :
    OutS b0 ob ⟨x.fin, x.sups, x.k, x.ps ++ [y], x.rs, x.fs⟩ (w9.setCell ⟨ob, 3, none⟩ v9) vs v9 vr vf := by
  have hn : ∀ k, vp.ownBlock = some k → k ≠ ob := fun k hk e => by subst e; exact row_ne h.op h.hp (by decide) hk
  have u9 : Upd (fun k => vp.ownBlock = some k) w w9 := ((Upd.refl _ w).drew.alloc ob').grown gr (fun k hk => .inl hk)
  have f9 : w9.heap[ob]? = some (.cells #[.bool x.fin, vs, .int .i64 x.k, vp, vr, vf] 46 (0, 0)) := u9.heap_some h.hp (fun hk => hn _ hk rfl)
  have hn9 : ∀ k, v9.ownBlock = some k → k ≠ ob := fun k hk e => by subst e; exact row_ne o9 f9 (by decide) hk
  have u : Upd (fun k => vp.ownBlock = some k ∨ k = ob) w (w9.setCell ⟨ob, 3, none⟩ v9) := (u9.mono fun _ _ hk => .inl hk).setCell (.inl (.inr rfl)) v9
  have sz : (w.drew.alloc ob').heap.size = w.heap.size + 1 := by simp
  exact ⟨by have q := heap_set_at f9 3 v9; simpa using q, (ownsRow_upd h.os u (fun b hb hk => hk.elim (fun hk => (own_ne h.os h.op (by decide)).elim (fun e => by rw [e] at hb; cases hb) (fun e => e (hb.trans hk.symm))) (fun e => by subst e; exact row_ne h.os h.hp (by decide) hb))), (by have q := ownsRow_upd o9 ((Upd.refl (fun k => k = ob) w9).setCell (p := ⟨ob, 3, none⟩) (.inl rfl) v9) hn9; rw [List.length_append, List.length_singleton, flatV, List.flatMap_append]; simpa [flatV] using q), (ownsRow_upd h.or u (fun b hb hk => hk.elim (fun hk => h.ne.elim (fun e => by rw [e] at hk; cases hk) (fun e => e (hk.trans hb.symm))) (fun e => by subst e; exact row_ne h.or h.hp (by decide) hb))), (ownsRow_upd h.of u (fun b hb hk => hk.elim (fun hk => (own_ne h.of h.op (by decide)).elim (fun e => by rw [e] at hb; cases hb) (fun e => e (hb.trans hk.symm))) (fun e => by subst e; exact row_ne h.of h.hp (by decide) hb))), (by
    rcases mv with mv | mv
    · rw [mv]; exact h.ne
    · right; rw [mv, sz]; intro e; have := (h.or.lt _ e.symm).2; omega)⟩
theorem outh_rs {b0 ob : Nat} {x : Sb} {w w9 : World} {vs vp vr vf : Value} {ob' : Obj} (h : OutS b0 ob x w vs vp vr vf) (gr : (w.drew.alloc ob').grownBy w9 vr.ownBlock) : w9.heap[ob]? = some (.cells #[.bool x.fin, vs, .int .i64 x.k, vp, vr, vf] 46 (0, 0)) := by
  have hn : ∀ k, vr.ownBlock = some k → k ≠ ob := fun k hk e => by subst e; exact row_ne h.or h.hp (by decide) hk
  have u9 : Upd (fun k => vr.ownBlock = some k) w w9 := ((Upd.refl _ w).drew.alloc ob').grown gr (fun k hk => .inl hk)
  exact u9.heap_some h.hp (fun hk => hn _ hk rfl)
theorem out_rs {b0 ob : Nat} {x : Sb} {w w9 : World} {vs vp vr vf v9 : Value} {ob' : Obj} {y : Vl} (h : OutS b0 ob x w vs vp vr vf) (gr : (w.drew.alloc ob').grownBy w9 vr.ownBlock) (o9 : w9.ownsRow b0 77 4 v9 (x.rs.length + 1) (flatV x.rs ++ cellsV y)) (mv : v9.ownBlock = vr.ownBlock ∨ v9.ownBlock = some (w.drew.alloc ob').heap.size) :
    OutS b0 ob ⟨x.fin, x.sups, x.k, x.ps, x.rs ++ [y], x.fs⟩ (w9.setCell ⟨ob, 4, none⟩ v9) vs vp v9 vf := by
  have hn : ∀ k, vr.ownBlock = some k → k ≠ ob := fun k hk e => by subst e; exact row_ne h.or h.hp (by decide) hk
  have u9 : Upd (fun k => vr.ownBlock = some k) w w9 := ((Upd.refl _ w).drew.alloc ob').grown gr (fun k hk => .inl hk)
  have f9 : w9.heap[ob]? = some (.cells #[.bool x.fin, vs, .int .i64 x.k, vp, vr, vf] 46 (0, 0)) := u9.heap_some h.hp (fun hk => hn _ hk rfl)
  have hn9 : ∀ k, v9.ownBlock = some k → k ≠ ob := fun k hk e => by subst e; exact row_ne o9 f9 (by decide) hk
  have u : Upd (fun k => vr.ownBlock = some k ∨ k = ob) w (w9.setCell ⟨ob, 4, none⟩ v9) := (u9.mono fun _ _ hk => .inl hk).setCell (.inl (.inr rfl)) v9
  have sz : (w.drew.alloc ob').heap.size = w.heap.size + 1 := by simp
  exact ⟨by have q := heap_set_at f9 4 v9; simpa using q, (ownsRow_upd h.os u (fun b hb hk => hk.elim (fun hk => (own_ne h.os h.or (by decide)).elim (fun e => by rw [e] at hb; cases hb) (fun e => e (hb.trans hk.symm))) (fun e => by subst e; exact row_ne h.os h.hp (by decide) hb))), (ownsRow_upd h.op u (fun b hb hk => hk.elim (fun hk => h.ne.elim (fun e => by rw [e] at hb; cases hb) (fun e => e (hb.trans hk.symm))) (fun e => by subst e; exact row_ne h.op h.hp (by decide) hb))), (by have q := ownsRow_upd o9 ((Upd.refl (fun k => k = ob) w9).setCell (p := ⟨ob, 4, none⟩) (.inl rfl) v9) hn9; rw [List.length_append, List.length_singleton, flatV, List.flatMap_append]; simpa [flatV] using q), (ownsRow_upd h.of u (fun b hb hk => hk.elim (fun hk => (own_ne h.of h.or (by decide)).elim (fun e => by rw [e] at hb; cases hb) (fun e => e (hb.trans hk.symm))) (fun e => by subst e; exact row_ne h.of h.hp (by decide) hb))), (by
    rcases mv with mv | mv
    · rw [mv]; exact h.ne
    · right; rw [mv, sz]; intro e; have := (h.op.lt _ e).2; omega)⟩
theorem outh_fs {b0 ob : Nat} {x : Sb} {w w9 : World} {vs vp vr vf : Value} {ob' : Obj} (h : OutS b0 ob x w vs vp vr vf) (gr : (w.drew.alloc ob').grownBy w9 vf.ownBlock) : w9.heap[ob]? = some (.cells #[.bool x.fin, vs, .int .i64 x.k, vp, vr, vf] 46 (0, 0)) := by
  have hn : ∀ k, vf.ownBlock = some k → k ≠ ob := fun k hk e => by subst e; exact row_ne h.of h.hp (by decide) hk
  have u9 : Upd (fun k => vf.ownBlock = some k) w w9 := ((Upd.refl _ w).drew.alloc ob').grown gr (fun k hk => .inl hk)
  exact u9.heap_some h.hp (fun hk => hn _ hk rfl)
theorem out_fs {b0 ob : Nat} {x : Sb} {w w9 : World} {vs vp vr vf v9 : Value} {ob' : Obj} {y : Fl} (h : OutS b0 ob x w vs vp vr vf) (gr : (w.drew.alloc ob').grownBy w9 vf.ownBlock) (o9 : w9.ownsRow b0 115 6 v9 (x.fs.length + 1) (flatF x.fs ++ cellsF y)) (_ : v9.ownBlock = vf.ownBlock ∨ v9.ownBlock = some (w.drew.alloc ob').heap.size) :
    OutS b0 ob ⟨x.fin, x.sups, x.k, x.ps, x.rs, x.fs ++ [y]⟩ (w9.setCell ⟨ob, 5, none⟩ v9) vs vp vr v9 := by
  have hn : ∀ k, vf.ownBlock = some k → k ≠ ob := fun k hk e => by subst e; exact row_ne h.of h.hp (by decide) hk
  have u9 : Upd (fun k => vf.ownBlock = some k) w w9 := ((Upd.refl _ w).drew.alloc ob').grown gr (fun k hk => .inl hk)
  have f9 : w9.heap[ob]? = some (.cells #[.bool x.fin, vs, .int .i64 x.k, vp, vr, vf] 46 (0, 0)) := u9.heap_some h.hp (fun hk => hn _ hk rfl)
  have hn9 : ∀ k, v9.ownBlock = some k → k ≠ ob := fun k hk e => by subst e; exact row_ne o9 f9 (by decide) hk
  have u : Upd (fun k => vf.ownBlock = some k ∨ k = ob) w (w9.setCell ⟨ob, 5, none⟩ v9) := (u9.mono fun _ _ hk => .inl hk).setCell (.inl (.inr rfl)) v9
  have sz : (w.drew.alloc ob').heap.size = w.heap.size + 1 := by simp
  exact ⟨by have q := heap_set_at f9 5 v9; simpa using q, (ownsRow_upd h.os u (fun b hb hk => hk.elim (fun hk => (own_ne h.os h.of (by decide)).elim (fun e => by rw [e] at hb; cases hb) (fun e => e (hb.trans hk.symm))) (fun e => by subst e; exact row_ne h.os h.hp (by decide) hb))), (ownsRow_upd h.op u (fun b hb hk => hk.elim (fun hk => (own_ne h.op h.of (by decide)).elim (fun e => by rw [e] at hb; cases hb) (fun e => e (hb.trans hk.symm))) (fun e => by subst e; exact row_ne h.op h.hp (by decide) hb))), (ownsRow_upd h.or u (fun b hb hk => hk.elim (fun hk => (own_ne h.or h.of (by decide)).elim (fun e => by rw [e] at hb; cases hb) (fun e => e (hb.trans hk.symm))) (fun e => by subst e; exact row_ne h.or h.hp (by decide) hb))), (by have q := ownsRow_upd o9 ((Upd.refl (fun k => k = ob) w9).setCell (p := ⟨ob, 5, none⟩) (.inl rfl) v9) hn9; rw [List.length_append, List.length_singleton, flatF, List.flatMap_append]; simpa [flatF] using q), h.ne⟩
end
section
open Go Go.RowKit
section
variable {P : Program} {ops : Array Oper} {md : Region.Mode} {S : World → Prop} {Q : Exit → Act → World → Prop}
def wpAnyHL (P : Program) (md : Region.Mode) (ops : Array Oper) (Q : Exit → Act → World → Prop) (S : World → Prop) (n : Nat) (L : Array Bool → Act → World → Prop) : Nat → Array Bool → Act → World → Prop
  | 0, listed, a, w => L listed a w
  | f + 1, listed, a, w =>
    Region.ready md ops listed ≠ [] ∧ ∀ i ∈ Region.ready md ops listed, i < n ∧ wpOp P ops Q i (fun a' w' => S w' ∧ wpAnyHL P md ops Q S n L f (listed.setIfInBounds i true) a' w') a w
theorem wpAny_of_headH {n g : Nat} {L : Array Bool → Act → World → Prop} (hL : ∀ listed a w, L listed a w → wpAny P md ops Q g listed a w) :
    ∀ (f : Nat) (listed : Array Bool) (a : Act) (w : World), wpAnyHL P md ops Q S n L f listed a w → wpAny P md ops Q (f + g) listed a w
  | 0, listed, a, w, h => by rw [Nat.zero_add]; exact hL _ _ _ h
  | f + 1, listed, a, w, h => by
    rw [show f + 1 + g = (f + g) + 1 by omega]
    exact ⟨fun h0 => absurd h0 h.1, fun i hi => wpOp_mono (fun a' w' h' => wpAny_of_headH hL f _ a' w' h'.2) (h.2 i hi).2⟩
theorem wpAnyHL_first {n i : Nat} {oi : Oper} {v : Value} {L : Array Bool → Act → World → Prop} (hi : ops[i]? = some oi) (hsel : ∀ (j : Nat) (o : Oper) cs b, ops[j]? = some o → o.op ≠ .select cs b)
    (hQ : ∀ c a d v w, Q (.panic c) (Act.put a d v) w → Q (.panic c) a w)
    (hs : Region.sinkB md ops n = true) (hc : Region.chainB md ops n = true) (hn : n < ops.size) (hin : i < n)
    (hdone : ∀ listed a w, L listed a w → ∀ j ∈ Region.ready md ops listed, n ≤ j) :
    ∀ (f : Nat) (listed : Array Bool) (a : Act) (w : World), HeadInv md ops n listed →
      (∀ j oj, ops[j]? = some oj → j ≠ i → listed.getD j true = false → (∀ e ∈ oj.after, Region.binds md e = true → e.on ≠ i) → oi.apart ops oj = true) →
      i ∈ Region.ready md ops listed → YieldsIf P ops S oi v a → S w →
      wpAnyHL P md ops Q S n L f (listed.setIfInBounds i true) (a.put oi.dst v) w → wpAnyHL P md ops Q S n L (f + 1) listed a w := by
  intro f
  induction f with
  | zero =>
    intro listed a w inv _ hr hy hS H
    have hun := (mem_ready.1 hr).1
    refine ⟨fun h => (by rw [h] at hr; cases hr), fun j hj => ?_⟩
    have hjn : j < n := by
      rcases Nat.lt_or_ge j n with h | h
      · exact h
      · exact absurd hj (tail_waits hs hc hn inv _ i rfl hin hun j h)
    refine ⟨hjn, ?_⟩
    by_cases hji : j = i
    · subst hji; exact hy.wpOp hi hS ⟨hS, H⟩
    · have := hdone _ _ _ H j (ready_mono hj hji)
      omega
  | succ f ih =>
    intro listed a w inv hfree hr hy hS H
    have hun := (mem_ready.1 hr).1
    refine ⟨fun h => (by rw [h] at hr; cases hr), fun j hj => ?_⟩
    have hjn : j < n := by
      rcases Nat.lt_or_ge j n with h | h
      · exact h
      · exact absurd hj (tail_waits hs hc hn inv _ i rfl hin hun j h)
    refine ⟨hjn, ?_⟩
    by_cases hji : j = i
    · subst hji; exact hy.wpOp hi hS ⟨hS, H⟩
    · have h1 := (H.2 j (ready_mono hj hji)).2
      obtain ⟨hjun, oj, hoj, hall⟩ := mem_ready.1 hj
      have hnot : ∀ e ∈ oj.after, Region.binds md e = true → e.on ≠ i := fun e he hb heq => by
        have h1 := hall e he hb
        rw [heq, getD_both hun] at h1
        cases h1
      have h2 := wpOp_putIf hoj (hfree j oj hoj hji hjun hnot) (fun cs b => hsel i oi cs b hi) (fun cs b => hsel j oj cs b hoj) (fun c a w => hQ c a _ _ w) hy h1
      have hfree' : ∀ k ok, ops[k]? = some ok → k ≠ i → (listed.setIfInBounds j true).getD k true = false →
          (∀ e ∈ ok.after, Region.binds md e = true → e.on ≠ i) → oi.apart ops ok = true := fun k ok hk hki hkun hno => by
        refine hfree k ok hk hki ?_ hno
        by_cases hjk : j = k
        · subst hjk; exact hjun
        · rw [getD_set_ne true hjk] at hkun; exact hkun
      refine wpOp_mono (fun a' w' h3 => ⟨h3.2.1, ih (listed.setIfInBounds j true) a' w' (inv.set hj hjn) hfree' (ready_mono hr (Ne.symm hji)) h3.1 h3.2.1 ?_⟩) h2
      rw [Array.setIfInBounds_comm _ _ hji]
      exact h3.2.2
def valued (o : Oper) : Bool := match o.op with
  | .move _ | .assign _ | .load .. | .build .. | .binOp .. | .unOp .. | .slice .. | .fieldAddr .. | .field .. | .indexAddr .. | .index .. | .extract .. | .convert .. | .nilCheck (.tmp _) | .call { callee := .builtin .len, .. } => true
  | _ => false
def quietB (md : Region.Mode) (ops : Array Oper) (n : Nat) : List Nat → Array Bool → Option (Array Bool)
  | [], listed => some listed
  | i :: r, listed => if decide (i < n) && (Region.ready md ops listed).contains i && Region.free md ops listed i then quietB md ops n r (listed.setIfInBounds i true) else none
def midsB (md : Region.Mode) (ops : Array Oper) (n : Nat) : List Nat → Array Bool → Option (Array Bool)
  | [], listed => some listed
  | i :: r, listed => if decide (i < n) && decide (Region.ready md ops listed = [i]) then midsB md ops n r (listed.setIfInBounds i true) else none
def midB (md : Region.Mode) (ops : Array Oper) (n : Nat) (hs ms : List Nat) : Bool :=
  Region.noSelect ops && decide (n < ops.size) && Region.sinkB md ops n && Region.chainB md ops n && decide (hs.length + ms.length = n) &&
    match quietB md ops n hs (Array.replicate ops.size false) with
    | none => false
    | some l1 => match midsB md ops n ms l1 with
      | none => false
      | some l2 => Region.seqB md ops (ops.size - n) n l2
def wpMids (P : Program) (ops : Array Oper) (Q : Exit → Act → World → Prop) (S : World → Prop) (T : Act → World → Prop) : List Oper → Act → World → Prop
  | [], a, w => T a w
  | o :: r, a, w => wpList P ops (Exit.then (fun a' w' => S w' ∧ wpMids P ops Q S T r a' w') Q) [o] a w
def wpIfs (P : Program) (ops : Array Oper) (S : World → Prop) (T : Act → Prop) : List Oper → Act → Prop
  | [], a => T a
  | o :: r, a => ∃ v, YieldsIf P ops S o v a ∧ wpIfs P ops S T r (a.put o.dst v)
theorem wpAnyHL_mids {n : Nat} {L : Array Bool → Act → World → Prop} {T : Act → World → Prop} : ∀ (ms : List Nat) (listed l2 : Array Bool) (os : List Oper) (a : Act) (w : World), midsB md ops n ms listed = some l2 → ms.map (fun i => ops[i]?) = os.map some →
    (∀ a w, T a w → L l2 a w) → wpMids P ops Q S T os a w → wpAnyHL P md ops Q S n L ms.length listed a w
  | [], listed, l2, os, a, w, hb, ho, hT, h => by
    cases os with
    | nil => simp [midsB] at hb; subst hb; exact hT _ _ h
    | cons o os => simp at ho
  | i :: ms, listed, l2, [], a, w, hb, ho, hT, h => by simp at ho
  | i :: ms, listed, l2, o :: os, a, w, hb, ho, hT, h => by
    simp only [List.map_cons, List.cons.injEq] at ho
    obtain ⟨ho1, ho2⟩ := ho
    unfold midsB at hb
    split at hb
    · rename_i hc
      simp only [Bool.and_eq_true, decide_eq_true_eq] at hc
      refine ⟨by rw [hc.2]; simp, fun j hj => ?_⟩
      rw [hc.2] at hj
      obtain rfl : j = i := by simpa using hj
      refine ⟨hc.1, ?_⟩
      have : wpOp P ops Q j (fun a' w' => S w' ∧ wpMids P ops Q S T os a' w') a w := by
        unfold wpOp; rw [ho1]; exact h
      exact wpOp_mono (fun a' w' h' => ⟨h'.1, wpAnyHL_mids ms _ l2 os a' w' hb ho2 hT h'.2⟩) this
    · cases hb
theorem wpAnyHL_ifs {n : Nat} {L : Array Bool → Act → World → Prop} (hsel : Region.noSelect ops = true) (hQ : ∀ c a d v w, Q (.panic c) (Act.put a d v) w → Q (.panic c) a w) (hsk : Region.sinkB md ops n = true) (hc : Region.chainB md ops n = true) (hn : n < ops.size)
    (hdone : ∀ listed a w, L listed a w → ∀ j ∈ Region.ready md ops listed, n ≤ j) (w : World) (hS : S w) : ∀ (hs : List Nat) (listed l1 : Array Bool) (os : List Oper) (a : Act) (f : Nat) (T : Act → Prop), HeadInv md ops n listed → quietB md ops n hs listed = some l1 → hs.map (fun i => ops[i]?) = os.map some →
    (∀ a, T a → wpAnyHL P md ops Q S n L f l1 a w) → wpIfs P ops S T os a → wpAnyHL P md ops Q S n L (hs.length + f) listed a w
  | [], listed, l1, os, a, f, T, inv, hb, ho, hT, h => by
    cases os with
    | nil => simp [quietB] at hb; subst hb; simpa using hT _ h
    | cons o os => simp at ho
  | i :: hs, listed, l1, [], a, f, T, inv, hb, ho, hT, h => by simp at ho
  | i :: hs, listed, l1, o :: os, a, f, T, inv, hb, ho, hT, h => by
    simp only [List.map_cons, List.cons.injEq] at ho
    obtain ⟨ho1, ho2⟩ := ho
    unfold quietB at hb
    split at hb
    · rename_i hcc
      simp only [Bool.and_eq_true, decide_eq_true_eq] at hcc
      obtain ⟨⟨hin, hr⟩, hf⟩ := hcc
      have hr' : i ∈ Region.ready md ops listed := by simpa using hr
      obtain ⟨v, hy, hK⟩ := h
      rw [List.length_cons, show hs.length + 1 + f = (hs.length + f) + 1 by omega]
      exact wpAnyHL_first ho1 (Region.noSelect_spec hsel) hQ hsk hc hn hin hdone _ _ _ _ inv (Region.free_spec ho1 hf) hr' hy hS (wpAnyHL_ifs hsel hQ hsk hc hn hdone w hS hs _ l1 os _ f T (inv.set hr' hin) hb ho2 hT hK)
    · cases hb
theorem pure_value {s : Sem Value} {w w' : World} {n : Next} (h : (do pure (Next.value (← s)) : Sem Next).run P w = .ok n w') : ∃ u, n = .value u := by
  simp only [Sem.run_bind, Sem.run_pure] at h
  cases hr : s.run P w with
  | ok v w1 => rw [hr] at h; simp [Result.andThen] at h; exact ⟨v, h.1.symm⟩
  | halt x w1 => rw [hr] at h; simp [Result.andThen] at h
def ValOnly (P : Program) (s : Sem Next) : Prop := ∀ w n w', s.run P w = .ok n w' → ∃ u, n = .value u
theorem ValOnly.pure (v : Value) : ValOnly P (Pure.pure (.value v)) := fun w n w' h => by simp at h; exact ⟨_, h.1.symm⟩
theorem ValOnly.bind {α : Type} {s : Sem α} {f : α → Sem Next} (hf : ∀ x, ValOnly P (f x)) : ValOnly P (s >>= f) := fun w n w' h => by
  rw [Sem.run_bind] at h
  cases hr : s.run P w with
  | ok v w1 => rw [hr] at h; exact hf v w1 n w' h
  | halt x w1 => rw [hr] at h; cases h
theorem ValOnly.panic (v : Value) : ValOnly P (goPanic v) := fun w n w' h => by cases h
theorem ValOnly.nil : ValOnly P (runtimePanic .nilDeref) := ValOnly.bind fun _ => ValOnly.panic _
theorem valued_run {o : Oper} (hv : valued o = true) {a : Act} {w w' : World} {n : Next} (h : (execOp a.eval o).run P w = .ok n w') : ∃ u, n = .value u := by
  unfold valued at hv
  split at hv <;> rename_i ho
  all_goals first | (cases hv; done) | skip
  all_goals (simp only [execOp, ho] at h)
  all_goals first | exact pure_value h | skip
  · simp at h; exact ⟨_, h.1.symm⟩
  · simp at h; exact ⟨_, h.1.symm⟩
  · split at h
    · exact ValOnly.nil _ _ _ h
    · exact ValOnly.nil _ _ _ h
    · exact ValOnly.nil _ _ _ h
    · split at h
      · exact ValOnly.nil _ _ _ h
      · refine ValOnly.bind (fun _ => ValOnly.bind (fun x => ?_)) _ _ _ h
        split
        · exact ValOnly.bind fun _ => ValOnly.pure _
        · exact ValOnly.pure _
      · exact ValOnly.pure _ _ _ _ h
    · exact ValOnly.pure _ _ _ _ h
theorem yieldsIf_of_quietAt {o : Oper} (hv : valued o = true) {a : Act} {v : Value} {w : World} (h : o.quietAt P a S w v) : (execOp a.eval o).run P w = .ok (.value v) w := by
  unfold Oper.quietAt at h
  cases hr : (execOp a.eval o).run P w with
  | ok n w' =>
    obtain ⟨u, rfl⟩ := valued_run hv hr
    rw [hr] at h
    simp only [Oper.quietUpon] at h
    rw [h.1, h.2]
  | halt x w' => rw [hr] at h; simp only [Oper.quietUpon] at h
theorem wpIfs_of_quiet {T : Act → Prop} : ∀ (l : List Oper) (a : Act), (∀ o ∈ l, valued o = true) → wpQuiet P ops S T l a → wpIfs P ops S T l a
  | [], a, _, h => h
  | o :: l, a, hv, h => by
    unfold wpQuiet at h
    split at h
    · rename_i hw
      obtain ⟨v, h1, h2⟩ := h
      exact ⟨v, .inl ⟨hw, fun w hS => yieldsIf_of_quietAt (hv o (by simp)) (h1 w hS)⟩, wpIfs_of_quiet l _ (fun o ho => hv o (by simp [ho])) h2⟩
    · rename_i hw
      exact ⟨undef, .inr ⟨by simpa using hw, rfl⟩, wpIfs_of_quiet l _ (fun o ho => hv o (by simp [ho])) h⟩
def pickO (l : List Oper) : List Nat → List Oper
  | [] => []
  | i :: r => l.getD i default :: pickO l r
theorem pickO_eq (l : List Oper) : ∀ (hs : List Nat), (∀ i ∈ hs, i < l.length) → hs.filterMap (fun i => l[i]?) = pickO l hs
  | [], _ => rfl
  | i :: hs, h => by
    have hi := h i (by simp)
    rw [List.filterMap_cons, List.getElem?_eq_getElem hi]
    simp only [pickO]
    rw [pickO_eq l hs (fun j hj => h j (by simp [hj])), List.getD_eq_getElem?_getD, List.getElem?_eq_getElem hi]
    rfl
theorem map_filterMap {α : Type} (l : List α) : ∀ (hs : List Nat), (∀ i ∈ hs, i < l.length) → hs.map (fun i => l[i]?) = (hs.filterMap (fun i => l[i]?)).map some
  | [], _ => rfl
  | i :: hs, h => by
    have hi := h i (by simp)
    rw [List.map_cons, map_filterMap l hs (fun j hj => h j (by simp [hj])), List.filterMap_cons, List.getElem?_eq_getElem hi]
    rfl
theorem wp_region_midX {X : Type} (val : X → World) {id : Nat} {a : Act} {w : World} {l : List Oper} (n : Nat) (hs ms : List Nat) (hm : P.follows .mixedOrders = true) (hB : midB .any l.toArray n hs ms = true) (hv : (hs.all fun i => decide (i < l.length) && ((l[i]?).map valued).getD false) = true) (hv2 : (ms.all fun i => decide (i < l.length)) = true)
    (hQ : ∀ c a d v w, Q (.panic c) (Act.put a d v) w → Q (.panic c) a w)
    (hS0 : ∃ x : X, w.drew = val x) (h : wpQuiet P l.toArray (fun w' => ∃ x : X, w' = val x) (fun a' => wpMids P l.toArray Q (fun w' => ∃ x : X, w' = val x) (fun a2 w2 => wpList P l.toArray Q (l.drop n) a2 w2) (pickO l ms) a' w.drew) (pickO l hs) a) : (Code.region id l.toArray true).wp P Q a w := by
  simp only [midB, Bool.and_eq_true, decide_eq_true_eq] at hB
  obtain ⟨⟨⟨⟨⟨hsel, hn⟩, hsk⟩, hc⟩, hlen⟩, hrest⟩ := hB
  have hn' : n < l.length := by simpa using hn
  have hdl : (l.drop n).length = l.toArray.size - n := by simp
  split at hrest
  · cases hrest
  rename_i l1 hq1
  split at hrest
  · cases hrest
  rename_i l2 hq2
  rw [List.all_eq_true] at hv hv2
  have hv' : ∀ i ∈ hs, i < l.length ∧ ((l[i]?).map valued).getD false = true := fun i hi => by have := hv i hi; simpa using this
  have hv2' : ∀ i ∈ ms, i < l.length := fun i hi => by have := hv2 i hi; simpa using this
  rw [← pickO_eq l hs (fun i hi => (hv' i hi).1), ← pickO_eq l ms hv2'] at h
  have hall : ∀ o ∈ hs.filterMap (fun i => l[i]?), valued o = true := by
    intro o ho
    obtain ⟨i, hi, hio⟩ := List.mem_filterMap.1 ho
    have := (hv' i hi).2
    rw [hio] at this
    simpa using this
  have inv0 : HeadInv .any l.toArray n (Array.replicate l.toArray.size false) :=
    ⟨by simp, fun j oj _ hl => (by rw [getD_replicate_false] at hl; cases hl), fun t _ ht => getD_in (by simpa using ht) (getD_replicate_false _ _)⟩
  have H := wpAnyHL_ifs (P := P) (Q := Q) (md := .any) (S := fun w' => ∃ x : X, w' = val x) (L := fun listed' a' w' => Region.seqB .any l.toArray (l.toArray.size - n) n listed' = true ∧ wpList P l.toArray Q (l.drop n) a' w')
    hsel hQ hsk hc hn (fun listed a w hL => seqB_ready hL.1) w.drew hS0 hs _ l1 (hs.filterMap (fun i => l[i]?)) a ms.length _ inv0 hq1 (by simpa using map_filterMap l hs (fun i hi => (hv' i hi).1))
    (fun a' ha => wpAnyHL_mids ms l1 l2 (ms.filterMap (fun i => l[i]?)) a' _ hq2 (by simpa using map_filterMap l ms hv2') (fun a2 w2 h2 => ⟨hrest, h2⟩) ha) (wpIfs_of_quiet _ _ hall h)
  refine wp_region_any hm ?_
  have := wpAny_of_headH (P := P) (Q := Q) (md := .any) (g := l.toArray.size - n) (fun listed a' w' hL => by
    have := wpAny_of_seq (md := .any) (Q' := Q) (l.drop n) n listed a' w' (fun j => by simp [List.getElem?_drop]) (by rw [hdl]; exact hL.1) hL.2
    rwa [hdl] at this) _ _ _ _ H
  rw [show hs.length + ms.length + (l.toArray.size - n) = l.toArray.size by omega] at this
  exact this
end
def ExtU (R : Nat → Prop) (w0 : World) : Type := { w : World // Upd R w0 w }
instance (R : Nat → Prop) (w0 : World) : Nonempty (ExtU R w0) := ⟨⟨w0, Upd.refl _ _⟩⟩
theorem ExtU.cells {R : Nat → Prop} {w0 : World} {p : Addr} {v : Value} (h : w0.cell? p = some v) (hr : ¬ R p.block) : ∀ x : ExtU R w0, x.val.cell? p = some v := fun x => x.2.cell_some h hr
end
end Go.Proofs.YtpddbaijnjbfdaaGreatDoor
