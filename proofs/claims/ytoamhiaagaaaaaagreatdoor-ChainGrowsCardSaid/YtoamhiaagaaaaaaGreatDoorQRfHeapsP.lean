/- Of no program: appends as steps of a region that draws its order: of a row that lies in a new block, of a string's bytes. -/
import Derived.Test.YtoamhiaagaaaaaaGreatDoorQKdRowsP
import Derived.Deep.RegionLaw
import Derived.Deep.RegionHeldLaw
import Derived.Lib.AppendStr
import Derived.Laws.OwnMore
import Derived.Test.YtoamhiaagaaaaaaGreatDoorQRfSub
import Derived.Test.YtoamhiaagaaaaaaGreatDoorQRfTabP
import Derived.Test.YtoamhiaagaaaaaaGreatDoorQRoAskP
namespace Go.Proofs.YtoamhiaagaaaaaaGreatDoor
open Go.RowKit

section
variable {P : Program} {ops : Array Oper} {o : Oper} {a : Act} {w : World} {K : Act → World → Prop} {Q : Exit → Act → World → Prop} {E : Prop}
theorem step_append_own (hg : o.guard = none) (s x : Operand) (t : TypeId) (hop : o.op = Op.call { callee := Callee.builtin Builtin.append, args := #[s, x], argTypes := #[t, t] })
    (base : Nat) (e : TypeId) (i : TypeInfo) (z : Value) (size bytes : Nat) (h1 : P.underlying t = some (.slice e)) (h2 : P.info? e = some i) (h3 : i.zero = some z) (h4 : i.size = size) (h5 : i.bytes = bytes) (h6 : z.cells.size = size) (h7 : 0 < size)
    (v : Value) (n : Nat) (xs : List Value) (hs : a.eval s = v) (hown : w.ownsRow base e size v n xs)
    (ad : Addr) (m c : Nat) (news : List Value) (hx : a.eval x = .slice (some ad) m c) (hn : news.length = m * size) (hc : ∀ j u, news[j]? = some u → w.cell? (ad.add j) = some u) (h1c : ∀ u ∈ news, u.oneCell' = true)
    (b1 : n + m ≤ maxLen) (b2 : (n + m) * bytes ≤ 140737488355328) (b3 : base ≤ w.heap.size)
    (hK : ∀ v' w', w'.ownsRow base e size v' (n + m) (xs ++ news) → w.grownBy w' v.ownBlock → (v'.ownBlock = v.ownBlock ∨ v'.ownBlock = some w.heap.size) → K (a.put o.dst v') w') :
    if Region.wanted o (yielded ops a.tmps) = true then Oper.wp P o a w K Q else E := by
  have hw : Region.wanted o (yielded ops a.tmps) = true := by simp [Region.wanted, hg]
  rw [if_pos hw]
  obtain ⟨v', w', hr, r1, r2, _, r4⟩ := run_append_own_at (P := P) w base t o.type e i z size bytes h1 h2 h3 h4 h5 h6 h7 v n xs hown ad m c news hn hc h1c b1 b2 b3
  unfold Oper.wp
  simp [execOp, hop, resolve, invoke, builtin, hs, hx, hr, Result.andThen]
  exact hK v' w' r1 r2 r4
theorem step_append_str (hg : o.guard = none) (sl x : Operand) (t u : TypeId) (hop : o.op = Op.call { callee := Callee.builtin Builtin.append, args := #[sl, x], argTypes := #[t, u] })
    (base : Nat) (e : TypeId) (i : TypeInfo) (ht : P.underlying t = some (.slice e)) (hu : P.underlying u = some .string) (hi : P.info? e = some i) (hz : i.zero = some (.int .u8 0)) (hsize : i.size = 1) (hby : i.bytes = 1)
    (v : Value) (n : Nat) (xs : List Value) (hs : a.eval sl = v) (hown : w.ownsRow base e 1 v n xs) (s : ByteArray) (hx : a.eval x = .string s)
    (b1 : n + s.size ≤ maxLen) (b2 : n + s.size ≤ 140737488355328) (b3 : base ≤ w.heap.size)
    (hK : ∀ v' w', w'.ownsRow base e 1 v' (n + s.size) (xs ++ Lib.strCells s) → w.grownBy w' v.ownBlock → K (a.put o.dst v') w') :
    if Region.wanted o (yielded ops a.tmps) = true then Oper.wp P o a w K Q else E := by
  have hw : Region.wanted o (yielded ops a.tmps) = true := by simp [Region.wanted, hg]
  rw [if_pos hw]
  obtain ⟨v', w', hr, r1, r2, _⟩ := Lib.run_append_own_string (P := P) w base t u o.type e i ht hu hi hz hsize hby v n xs hown s b1 b2 b3
  unfold Oper.wp
  simp [execOp, hop, resolve, invoke, builtin, hs, hx, hr, Result.andThen]
  exact hK v' w' r1 r2
end
end Go.Proofs.YtoamhiaagaaaaaaGreatDoor

/- Of no program: append of a row that may be empty; rows of unlike types. -/
namespace Go.Proofs.YtoamhiaagaaaaaaGreatDoor
open Go.RowKit

theorem wpList_append_row {P : Program} (w : World) {ops : Array Oper} {rest : List Oper} {o : Oper} {a : Act} {Q : Exit → Act → World → Prop} (hgd : o.guard = none) (s x : Operand) (t : TypeId)
    (ho : o.op = .call { callee := .builtin .append, args := #[s, x], argTypes := #[t, t] })
    (base : Nat) (e : TypeId) (i : TypeInfo) (z : Value) (size bytes : Nat) (ht : P.underlying t = some (.slice e)) (hi : P.info? e = some i) (hz : i.zero = some z)
    (hsize : i.size = size) (hby : i.bytes = bytes) (hzs : z.cells.size = size) (hsz : 0 < size)
    (v : Value) (n : Nat) (xs : List Value) (hs : a.eval s = v) (hown : w.ownsRow base e size v n xs)
    (y : Value) (m : Nat) (news : List Value) (hx : a.eval x = y) (hrow : RowAt w size y m news) (h1 : ∀ u ∈ news, u.oneCell' = true)
    (h63 : n + m ≤ maxLen) (hbytes : (n + m) * bytes ≤ 140737488355328) (hbase : base ≤ w.heap.size)
    (h : ∀ v' w', w'.ownsRow base e size v' (n + m) (xs ++ news) → w.grownBy w' v.ownBlock → wpList P ops Q rest (a.put o.dst v') w') : wpList P ops Q (o :: rest) a w := by
  obtain ⟨hl, ⟨rfl, rfl⟩ | ⟨ad, cap, rfl, hc, hnews⟩⟩ := hrow
  · refine wpList_plain hgd fun K hK => ?_
    have hr := run_append_owned_none (P := P) (w := w) base t o.type e i size ht hi v n xs hown
    unfold Oper.wp execOp
    simp only [ho, resolve, invoke, builtin, Sem.run_bind, Sem.run_pure, Result.andThen_ok, List.map_toArray, List.map_cons, List.map_nil, hs, hx, hr]
    refine hK _ _ (h v w ?_ ⟨rfl, rfl, rfl, Nat.le_refl _, fun _ _ _ => rfl⟩)
    have hn : news = [] := List.eq_nil_of_length_eq_zero (by simpa using hl)
    subst hn
    simpa using hown
  · exact wpList_append_own w hgd s x t ho base e i z size bytes ht hi hz hsize hby hzs hsz v n xs hs hown ad m cap news hx hl hnews h1 h63 hbytes hbase (fun v' w' r1 r2 _ => h v' w' r1 r2)
theorem step_append_row {P : Program} {ops : Array Oper} {o : Oper} {a : Act} {w : World} {K : Act → World → Prop} {Q : Exit → Act → World → Prop} {E : Prop} (hg : o.guard = none) (s x : Operand) (t : TypeId) (hop : o.op = Op.call { callee := Callee.builtin Builtin.append, args := #[s, x], argTypes := #[t, t] })
    (base : Nat) (e : TypeId) (i : TypeInfo) (z : Value) (size bytes : Nat) (ht : P.underlying t = some (.slice e)) (hi : P.info? e = some i) (hz : i.zero = some z)
    (hsize : i.size = size) (hby : i.bytes = bytes) (hzs : z.cells.size = size) (hsz : 0 < size)
    (v : Value) (n : Nat) (xs : List Value) (hs : a.eval s = v) (hown : w.ownsRow base e size v n xs)
    (y : Value) (m : Nat) (news : List Value) (hx : a.eval x = y) (hrow : RowAt w size y m news) (h1 : ∀ u ∈ news, u.oneCell' = true)
    (h63 : n + m ≤ maxLen) (hbytes : (n + m) * bytes ≤ 140737488355328) (hbase : base ≤ w.heap.size)
    (hK : ∀ v' w', w'.ownsRow base e size v' (n + m) (xs ++ news) → w.grownBy w' v.ownBlock → K (a.put o.dst v') w') :
    if Region.wanted o (yielded ops a.tmps) = true then Oper.wp P o a w K Q else E := by
  have hw : Region.wanted o (yielded ops a.tmps) = true := by simp [Region.wanted, hg]
  rw [if_pos hw]
  obtain ⟨hl, ⟨rfl, rfl⟩ | ⟨ad, cap, rfl, hc, hnews⟩⟩ := hrow
  · have hr := run_append_owned_none (P := P) (w := w) base t o.type e i size ht hi v n xs hown
    unfold Oper.wp
    simp [execOp, hop, resolve, invoke, builtin, hs, hx, hr, Result.andThen]
    refine hK v w ?_ ⟨rfl, rfl, rfl, Nat.le_refl _, fun _ _ _ => rfl⟩
    have hn : news = [] := List.eq_nil_of_length_eq_zero (by simpa using hl)
    subst hn
    simpa using hown
  · obtain ⟨v', w', hr, r1, r2, _⟩ := run_append_own (P := P) w base t o.type e i z size bytes ht hi hz hsize hby hzs hsz v n xs hown ad m cap news hl hnews h1 h63 hbytes hbase
    unfold Oper.wp
    simp [execOp, hop, resolve, invoke, builtin, hs, hx, hr, Result.andThen]
    exact hK v' w' r1 r2
theorem own_ne {w : World} {b1 b2 : Nat} {e1 e2 : TypeId} {s1 s2 : Nat} {v1 v2 : Value} {n1 n2 : Nat} {x1 x2 : List Value} (h1 : w.ownsRow b1 e1 s1 v1 n1 x1) (h2 : w.ownsRow b2 e2 s2 v2 n2 x2) (he : e1 ≠ e2) : v1.ownBlock = none ∨ v1.ownBlock ≠ v2.ownBlock := by
  rcases h1.2 with ⟨rfl, _⟩ | ⟨g, cap, cur, rfl, _, hg, _⟩
  · exact .inl rfl
  · right
    rcases h2.2 with ⟨rfl, _⟩ | ⟨g2, cap2, cur2, rfl, _, hg2, _⟩
    · simp [Value.ownBlock]
    · intro e
      simp [Value.ownBlock] at e
      subst e
      rw [hg] at hg2
      simp at hg2
      exact he hg2.2
theorem owns_e (W : World) {B : Nat} (hB : B ≤ W.heap.size) (e : TypeId) (size : Nat) {b : Nat} (hb : b = W.heap.size) : (W.alloc (.cells #[] e)).ownsRow B e size (.slice (some ⟨b, 0, none⟩) 0 0) 0 [] := by
  subst hb
  exact ⟨by simp, .inr ⟨W.heap.size, 0, #[], rfl, hB, World.alloc_heap_new _ _, Nat.le_refl _, by simp [maxLen], by simp, by simp⟩⟩
theorem row_litA {w : World} {q c n : Nat} {T : TypeId} {xs : List Value} (h : w.heap[q]? = some (.cells xs.toArray T (0, 0))) (hl : xs.length = n * c) : RowAt w c (.slice (some ⟨q, 0, none⟩) n n) n xs := by
  refine ⟨hl, .inr ⟨_, n, rfl, Nat.le_refl _, fun j u hj => ?_⟩⟩
  rw [Addr.add_lit, Nat.zero_add, heap_cell h]
  simpa using hj
theorem flatH_one (l : List Hp) : ∀ u ∈ flatH l, u.oneCell' = true := fun u hu => by
  obtain ⟨h, _, hh⟩ := List.mem_flatMap.1 hu
  simp [cellsH] at hh
  rcases hh with rfl | rfl <;> rfl
theorem flatV_one (l : List Vl) : ∀ u ∈ flatV l, u.oneCell' = true := fun u hu => by
  obtain ⟨h, _, hh⟩ := List.mem_flatMap.1 hu
  simp [cellsV] at hh
  rcases hh with rfl | rfl | rfl | rfl <;> rfl
theorem flatF_one (l : List Fl) : ∀ u ∈ flatF l, u.oneCell' = true := fun u hu => by
  obtain ⟨h, _, hh⟩ := List.mem_flatMap.1 hu
  simp [cellsF] at hh
  rcases hh with rfl | rfl | rfl | rfl | rfl | rfl <;> rfl
theorem ints_one (l : List Int) : ∀ u ∈ l.map (Value.int .i64), u.oneCell' = true := fun u hu => by
  obtain ⟨h, _, rfl⟩ := List.mem_map.1 hu
  rfl
end Go.Proofs.YtoamhiaagaaaaaaGreatDoor

/- geoderef04: Heaps. -/
namespace Go.Proofs.YtoamhiaagaaaaaaGreatDoor
open Go.RowKit

set_option maxRecDepth 100000 in
set_option maxHeartbeats 4000000 in
theorem rHeaps_any (cs : List Value) (s : Sb) (w : World) (hs : SubAt w cs s) (hc : cnt s ≤ 1000000) : Calls Tryz.prog 93 #[.agg cs.toArray] w fun e w' => ∃ u, e = .returned u ∧ w'.ownsRow w.heap.size 26 2 u (heapsR s).length (flatH (heapsR s)) ∧ Below w.heap.size w w' := by
  obtain ⟨vs, vp, vr, vf, rfl, h1, h2, h3, h4⟩ := hs.ex
  obtain ⟨so, sc, rfl⟩ := RowAt.form h1
  obtain ⟨ps, pc, rfl⟩ := RowAt.form h2
  obtain ⟨rs, rc, rfl⟩ := RowAt.form h3
  obtain ⟨fs, fc, rfl⟩ := RowAt.form h4
  obtain ⟨fin, sups, k, lp, lr, lf⟩ := s
  dsimp only at h1 h2 h3 h4 ⊢
  obtain ⟨i0, hi, hz0, hz1, hz2⟩ := info_parts Tryz.infoHeap
  obtain ⟨i1, hi', hz0', hz1', hz2'⟩ := info_parts Tryz.infoVal
  have Hi := Lib.hid hi; have Hz0 := Lib.hid hz0; have Hz1 := Lib.hid hz1; have Hz2 := Lib.hid hz2
  have Hi' := Lib.hid hi'; have Hz0' := Lib.hid hz0'; have Hz1' := Lib.hid hz1'; have Hz2' := Lib.hid hz2'
  obtain ⟨ns, hns⟩ : ∃ n, sups.length = n := ⟨_, rfl⟩
  obtain ⟨np, hnp⟩ : ∃ n, lp.length = n := ⟨_, rfl⟩
  obtain ⟨nr, hnr⟩ : ∃ n, lr.length = n := ⟨_, rfl⟩
  obtain ⟨nf, hnf⟩ : ∃ n, lf.length = n := ⟨_, rfl⟩
  have HNS := Lib.hid hns; have HNF := Lib.hid hnf; have HNP := Lib.hid hnp; have HNR := Lib.hid hnr
  have hcc : ns + (np + (nr + nf)) ≤ 1000000 := by simp only [cnt] at hc; omega
  obtain ⟨W0, hW⟩ : ∃ W0 : World, W0 = (w.alloc (.cells #[.bool fin, .slice so ns sc, .int .i64 k, .slice ps np pc, .slice rs nr rc, .slice fs nf fc] 48)) := ⟨_, rfl⟩
  have hB : Below w.heap.size w W0 := by rw [hW]; exact ((Below.refl _ _).alloc (by simp) _)
  have hws : W0.heap.size = w.heap.size + 1 := by rw [hW]; simp
  have b0_0 : ∀ x : Ext W0, x.val.cell? ⟨w.heap.size, 0, none⟩ = some (.bool fin) := Ext.cells (by rw [hW]; exact heap_cell (heap_alloc_at _ _ (by simp)) 0)
  have b0_1 : ∀ x : Ext W0, x.val.cell? ⟨w.heap.size, 1, none⟩ = some (.slice so ns sc) := Ext.cells (by rw [hW]; exact heap_cell (heap_alloc_at _ _ (by simp)) 1)
  have b0_2 : ∀ x : Ext W0, x.val.cell? ⟨w.heap.size, 2, none⟩ = some (.int .i64 k) := Ext.cells (by rw [hW]; exact heap_cell (heap_alloc_at _ _ (by simp)) 2)
  have b0_3 : ∀ x : Ext W0, x.val.cell? ⟨w.heap.size, 3, none⟩ = some (.slice ps np pc) := Ext.cells (by rw [hW]; exact heap_cell (heap_alloc_at _ _ (by simp)) 3)
  have b0_4 : ∀ x : Ext W0, x.val.cell? ⟨w.heap.size, 4, none⟩ = some (.slice rs nr rc) := Ext.cells (by rw [hW]; exact heap_cell (heap_alloc_at _ _ (by simp)) 4)
  have b0_5 : ∀ x : Ext W0, x.val.cell? ⟨w.heap.size, 5, none⟩ = some (.slice fs nf fc) := Ext.cells (by rw [hW]; exact heap_cell (heap_alloc_at _ _ (by simp)) 5)
  have r1 : ∀ x : Ext W0, RowAt x.val 2 (.slice so ns sc) ns (flatH sups) := fun x => by have h := RowAt.ext (RowAt.below h1 hB (Nat.le_refl _)) x; rw [hns] at h; exact h
  have r2 : ∀ x : Ext W0, RowAt x.val 4 (.slice ps np pc) np (flatV lp) := fun x => by have h := RowAt.ext (RowAt.below h2 hB (Nat.le_refl _)) x; rw [hnp] at h; exact h
  have r3 : ∀ x : Ext W0, RowAt x.val 4 (.slice rs nr rc) nr (flatV lr) := fun x => by have h := RowAt.ext (RowAt.below h3 hB (Nat.le_refl _)) x; rw [hnr] at h; exact h
  have r4 : ∀ x : Ext W0, FlsAt x.val (.slice fs lf.length fc) lf := fun x => RowAt.ext (RowAt.below h4 hB (Nat.le_refl _)) x
  have R1 := Lib.hid r1; have R2 := Lib.hid r2; have R3 := Lib.hid r3; have R4 := Lib.hid r4
  have HW := Lib.hid hW; have HB := Lib.hid hB; have HWS := Lib.hid hws; have HCC := Lib.hid hcc
  rw [hns, hnp, hnr, hnf]
  clear h1 h2 h3 h4 r1 r2 r3 r4 hW hB hws hcc hs hc hns hnp hnr hnf hi hz0 hz1 hz2 hi' hz0' hz1' hz2'
  go_enter Tryz.func93, Tryz.ntmps93
  go_wp2_with (at_builtin; rw [← HW.out]; refine wpList_append_row _ rfl _ _ 41 rfl W0.heap.size 26 i0 _ 2 16 Tryz.underlying41 Hi.out Hz0.out Hz1.out Hz2.out rfl (by decide) _ 0 [] rfl (owns_e W0 (Nat.le_refl _) _ _ HWS.out.symm) _ ns (flatH sups) rfl (R1.out ⟨_, (Below.refl _ _).alloc (Nat.le_refl _) _⟩) (flatH_one _) (by have := HCC.out; unfold maxLen; omega) (by have := HCC.out; omega) (by simp) ?_)
  intro v2 w2 o2 g2
  obtain ⟨ao2, co2, rfl, _⟩ := ownsRow_form o2
  have hb2 : Below W0.heap.size W0 w2 := ((Below.refl _ _).alloc (Nat.le_refl _) _).grown g2 (by simp) (fun k hk => by simp [Value.ownBlock] at hk; rw [← hk, HWS.out]; omega)
  obtain ⟨x2, rfl⟩ : ∃ x : Ext W0, w2 = x.val := ⟨⟨w2, hb2⟩, rfl⟩
  have O2 := Lib.hid o2
  clear o2 g2 hb2
  have z2 : x2.val.heap[w.heap.size]? = some (.cells #[.bool fin, .slice so ns sc, .int .i64 k, .slice ps np pc, .slice rs nr rc, .slice fs nf fc] 48 (0, 0)) := x2.heap (by rw [HW.out]; exact heap_alloc_at _ _ rfl)
  have Z2 := Lib.hid z2
  have q2 : RowAt (x2.val.drew.alloc (.cells #[] 28)) 4 (.slice ps np pc) np (flatV lp) := R2.out ⟨_, (x2.2.drew).alloc x2.size _⟩
  have Q2 := Lib.hid q2
  have o2d : x2.val.drew.ownsRow W0.heap.size 26 2 (.slice ao2 ns co2) ns (flatH sups) := O2.out
  have O2d := Lib.hid o2d
  have pf3 : ∀ w3, (x2.val.drew.alloc (.cells #[] 28)).grownBy w3 (Value.slice (some ⟨x2.val.heap.size, 0, none⟩) 0 0).ownBlock → w3.ownsRow W0.heap.size 26 2 (.slice ao2 ns co2) ns (flatH sups) := fun w3 g3 => by
    have ha := o2d.alloc (.cells #[] 28)
    refine ha.kept g3 ?_
    have hb : (x2.val.drew.alloc (.cells #[] 28)).ownsRow W0.heap.size 28 4 (.slice (some ⟨x2.val.heap.size, 0, none⟩) 0 0) 0 [] := owns_e x2.val.drew x2.size _ _ rfl
    exact own_ne ha hb (by decide)
  have PF3 := Lib.hid pf3
  clear o2d pf3
  have KZ1 := Lib.hid (show x2.val.drew.cell? ⟨w.heap.size, 3, none⟩ = some (.slice ps np pc) ∧ x2.val.drew.cell? ⟨w.heap.size, 4, none⟩ = some (.slice rs nr rc) from ⟨b0_3 ⟨_, x2.2.drew⟩, b0_4 ⟨_, x2.2.drew⟩⟩)
  have KZ2 := Lib.hid (show (x2.val.drew.alloc (.cells #[] 28)).cell? ⟨w.heap.size, 3, none⟩ = some (.slice ps np pc) ∧ (x2.val.drew.alloc (.cells #[] 28)).cell? ⟨w.heap.size, 4, none⟩ = some (.slice rs nr rc) from ⟨b0_3 ⟨_, x2.2.drew.alloc x2.size _⟩, b0_4 ⟨_, x2.2.drew.alloc x2.size _⟩⟩)
  clear z2 q2
  go_wp2
  go_region_held_law (fun w' => w'.cell? ⟨w.heap.size, 3, none⟩ = some (.slice ps np pc) ∧ w'.cell? ⟨w.heap.size, 4, none⟩ = some (.slice rs nr rc)) (first | exact KZ1.out | exact KZ2.out | exact KZ3.out | exact KZ4.out)
    (first
      | (refine step_append_row rfl _ _ 43 rfl W0.heap.size 28 i1 _ 4 32 Tryz.underlying43 Hi'.out Hz0'.out Hz1'.out Hz2'.out rfl (by decide) _ 0 [] rfl (owns_e x2.val.drew x2.size _ _ rfl) (.slice ps np pc) np (flatV lp) rfl Q2.out (flatV_one _) (by have := HCC.out; unfold maxLen; omega) (by have := HCC.out; omega) (by have := x2.size; simp; omega) ?_
         intro v3 w3 o3 g3
         obtain ⟨ao3, co3, rfl, _⟩ := ownsRow_form o3
         have hb3 : Below W0.heap.size W0 w3 := ((x2.2.drew).alloc x2.size _).grown g3 (by have := x2.size; simp; omega) (fun k hk => by have h : some x2.val.heap.size = some k := hk; have h1 := Option.some.inj h; have h2 := x2.size; omega)
         have p3 := PF3.out w3 g3
         have HB3 := Lib.hid hb3; have O3 := Lib.hid o3; have P3 := Lib.hid p3
         have KZ3 := Lib.hid (show w3.cell? ⟨w.heap.size, 3, none⟩ = some (.slice ps np pc) ∧ w3.cell? ⟨w.heap.size, 4, none⟩ = some (.slice rs nr rc) from ⟨b0_3 ⟨w3, hb3⟩, b0_4 ⟨w3, hb3⟩⟩)
         have Q3 := Lib.hid (show RowAt w3 4 (.slice rs nr rc) nr (flatV lr) from R3.out ⟨w3, hb3⟩)
         clear o3 g3 hb3 p3)
      | (refine step_append_row rfl _ _ 43 rfl W0.heap.size 28 i1 _ 4 32 Tryz.underlying43 Hi'.out Hz0'.out Hz1'.out Hz2'.out rfl (by decide) _ _ _ rfl O3.out (.slice rs nr rc) nr (flatV lr) rfl Q3.out (flatV_one _) (by have := HCC.out; unfold maxLen; omega) (by have := HCC.out; omega) HB3.out.size ?_
         intro v4 w4 o4 g4
         obtain ⟨ao4, co4, rfl, _⟩ := ownsRow_form o4
         have hb4 : Below W0.heap.size W0 w4 := HB3.out.grown g4 HB3.out.size (fun k hk => (O3.out.lt k hk).1)
         have p4 := P3.out.kept g4 (own_ne P3.out O3.out (by decide))
         have HB4 := Lib.hid hb4; have O4 := Lib.hid o4; have P4 := Lib.hid p4
         have KZ4 := Lib.hid (show w4.cell? ⟨w.heap.size, 3, none⟩ = some (.slice ps np pc) ∧ w4.cell? ⟨w.heap.size, 4, none⟩ = some (.slice rs nr rc) from ⟨b0_3 ⟨w4, hb4⟩, b0_4 ⟨w4, hb4⟩⟩)
         clear o4 g4 hb4 p4))
  go_wp2
  have st0 : w4.ownsRow W0.heap.size 28 4 (.slice ao4 (np + nr) co4) (np + nr + 0) (flatV (lp ++ lr ++ (lf.map Fl.v).take 0)) := by
    have h := O4.out
    simp only [Nat.zero_add, List.nil_append] at h
    rw [List.take_zero, List.append_nil, flatV, List.flatMap_append]
    exact h
  have ST0 := Lib.hid st0
  clear st0 KZ1 KZ2 KZ3 KZ4 O2d PF3 Q2 Q3 O2 P3 O3
  go_loopw [4, 5] (fun t4 t5 wr => ∃ i : Nat, t5 = .int .i64 i ∧ i ≤ nf ∧ wr.ownsRow W0.heap.size 28 4 t4 (np + nr + i) (flatV (lp ++ lr ++ (lf.map Fl.v).take i)) ∧ wr.ownsRow W0.heap.size 26 2 (.slice ao2 ns co2) ns (flatH sups) ∧ Below W0.heap.size W0 wr) (fun _ t5 _ => nf - (intOf t5).toNat)
  case atStart => exact ⟨0, rfl, Nat.zero_le _, ST0.out, P4.out, HB4.out⟩
  case round =>
    obtain ⟨i, rfl, hi, hv, hh, hbe⟩ := hrel
    obtain ⟨aov, cov, rfl, _⟩ := ownsRow_form hv
    have c5 := b0_5 ⟨wr, hbe⟩
    have hfl := R4.out ⟨wr, hbe⟩
    dsimp only at c5 hfl
    have HV := Lib.hid hv; have HH := Lib.hid hh; have HBE := Lib.hid hbe
    clear hv hh hbe
    by_cases hlt : i < nf
    · obtain ⟨⟨yp, ⟨yk, yl, yh, yn⟩, ym⟩, hy⟩ : ∃ y, lf[i]? = some y := ⟨lf[i]'(by rw [HNF.out]; exact hlt), by simp⟩
      obtain ⟨b, off, rfl, _, p0, p1, p2, p3, p4, p5⟩ := fls_at hfl hy
      dsimp only at p0 p1 p2 p3 p4 p5
      have hlt' : (i : Int) < nf := by omega
      have hi6 : (i : Int) < 1000000 := by have := HCC.out; omega
      have HY := Lib.hid hy; have HI := Lib.hid hlt
      have hrw : RowAt (wr.alloc (.cells #[.int .i64 yk, .bool yl, .int .i64 yh, .int .i64 yn] 28)) 4 (.slice (some ⟨wr.heap.size, 0, none⟩) 1 1) 1 [.int .i64 yk, .bool yl, .int .i64 yh, .int .i64 yn] := row_litA (heap_alloc_at _ _ rfl) rfl
      have HRW := Lib.hid hrw
      clear hfl hy hlt hi hrw
      go_wp2_with (at_builtin; refine wpList_append_row _ rfl _ _ 43 rfl W0.heap.size 28 i1 _ 4 32 Tryz.underlying43 Hi'.out Hz0'.out Hz1'.out Hz2'.out rfl (by decide) _ _ _ rfl (HV.out.alloc _) _ 1 _ rfl HRW.out (by intro u hu; simp at hu; rcases hu with rfl | rfl | rfl | rfl <;> rfl) (by have := HCC.out; have := HI.out; unfold maxLen; omega) (by have := HCC.out; have := HI.out; omega) (by have := HBE.out.size; simp; omega) ?_)
      intro v5 w5 o5 g5
      have hb5 : Below W0.heap.size W0 w5 := (HBE.out.alloc HBE.out.size _).grown g5 (by have := HBE.out.size; simp; omega) (fun k hk => (HV.out.lt k hk).1)
      have h5 := (HH.out.alloc (.cells #[.int .i64 yk, .bool yl, .int .i64 yh, .int .i64 yn] 28)).kept g5 (own_ne HH.out HV.out (by decide))
      have O5 := Lib.hid o5; have HB5 := Lib.hid hb5; have H5 := Lib.hid h5
      clear o5 g5 hb5 h5
      go_wp2
      go_roundw
      case rel =>
        refine ⟨i + 1, by go_num, HI.out, ?_, H5.out, HB5.out⟩
        have h := O5.out
        have e : (lf.map Fl.v)[i]? = some ⟨yk, yl, yh, yn⟩ := by rw [List.getElem?_map, HY.out]; rfl
        rw [List.take_add_one, e]
        simpa [flatV, cellsV, List.flatMap_append, List.append_assoc, Nat.add_assoc] using h
      case measure => have := HI.out; simp [intOf]; omega
    · obtain rfl : i = nf := by omega
      have hlt' : ¬ (i : Int) < i := by omega
      have hv2 : wr.ownsRow W0.heap.size 28 4 (.slice aov (np + nr + i) cov) (np + nr + i) (flatV (valsR ⟨fin, sups, k, lp, lr, lf⟩)) := by
        have h := HV.out
        rw [List.take_of_length_le (by rw [List.length_map, HNF.out]; exact Nat.le_refl _)] at h
        exact h
      obtain ⟨L, hL⟩ : ∃ L, valsR ⟨fin, sups, k, lp, lr, lf⟩ = L := ⟨_, rfl⟩
      have hLl : L.length = np + nr + i := by rw [← hL]; simp only [valsR, List.length_append, List.length_map, HNP.out, HNR.out, HNF.out]
      rw [hL] at hv2
      obtain ⟨n, hn⟩ : ∃ n, np + nr + i = n := ⟨_, rfl⟩
      rw [hn] at hv2 hLl ⊢
      have HV2 := Lib.hid hv2; have HLL := Lib.hid hLl; have HL := Lib.hid hL; have HN := Lib.hid hn
      have hn6 : (n : Int) ≤ 1000000 := by have := HCC.out; omega
      clear hv2 hLl hL hlt hi hfl hn HV
      have hval : valsR ⟨fin, sups, k, lp, lr, lf⟩ = L := HL.out
      go_wp2
      have st1 : wr.ownsRow W0.heap.size 26 2 (.slice ao2 ns co2) (ns + (refsV (L.take 0)).length) (flatH (sups ++ refsV (L.take 0))) := by
        have h := HH.out
        simpa [refsV] using h
      have ST1 := Lib.hid st1
      clear st1 HH
      go_loopw [3, 6] (fun t3 t6 wz => ∃ j : Nat, t6 = .int .i64 j ∧ j ≤ n ∧ wz.ownsRow W0.heap.size 26 2 t3 (ns + (refsV (L.take j)).length) (flatH (sups ++ refsV (L.take j))) ∧ wz.ownsRow W0.heap.size 28 4 (.slice aov n cov) n (flatV L) ∧ Below W0.heap.size W0 wz) (fun _ t6 _ => n - (intOf t6).toNat)
      case atStart => exact ⟨0, rfl, Nat.zero_le _, ST1.out, HV2.out, HBE.out⟩
      case round =>
        obtain ⟨j, rfl, hj, hh, hv, hbe⟩ := hrel
        obtain ⟨aoh, coh, rfl, _⟩ := ownsRow_form hh
        have hvl := RowAt.of_own hv
        have HV := Lib.hid hv; have HH := Lib.hid hh; have HBZ := Lib.hid hbe
        clear hv hh hbe
        by_cases hlt : j < n
        · obtain ⟨⟨yk, yl, yh, yn⟩, hy⟩ : ∃ y, L[j]? = some y := ⟨L[j]'(by rw [HLL.out]; exact hlt), by simp⟩
          rw [← HLL.out] at hvl
          obtain ⟨b, off, hbo, _, p0, p1, p2, p3⟩ := vals_at hvl hy
          dsimp only at p0 p1 p2 p3
          subst hbo
          have hlt' : (j : Int) < n := by omega
          have hj6 : (j : Int) < 1000000 := by omega
          have hrl := refsV_len (L.take j)
          rw [List.length_take] at hrl
          have HRL := Lib.hid (show (refsV (L.take j)).length ≤ j from Nat.le_trans hrl (Nat.min_le_left _ _))
          have HY := Lib.hid hy; have HJ := Lib.hid hlt
          clear hvl hy hlt hj hrl
          by_cases hk : yk = 3
          · subst hk
            have hrw : RowAt (wr.alloc (.cells #[.int .i64 yh, .int .i64 yn] 26)) 2 (.slice (some ⟨wr.heap.size, 0, none⟩) 1 1) 1 [.int .i64 yh, .int .i64 yn] := row_litA (heap_alloc_at _ _ rfl) rfl
            have HRW := Lib.hid hrw
            clear hrw
            go_wp2_with (at_builtin; refine wpList_append_row _ rfl _ _ 41 rfl W0.heap.size 26 i0 _ 2 16 Tryz.underlying41 Hi.out Hz0.out Hz1.out Hz2.out rfl (by decide) _ _ _ rfl (HH.out.alloc _) _ 1 _ rfl HRW.out (by intro u hu; simp at hu; rcases hu with rfl | rfl <;> rfl) (by have := HCC.out; have := HRL.out; have := HJ.out; unfold maxLen; omega) (by have := HCC.out; have := HRL.out; have := HJ.out; omega) (by have := HBZ.out.size; simp; omega) ?_)
            intro v5 w5 o5 g5
            have hb5 : Below W0.heap.size W0 w5 := (HBZ.out.alloc HBZ.out.size _).grown g5 (by have := HBZ.out.size; simp; omega) (fun k hk => (HH.out.lt k hk).1)
            have h5 := (HV.out.alloc (.cells #[.int .i64 yh, .int .i64 yn] 26)).kept g5 (own_ne HV.out HH.out (by decide))
            have O5 := Lib.hid o5; have HB5 := Lib.hid hb5; have H5 := Lib.hid h5
            clear o5 g5 hb5 h5
            go_wp2
            go_roundw
            case rel =>
              refine ⟨j + 1, by go_num, HJ.out, ?_, H5.out, HB5.out⟩
              have h := O5.out
              rw [refsV_take HY.out, if_pos rfl]
              simpa [flatH, cellsH, List.flatMap_append, List.append_assoc, Nat.add_assoc] using h
            case measure => have := HJ.out; simp [intOf]; omega
          · have hkb : (yk == 3) = false := by simpa using hk
            have HK := Lib.hid hk
            clear hk
            go_wp2
            go_roundw
            case rel =>
              refine ⟨j + 1, by go_num, HJ.out, ?_, HV.out, HBZ.out⟩
              rw [refsV_take HY.out, if_neg HK.out]
              exact HH.out
            case measure => have := HJ.out; simp [intOf]; omega
        · obtain rfl : j = n := by omega
          have hlt' : ¬ (j : Int) < j := by omega
          have htl : L.take j = L := List.take_of_length_le (by rw [HLL.out]; exact Nat.le_refl _)
          have hhs := HH.out
          rw [htl] at hhs
          have HTL := Lib.hid htl
          have HHS := Lib.hid hhs
          clear hhs hlt hj hvl HV htl
          go_wp2
          go_ret
          refine ⟨.slice aoh (ns + (refsV (L.take j)).length) coh, rfl, ?_, HB.out.trans (HBZ.out.mono HB.out.size)⟩
          rw [HTL.out]
          have h := ownsRow_low HHS.out HB.out.size
          unfold heapsR
          rw [HL.out, List.length_append, HNS.out]
          exact h
end Go.Proofs.YtoamhiaagaaaaaaGreatDoor
