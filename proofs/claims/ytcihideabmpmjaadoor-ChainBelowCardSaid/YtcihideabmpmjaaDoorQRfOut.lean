/- A declared type that is being made, in a box. -/
import Derived.Test.YtcihideabmpmjaaDoorQAppRowP
import Derived.Test.YtcihideabmpmjaaDoorQRoEnter
namespace Go.Proofs.YtcihideabmpmjaaDoor
open Go.RowKit

/-- A declared type that is being made, in a box: each list in a row of its own. -/
structure OutS (b0 ob : Nat) (x : Sb) (w : World) (vs vp vr vf : Value) : Prop where
  hp : w.heap[ob]? = some (.cells #[.bool x.fin, vs, .int .i64 x.k, vp, vr, vf] 41 (0, 0))
  os : w.ownsRow b0 52 2 vs x.sups.length (flatH x.sups)
  op : w.ownsRow b0 74 4 vp x.ps.length (flatV x.ps)
  or : w.ownsRow b0 74 4 vr x.rs.length (flatV x.rs)
  of : w.ownsRow b0 78 6 vf x.fs.length (flatF x.fs)
  ne : vp.ownBlock = none ∨ vp.ownBlock ≠ vr.ownBlock
theorem OutS.sub {b0 ob : Nat} {x : Sb} {w : World} {vs vp vr vf : Value} (h : OutS b0 ob x w vs vp vr vf) : SubAt w [.bool x.fin, vs, .int .i64 x.k, vp, vr, vf] x :=
  ⟨_, _, _, _, rfl, RowAt.of_own h.os, RowAt.of_own h.op, RowAt.of_own h.or, RowAt.of_own h.of⟩
/-- Worlds with the same blocks. -/
theorem OutS.same {b0 ob : Nat} {x : Sb} {w w' : World} {vs vp vr vf : Value} (h : OutS b0 ob x w vs vp vr vf) (u : Upd (fun _ => False) w w') : OutS b0 ob x w' vs vp vr vf :=
  ⟨u.heap_some h.hp (fun q => q), ownsRow_upd h.os u (fun _ _ q => q), ownsRow_upd h.op u (fun _ _ q => q), ownsRow_upd h.or u (fun _ _ q => q), ownsRow_upd h.of u (fun _ _ q => q), h.ne⟩
theorem outh_sups {b0 ob : Nat} {x : Sb} {w w9 : World} {vs vp vr vf : Value} {ob' : Obj} (h : OutS b0 ob x w vs vp vr vf) (gr : (w.drew.alloc ob').grownBy w9 vs.ownBlock) : w9.heap[ob]? = some (.cells #[.bool x.fin, vs, .int .i64 x.k, vp, vr, vf] 41 (0, 0)) := by
  have hn : ∀ k, vs.ownBlock = some k → k ≠ ob := fun k hk e => by subst e; exact row_ne h.os h.hp (by decide) hk
  have u9 : Upd (fun k => vs.ownBlock = some k) w w9 := ((Upd.refl _ w).drew.alloc ob').grown gr (fun k hk => .inl hk)
  exact u9.heap_some h.hp (fun hk => hn _ hk rfl)
theorem out_sups {b0 ob : Nat} {x : Sb} {w w9 : World} {vs vp vr vf v9 : Value} {ob' : Obj} {y : Hp} (h : OutS b0 ob x w vs vp vr vf) (gr : (w.drew.alloc ob').grownBy w9 vs.ownBlock) (o9 : w9.ownsRow b0 52 2 v9 (x.sups.length + 1) (flatH x.sups ++ cellsH y)) (mv : v9.ownBlock = vs.ownBlock ∨ v9.ownBlock = some (w.drew.alloc ob').heap.size) :
    OutS b0 ob ⟨x.fin, x.sups ++ [y], x.k, x.ps, x.rs, x.fs⟩ (w9.setCell ⟨ob, 1, none⟩ v9) v9 vp vr vf := by
  have hn : ∀ k, vs.ownBlock = some k → k ≠ ob := fun k hk e => by subst e; exact row_ne h.os h.hp (by decide) hk
  have u9 : Upd (fun k => vs.ownBlock = some k) w w9 := ((Upd.refl _ w).drew.alloc ob').grown gr (fun k hk => .inl hk)
  have f9 : w9.heap[ob]? = some (.cells #[.bool x.fin, vs, .int .i64 x.k, vp, vr, vf] 41 (0, 0)) := u9.heap_some h.hp (fun hk => hn _ hk rfl)
  have hn9 : ∀ k, v9.ownBlock = some k → k ≠ ob := fun k hk e => by subst e; exact row_ne o9 f9 (by decide) hk
  have u : Upd (fun k => vs.ownBlock = some k ∨ k = ob) w (w9.setCell ⟨ob, 1, none⟩ v9) := (u9.mono fun _ _ hk => .inl hk).setCell (.inl (.inr rfl)) v9
  have sz : (w.drew.alloc ob').heap.size = w.heap.size + 1 := by simp
  exact ⟨by have q := heap_set_at f9 1 v9; simpa using q, (by have q := ownsRow_upd o9 ((Upd.refl (fun k => k = ob) w9).setCell (p := ⟨ob, 1, none⟩) (.inl rfl) v9) hn9; rw [List.length_append, List.length_singleton, flatH, List.flatMap_append]; simpa [flatH] using q), (ownsRow_upd h.op u (fun b hb hk => hk.elim (fun hk => (own_ne h.op h.os (by decide)).elim (fun e => by rw [e] at hb; cases hb) (fun e => e (hb.trans hk.symm))) (fun e => by subst e; exact row_ne h.op h.hp (by decide) hb))), (ownsRow_upd h.or u (fun b hb hk => hk.elim (fun hk => (own_ne h.or h.os (by decide)).elim (fun e => by rw [e] at hb; cases hb) (fun e => e (hb.trans hk.symm))) (fun e => by subst e; exact row_ne h.or h.hp (by decide) hb))), (ownsRow_upd h.of u (fun b hb hk => hk.elim (fun hk => (own_ne h.of h.os (by decide)).elim (fun e => by rw [e] at hb; cases hb) (fun e => e (hb.trans hk.symm))) (fun e => by subst e; exact row_ne h.of h.hp (by decide) hb))), h.ne⟩
theorem outh_ps {b0 ob : Nat} {x : Sb} {w w9 : World} {vs vp vr vf : Value} {ob' : Obj} (h : OutS b0 ob x w vs vp vr vf) (gr : (w.drew.alloc ob').grownBy w9 vp.ownBlock) : w9.heap[ob]? = some (.cells #[.bool x.fin, vs, .int .i64 x.k, vp, vr, vf] 41 (0, 0)) := by
  have hn : ∀ k, vp.ownBlock = some k → k ≠ ob := fun k hk e => by subst e; exact row_ne h.op h.hp (by decide) hk
  have u9 : Upd (fun k => vp.ownBlock = some k) w w9 := ((Upd.refl _ w).drew.alloc ob').grown gr (fun k hk => .inl hk)
  exact u9.heap_some h.hp (fun hk => hn _ hk rfl)
theorem out_ps {b0 ob : Nat} {x : Sb} {w w9 : World} {vs vp vr vf v9 : Value} {ob' : Obj} {y : Vl} (h : OutS b0 ob x w vs vp vr vf) (gr : (w.drew.alloc ob').grownBy w9 vp.ownBlock) (o9 : w9.ownsRow b0 74 4 v9 (x.ps.length + 1) (flatV x.ps ++ cellsV y)) (mv : v9.ownBlock = vp.ownBlock ∨ v9.ownBlock = some (w.drew.alloc ob').heap.size) :
    OutS b0 ob ⟨x.fin, x.sups, x.k, x.ps ++ [y], x.rs, x.fs⟩ (w9.setCell ⟨ob, 3, none⟩ v9) vs v9 vr vf := by
  have hn : ∀ k, vp.ownBlock = some k → k ≠ ob := fun k hk e => by subst e; exact row_ne h.op h.hp (by decide) hk
  have u9 : Upd (fun k => vp.ownBlock = some k) w w9 := ((Upd.refl _ w).drew.alloc ob').grown gr (fun k hk => .inl hk)
  have f9 : w9.heap[ob]? = some (.cells #[.bool x.fin, vs, .int .i64 x.k, vp, vr, vf] 41 (0, 0)) := u9.heap_some h.hp (fun hk => hn _ hk rfl)
  have hn9 : ∀ k, v9.ownBlock = some k → k ≠ ob := fun k hk e => by subst e; exact row_ne o9 f9 (by decide) hk
  have u : Upd (fun k => vp.ownBlock = some k ∨ k = ob) w (w9.setCell ⟨ob, 3, none⟩ v9) := (u9.mono fun _ _ hk => .inl hk).setCell (.inl (.inr rfl)) v9
  have sz : (w.drew.alloc ob').heap.size = w.heap.size + 1 := by simp
  exact ⟨by have q := heap_set_at f9 3 v9; simpa using q, (ownsRow_upd h.os u (fun b hb hk => hk.elim (fun hk => (own_ne h.os h.op (by decide)).elim (fun e => by rw [e] at hb; cases hb) (fun e => e (hb.trans hk.symm))) (fun e => by subst e; exact row_ne h.os h.hp (by decide) hb))), (by have q := ownsRow_upd o9 ((Upd.refl (fun k => k = ob) w9).setCell (p := ⟨ob, 3, none⟩) (.inl rfl) v9) hn9; rw [List.length_append, List.length_singleton, flatV, List.flatMap_append]; simpa [flatV] using q), (ownsRow_upd h.or u (fun b hb hk => hk.elim (fun hk => h.ne.elim (fun e => by rw [e] at hk; cases hk) (fun e => e (hk.trans hb.symm))) (fun e => by subst e; exact row_ne h.or h.hp (by decide) hb))), (ownsRow_upd h.of u (fun b hb hk => hk.elim (fun hk => (own_ne h.of h.op (by decide)).elim (fun e => by rw [e] at hb; cases hb) (fun e => e (hb.trans hk.symm))) (fun e => by subst e; exact row_ne h.of h.hp (by decide) hb))), (by
    rcases mv with mv | mv
    · rw [mv]; exact h.ne
    · right; rw [mv, sz]; intro e; have := (h.or.lt _ e.symm).2; omega)⟩
theorem outh_rs {b0 ob : Nat} {x : Sb} {w w9 : World} {vs vp vr vf : Value} {ob' : Obj} (h : OutS b0 ob x w vs vp vr vf) (gr : (w.drew.alloc ob').grownBy w9 vr.ownBlock) : w9.heap[ob]? = some (.cells #[.bool x.fin, vs, .int .i64 x.k, vp, vr, vf] 41 (0, 0)) := by
  have hn : ∀ k, vr.ownBlock = some k → k ≠ ob := fun k hk e => by subst e; exact row_ne h.or h.hp (by decide) hk
  have u9 : Upd (fun k => vr.ownBlock = some k) w w9 := ((Upd.refl _ w).drew.alloc ob').grown gr (fun k hk => .inl hk)
  exact u9.heap_some h.hp (fun hk => hn _ hk rfl)
theorem out_rs {b0 ob : Nat} {x : Sb} {w w9 : World} {vs vp vr vf v9 : Value} {ob' : Obj} {y : Vl} (h : OutS b0 ob x w vs vp vr vf) (gr : (w.drew.alloc ob').grownBy w9 vr.ownBlock) (o9 : w9.ownsRow b0 74 4 v9 (x.rs.length + 1) (flatV x.rs ++ cellsV y)) (mv : v9.ownBlock = vr.ownBlock ∨ v9.ownBlock = some (w.drew.alloc ob').heap.size) :
    OutS b0 ob ⟨x.fin, x.sups, x.k, x.ps, x.rs ++ [y], x.fs⟩ (w9.setCell ⟨ob, 4, none⟩ v9) vs vp v9 vf := by
  have hn : ∀ k, vr.ownBlock = some k → k ≠ ob := fun k hk e => by subst e; exact row_ne h.or h.hp (by decide) hk
  have u9 : Upd (fun k => vr.ownBlock = some k) w w9 := ((Upd.refl _ w).drew.alloc ob').grown gr (fun k hk => .inl hk)
  have f9 : w9.heap[ob]? = some (.cells #[.bool x.fin, vs, .int .i64 x.k, vp, vr, vf] 41 (0, 0)) := u9.heap_some h.hp (fun hk => hn _ hk rfl)
  have hn9 : ∀ k, v9.ownBlock = some k → k ≠ ob := fun k hk e => by subst e; exact row_ne o9 f9 (by decide) hk
  have u : Upd (fun k => vr.ownBlock = some k ∨ k = ob) w (w9.setCell ⟨ob, 4, none⟩ v9) := (u9.mono fun _ _ hk => .inl hk).setCell (.inl (.inr rfl)) v9
  have sz : (w.drew.alloc ob').heap.size = w.heap.size + 1 := by simp
  exact ⟨by have q := heap_set_at f9 4 v9; simpa using q, (ownsRow_upd h.os u (fun b hb hk => hk.elim (fun hk => (own_ne h.os h.or (by decide)).elim (fun e => by rw [e] at hb; cases hb) (fun e => e (hb.trans hk.symm))) (fun e => by subst e; exact row_ne h.os h.hp (by decide) hb))), (ownsRow_upd h.op u (fun b hb hk => hk.elim (fun hk => h.ne.elim (fun e => by rw [e] at hb; cases hb) (fun e => e (hb.trans hk.symm))) (fun e => by subst e; exact row_ne h.op h.hp (by decide) hb))), (by have q := ownsRow_upd o9 ((Upd.refl (fun k => k = ob) w9).setCell (p := ⟨ob, 4, none⟩) (.inl rfl) v9) hn9; rw [List.length_append, List.length_singleton, flatV, List.flatMap_append]; simpa [flatV] using q), (ownsRow_upd h.of u (fun b hb hk => hk.elim (fun hk => (own_ne h.of h.or (by decide)).elim (fun e => by rw [e] at hb; cases hb) (fun e => e (hb.trans hk.symm))) (fun e => by subst e; exact row_ne h.of h.hp (by decide) hb))), (by
    rcases mv with mv | mv
    · rw [mv]; exact h.ne
    · right; rw [mv, sz]; intro e; have := (h.op.lt _ e).2; omega)⟩
theorem outh_fs {b0 ob : Nat} {x : Sb} {w w9 : World} {vs vp vr vf : Value} {ob' : Obj} (h : OutS b0 ob x w vs vp vr vf) (gr : (w.drew.alloc ob').grownBy w9 vf.ownBlock) : w9.heap[ob]? = some (.cells #[.bool x.fin, vs, .int .i64 x.k, vp, vr, vf] 41 (0, 0)) := by
  have hn : ∀ k, vf.ownBlock = some k → k ≠ ob := fun k hk e => by subst e; exact row_ne h.of h.hp (by decide) hk
  have u9 : Upd (fun k => vf.ownBlock = some k) w w9 := ((Upd.refl _ w).drew.alloc ob').grown gr (fun k hk => .inl hk)
  exact u9.heap_some h.hp (fun hk => hn _ hk rfl)
theorem out_fs {b0 ob : Nat} {x : Sb} {w w9 : World} {vs vp vr vf v9 : Value} {ob' : Obj} {y : Fl} (h : OutS b0 ob x w vs vp vr vf) (gr : (w.drew.alloc ob').grownBy w9 vf.ownBlock) (o9 : w9.ownsRow b0 78 6 v9 (x.fs.length + 1) (flatF x.fs ++ cellsF y)) (mv : v9.ownBlock = vf.ownBlock ∨ v9.ownBlock = some (w.drew.alloc ob').heap.size) :
    OutS b0 ob ⟨x.fin, x.sups, x.k, x.ps, x.rs, x.fs ++ [y]⟩ (w9.setCell ⟨ob, 5, none⟩ v9) vs vp vr v9 := by
  have hn : ∀ k, vf.ownBlock = some k → k ≠ ob := fun k hk e => by subst e; exact row_ne h.of h.hp (by decide) hk
  have u9 : Upd (fun k => vf.ownBlock = some k) w w9 := ((Upd.refl _ w).drew.alloc ob').grown gr (fun k hk => .inl hk)
  have f9 : w9.heap[ob]? = some (.cells #[.bool x.fin, vs, .int .i64 x.k, vp, vr, vf] 41 (0, 0)) := u9.heap_some h.hp (fun hk => hn _ hk rfl)
  have hn9 : ∀ k, v9.ownBlock = some k → k ≠ ob := fun k hk e => by subst e; exact row_ne o9 f9 (by decide) hk
  have u : Upd (fun k => vf.ownBlock = some k ∨ k = ob) w (w9.setCell ⟨ob, 5, none⟩ v9) := (u9.mono fun _ _ hk => .inl hk).setCell (.inl (.inr rfl)) v9
  have sz : (w.drew.alloc ob').heap.size = w.heap.size + 1 := by simp
  exact ⟨by have q := heap_set_at f9 5 v9; simpa using q, (ownsRow_upd h.os u (fun b hb hk => hk.elim (fun hk => (own_ne h.os h.of (by decide)).elim (fun e => by rw [e] at hb; cases hb) (fun e => e (hb.trans hk.symm))) (fun e => by subst e; exact row_ne h.os h.hp (by decide) hb))), (ownsRow_upd h.op u (fun b hb hk => hk.elim (fun hk => (own_ne h.op h.of (by decide)).elim (fun e => by rw [e] at hb; cases hb) (fun e => e (hb.trans hk.symm))) (fun e => by subst e; exact row_ne h.op h.hp (by decide) hb))), (ownsRow_upd h.or u (fun b hb hk => hk.elim (fun hk => (own_ne h.or h.of (by decide)).elim (fun e => by rw [e] at hb; cases hb) (fun e => e (hb.trans hk.symm))) (fun e => by subst e; exact row_ne h.or h.hp (by decide) hb))), (by have q := ownsRow_upd o9 ((Upd.refl (fun k => k = ob) w9).setCell (p := ⟨ob, 5, none⟩) (.inl rfl) v9) hn9; rw [List.length_append, List.length_singleton, flatF, List.flatMap_append]; simpa [flatF] using q), h.ne⟩
end Go.Proofs.YtcihideabmpmjaaDoor
