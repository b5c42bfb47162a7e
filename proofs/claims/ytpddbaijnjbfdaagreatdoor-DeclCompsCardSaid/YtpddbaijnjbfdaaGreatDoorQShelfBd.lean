import Derived.Test.YtpddbaijnjbfdaaGreatDoorQRoAskBd
import Derived.RangeFuncNested
import Derived.RangeFuncBound
import Derived.Shelf.RegionOpen
import Derived.OwnWalkIn
import Derived.LoopNIn
import Derived.LoopIn
import Derived.Shelf.Strconv.Itoa1
import Derived.Shelf.Strconv.Itoa2
import Derived.Shelf.Strings.Shaped
import Derived.Shelf.Unicode.DecodeSlow
import Derived.Shelf.Strings.BuilderCap
import Derived.Shelf.Slices.Clone
namespace Go.Proofs.YtpddbaijnjbfdaaGreatDoor
open Lib (hid)
section
open Go.RowKit
theorem map_idle (p : Addr) (w : World) :
    CallsD Tryz.prog 71 #[.pointer (some p)] .returning w fun e u' w' => e = .returned (.tuple #[]) ∧ u' = .returning ∧ w' = w := by
  refine callsD_of_wpS Tryz.func71 rfl fun c₀ cs hu => ?_
  apply wpS_seq
  apply wpS_region
  simp [wpOpsS, go_sem, recoverD, hu, Tryz.ntmps71, Exit.thenS]
  refine wpS_cond (t := false) (by simp [Act.eval, Array.replicate]) ?_
  simp only [Bool.false_eq_true, if_false]
  refine wpS_of_wp (wp_skip ?_)
  cases c₀
  simp_all [bodyPostS, results, Tryz.results71]
variable {σ : Type}
def mapSub (φ : σ → Hp → Hp × σ) (s : σ) (x : Sb) : Sb × σ :=
  let a := mapS φ s x.sups
  let b := mapS (phiV φ) a.2 x.ps
  let c := mapS (phiV φ) b.2 x.rs
  let d := mapS (phiF φ) c.2 x.fs
  (⟨x.fin, a.1, x.k, b.1, c.1, d.1⟩, d.2)
structure DS (D : Hp → Prop) (x : Sb) : Prop where
  sups : ∀ h ∈ x.sups, D h
  ps : ∀ v ∈ x.ps, DV D v
  rs : ∀ v ∈ x.rs, DV D v
  fs : ∀ f ∈ x.fs, DV D f.v
def cnt (x : Sb) : Nat := x.sups.length + (x.ps.length + (x.rs.length + x.fs.length))
structure MapSt (T : Nat → Prop) (w : World) (cs : List Value) (fv av : Value) (told : List Value) (Ti : Nat → Prop) (W : World) : Prop where
  a0 : W.heap[w.heap.size]? = some (.cells cs.toArray 46 (0, 0))
  a1 : W.heap[w.heap.size + 1]? = some (.cells #[fv] 161 (0, 0))
  a2 : W.heap[w.heap.size + 1 + 1]? = some (.cells told.toArray 46 (0, 0))
  a3 : W.heap[w.heap.size + 1 + 1 + 1]? = some (.cells #[av] 185 (0, 0))
  n : ∀ i, i < 4 → ¬ Ti (w.heap.size + i)
  hu : Upd T w W
  hf : Fresh T w Ti
variable {T Ti Tj : Nat → Prop} {w W W' : World} {cs told : List Value} {fv av : Value}
theorem MapSt.size (h : MapSt T w cs fv av told Ti W) : w.heap.size + 4 ≤ W.heap.size := heap_lt h.a3
theorem MapSt.call (h : MapSt T w cs fv av told Ti W) (u : Upd Ti W W') (f : Fresh Ti W Tj) : MapSt T w cs fv av told Tj W' :=
  ⟨u.heap_some h.a0 (h.n 0 (by omega)), u.heap_some h.a1 (h.n 1 (by omega)), u.heap_some h.a2 (h.n 2 (by omega)), u.heap_some h.a3 (h.n 3 (by omega)),
   fun i hi => f.off (h.n i hi) (by have := h.size; omega), h.hu.trans h.hf u, h.hf.trans f h.hu.size⟩
theorem MapSt.set (h : MapSt T w cs fv av told Ti W) (i : Nat) (u : Value) : MapSt T w cs fv av (told.set i u) Ti (W.setCell ⟨w.heap.size + 1 + 1, i, none⟩ u) :=
  ⟨heap_set_off h.a0 (by simp; omega) _, heap_set_off h.a1 (by simp) _, by have := heap_set_at h.a2 i u; simpa using this, heap_set_off h.a3 (by simp) _, h.n, h.hu.setCell (.inr (by simp; omega)) _, h.hf⟩
theorem MapSt.cells (h : MapSt T w cs fv av told Ti W) : (∀ i, W.cell? ⟨w.heap.size, i, none⟩ = cs[i]?) ∧ W.cell? ⟨w.heap.size + 1, 0, none⟩ = some fv ∧ (∀ i, W.cell? ⟨w.heap.size + 1 + 1, i, none⟩ = told[i]?) ∧ W.cell? ⟨w.heap.size + 1 + 1 + 1, 0, none⟩ = some av ∧ (∀ i, W.frozen? ⟨w.heap.size + 1 + 1, i, none⟩ = false) :=
  ⟨fun i => by rw [heap_cell h.a0]; simp, by rw [heap_cell h.a1]; simp, fun i => by rw [heap_cell h.a2]; simp, by rw [heap_cell h.a3]; simp, fun i => heap_frozen h.a2 i⟩
theorem MapSt.upd {B : Nat} (h : MapSt T w cs fv av told Ti W) (hB : B ≤ w.heap.size) (i : Nat) (u : Value) : Upd (fun b => B ≤ b ∧ ¬ Ti b) W (W.setCell ⟨w.heap.size + 1 + 1, i, none⟩ u) :=
  (Upd.refl _ W).setCell (.inl ⟨by simp; omega, h.n 2 (by omega)⟩) _
structure Held (w : World) (e : TypeId) (size : Nat) (u : Value) (n : Nat) (xs : List Value) (Ti : Nat → Prop) (W : World) : Prop where
  row : W.ownsRow (w.heap.size + 4) e size u n xs
  off : ∀ b, u.ownBlock = some b → ¬ Ti b
theorem Held.call {e : TypeId} {size n : Nat} {u : Value} {xs : List Value} (h : Held w e size u n xs Ti W) (k : Upd Ti W W') (f : Fresh Ti W Tj) : Held w e size u n xs Tj W' :=
  ⟨ownsRow_upd h.row k h.off, fun b hb => f.off (h.off b hb) (h.row.lt b hb).2⟩
theorem Held.set {e : TypeId} {size n : Nat} {u : Value} {xs : List Value} (h : Held w e size u n xs Ti W) (i : Nat) (v : Value) : Held w e size u n xs Ti (W.setCell ⟨w.heap.size + 1 + 1, i, none⟩ v) :=
  ⟨ownsRow_upd h.row ((Upd.refl (fun k => k = w.heap.size + 1 + 1) W).setCell (.inl rfl) v) (fun b hb e => by have := (h.row.lt b hb).1; omega), h.off⟩
theorem Held.end {e : TypeId} {size n : Nat} {u : Value} {xs : List Value} (h : Held w e size u n xs Ti W) {w'' : World} (k : Upd (fun b => b < w.heap.size ∨ Ti b) W w'') : RowAt w'' size u n xs :=
  RowAt.of_own (ownsRow_upd h.row k fun b hb hk => by have := (h.row.lt b hb).1; rcases hk with hk | hk; omega; exact h.off b hb hk)
set_option maxRecDepth 100000 in
set_option maxHeartbeats 16000000 in
theorem map_any {D : Hp → Prop} {f : FuncId} {cap : Array Value} {φ : σ → Hp → Hp × σ} {J : σ → Nat → (Nat → Prop) → World → Prop} {B : Nat} (F : FnOk Tryz.prog cellsH D f cap φ J B)
    (cs : List Value) (x : Sb) (s : σ) (m : Nat) (T : Nat → Prop) (w : World) (hx : ∀ w', Upd T w w' → SubAt w' cs x) (hm : Small x) (hd : DS D x) (hj : J s (cnt x + m) T w) :
    Calls Tryz.prog 49 #[.agg cs.toArray, .func (.func f) #[] cap] w fun e w' => ∃ ds, e = .returned (.agg ds.toArray) ∧ ∃ T', (∀ w'', Upd (fun b => b < w.heap.size ∨ T' b) w' w'' → SubAt w'' ds (mapSub φ s x).1) ∧ J (mapSub φ s x).2 m T' w' ∧ Upd T w w' ∧ Fresh T w T' := by
  obtain ⟨vs, vp, vr, vf, rfl, _, _, _, _⟩ := (hx w (Upd.refl _ _)).ex
  have hR : ∀ w', Upd T w w' → HpsAt w' vs x.sups ∧ ValsAt w' vp x.ps ∧ ValsAt w' vr x.rs ∧ FlsAt w' vf x.fs := fun w' hu => by
    obtain ⟨_, _, _, _, e, h1, h2, h3, h4⟩ := (hx w' hu).ex
    simp only [List.cons.injEq, and_true] at e
    obtain ⟨_, rfl, _, rfl, rfl, rfl⟩ := e
    exact ⟨h1, h2, h3, h4⟩
  obtain ⟨fin, sups, k, lp, lr, lf⟩ := x
  dsimp only [cnt] at hR hj ⊢
  have hmf : ∀ (fn : Fn) (first cap : Array Value) (w : World), (Instr.makeFunc fn first cap).run Tryz.prog w = .ok (.func fn first cap) w := fun _ _ _ _ => rfl
  have hnf : ∀ w : World, (binOp BinOp.eql 161 (.func (.func f) #[] cap) .nilFunc).run Tryz.prog w = .ok (.bool false) w := fun _ => by rfl
  have hst : ∀ (fn : Fn) (first cap : Array Value) (a : Addr) (w : World), (store a (.func fn first cap)).run Tryz.prog w = stored Tryz.prog w a (.func fn first cap) .plain := fun _ _ _ _ _ => run_store _ _ _ _ _ rfl
  have hB : B ≤ w.heap.size := (F.lt hj).2
  have hTw := (F.lt hj).1
  obtain ⟨W0, hW⟩ : ∃ W0 : World, W0 = ((((w.alloc (.cells #[.bool fin, vs, .int .i64 k, vp, vr, vf] 46)).alloc (.cells #[.func (.func f) #[] cap] 161)).alloc (.cells #[.bool fin, .slice none 0 0, .int .i64 0, .slice none 0 0, .slice none 0 0, .slice none 0 0] 46)).alloc (.cells #[.func (.func 72) #[] #[.pointer (some ⟨w.heap.size + 1, 0, none⟩)]] 185)) := ⟨_, rfl⟩
  have hu0 : Upd T w W0 := by rw [hW]; exact ((((Upd.refl _ w).alloc _).alloc _).alloc _).alloc _
  have S0 : MapSt T w [.bool fin, vs, .int .i64 k, vp, vr, vf] (.func (.func f) #[] cap) (.func (.func 72) #[] #[.pointer (some ⟨w.heap.size + 1, 0, none⟩)]) [.bool fin, .slice none 0 0, .int .i64 0, .slice none 0 0, .slice none 0 0, .slice none 0 0] T W0 :=
    ⟨by rw [hW]; exact heap_alloc_keep (heap_alloc_keep (heap_alloc_keep (heap_alloc_at _ _ rfl) _) _) _, by rw [hW]; exact heap_alloc_keep (heap_alloc_keep (heap_alloc_at _ _ (by simp)) _) _, by rw [hW]; exact heap_alloc_keep (heap_alloc_at _ _ (by simp)) _, by rw [hW]; exact heap_alloc_at _ _ (by simp), fun i _ h => by have := hTw _ h; omega, hu0, Fresh.refl _ _⟩
  have hj0 : J s (sups.length + (lp.length + (lr.length + (lf.length + m)))) T W0 := by
    rw [show sups.length + (lp.length + (lr.length + lf.length)) + m = sups.length + (lp.length + (lr.length + (lf.length + m))) by omega] at hj
    exact F.keep hj (by rw [hW]; exact ((((Upd.refl _ w).alloc _).alloc _).alloc _).alloc _)
  have HR := hid hR; have HM := hid hm; have HD := hid hd; have HW := hid hW; have HS0 := hid S0; have HJ0 := hid hj0; have HB := hid hB
  clear hR hm hd S0 hj0 hB hTw hu0 hj hx
  go_enter_defers Tryz.func49, Tryz.ntmps49
  go_wp2_with fail
  rw [← HW.out]
  refine (eachH_any F vs sups s _ T W0 (fun w' hu => (HR.out w' (HS0.out.hu.trans (Fresh.refl _ _) hu)).1) HM.out.sups HD.out.sups HJ0.out).mono ?_
  rintro e w1 ⟨u1, rfl, o1, T1, n1, j1, hu1, hf1⟩
  obtain ⟨s1, hs1⟩ : ∃ s1, (mapS φ s sups).2 = s1 := ⟨_, rfl⟩
  obtain ⟨l1, hl1⟩ : ∃ l1, (mapS φ s sups).1 = l1 := ⟨_, rfl⟩
  rw [hs1] at j1
  rw [hl1] at o1
  obtain ⟨ao1, cp1, rfl, _⟩ := ownsRow_form o1
  have S1 := HS0.out.call hu1 hf1
  have K1 : Held w _ _ _ _ _ T1 w1 := ⟨ownsRow_low o1 HS0.out.size, n1⟩
  obtain ⟨c1, c2, c3, c4, z1⟩ := S1.cells
  have c10 := c1 0; have c11 := c1 1; have c12 := c1 2; have c13 := c1 3; have c14 := c1 4; have c15 := c1 5
  have c30 := c3 0; have c31 := c3 1; have c32 := c3 2; have c33 := c3 3; have c34 := c3 4; have c35 := c3 5
  simp at c10 c11 c12 c13 c14 c15 c30 c31 c32 c33 c34 c35
  have HS1 := hid S1; have HK1 := hid K1; have HJ1 := hid j1; have HU1 := hid hu1; have HF1 := hid hf1; have HS_1 := hid hs1; have HL_1 := hid hl1
  clear S1 K1 j1 hu1 hf1 o1 n1 hs1 hl1 c1 c3
  -- PRINTED by mkmap.py
  obtain ⟨V2, hV2⟩ : ∃ V2, V2 = ((w1.setCell ⟨w.heap.size + 1 + 1, 1, none⟩ (.slice ao1 sups.length cp1)).setCell ⟨w.heap.size + 1 + 1, 2, none⟩ (.int .i64 k)) := ⟨_, rfl⟩
  have P2 := ((HS1.out.set 1 (.slice ao1 sups.length cp1)).set 2 (.int .i64 k))
  rw [← hV2] at P2
  have j1' := (F.keep (F.keep HJ1.out (HS1.out.upd HB.out 1 (.slice ao1 sups.length cp1))) ((HS1.out.set 1 (.slice ao1 sups.length cp1)).upd HB.out 2 (.int .i64 k)))
  rw [← hV2] at j1'
  have G1 := ((HK1.out.set 1 (.slice ao1 sups.length cp1)).set 2 (.int .i64 k))
  rw [← hV2] at G1
  have HV2 := hid hV2; have HP2 := hid P2; have HJV2 := hid j1'
  have HG1 := hid G1
  clear hV2 P2 j1' G1
  clear HK1
  go_wp2_with fail
  rw [← HV2.out]
  refine (eachV_any (ask_ok F (w.heap.size + 1) (w.heap.size + 4) (by have := HB.out; omega)) vp lp s1 _ T1 V2 (fun w' hu => (HR.out w' (HP2.out.hu.trans HP2.out.hf hu)).2.1) HM.out.ps HD.out.ps ⟨HJV2.out, HP2.out.a1, by omega, HP2.out.size, HP2.out.n 1 (by omega)⟩).mono ?_
  rintro e w2 ⟨u2, rfl, o2, T2, n2, j2, hu2, hf2⟩
  obtain ⟨s2, hs2⟩ : ∃ s2, (mapS (phiV φ) s1 lp).2 = s2 := ⟨_, rfl⟩
  obtain ⟨l2, hl2⟩ : ∃ l2, (mapS (phiV φ) s1 lp).1 = l2 := ⟨_, rfl⟩
  rw [hs2] at j2
  rw [hl2] at o2
  obtain ⟨ao2, cp2, rfl, _⟩ := ownsRow_form o2
  have S2 := HP2.out.call hu2 hf2
  have K1 := HG1.out.call hu2 hf2
  have K2 : Held w _ _ _ _ _ T2 w2 := ⟨ownsRow_low o2 HP2.out.size, n2⟩
  have j2' := j2.j
  clear c10 c11 c12 c13 c14 c15 c30 c31 c32 c33 c34 c35 c2 c4 z1
  obtain ⟨c1, c2, c3, c4, z1⟩ := S2.cells
  have c10 := c1 0
  have c11 := c1 1
  have c12 := c1 2
  have c13 := c1 3
  have c14 := c1 4
  have c15 := c1 5
  have c30 := c3 0
  have c31 := c3 1
  have c32 := c3 2
  have c33 := c3 3
  have c34 := c3 4
  have c35 := c3 5
  simp at c10 c11 c12 c13 c14 c15 c30 c31 c32 c33 c34 c35
  have HS2 := hid S2; have HJ2 := hid j2'; have HS_2 := hid hs2; have HL_2 := hid hl2
  have HK1 := hid K1
  have HK2 := hid K2
  clear S2 j2 j2' hu2 hf2 o2 n2 hs2 hl2 c1 c3 K1 K2
  clear HG1
  obtain ⟨V3, hV3⟩ : ∃ V3, V3 = (w2.setCell ⟨w.heap.size + 1 + 1, 3, none⟩ (.slice ao2 lp.length cp2)) := ⟨_, rfl⟩
  have P3 := (HS2.out.set 3 (.slice ao2 lp.length cp2))
  rw [← hV3] at P3
  have j2' := (F.keep HJ2.out (HS2.out.upd HB.out 3 (.slice ao2 lp.length cp2)))
  rw [← hV3] at j2'
  have G1 := (HK1.out.set 3 (.slice ao2 lp.length cp2))
  rw [← hV3] at G1
  have G2 := (HK2.out.set 3 (.slice ao2 lp.length cp2))
  rw [← hV3] at G2
  have HV3 := hid hV3; have HP3 := hid P3; have HJV3 := hid j2'
  have HG1 := hid G1
  have HG2 := hid G2
  clear hV3 P3 j2' G1 G2
  clear HK1 HK2
  go_wp2_with fail
  rw [← HV3.out]
  refine (eachV_any (ask_ok F (w.heap.size + 1) (w.heap.size + 4) (by have := HB.out; omega)) vr lr s2 _ T2 V3 (fun w' hu => (HR.out w' (HP3.out.hu.trans HP3.out.hf hu)).2.2.1) HM.out.rs HD.out.rs ⟨HJV3.out, HP3.out.a1, by omega, HP3.out.size, HP3.out.n 1 (by omega)⟩).mono ?_
  rintro e w3 ⟨u3, rfl, o3, T3, n3, j3, hu3, hf3⟩
  obtain ⟨s3, hs3⟩ : ∃ s3, (mapS (phiV φ) s2 lr).2 = s3 := ⟨_, rfl⟩
  obtain ⟨l3, hl3⟩ : ∃ l3, (mapS (phiV φ) s2 lr).1 = l3 := ⟨_, rfl⟩
  rw [hs3] at j3
  rw [hl3] at o3
  obtain ⟨ao3, cp3, rfl, _⟩ := ownsRow_form o3
  have S3 := HP3.out.call hu3 hf3
  have K1 := HG1.out.call hu3 hf3
  have K2 := HG2.out.call hu3 hf3
  have K3 : Held w _ _ _ _ _ T3 w3 := ⟨ownsRow_low o3 HP3.out.size, n3⟩
  have j3' := j3.j
  clear c10 c11 c12 c13 c14 c15 c30 c31 c32 c33 c34 c35 c2 c4 z1
  obtain ⟨c1, c2, c3, c4, z1⟩ := S3.cells
  have c10 := c1 0
  have c11 := c1 1
  have c12 := c1 2
  have c13 := c1 3
  have c14 := c1 4
  have c15 := c1 5
  have c30 := c3 0
  have c31 := c3 1
  have c32 := c3 2
  have c33 := c3 3
  have c34 := c3 4
  have c35 := c3 5
  simp at c10 c11 c12 c13 c14 c15 c30 c31 c32 c33 c34 c35
  have HS3 := hid S3; have HJ3 := hid j3'; have HS_3 := hid hs3; have HL_3 := hid hl3
  have HK1 := hid K1
  have HK2 := hid K2
  have HK3 := hid K3
  clear S3 j3 j3' hu3 hf3 o3 n3 hs3 hl3 c1 c3 K1 K2 K3
  clear HG1 HG2
  obtain ⟨V4, hV4⟩ : ∃ V4, V4 = (w3.setCell ⟨w.heap.size + 1 + 1, 4, none⟩ (.slice ao3 lr.length cp3)) := ⟨_, rfl⟩
  have P4 := (HS3.out.set 4 (.slice ao3 lr.length cp3))
  rw [← hV4] at P4
  have j3' := (F.keep HJ3.out (HS3.out.upd HB.out 4 (.slice ao3 lr.length cp3)))
  rw [← hV4] at j3'
  have G1 := (HK1.out.set 4 (.slice ao3 lr.length cp3))
  rw [← hV4] at G1
  have G2 := (HK2.out.set 4 (.slice ao3 lr.length cp3))
  rw [← hV4] at G2
  have G3 := (HK3.out.set 4 (.slice ao3 lr.length cp3))
  rw [← hV4] at G3
  have HV4 := hid hV4; have HP4 := hid P4; have HJV4 := hid j3'
  have HG1 := hid G1
  have HG2 := hid G2
  have HG3 := hid G3
  clear hV4 P4 j3' G1 G2 G3
  clear HK1 HK2 HK3
  go_wp2_with fail
  rw [← HV4.out]
  refine (eachF_any (field_ok (ask_ok F (w.heap.size + 1) (w.heap.size + 4) (by have := HB.out; omega)) (w.heap.size + 1 + 1 + 1) (w.heap.size + 4) (Nat.le_refl _)) vf lf s3 m T3 V4 (fun w' hu => (HR.out w' (HP4.out.hu.trans HP4.out.hf hu)).2.2.2) HM.out.fs HD.out.fs ⟨⟨HJV4.out, HP4.out.a1, by omega, HP4.out.size, HP4.out.n 1 (by omega)⟩, HP4.out.a3, by omega, HP4.out.size, HP4.out.n 3 (by omega)⟩).mono ?_
  rintro e w4 ⟨u4, rfl, o4, T4, n4, j4, hu4, hf4⟩
  obtain ⟨s4, hs4⟩ : ∃ s4, (mapS (phiF φ) s3 lf).2 = s4 := ⟨_, rfl⟩
  obtain ⟨l4, hl4⟩ : ∃ l4, (mapS (phiF φ) s3 lf).1 = l4 := ⟨_, rfl⟩
  rw [hs4] at j4
  rw [hl4] at o4
  obtain ⟨ao4, cp4, rfl, _⟩ := ownsRow_form o4
  have S4 := HP4.out.call hu4 hf4
  have K1 := HG1.out.call hu4 hf4
  have K2 := HG2.out.call hu4 hf4
  have K3 := HG3.out.call hu4 hf4
  have K4 : Held w _ _ _ _ _ T4 w4 := ⟨ownsRow_low o4 HP4.out.size, n4⟩
  have j4' := j4.j.j
  clear c10 c11 c12 c13 c14 c15 c30 c31 c32 c33 c34 c35 c2 c4 z1
  obtain ⟨c1, c2, c3, c4, z1⟩ := S4.cells
  have c10 := c1 0
  have c11 := c1 1
  have c12 := c1 2
  have c13 := c1 3
  have c14 := c1 4
  have c15 := c1 5
  have c30 := c3 0
  have c31 := c3 1
  have c32 := c3 2
  have c33 := c3 3
  have c34 := c3 4
  have c35 := c3 5
  simp at c10 c11 c12 c13 c14 c15 c30 c31 c32 c33 c34 c35
  have HS4 := hid S4; have HJ4 := hid j4'; have HS_4 := hid hs4; have HL_4 := hid hl4
  have HK1 := hid K1
  have HK2 := hid K2
  have HK3 := hid K3
  have HK4 := hid K4
  clear S4 j4 j4' hu4 hf4 o4 n4 hs4 hl4 c1 c3 K1 K2 K3 K4
  clear HG1 HG2 HG3
  go_wp2
  obtain ⟨V5, hV5⟩ : ∃ V5, V5 = (((((((w4.setCell ⟨w.heap.size + 1 + 1, 5, none⟩ (.slice ao4 lf.length cp4)).setCell ⟨w.heap.size + 1 + 1, 0, none⟩ (.bool fin)).setCell ⟨w.heap.size + 1 + 1, 1, none⟩ (.slice ao1 sups.length cp1)).setCell ⟨w.heap.size + 1 + 1, 2, none⟩ (.int .i64 k)).setCell ⟨w.heap.size + 1 + 1, 3, none⟩ (.slice ao2 lp.length cp2)).setCell ⟨w.heap.size + 1 + 1, 4, none⟩ (.slice ao3 lr.length cp3)).setCell ⟨w.heap.size + 1 + 1, 5, none⟩ (.slice ao4 lf.length cp4)) := ⟨_, rfl⟩
  have P5 := (((((((HS4.out.set 5 (.slice ao4 lf.length cp4)).set 0 (.bool fin)).set 1 (.slice ao1 sups.length cp1)).set 2 (.int .i64 k)).set 3 (.slice ao2 lp.length cp2)).set 4 (.slice ao3 lr.length cp3)).set 5 (.slice ao4 lf.length cp4))
  rw [← hV5] at P5
  have j5 := (F.keep (F.keep (F.keep (F.keep (F.keep (F.keep (F.keep HJ4.out (HS4.out.upd HB.out 5 (.slice ao4 lf.length cp4))) ((HS4.out.set 5 (.slice ao4 lf.length cp4)).upd HB.out 0 (.bool fin))) (((HS4.out.set 5 (.slice ao4 lf.length cp4)).set 0 (.bool fin)).upd HB.out 1 (.slice ao1 sups.length cp1))) ((((HS4.out.set 5 (.slice ao4 lf.length cp4)).set 0 (.bool fin)).set 1 (.slice ao1 sups.length cp1)).upd HB.out 2 (.int .i64 k))) (((((HS4.out.set 5 (.slice ao4 lf.length cp4)).set 0 (.bool fin)).set 1 (.slice ao1 sups.length cp1)).set 2 (.int .i64 k)).upd HB.out 3 (.slice ao2 lp.length cp2))) ((((((HS4.out.set 5 (.slice ao4 lf.length cp4)).set 0 (.bool fin)).set 1 (.slice ao1 sups.length cp1)).set 2 (.int .i64 k)).set 3 (.slice ao2 lp.length cp2)).upd HB.out 4 (.slice ao3 lr.length cp3))) (((((((HS4.out.set 5 (.slice ao4 lf.length cp4)).set 0 (.bool fin)).set 1 (.slice ao1 sups.length cp1)).set 2 (.int .i64 k)).set 3 (.slice ao2 lp.length cp2)).set 4 (.slice ao3 lr.length cp3)).upd HB.out 5 (.slice ao4 lf.length cp4)))
  rw [← hV5] at j5
  have G1 := (((((((HK1.out.set 5 (.slice ao4 lf.length cp4)).set 0 (.bool fin)).set 1 (.slice ao1 sups.length cp1)).set 2 (.int .i64 k)).set 3 (.slice ao2 lp.length cp2)).set 4 (.slice ao3 lr.length cp3)).set 5 (.slice ao4 lf.length cp4))
  rw [← hV5] at G1
  have G2 := (((((((HK2.out.set 5 (.slice ao4 lf.length cp4)).set 0 (.bool fin)).set 1 (.slice ao1 sups.length cp1)).set 2 (.int .i64 k)).set 3 (.slice ao2 lp.length cp2)).set 4 (.slice ao3 lr.length cp3)).set 5 (.slice ao4 lf.length cp4))
  rw [← hV5] at G2
  have G3 := (((((((HK3.out.set 5 (.slice ao4 lf.length cp4)).set 0 (.bool fin)).set 1 (.slice ao1 sups.length cp1)).set 2 (.int .i64 k)).set 3 (.slice ao2 lp.length cp2)).set 4 (.slice ao3 lr.length cp3)).set 5 (.slice ao4 lf.length cp4))
  rw [← hV5] at G3
  have G4 := (((((((HK4.out.set 5 (.slice ao4 lf.length cp4)).set 0 (.bool fin)).set 1 (.slice ao1 sups.length cp1)).set 2 (.int .i64 k)).set 3 (.slice ao2 lp.length cp2)).set 4 (.slice ao3 lr.length cp3)).set 5 (.slice ao4 lf.length cp4))
  rw [← hV5] at G4
  rw [← hV5]
  clear c10 c11 c12 c13 c14 c15 c30 c31 c32 c33 c34 c35 c2 c4 z1
  obtain ⟨c1, c2, c3, c4, z1⟩ := P5.cells
  have c30 := c3 0; have c31 := c3 1; have c32 := c3 2; have c33 := c3 3; have c34 := c3 4; have c35 := c3 5
  simp at c30 c31 c32 c33 c34 c35
  refine leaves_cons (f := 71) (args := #[.pointer (some ⟨w.heap.size + 1 + 1, 0, none⟩)]) (by simp) (by simp [go_sem]) ?_
  refine (map_idle ⟨w.heap.size + 1 + 1, 0, none⟩ _).mono ?_
  rintro e u' w5 ⟨rfl, rfl, hw5⟩
  rw [hw5]
  have hsub : (mapSub φ s ⟨fin, sups, k, lp, lr, lf⟩) = (⟨fin, l1, k, l2, l3, l4⟩, s4) := by
    simp only [mapSub, HS_1.out, HL_1.out, HS_2.out, HL_2.out, HS_3.out, HL_3.out, HS_4.out, HL_4.out]
  have e1 : sups.length = l1.length := by rw [← HL_1.out, mapS_len]
  have e2 : lp.length = l2.length := by rw [← HL_2.out, mapS_len]
  have e3 : lr.length = l3.length := by rw [← HL_3.out, mapS_len]
  have e4 : lf.length = l4.length := by rw [← HL_4.out, mapS_len]
  have hfin : ∃ ds : List Value, Ending.returned (.agg #[.bool fin, .slice ao1 sups.length cp1, .int .i64 k, .slice ao2 lp.length cp2, .slice ao3 lr.length cp3, .slice ao4 lf.length cp4]) = Ending.returned (.agg ds.toArray) ∧ ∃ T', (∀ w'', Upd (fun b => b < w.heap.size ∨ T' b) V5 w'' → SubAt w'' ds (mapSub φ s ⟨fin, sups, k, lp, lr, lf⟩).1) ∧ J (mapSub φ s ⟨fin, sups, k, lp, lr, lf⟩).2 m T' V5 ∧ Upd T w V5 ∧ Fresh T w T' := by
    refine ⟨[.bool fin, .slice ao1 sups.length cp1, .int .i64 k, .slice ao2 lp.length cp2, .slice ao3 lr.length cp3, .slice ao4 lf.length cp4], rfl, T4, ?_, ?_, P5.hu, P5.hf⟩
    · intro w'' hu
      rw [hsub]
      have r1 := G1.end hu; have r2 := G2.end hu; have r3 := G3.end hu; have r4 := G4.end hu
      refine ⟨_, _, _, _, rfl, ?_, ?_, ?_, ?_⟩
      · show RowAt w'' 2 _ l1.length _; rw [← e1]; exact r1
      · show RowAt w'' 4 _ l2.length _; rw [← e2]; exact r2
      · show RowAt w'' 4 _ l3.length _; rw [← e3]; exact r3
      · show RowAt w'' 6 _ l4.length _; rw [← e4]; exact r4
    · rw [hsub]; exact j5
  simp [Leaves, settle, results, Tryz.results49, go_sem, c30, c31, c32, c33, c34, c35]
  simpa using hfin
end
section
open Go.RowKit
structure FoundJ (p B : Nat) (s : List Hp) (n : Nat) (T : Nat → Prop) (w : World) : Prop where
  ex : ∃ v, w.heap[p]? = some (.cells #[v] 44 (0, 0)) ∧ w.ownsRow B 75 2 v s.length (flatH s) ∧ v.ownBlock ≠ some p ∧ (∀ b, T b ↔ (b = p ∨ v.ownBlock = some b))
  cnt : s.length + n ≤ 1000000
  le : B ≤ w.heap.size
def gather (s : List Hp) (h : Hp) : Hp × List Hp := (h, s ++ [h])
set_option maxRecDepth 100000 in
set_option maxHeartbeats 8000000 in
theorem found_ok (p B : Nat) (hp : B ≤ p) : FnOk Tryz.prog cellsH (fun _ => True) 127 #[.pointer (some ⟨p, 0, none⟩)] gather (FoundJ p B) B where
  enter := fun _ _ => rfl
  lt := fun h => ⟨fun b hb => by
    obtain ⟨v, h1, h2, h3, h4⟩ := h.ex
    rcases (h4 b).1 hb with rfl | e
    · exact heap_lt h1
    · exact (h2.lt b e).2, h.le⟩
  keep := fun h u => ⟨by
    obtain ⟨v, h1, h2, h3, h4⟩ := h.ex
    exact ⟨v, u.heap_some h1 (fun hk => hk.2 ((h4 p).2 (.inl rfl))), ownsRow_upd h2 u (fun b hb hk => hk.2 ((h4 b).2 (.inr hb))), h3, h4⟩, h.cnt, Nat.le_trans h.le u.size⟩
  less := fun h hm => ⟨h.ex, by have := h.cnt; omega, h.le⟩
  call := by
    intro s n T w x _ hj
    obtain ⟨v, hb, ho, hne, hT⟩ := hj.ex
    obtain ⟨i0, hi, hz0, hz1, hz2⟩ := info_parts Tryz.infoHeap
    have Hi := hid hi; have Hz0 := hid hz0; have Hz1 := hid hz1; have Hz2 := hid hz2
    rw [show cellsH x = [.int .i64 x.k, .int .i64 x.n] from rfl]
    show Calls Tryz.prog 127 #[.agg #[.int .i64 x.k, .int .i64 x.n], .pointer (some ⟨p, 0, none⟩)] w _
    obtain ⟨W0, hW⟩ : ∃ W0 : World, W0 = (((w.alloc (.cells #[.int .i64 x.k, .int .i64 x.n] 75)).alloc (.cells #[.int .i64 0, .int .i64 0] 75)).alloc (.cells #[.int .i64 x.k, .int .i64 x.n] 75)) := ⟨_, rfl⟩
    have hsz : W0.heap.size = w.heap.size + 3 := by rw [hW]; simp
    have z0 : W0.heap[w.heap.size]? = some (.cells #[.int .i64 x.k, .int .i64 x.n] 75 (0, 0)) := by rw [hW]; exact heap_alloc_keep (heap_alloc_keep (heap_alloc_at _ _ rfl) _) _
    have z1 : W0.heap[w.heap.size + 1]? = some (.cells #[.int .i64 0, .int .i64 0] 75 (0, 0)) := by rw [hW]; exact heap_alloc_keep (heap_alloc_at _ _ (by simp)) _
    have z2 : W0.heap[w.heap.size + 1 + 1]? = some (.cells (cellsH x).toArray 75 (0, 0)) := by rw [hW]; exact heap_alloc_at _ _ (by simp)
    have zp : W0.heap[p]? = some (.cells #[v] 44 (0, 0)) := by rw [hW]; exact heap_alloc_keep (heap_alloc_keep (heap_alloc_keep hb _) _) _
    have u0 : Upd T w W0 := by rw [hW]; exact (((Upd.refl _ w).alloc _).alloc _).alloc _
    have ho0 : W0.ownsRow B 75 2 v s.length (flatH s) := by rw [hW]; exact ((ho.alloc _).alloc _).alloc _
    have hcp := heap_cell hb 0
    simp at hcp
    obtain ⟨ao, cap, rfl, _⟩ := ownsRow_form ho
    have hcq := cell_alloc (cell_alloc hcp (.cells #[.int .i64 x.k, .int .i64 x.n] 75)) (.cells #[.int .i64 0, .int .i64 0] 75)
    have hpw := heap_lt hb
    have hlen := hj.cnt
    have HO := hid ho0; have HW := hid hW; have HSZ := hid hsz; have Z0 := hid z0; have Z1 := hid z1; have Z2 := hid z2; have ZP := hid zp; have HU := hid u0; have HJ := hid hj; have HNE := hid hne; have HT := hid hT; have HPW := hid hpw; have HOw := hid ho
    have HR := hid (row_cells (cs := cellsH x) z2)
    clear hb ho hne hT hi hz0 hz1 hz2 hW hsz z0 z1 z2 zp u0 ho0 hj hpw
    go_enter Tryz.func127, Tryz.ntmps127
    go_wp2_with (at_builtin; rw [← HW.out]; refine wpList_append_own2 _ rfl _ _ 44 rfl B 75 i0 _ 2 16 Tryz.underlying44 Hi.out Hz0.out Hz1.out Hz2.out rfl (by decide) _ _ _ rfl HO.out ⟨w.heap.size + 1 + 1, 0, none⟩ 1 1 (cellsH x) rfl rfl HR.out (one_H x) (by simp [maxLen]; omega) (by omega) (by have := HJ.out.le; rw [HSZ.out]; omega) (by decide) ?_)
    intro v2 w2 o2 gr2 mv2
    have g0 := gr2.block (w.heap.size) (by rw [HSZ.out]; omega) (fun e => by have := (HOw.out.lt _ e.symm).2; omega)
    have g1 := gr2.block (w.heap.size + 1) (by rw [HSZ.out]; omega) (fun e => by have := (HOw.out.lt _ e.symm).2; omega)
    have gp := gr2.block p (by rw [HSZ.out]; have := HPW.out; omega) (fun e => HNE.out e.symm)
    rw [Z0.out] at g0
    rw [Z1.out] at g1
    rw [ZP.out] at gp
    have c00 := heap_cell g0 0; have c01 := heap_cell g0 1
    have c10 := heap_cell g1 0; have c11 := heap_cell g1 1
    have cp0 := heap_cell gp 0
    have f1 := fun i => heap_frozen g1 i
    have fp := fun i => heap_frozen gp i
    simp at c00 c01 c10 c11 cp0
    obtain ⟨ao2, cap2, rfl, _⟩ := ownsRow_form o2
    have HO2 := hid o2; have HG := hid gr2; have HM := hid mv2; have G0 := hid g0; have G1 := hid g1; have GP := hid gp
    clear o2 gr2 mv2 g0 g1 gp hcp hcq
    have hn0 : ¬ p = w.heap.size := by have := HPW.out; omega
    have hn0' : ¬ w.heap.size = p := by have := HPW.out; omega
    have hn1 : ¬ p = w.heap.size + 1 := by have := HPW.out; omega
    have hn1' : ¬ w.heap.size + 1 = p := by have := HPW.out; omega
    go_wp2
    refine bodyPost_ret (v := .agg #[.int .i64 x.k, .int .i64 x.n]) (by simp [results, Tryz.results127, go_sem, c10, c11]) rfl ?_
    have q1 : p < w.heap.size := HPW.out
    have hT := HT.out
    have u2 : Upd T w w2 := HU.out.grown HG.out (fun k hk => .inl ((hT k).2 (.inr hk)))
    have uf := ((u2.setCell (p := ⟨p, 0, none⟩) (.inl ((hT p).2 (.inl rfl))) (.slice ao2 (s.length + 1) cap2)).setCell (p := ⟨w.heap.size + 1, 0, none⟩) (.inr (by simp)) (.int .i64 x.k)).setCell (p := ⟨w.heap.size + 1, 1, none⟩) (.inr (by simp)) (.int .i64 x.n)
    have zp := heap_set_off (heap_set_off (heap_set_at GP.out 0 (.slice ao2 (s.length + 1) cap2)) (a := ⟨w.heap.size + 1, 0, none⟩) hn1 (.int .i64 x.k)) (a := ⟨w.heap.size + 1, 1, none⟩) hn1 (.int .i64 x.n)
    have hmv := HM.out
    have hb2 : ∀ b, (Value.slice ao2 (s.length + 1) cap2).ownBlock = some b → b ≠ p ∧ b ≠ w.heap.size + 1 := fun b hb => by
      rcases hmv with e | e
      · rw [e] at hb
        exact ⟨fun e1 => HNE.out (by rw [← e1]; exact hb), fun e1 => by have := (HOw.out.lt b hb).2; omega⟩
      · have := e b hb; rw [HSZ.out] at this; omega
    have us : Upd (fun b => b = p ∨ b = w.heap.size + 1) w2 (((w2.setCell ⟨p, 0, none⟩ (.slice ao2 (s.length + 1) cap2)).setCell ⟨w.heap.size + 1, 0, none⟩ (.int .i64 x.k)).setCell ⟨w.heap.size + 1, 1, none⟩ (.int .i64 x.n)) :=
      (((Upd.refl _ w2).setCell (.inl (.inl rfl)) _).setCell (.inl (.inr rfl)) _).setCell (.inl (.inr rfl)) _
    refine ⟨fun b => b = p ∨ (Value.slice ao2 (s.length + 1) cap2).ownBlock = some b, rfl, ⟨⟨.slice ao2 (s.length + 1) cap2, by simpa using zp, ?_, fun e => (hb2 p e).1 rfl, fun b => Iff.rfl⟩, by simp [gather]; omega, Nat.le_trans HJ.out.le uf.size⟩, uf, fun b hb => ?_⟩
    · have h := ownsRow_upd HO2.out us (fun b hb hk => by rcases hk with hk | hk; exact (hb2 b hb).1 hk; exact (hb2 b hb).2 hk)
      simpa [gather, flatH] using h
    · rcases hb with rfl | hb
      · exact .inl ((hT _).2 (.inl rfl))
      · rcases hmv with e | e
        · rw [e] at hb; exact .inl ((hT _).2 (.inr hb))
        · have := e b hb; rw [HSZ.out] at this; exact .inr (by omega)
def heapsOf (x : Sb) : List Hp := (mapSub gather [] x).2
set_option maxRecDepth 100000 in
set_option maxHeartbeats 8000000 in
theorem heaps_any (cs : List Value) (x : Sb) (w : World) (hs : SubAt w cs x) (hm : Small x) (hc : cnt x ≤ 1000000) :
    Calls Tryz.prog 114 #[.agg cs.toArray] w fun e w' => ∃ p, e = .returned (.func (.func 128) #[] #[.pointer (some ⟨p, 0, none⟩)]) ∧ w.heap.size ≤ p ∧ Below w.heap.size w w' ∧ ∃ v, w'.heap[p]? = some (.cells #[v] 44 (0, 0)) ∧ w'.ownsRow w.heap.size 75 2 v (heapsOf x).length (flatH (heapsOf x)) ∧ v.ownBlock ≠ some p := by
  obtain ⟨vs, vp, vr, vf, rfl, _, _, _, _⟩ := hs.ex
  have hmf : ∀ (fn : Fn) (first cap : Array Value) (w : World), (Instr.makeFunc fn first cap).run Tryz.prog w = .ok (.func fn first cap) w := fun _ _ _ _ => rfl
  obtain ⟨W0, hW⟩ : ∃ W0 : World, W0 = ((w.alloc (.cells #[.bool x.fin, vs, .int .i64 x.k, vp, vr, vf] 46)).alloc (.cells #[.slice none 0 0] 44)) := ⟨_, rfl⟩
  have hb0 : Below w.heap.size w W0 := by rw [hW]; exact ((Below.refl _ _).alloc (Nat.le_refl _) _).alloc (by simp) _
  have hsz : W0.heap.size = w.heap.size + 2 := by rw [hW]; simp
  have z1 : W0.heap[w.heap.size + 1]? = some (.cells #[.slice none 0 0] 44 (0, 0)) := by rw [hW]; exact heap_alloc_at _ _ (by simp)
  have hj : FoundJ (w.heap.size + 1) (w.heap.size + 1) [] (cnt x + 0) (fun b => b = w.heap.size + 1) W0 :=
    ⟨⟨_, z1, owns_zero _ _ _ _, by simp [Value.ownBlock], fun b => by simp [Value.ownBlock]⟩, by simpa using hc, by omega⟩
  have hmap := map_any (found_ok (w.heap.size + 1) (w.heap.size + 1) (Nat.le_refl _)) [.bool x.fin, vs, .int .i64 x.k, vp, vr, vf] x [] 0 (fun b => b = w.heap.size + 1) W0
    (fun w' hu => hs.below (hb0.trans (hu.below (B := w.heap.size) (fun k hk => by omega) hb0.size)) (Nat.le_refl _)) hm ⟨fun _ _ => trivial, fun _ _ _ => trivial, fun _ _ _ => trivial, fun _ _ _ => trivial⟩ hj
  have HM := hid hmap; have HW := hid hW; have HB := hid hb0; have HSZ := hid hsz
  clear hmap hW hb0 hsz z1 hj hs hm hc
  go_enter Tryz.func114, Tryz.ntmps114
  go_wp2_with fail
  rw [← HW.out]
  refine HM.out.mono ?_
  rintro e w1 ⟨ds, rfl, T1, _, hj1, hu1, _⟩
  have hbw : Below w.heap.size w w1 := HB.out.trans (hu1.below (B := w.heap.size) (fun k hk => by omega) HB.out.size)
  obtain ⟨v, b1, o1, n1, _⟩ := hj1.ex
  have HBW := hid hbw; have B1 := hid b1; have O1 := hid o1; have N1 := hid n1
  clear hj1 hu1 hbw b1 o1 n1
  go_wp2
  go_ret
  exact ⟨w.heap.size + 1, rfl, by omega, HBW.out, v, B1.out, ownsRow_low O1.out (by omega), N1.out⟩
end
section
open Go.RowKit Go.Shelf
def roundWay {α : Type} (Kp : World → World → Prop) (I : List α → World → Prop) (Ix : Code → List α → World → Prop) (xs : List α) (W : World) : Exit → Act → World → Prop
  | .normal, _, W' => KeepsOthers W W' ∧ Kp W W' ∧ I xs W'
  | .ret, _, W' => KeepsOthers W W' ∧ Ix .ret xs W'
  | .exit id, _, W' => KeepsOthers W W' ∧ Ix (.exit id) xs W'
  | .goto t, _, W' => KeepsOthers W W' ∧ Ix (.goto t) xs W'
  | .panic _, _, _ => False
  | .outgrown, _, _ => False
def IterAt {α : Type} (F : Fence) (n : Nat) (P : Program) (gf : Nat) (lb : Array Value) (encs : α → Array Value) (w : World) (Kp : World → World → Prop) (I : List α → World → Prop) (Ix : Code → List α → World → Prop) (S Sp : List α → Prop) (G : List α → α → Prop) : Prop :=
  ∀ (l : Nat) (L : World → Prop) (L' : Code → World → Prop) (W1 : World), (∀ W W', KeepsOthers W W' → L W → L W') → (∀ c W W', KeepsOthers W W' → L' c W → L' c W') → Below w.heap.size w W1 →
    (∀ pre x W, I pre W → L W → G pre x → YieldAt F (n - 1) P l (encs x) W fun e W' =>
      (e = .returned (.bool true) ∧ I (pre ++ [x]) W' ∧ Kp W W' ∧ L W') ∨ (e = .returned (.bool false) ∧ ∃ c, Ix c (pre ++ [x]) W' ∧ L' c W')) →
    I [] W1 → L W1 →
    CallsIn F n P gf (#[.func (.yield l) #[] #[]] ++ lb) W1 fun e W' => (∃ v, e = .returned v) ∧ ((∃ xs, S xs ∧ I xs W' ∧ L W') ∨ (∃ pre c, Sp pre ∧ Ix c pre W' ∧ L' c W'))
variable {F : Fence} {n : Nat} {P : Program}
theorem wpIn_range_at {α : Type} {g : Operand} {ps : Array Tmp} {assign body : Code} {Q : Exit → Act → World → Prop} {a : Act} {w : World}
    (hro : F.round = none) (h1 : 1 ≤ n) {gf : Nat} {lb : Array Value} (hg : a.eval g = .func (.func gf) #[] lb) (hFg : F.fn gf) (eg : ∀ args w, (callFunc gf args).run P w = .ok (.enter gf args) w)
    {encs : α → Array Value} (hps : ∀ x, (encs x).size = ps.size) {S Sp : List α → Prop} {G : List α → α → Prop} (Kp : World → World → Prop) (I : List α → World → Prop) (Ix : Code → List α → World → Prop)
    (hKt : ∀ {A B C : World}, Kp A B → Kp B C → Kp A C) (hKp : ∀ W l o o', w.heap.size ≤ l → W.heap[l]? = some o → o.isCells = false → Kp W (W.putObj l o'))
    (hIp : ∀ pre W l o o', w.heap.size ≤ l → W.heap[l]? = some o → o.isCells = false → I pre W → I pre (W.putObj l o'))
    (hIxp : ∀ c pre W l o o', w.heap.size ≤ l → W.heap[l]? = some o → o.isCells = false → Ix c pre W → Ix c pre (W.putObj l o'))
    (h0 : ∀ o o', I [] ((w.alloc o).alloc o')) (a₁ : α → Act)
    (hiter : IterAt F (n - 1) P gf lb encs w Kp I Ix S Sp G)
    (hassign : ∀ (l : Nat) (x : α) (W : World) (K : Act → World → Prop), K (a₁ x) W →
      assign.wpIn (F.inRound l) (n - 1 - 1) P (Exit.then K (fun _ _ _ => False)) { tmps := (ps.zip (encs x)).foldl (fun t (p, v) => t.setIfInBounds p v) a.tmps, defers := [] } W)
    (hbody : ∀ (l : Nat) (pre : List α) (x : α) (W : World), I pre W → G pre x → body.wpIn (F.inRound l) (n - 1 - 1) P (roundWay Kp I Ix (pre ++ [x]) W) (a₁ x) W)
    (hdone : ∀ (D : Nat) (xs : List α) (W : World), S xs → I xs W → W.heap[D]? = some (.deferred (some [])) → w.heap.size ≤ D → Q .normal { a with defers := { target := .collected D, args := #[] } :: a.defers } W)
    (hstop : ∀ (D : Nat) (c : Code) (pre : List α) (W : World), Sp pre → Ix c pre W → W.heap[D]? = some (.deferred (some [])) → w.heap.size ≤ D → c.wpIn F n P Q { a with defers := { target := .collected D, args := #[] } :: a.defers } W) :
    (Code.rangeFunc g ps assign body).wpIn F n P Q a w := by
  refine wpIn_rangeFunc fun fn hfn => ?_
  rw [hro]
  -- the loop's record in its states, its block and the block of the deferred calls
  let mk : LoopState → Option Code → Loop := fun st pe => { state := st, pending := pe, fn, tmps := a.tmps, params := ps, assign, body, defers := w.heap.size }
  let R : LoopState → Option Code → World → Prop := fun st pe W => W.heap[w.heap.size + 1]? = some (.loop (mk st pe)) ∧ W.heap[w.heap.size]? = some (.deferred (some []))
  have keep : ∀ st pe W W', KeepsOthers W W' → R st pe W → R st pe W' := fun st pe W W' hk h => ⟨hk.same _ _ h.1 rfl, hk.same _ _ h.2 rfl⟩
  have turn : ∀ st pe st' pe' W, R st pe W → R st' pe' (W.putObj (w.heap.size + 1) (.loop (mk st' pe'))) := fun st pe st' pe' W h =>
    ⟨World.putObj_heap_same (Array.getElem?_eq_some_iff.1 h.1).1, (World.putObj_heap_other (by omega)).trans h.2⟩
  have start : R .ready none ((w.alloc (.deferred (some []))).alloc (.loop (mk .ready none))) := by
    constructor
    · have := World.alloc_heap_new (w.alloc (.deferred (some []))) (.loop (mk .ready none))
      rwa [World.size_alloc] at this
    · exact (Below.heap_alloc _ _ _ (by simp)).trans (World.alloc_heap_new w _)
  refine ⟨w.heap.size + 1, [{ target := .collected w.heap.size, args := #[] }], (w.alloc (.deferred (some []))).alloc (.loop (mk .ready none)), { target := .fn (.func gf) lb, args := #[.func (.yield (w.heap.size + 1)) #[] #[]] }, (w.alloc (.deferred (some []))).alloc (.loop (mk .ready none)), gf,
    #[.func (.yield (w.heap.size + 1)) #[] #[]] ++ lb, (w.alloc (.deferred (some []))).alloc (.loop (mk .ready none)), run_enterLoop_outer _ _ _ _ _, ?_, ?_, ?_, fun _ => h1, ?_⟩
  · simp only [resolve, hg]
    simp [go_sem]
  · intro f' hf'
    simp [Target.leads] at hf'
    subst hf'
    exact hFg
  · simp [invoke, go_sem, eg]
  refine (hiter (w.heap.size + 1) (R .ready none) (fun c => R .done (some c)) _ (keep _ _) (fun c => keep _ _) (((Below.refl _ w).alloc (Nat.le_refl _) _).alloc (by simp) _) ?_ (h0 _ _) start).mono ?_
  · intro pre x W hi hl hlen
    refine ⟨fn, _, assign, body, run_yield hl.1 (hps x), roundIn_of_wpIn hfn (hassign _ x W _ ⟨_, run_beginRound hl.1 rfl, ?_⟩)⟩
    have hb := turn _ _ .busy none W hl
    refine wpIn_mono (hbody _ pre x _ (hIp _ _ _ _ _ (by omega) hl.1 rfl hi) hlen) ?_
    rintro e a3 W3 hp
    cases e with
    | normal =>
      have h3 := keep _ _ _ _ hp.1 hb
      exact ⟨_, _, run_endRound none h3.1, .inl ⟨rfl, hIp _ _ _ _ _ (by omega) h3.1 rfl hp.2.2, hKt (hKt (hKp _ _ _ _ (by omega) hl.1 rfl) hp.2.1) (hKp _ _ _ _ (by omega) h3.1 rfl), turn _ _ .ready none W3 h3⟩⟩
    | ret =>
      have h3 := keep _ _ _ _ hp.1 hb
      exact ⟨_, _, run_endRound (some .ret) h3.1, .inr ⟨rfl, .ret, hIxp _ _ _ _ _ _ (by omega) h3.1 rfl hp.2, turn _ _ .done (some .ret) W3 h3⟩⟩
    | exit id =>
      have h3 := keep _ _ _ _ hp.1 hb
      exact ⟨_, _, run_endRound (some (.exit id)) h3.1, .inr ⟨rfl, .exit id, hIxp _ _ _ _ _ _ (by omega) h3.1 rfl hp.2, turn _ _ .done (some (.exit id)) W3 h3⟩⟩
    | goto t =>
      have h3 := keep _ _ _ _ hp.1 hb
      exact ⟨_, _, run_endRound (some (.goto t)) h3.1, .inr ⟨rfl, .goto t, hIxp _ _ _ _ _ _ (by omega) h3.1 rfl hp.2, turn _ _ .done (some (.goto t)) W3 h3⟩⟩
    | panic ch => exact hp.elim
    | outgrown => exact hp.elim
  · rintro e W2 ⟨⟨v, rfl⟩, (⟨xs, hS, hi, hl⟩ | ⟨pre, c, hSp, hi, hl⟩)⟩
    · exact ⟨none, _, run_endLoop hl.1 (by simp [mk]), hdone _ xs _ hS (hIp _ _ _ _ _ (by omega) hl.1 rfl hi) ((World.putObj_heap_other (by omega)).trans hl.2) (Nat.le_refl _)⟩
    · exact ⟨some c, _, run_endLoop hl.1 (by simp [mk]), hstop _ c pre _ hSp (hIxp _ _ _ _ _ _ (by omega) hl.1 rfl hi) ((World.putObj_heap_other (by omega)).trans hl.2) (Nat.le_refl _)⟩
end
section
open Go.RowKit Go.Shelf
variable {F : Fence} {n : Nat} {P : Program}
theorem wpIn_range_box {α : Type} {g : Operand} {ps : Array Tmp} {assign body : Code} {Q : Exit → Act → World → Prop} {a : Act} {w : World}
    (hro : F.round = none) (h1 : 1 ≤ n) {gf : Nat} {lb : Array Value} (hg : a.eval g = .func (.func gf) #[] lb) (hFg : F.fn gf) (eg : ∀ args w, (callFunc gf args).run P w = .ok (.enter gf args) w)
    {encs : α → Array Value} (hps : ∀ x, (encs x).size = ps.size) {S Sp : List α → Prop} {G : List α → α → Prop} (Kp : World → World → Prop) (I : List α → World → Prop) (Ix : Code → List α → World → Prop)
    (hKt : ∀ {A B C : World}, Kp A B → Kp B C → Kp A C) (hKp : ∀ W l o o', w.heap.size ≤ l → W.heap[l]? = some o → o.isCells = false → Kp W (W.putObj l o'))
    (hIp : ∀ pre W l o o', w.heap.size ≤ l → W.heap[l]? = some o → o.isCells = false → I pre W → I pre (W.putObj l o'))
    (hIxp : ∀ c pre W l o o', w.heap.size ≤ l → W.heap[l]? = some o → o.isCells = false → Ix c pre W → Ix c pre (W.putObj l o'))
    (h0 : ∀ o o', I [] ((w.alloc o).alloc o')) (bx : α → Obj) (hIa : ∀ pre W x, I pre W → I pre (W.alloc (bx x))) (hKa : ∀ W x, Kp W (W.alloc (bx x))) (a₁ : α → Nat → Act)
    (hiter : IterAt F (n - 1) P gf lb encs w Kp I Ix S Sp G)
    (hassign : ∀ (l : Nat) (x : α) (W : World) (K : Act → World → Prop), K (a₁ x W.heap.size) (W.alloc (bx x)) →
      assign.wpIn (F.inRound l) (n - 1 - 1) P (Exit.then K (fun _ _ _ => False)) { tmps := (ps.zip (encs x)).foldl (fun t (p, v) => t.setIfInBounds p v) a.tmps, defers := [] } W)
    (hbody : ∀ (l : Nat) (pre : List α) (x : α) (W : World) (B : Nat), I pre W → G pre x → W.heap[B]? = some (bx x) → w.heap.size ≤ B → body.wpIn (F.inRound l) (n - 1 - 1) P (roundWay Kp I Ix (pre ++ [x]) W) (a₁ x B) W)
    (hdone : ∀ (D : Nat) (xs : List α) (W : World), S xs → I xs W → W.heap[D]? = some (.deferred (some [])) → w.heap.size ≤ D → Q .normal { a with defers := { target := .collected D, args := #[] } :: a.defers } W)
    (hstop : ∀ (D : Nat) (c : Code) (pre : List α) (W : World), Sp pre → Ix c pre W → W.heap[D]? = some (.deferred (some [])) → w.heap.size ≤ D → c.wpIn F n P Q { a with defers := { target := .collected D, args := #[] } :: a.defers } W) :
    (Code.rangeFunc g ps assign body).wpIn F n P Q a w := by
  refine wpIn_rangeFunc fun fn hfn => ?_
  rw [hro]
  -- the loop's record in its states, its block and the block of the deferred calls
  let mk : LoopState → Option Code → Loop := fun st pe => { state := st, pending := pe, fn, tmps := a.tmps, params := ps, assign, body, defers := w.heap.size }
  let R : LoopState → Option Code → World → Prop := fun st pe W => W.heap[w.heap.size + 1]? = some (.loop (mk st pe)) ∧ W.heap[w.heap.size]? = some (.deferred (some []))
  have keep : ∀ st pe W W', KeepsOthers W W' → R st pe W → R st pe W' := fun st pe W W' hk h => ⟨hk.same _ _ h.1 rfl, hk.same _ _ h.2 rfl⟩
  have turn : ∀ st pe st' pe' W, R st pe W → R st' pe' (W.putObj (w.heap.size + 1) (.loop (mk st' pe'))) := fun st pe st' pe' W h =>
    ⟨World.putObj_heap_same (Array.getElem?_eq_some_iff.1 h.1).1, (World.putObj_heap_other (by omega)).trans h.2⟩
  have start : R .ready none ((w.alloc (.deferred (some []))).alloc (.loop (mk .ready none))) := by
    constructor
    · have := World.alloc_heap_new (w.alloc (.deferred (some []))) (.loop (mk .ready none))
      rwa [World.size_alloc] at this
    · exact (Below.heap_alloc _ _ _ (by simp)).trans (World.alloc_heap_new w _)
  refine ⟨w.heap.size + 1, [{ target := .collected w.heap.size, args := #[] }], (w.alloc (.deferred (some []))).alloc (.loop (mk .ready none)), { target := .fn (.func gf) lb, args := #[.func (.yield (w.heap.size + 1)) #[] #[]] }, (w.alloc (.deferred (some []))).alloc (.loop (mk .ready none)), gf,
    #[.func (.yield (w.heap.size + 1)) #[] #[]] ++ lb, (w.alloc (.deferred (some []))).alloc (.loop (mk .ready none)), run_enterLoop_outer _ _ _ _ _, ?_, ?_, ?_, fun _ => h1, ?_⟩
  · simp only [resolve, hg]
    simp [go_sem]
  · intro f' hf'
    simp [Target.leads] at hf'
    subst hf'
    exact hFg
  · simp [invoke, go_sem, eg]
  refine (hiter (w.heap.size + 1) (R .ready none) (fun c => R .done (some c)) _ (keep _ _) (fun c => keep _ _) (((Below.refl _ w).alloc (Nat.le_refl _) _).alloc (by simp) _) ?_ (h0 _ _) start).mono ?_
  · intro pre x W hi hl hlen
    have hla := keep _ _ _ _ (KeepsOthers.alloc W (bx x)) hl
    refine ⟨fn, _, assign, body, run_yield hl.1 (hps x), roundIn_of_wpIn hfn (hassign _ x W _ ⟨_, run_beginRound hla.1 rfl, ?_⟩)⟩
    have hb := turn _ _ .busy none _ hla
    have hls : w.heap.size + 1 < W.heap.size := (Array.getElem?_eq_some_iff.1 hl.1).1
    refine wpIn_mono (hbody _ pre x _ W.heap.size (hIp _ _ _ _ _ (by omega) hla.1 rfl (hIa _ _ _ hi)) hlen ((World.putObj_heap_other (by omega)).trans (World.alloc_heap_new W _)) (by omega)) ?_
    rintro e a3 W3 hp
    cases e with
    | normal =>
      have h3 := keep _ _ _ _ hp.1 hb
      exact ⟨_, _, run_endRound none h3.1, .inl ⟨rfl, hIp _ _ _ _ _ (by omega) h3.1 rfl hp.2.2, hKt (hKt (hKa _ _) (hKt (hKp _ _ _ _ (by omega) hla.1 rfl) hp.2.1)) (hKp _ _ _ _ (by omega) h3.1 rfl), turn _ _ .ready none W3 h3⟩⟩
    | ret =>
      have h3 := keep _ _ _ _ hp.1 hb
      exact ⟨_, _, run_endRound (some .ret) h3.1, .inr ⟨rfl, .ret, hIxp _ _ _ _ _ _ (by omega) h3.1 rfl hp.2, turn _ _ .done (some .ret) W3 h3⟩⟩
    | exit id =>
      have h3 := keep _ _ _ _ hp.1 hb
      exact ⟨_, _, run_endRound (some (.exit id)) h3.1, .inr ⟨rfl, .exit id, hIxp _ _ _ _ _ _ (by omega) h3.1 rfl hp.2, turn _ _ .done (some (.exit id)) W3 h3⟩⟩
    | goto t =>
      have h3 := keep _ _ _ _ hp.1 hb
      exact ⟨_, _, run_endRound (some (.goto t)) h3.1, .inr ⟨rfl, .goto t, hIxp _ _ _ _ _ _ (by omega) h3.1 rfl hp.2, turn _ _ .done (some (.goto t)) W3 h3⟩⟩
    | panic ch => exact hp.elim
    | outgrown => exact hp.elim
  · rintro e W2 ⟨⟨v, rfl⟩, (⟨xs, hS, hi, hl⟩ | ⟨pre, c, hSp, hi, hl⟩)⟩
    · exact ⟨none, _, run_endLoop hl.1 (by simp [mk]), hdone _ xs _ hS (hIp _ _ _ _ _ (by omega) hl.1 rfl hi) ((World.putObj_heap_other (by omega)).trans hl.2) (Nat.le_refl _)⟩
    · exact ⟨some c, _, run_endLoop hl.1 (by simp [mk]), hstop _ c pre _ hSp (hIxp _ _ _ _ _ _ (by omega) hl.1 rfl hi) ((World.putObj_heap_other (by omega)).trans hl.2) (Nat.le_refl _)⟩
end
end Go.Proofs.YtpddbaijnjbfdaaGreatDoor
namespace Go.Proofs
open Go.Shelf
def Tryz.lays169_ren : Go.Shelf.Ren := ⟨fun | 169 => 110 | n => n, fun | 70 => 213 | 9 => 9 | 0 => 0 | 72 => 215 | 37 => 124 | 127 => 238 | 3 => 3 | 5 => 5 | n => n, fun | n => n⟩
theorem Tryz.lays169 : Go.Proofs.Lays.n169 Tryz.prog Tryz.lays169_ren := {
  mixed := by kernel_rfl
  f169 := Tryz.func110.trans (congrArg some (by kernel_rfl))
  t0 := Tryz.underlying0
  a0 := Tryz.isAgg0
  z0 := Tryz.sizeOf0
  v0 := Tryz.zeroValue0
  t3 := Tryz.underlying3
  a3 := Tryz.isAgg3
  z3 := Tryz.sizeOf3
  v3 := Tryz.zeroValue3
  t9 := Tryz.underlying9
  a9 := Tryz.isAgg9
  z9 := Tryz.sizeOf9
  v9 := Tryz.zeroValue9
  t37 := Tryz.underlying124
  a37 := Tryz.isAgg124
  z37 := Tryz.sizeOf124
  v37 := Tryz.zeroValue124
  t70 := Tryz.underlying213
  a70 := Tryz.isAgg213
  z70 := Tryz.sizeOf213
  v70 := Tryz.zeroValue213
  t72 := Tryz.underlying215
  a72 := Tryz.isAgg215
  z72 := Tryz.sizeOf215
  v72 := Tryz.zeroValue215
  t127 := Tryz.underlying238
  a127 := Tryz.isAgg238
  z127 := Tryz.sizeOf238
  v127 := Tryz.zeroValue238 }
theorem Tryz.Builder_Extra_169 : Builder.Extra Tryz.prog Tryz.lays169_ren := {
  sizeBuilder := by kernel_rfl
  liesBuilder := by kernel_rfl
  t5 := Tryz.underlying5
  a5 := Tryz.isAgg5
  z5 := Tryz.sizeOf5
  v5 := Tryz.zeroValue5
  infoByte := by kernel_rfl
  cellsByte := by kernel_rfl
  sizeByte := by kernel_rfl
  neB5 := by decide }
open Go.RowKit in
open Go.RowKit in
open Go.RowKit in
theorem Tryz.Builder_String_any (B b : Nat) (l : List UInt8) (w : World) (h : Lib.IsBuilder 215 5 B b (Lib.byteCells l) w) (hBw : B ≤ w.heap.size) :
    Calls Tryz.prog 110 #[.pointer (some ⟨b, 0, none⟩)] w fun e w' => e = .returned (.string ⟨l.toArray⟩) ∧ Below B w w' := Any.Builder_String_any Tryz.lays169 Tryz.Builder_Extra_169 B b l w h hBw
open Go.RowKit in
open Go.RowKit in
open Go.RowKit in
open Go.RowKit in
open Go.RowKit in
open Go.RowKit in
open Go.Lib in
open Go.Lib in
def Tryz.lays283_ren : Go.Shelf.Ren := ⟨fun | 283 => 155 | n => n, fun | 3 => 3 | 9 => 9 | 4 => 4 | n => n, fun | n => n⟩
theorem Tryz.lays283 : Go.Proofs.Lays.n283 Tryz.prog Tryz.lays283_ren := {
  mixed := by kernel_rfl
  f283 := Tryz.func155.trans (congrArg some (by kernel_rfl))
  t3 := Tryz.underlying3
  a3 := Tryz.isAgg3
  z3 := Tryz.sizeOf3
  v3 := Tryz.zeroValue3
  t4 := Tryz.underlying4
  a4 := Tryz.isAgg4
  z4 := Tryz.sizeOf4
  v4 := Tryz.zeroValue4
  t9 := Tryz.underlying9
  a9 := Tryz.isAgg9
  z9 := Tryz.sizeOf9
  v9 := Tryz.zeroValue9 }
open Go.Lib in
theorem Tryz.internal_strconv_small (i : Nat) (h : i < 100) (w : World) :
    Calls Tryz.prog 155 #[.int .i64 i] w fun e w' => e = .returned (.string ⟨(Lib.decDigits i).toArray⟩) ∧ w' = w := Any.internal_strconv_small Tryz.lays283 i h w
def Tryz.laysM284_ren : Go.Shelf.Ren := ⟨fun | 284 => 156 | 129 => 164 | 317 => 163 | 318 => 165 | n => n, fun | 53 => 78 | 3 => 3 | 212 => 282 | 0 => 0 | 4 => 4 | 46 => 275 | 5 => 5 | 9 => 9 | n => n, fun | 17 => 3 | n => n⟩
theorem Tryz.laysM284 : Go.Proofs.LaysM.n284 Tryz.prog Tryz.laysM284_ren := {
  mixed := by kernel_rfl
  f129 := Tryz.func164.trans (congrArg some (by kernel_rfl))
  f284 := Tryz.func156.trans (congrArg some (by kernel_rfl))
  f317 := Tryz.func163.trans (congrArg some (by kernel_rfl))
  f318 := Tryz.func165.trans (congrArg some (by kernel_rfl))
  t0 := Tryz.underlying0
  a0 := Tryz.isAgg0
  z0 := Tryz.sizeOf0
  v0 := Tryz.zeroValue0
  t3 := Tryz.underlying3
  a3 := Tryz.isAgg3
  z3 := Tryz.sizeOf3
  v3 := Tryz.zeroValue3
  t4 := Tryz.underlying4
  a4 := Tryz.isAgg4
  z4 := Tryz.sizeOf4
  v4 := Tryz.zeroValue4
  t5 := Tryz.underlying5
  a5 := Tryz.isAgg5
  z5 := Tryz.sizeOf5
  v5 := Tryz.zeroValue5
  t9 := Tryz.underlying9
  a9 := Tryz.isAgg9
  z9 := Tryz.sizeOf9
  v9 := Tryz.zeroValue9
  t46 := Tryz.underlying275
  a46 := Tryz.isAgg275
  z46 := Tryz.sizeOf275
  v46 := Tryz.zeroValue275
  t53 := Tryz.underlying78
  a53 := Tryz.isAgg78
  z53 := Tryz.sizeOf78
  v53 := Tryz.zeroValue78
  t212 := Tryz.underlying282
  a212 := Tryz.isAgg282
  z212 := Tryz.sizeOf282
  v212 := Tryz.zeroValue282
  g17 := by kernel_rfl
  i0 := by kernel_rfl
  i3 := by kernel_rfl
  i4 := by kernel_rfl
  i5 := by kernel_rfl
  i9 := by kernel_rfl
  i46 := by kernel_rfl
  i53 := by kernel_rfl
  i212 := by kernel_rfl
  m17 := by kernel_rfl }
open Go.Lib in
theorem Tryz.internal_strconv_numDigits (u : Nat) (h1 : 1 ≤ u) (h2 : u < 18446744073709551616) (w : World) (htab : Lib.TabIs Tryz.prog w "internal/strconv.uint64pow10" .u64 Lib.pow10Tab) :
    Calls Tryz.prog 156 #[.int .u64 u] w fun e w' => e = .returned (.int .i64 (Lib.nDigits u)) ∧ w' = w := Any.internal_strconv_numDigits Tryz.laysM284 u h1 h2 w htab
def Tryz.lays285_ren : Go.Shelf.Ren := ⟨fun | 285 => 157 | n => n, fun | 37 => 124 | 53 => 78 | 3 => 3 | 4 => 4 | 51 => 283 | 9 => 9 | 5 => 5 | 0 => 0 | n => n, fun | n => n⟩
theorem Tryz.lays285 : Go.Proofs.Lays.n285 Tryz.prog Tryz.lays285_ren := {
  mixed := by kernel_rfl
  f285 := Tryz.func157.trans (congrArg some (by kernel_rfl))
  t0 := Tryz.underlying0
  a0 := Tryz.isAgg0
  z0 := Tryz.sizeOf0
  v0 := Tryz.zeroValue0
  t3 := Tryz.underlying3
  a3 := Tryz.isAgg3
  z3 := Tryz.sizeOf3
  v3 := Tryz.zeroValue3
  t4 := Tryz.underlying4
  a4 := Tryz.isAgg4
  z4 := Tryz.sizeOf4
  v4 := Tryz.zeroValue4
  t5 := Tryz.underlying5
  a5 := Tryz.isAgg5
  z5 := Tryz.sizeOf5
  v5 := Tryz.zeroValue5
  t9 := Tryz.underlying9
  a9 := Tryz.isAgg9
  z9 := Tryz.sizeOf9
  v9 := Tryz.zeroValue9
  t37 := Tryz.underlying124
  a37 := Tryz.isAgg124
  z37 := Tryz.sizeOf124
  v37 := Tryz.zeroValue124
  t51 := Tryz.underlying283
  a51 := Tryz.isAgg283
  z51 := Tryz.sizeOf283
  v51 := Tryz.zeroValue283
  t53 := Tryz.underlying78
  a53 := Tryz.isAgg78
  z53 := Tryz.sizeOf78
  v53 := Tryz.zeroValue78 }
open Go.RowKit Go.Sort Go.Lib in
theorem Tryz.internal_strconv_formatBase10 (blk off cap : Nat) (u : Nat) (d : Array UInt8) (w : World) (hH : Holds (fun (b : UInt8) => Value.int .u8 (b.toNat : Int)) w blk off d) (hu : u < 10 ^ d.size) (hu64 : u < 18446744073709551616) (hsz : d.size < 4611686018427387904) :
    Calls Tryz.prog 157 #[.slice (some ⟨blk, off, none⟩) d.size cap, .int .u64 u] w fun e w' =>
      e = .returned (.tuple #[]) ∧ ∃ (n v' : Nat) (dk : Array UInt8), w' = (putRow (fun (b : UInt8) => Value.int .u8 (b.toNat : Int)) w blk off dk).drewN n ∧ FmtInv d.size u 0 v' dk := Any.internal_strconv_formatBase10 Tryz.lays285 blk off cap u d w hH hu hu64 hsz
open Go.RowKit Go.Lib in
open Go.RowKit Go.Lib in
open Go.RowKit Go.Lib in
open Go.RowKit Go.Lib in
open Go.RowKit Go.Lib in
open Go.RowKit Go.Lib in
def Tryz.lays143_ren : Go.Shelf.Ren := ⟨fun | 143 => 151 | 219 => 154 | 217 => 159 | 225 => 160 | 224 => 161 | 267 => 162 | 266 => 168 | 314 => 169 | n => n, fun | 9 => 9 | 3 => 3 | 4 => 4 | 5 => 5 | 46 => 275 | 146 => 286 | 51 => 283 | n => n, fun | 1 => 2 | n => n⟩
theorem Tryz.lays143 : Go.Proofs.Lays.n143 Tryz.prog Tryz.lays143_ren := {
  mixed := by kernel_rfl
  f143 := Tryz.func151.trans (congrArg some (by kernel_rfl))
  f217 := Tryz.func159.trans (congrArg some (by kernel_rfl))
  f219 := Tryz.func154.trans (congrArg some (by kernel_rfl))
  f224 := Tryz.func161.trans (congrArg some (by kernel_rfl))
  f225 := Tryz.func160.trans (congrArg some (by kernel_rfl))
  f266 := Tryz.func168.trans (congrArg some (by kernel_rfl))
  f267 := Tryz.func162.trans (congrArg some (by kernel_rfl))
  f314 := Tryz.func169.trans (congrArg some (by kernel_rfl))
  t3 := Tryz.underlying3
  a3 := Tryz.isAgg3
  z3 := Tryz.sizeOf3
  v3 := Tryz.zeroValue3
  t4 := Tryz.underlying4
  a4 := Tryz.isAgg4
  z4 := Tryz.sizeOf4
  v4 := Tryz.zeroValue4
  t5 := Tryz.underlying5
  a5 := Tryz.isAgg5
  z5 := Tryz.sizeOf5
  v5 := Tryz.zeroValue5
  t9 := Tryz.underlying9
  a9 := Tryz.isAgg9
  z9 := Tryz.sizeOf9
  v9 := Tryz.zeroValue9
  t46 := Tryz.underlying275
  a46 := Tryz.isAgg275
  z46 := Tryz.sizeOf275
  v46 := Tryz.zeroValue275
  t51 := Tryz.underlying283
  a51 := Tryz.isAgg283
  z51 := Tryz.sizeOf283
  v51 := Tryz.zeroValue283
  t146 := Tryz.underlying286
  a146 := Tryz.isAgg286
  z146 := Tryz.sizeOf286
  v146 := Tryz.zeroValue286
  g1 := by kernel_rfl }
open Go.RowKit Go.Lib in
theorem Tryz.strings_Index_one (s : ByteArray) (c : UInt8) (w : World) :
    Calls Tryz.prog 151 #[.string s, .string ⟨#[c]⟩] w fun e w' => e = .returned (.int .i64 (Lib.indexByte s.data.toList c)) ∧ w' = w := Any.strings_Index_one Tryz.lays143 s c w
open Go.RowKit Go.Lib in
open Go.RowKit Go.Lib in
open Go.RowKit Go.Lib in
open Go.RowKit Go.Lib in
def Tryz.laysNm215_ren : Go.Shelf.Ren := ⟨fun | 15 => 82 | n => n, fun | 22 => 23 | 3 => 3 | 4 => 4 | n => n, fun | n => n⟩
theorem Tryz.laysNm215 : Go.Proofs.Lays2.n15 Tryz.prog Tryz.laysNm215_ren := {
  mixed := by kernel_rfl
  f15 := Tryz.func82.trans (congrArg some (by kernel_rfl))
  t3 := Tryz.underlying3
  a3 := Tryz.isAgg3
  z3 := Tryz.sizeOf3
  v3 := Tryz.zeroValue3
  t4 := Tryz.underlying4
  a4 := Tryz.isAgg4
  z4 := Tryz.sizeOf4
  v4 := Tryz.zeroValue4
  t22 := Tryz.underlying23
  a22 := Tryz.isAgg23
  z22 := Tryz.sizeOf23
  v22 := Tryz.zeroValue23
  i3 := by kernel_rfl }
open Go.RowKit Go.Lib in
theorem Tryz.slices_Clone_int (b off n c : Nat) (zs : List Int) (w : World) (hz : n ≤ zs.length) (hbig : n * 8 ≤ 140737488355328) (hc : ∀ j, j < zs.length → w.cell? ⟨b, off + j, none⟩ = some (.int .i64 (zs.getD j 0))) :
    Calls Tryz.prog 82 #[.slice (some ⟨b, off, none⟩) n c] w fun e w' => ∃ v', e = .returned v' ∧ w'.ownsRow w.heap.size 3 1 v' n ((zs.take n).map (Value.int .i64)) ∧ v' ≠ .slice none 0 0 ∧ Below w.heap.size w w' := Any.slices_Clone_int Tryz.laysNm215 b off n c zs w hz hbig hc
open Go.RowKit Go.Lib in
theorem Tryz.slices_Clone_int_nil (n c : Nat) (w : World) :
    Calls Tryz.prog 82 #[.slice none n c] w fun e w' => e = .returned (.slice none 0 0) ∧ w' = w := Any.slices_Clone_int_nil Tryz.laysNm215 n c w
open Go.RowKit Go.Lib in
theorem Tryz.slices_Clone_int_zero (a : Addr) (c : Nat) (w : World) :
    Calls Tryz.prog 82 #[.slice (some a) 0 c] w fun e w' => ∃ v', e = .returned v' ∧ w'.ownsRow w.heap.size 3 1 v' 0 [] ∧ v' ≠ .slice none 0 0 ∧ Below w.heap.size w w' := Any.slices_Clone_int_zero Tryz.laysNm215 a c w
end Go.Proofs
