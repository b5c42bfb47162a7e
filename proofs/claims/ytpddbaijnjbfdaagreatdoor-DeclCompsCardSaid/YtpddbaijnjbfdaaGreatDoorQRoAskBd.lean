import Derived.Test.YtpddbaijnjbfdaaGreatDoorQKdSubBd
import Derived.Deep.RegionLaw
import Derived.Deep.RegionHeldLaw
namespace Go.Proofs.YtpddbaijnjbfdaaGreatDoor
open Lib (hid)
section
open Go.RowKit
theorem Tryz.infoHeap : (Tryz.prog.info? 75).map (fun i => (i.zero, i.size, i.bytes)) = some (some (.agg #[.int .i64 0, .int .i64 0]), 2, 16) := by kernel_rfl
theorem Tryz.infoVal : (Tryz.prog.info? 77).map (fun i => (i.zero, i.size, i.bytes)) = some (some (.agg #[.int .i64 0, .bool false, .int .i64 0, .int .i64 0]), 4, 32) := by kernel_rfl
theorem Tryz.infoField : (Tryz.prog.info? 115).map (fun i => (i.zero, i.size, i.bytes)) = some (some (.agg #[.int .i64 0, .int .i64 0, .bool false, .int .i64 0, .int .i64 0, .bool false]), 6, 48) := by kernel_rfl
variable {σ : Type}
theorem row_cells {W : World} {b : Nat} {cs : List Value} {e : TypeId} (h : W.heap[b]? = some (.cells cs.toArray e (0, 0))) : ∀ j u, cs[j]? = some u → W.cell? ((⟨b, 0, none⟩ : Addr).add j) = some u := fun j u hj => by
  rw [Addr.add_lit, Nat.zero_add, heap_cell h]; simpa using hj
theorem owns_zero (W : World) (B : Nat) (e : TypeId) (size : Nat) : W.ownsRow B e size (.slice none 0 0) 0 [] := ⟨by simp, .inl ⟨rfl, rfl⟩⟩
theorem one_H (y : Hp) : ∀ u ∈ cellsH y, u.oneCell' = true := by intro u hu; simp [cellsH] at hu; rcases hu with rfl | rfl <;> rfl
set_option maxRecDepth 100000 in
set_option maxHeartbeats 8000000 in
theorem eachH_any {D : Hp → Prop} {f : FuncId} {cap : Array Value} {φ : σ → Hp → Hp × σ} {J : σ → Nat → (Nat → Prop) → World → Prop} {B : Nat} (F : FnOk Tryz.prog cellsH D f cap φ J B)
    (v : Value) (l : List Hp) (s : σ) (m : Nat) (T : Nat → Prop) (w : World) (hv : ∀ w', Upd T w w' → HpsAt w' v l) (hl : l.length ≤ 1000000) (hd : ∀ x ∈ l, D x) (hj : J s (l.length + m) T w) :
    Calls Tryz.prog 75 #[v, .func (.func f) #[] cap] w fun e w' => ∃ u, e = .returned u ∧ w'.ownsRow w.heap.size 75 2 u l.length (flatH (mapS φ s l).1) ∧ ∃ T', (∀ b, u.ownBlock = some b → ¬ T' b) ∧ J (mapS φ s l).2 m T' w' ∧ Upd T w w' ∧ Fresh T w T' := by
  obtain ⟨ao, ca, rfl⟩ := RowAt.form (v := v) (hv w (Upd.refl _ _))
  obtain ⟨i0, hi, hz0, hz1, hz2⟩ := info_parts Tryz.infoHeap
  have Hi := hid hi; have Hz0 := hid hz0; have Hz1 := hid hz1; have Hz2 := hid hz2
  have HV := hid hv; have HL := hid hl; have HD := hid hd; have HJ := hid hj
  clear hi hz0 hz1 hz2 hv hl hd hj
  go_enter Tryz.func75, Tryz.ntmps75
  go_wp2
  go_loopw [5, 10] (fun t5 t10 wr => ∃ (i : Nat) (T1 : Nat → Prop), t10 = .int .i64 i ∧ i ≤ l.length ∧ wr.ownsRow w.heap.size 75 2 t5 i (flatH (mapS φ s (l.take i)).1) ∧ (∀ b, t5.ownBlock = some b → ¬ T1 b) ∧ J (mapS φ s (l.take i)).2 (l.length - i + m) T1 wr ∧ Upd T w wr ∧ Fresh T w T1) (fun _ t10 _ => l.length - (intOf t10).toNat)
  case atStart => exact ⟨0, T, rfl, Nat.zero_le _, owns_zero _ _ _ _, fun b h => by simp [Value.ownBlock] at h, by simpa [mapS] using HJ.out, Upd.refl _ _, Fresh.refl _ _⟩
  case round =>
    obtain ⟨i, T1, rfl, hi, ho, hoT, hj, hu, hf⟩ := hrel
    have HO := hid ho; have HOT := hid hoT; have HJ1 := hid hj; have HU := hid hu; have HF := hid hf
    clear ho hoT hj hu hf
    by_cases hlt : i < l.length
    · obtain ⟨x, hx⟩ : ∃ x, l[i]? = some x := ⟨l[i], by simp [hlt]⟩
      have hV := HV.out _ HU.out
      obtain ⟨b1, o1, e1, hb1, p0, p1⟩ := hps_at hV hx
      subst e1
      have HX := hid hx; have HLT := hid hlt
      have hlt' : (i : Int) < l.length := by omega
      have HI6 := hid (show (i : Int) < 1000000 by have := HL.out; omega)
      clear hx hlt hi hV
      have hen := F.enter
      have hstep := mapS_take (φ := φ) s l i x HX.out
      obtain ⟨s1, hs1⟩ : ∃ s1, (mapS φ s (l.take i)).2 = s1 := ⟨_, rfl⟩
      obtain ⟨y, hy⟩ : ∃ y, (φ s1 x).1 = y := ⟨_, rfl⟩
      rw [hs1, hy] at hstep
      have HS := hid hstep
      have ho := HO.out
      obtain ⟨ys, hys⟩ : ∃ ys, (mapS φ s (l.take i)).1 = ys := ⟨_, rfl⟩
      rw [hys] at hstep ho
      have hj0 := HJ1.out
      rw [hs1, show l.length - i + m = (l.length - (i + 1) + m) + 1 by have := HLT.out; omega] at hj0
      have hdx : D x := HD.out x (List.mem_of_getElem? HX.out)
      have hc := F.call x hdx (F.keep hj0 ((Upd.refl _ wr).alloc (.cells #[.int .i64 x.k, .int .i64 x.n] 75)))
      rw [hy] at hc
      have HC := hid hc; have HST := hid hstep; have HO1 := hid ho
      have HS1 := hid hs1; have HY := hid hy; have HYS := hid hys
      clear hc hstep ho hj0 hdx HS hs1 hy hys
      go_wp2_with fail
      refine HC.out.mono ?_
      rintro e w1 ⟨T2, he, hJ2, hU2, hF2⟩
      obtain rfl : e = .returned (.agg #[.int .i64 y.k, .int .i64 y.n]) := he
      have hlt0 := F.lt HJ1.out
      have hof : ∀ b, u5.ownBlock = some b → ¬ T2 b := fun b hb => hF2.off (HOT.out b hb) (by have := HO1.out.lt b hb; simp; omega)
      have ho1 : w1.ownsRow w.heap.size 75 2 u5 i (flatH ys) := ownsRow_upd (HO1.out.alloc _) hU2 (fun b hb => HOT.out b hb)
      have hsz : w.heap.size ≤ w1.heap.size := by have h1 := hU2.size; have h2 := HU.out.size; simp at h1; omega
      have HOF := hid hof; have HO2 := hid ho1; have HSZ := hid hsz; have HJ2 := hid hJ2; have HU2 := hid hU2; have HF2 := hid hF2
      clear hof ho1 hsz hJ2 hU2 hF2 hlt0 hen
      have HC2 := hid (row_cells (cs := cellsH y) (heap_alloc_at w1 (.cells (cellsH y).toArray 75) rfl))
      have HI6' := HI6.out
      go_wp2_with (at_builtin; refine wpList_append_own2 _ rfl _ _ 44 rfl w.heap.size 75 i0 _ 2 16 Tryz.underlying44 Hi.out Hz0.out Hz1.out Hz2.out rfl (by decide) _ _ _ rfl (HO2.out.alloc _) ⟨w1.heap.size, 0, none⟩ 1 1 (cellsH y) rfl rfl HC2.out (one_H y) (by simp [maxLen]; omega) (by omega) (by have := HSZ.out; simp; omega) (by decide) ?_)
      intro v2 w2 o2 gr2 mv2
      go_wp2
      go_roundw
      case rel =>
        have u1 : Upd T w (wr.alloc (.cells #[.int .i64 x.k, .int .i64 x.n] 75)) := HU.out.alloc _
        have u2 : Upd T w w1 := u1.trans (HF.out) HU2.out
        have hob : ∀ k, u5.ownBlock = some k → w.heap.size ≤ k ∧ k < w1.heap.size := fun k hk => HO2.out.lt k hk
        have hB : B ≤ w.heap.size := (F.lt HJ.out).2
        have ho2 : w2.ownsRow w.heap.size 75 2 v2 (i + 1) (flatH (mapS φ s (l.take (i + 1))).1) := by rw [HST.out]; simpa [flatH] using o2
        refine ⟨i + 1, T2, by go_num, HLT.out, ho2, ?_, ?_, (u2.alloc _).grown gr2 (fun k hk => .inr (hob k hk).1), HF.out.trans HF2.out u1.size⟩
        · intro b hb hT
          rcases mv2 with e | e
          · rw [e] at hb; exact HOF.out b hb hT
          · have h1 := e b hb; have h2 := (F.lt HJ2.out).1 b hT; simp at h1; omega
        · rw [HST.out]
          exact F.keep HJ2.out (((Upd.refl _ _).alloc _).grown gr2 (fun k hk => .inl ⟨Nat.le_trans hB (hob k hk).1, HOF.out k hk⟩))
      case measure => have := HLT.out; simp [intOf]; omega
    · obtain rfl : i = l.length := by omega
      have hlt' : ¬ (l.length : Int) < l.length := by omega
      go_wp2
      go_ret
      have hj := HJ1.out; have ho := HO.out
      rw [List.take_length] at hj ho
      exact ⟨_, rfl, ho, T1, HOT.out, by simpa using hj, HU.out, HF.out⟩
-- PRINTED by mkeach.py
theorem one_V (y : Vl) : ∀ u ∈ cellsV y, u.oneCell' = true := by intro u hu; simp [cellsV] at hu; rcases hu with rfl | rfl | rfl | rfl <;> rfl
set_option maxRecDepth 100000 in
set_option maxHeartbeats 8000000 in
theorem eachV_any {D : Vl → Prop} {f : FuncId} {cap : Array Value} {φ : σ → Vl → Vl × σ} {J : σ → Nat → (Nat → Prop) → World → Prop} {B : Nat} (F : FnOk Tryz.prog cellsV D f cap φ J B)
    (v : Value) (l : List Vl) (s : σ) (m : Nat) (T : Nat → Prop) (w : World) (hv : ∀ w', Upd T w w' → ValsAt w' v l) (hl : l.length ≤ 1000000) (hd : ∀ x ∈ l, D x) (hj : J s (l.length + m) T w) :
    Calls Tryz.prog 76 #[v, .func (.func f) #[] cap] w fun e w' => ∃ u, e = .returned u ∧ w'.ownsRow w.heap.size 77 4 u l.length (flatV (mapS φ s l).1) ∧ ∃ T', (∀ b, u.ownBlock = some b → ¬ T' b) ∧ J (mapS φ s l).2 m T' w' ∧ Upd T w w' ∧ Fresh T w T' := by
  obtain ⟨ao, ca, rfl⟩ := RowAt.form (v := v) (hv w (Upd.refl _ _))
  obtain ⟨i0, hi, hz0, hz1, hz2⟩ := info_parts Tryz.infoVal
  have Hi := hid hi; have Hz0 := hid hz0; have Hz1 := hid hz1; have Hz2 := hid hz2
  have HV := hid hv; have HL := hid hl; have HD := hid hd; have HJ := hid hj
  clear hi hz0 hz1 hz2 hv hl hd hj
  go_enter Tryz.func76, Tryz.ntmps76
  go_wp2
  go_loopw [5, 10] (fun t5 t10 wr => ∃ (i : Nat) (T1 : Nat → Prop), t10 = .int .i64 i ∧ i ≤ l.length ∧ wr.ownsRow w.heap.size 77 4 t5 i (flatV (mapS φ s (l.take i)).1) ∧ (∀ b, t5.ownBlock = some b → ¬ T1 b) ∧ J (mapS φ s (l.take i)).2 (l.length - i + m) T1 wr ∧ Upd T w wr ∧ Fresh T w T1) (fun _ t10 _ => l.length - (intOf t10).toNat)
  case atStart => exact ⟨0, T, rfl, Nat.zero_le _, owns_zero _ _ _ _, fun b h => by simp [Value.ownBlock] at h, by simpa [mapS] using HJ.out, Upd.refl _ _, Fresh.refl _ _⟩
  case round =>
    obtain ⟨i, T1, rfl, hi, ho, hoT, hj, hu, hf⟩ := hrel
    have HO := hid ho; have HOT := hid hoT; have HJ1 := hid hj; have HU := hid hu; have HF := hid hf
    clear ho hoT hj hu hf
    by_cases hlt : i < l.length
    · obtain ⟨x, hx⟩ : ∃ x, l[i]? = some x := ⟨l[i], by simp [hlt]⟩
      have hV := HV.out _ HU.out
      obtain ⟨b1, o1, e1, hb1, p0, p1, p2, p3⟩ := vals_at hV hx
      subst e1
      have HX := hid hx; have HLT := hid hlt
      have hlt' : (i : Int) < l.length := by omega
      have HI6 := hid (show (i : Int) < 1000000 by have := HL.out; omega)
      clear hx hlt hi hV
      have hen := F.enter
      have hstep := mapS_take (φ := φ) s l i x HX.out
      obtain ⟨s1, hs1⟩ : ∃ s1, (mapS φ s (l.take i)).2 = s1 := ⟨_, rfl⟩
      obtain ⟨y, hy⟩ : ∃ y, (φ s1 x).1 = y := ⟨_, rfl⟩
      rw [hs1, hy] at hstep
      have HS := hid hstep
      have ho := HO.out
      obtain ⟨ys, hys⟩ : ∃ ys, (mapS φ s (l.take i)).1 = ys := ⟨_, rfl⟩
      rw [hys] at hstep ho
      have hj0 := HJ1.out
      rw [hs1, show l.length - i + m = (l.length - (i + 1) + m) + 1 by have := HLT.out; omega] at hj0
      have hdx : D x := HD.out x (List.mem_of_getElem? HX.out)
      have hc := F.call x hdx (F.keep hj0 ((Upd.refl _ wr).alloc (.cells #[.int .i64 x.k, .bool x.nl, .int .i64 x.h, .int .i64 x.n] 77)))
      rw [hy] at hc
      have HC := hid hc; have HST := hid hstep; have HO1 := hid ho
      have HS1 := hid hs1; have HY := hid hy; have HYS := hid hys
      clear hc hstep ho hj0 hdx HS hs1 hy hys
      go_wp2_with fail
      refine HC.out.mono ?_
      rintro e w1 ⟨T2, he, hJ2, hU2, hF2⟩
      obtain rfl : e = .returned (.agg #[.int .i64 y.k, .bool y.nl, .int .i64 y.h, .int .i64 y.n]) := he
      have hlt0 := F.lt HJ1.out
      have hof : ∀ b, u5.ownBlock = some b → ¬ T2 b := fun b hb => hF2.off (HOT.out b hb) (by have := HO1.out.lt b hb; simp; omega)
      have ho1 : w1.ownsRow w.heap.size 77 4 u5 i (flatV ys) := ownsRow_upd (HO1.out.alloc _) hU2 (fun b hb => HOT.out b hb)
      have hsz : w.heap.size ≤ w1.heap.size := by have h1 := hU2.size; have h2 := HU.out.size; simp at h1; omega
      have HOF := hid hof; have HO2 := hid ho1; have HSZ := hid hsz; have HJ2 := hid hJ2; have HU2 := hid hU2; have HF2 := hid hF2
      clear hof ho1 hsz hJ2 hU2 hF2 hlt0 hen
      have HC2 := hid (row_cells (cs := cellsV y) (heap_alloc_at w1 (.cells (cellsV y).toArray 77) rfl))
      have HI6' := HI6.out
      go_wp2_with (at_builtin; refine wpList_append_own2 _ rfl _ _ 36 rfl w.heap.size 77 i0 _ 4 32 Tryz.underlying36 Hi.out Hz0.out Hz1.out Hz2.out rfl (by decide) _ _ _ rfl (HO2.out.alloc _) ⟨w1.heap.size, 0, none⟩ 1 1 (cellsV y) rfl rfl HC2.out (one_V y) (by simp [maxLen]; omega) (by omega) (by have := HSZ.out; simp; omega) (by decide) ?_)
      intro v2 w2 o2 gr2 mv2
      go_wp2
      go_roundw
      case rel =>
        have u1 : Upd T w (wr.alloc (.cells #[.int .i64 x.k, .bool x.nl, .int .i64 x.h, .int .i64 x.n] 77)) := HU.out.alloc _
        have u2 : Upd T w w1 := u1.trans (HF.out) HU2.out
        have hob : ∀ k, u5.ownBlock = some k → w.heap.size ≤ k ∧ k < w1.heap.size := fun k hk => HO2.out.lt k hk
        have hB : B ≤ w.heap.size := (F.lt HJ.out).2
        have ho2 : w2.ownsRow w.heap.size 77 4 v2 (i + 1) (flatV (mapS φ s (l.take (i + 1))).1) := by rw [HST.out]; simpa [flatV] using o2
        refine ⟨i + 1, T2, by go_num, HLT.out, ho2, ?_, ?_, (u2.alloc _).grown gr2 (fun k hk => .inr (hob k hk).1), HF.out.trans HF2.out u1.size⟩
        · intro b hb hT
          rcases mv2 with e | e
          · rw [e] at hb; exact HOF.out b hb hT
          · have h1 := e b hb; have h2 := (F.lt HJ2.out).1 b hT; simp at h1; omega
        · rw [HST.out]
          exact F.keep HJ2.out (((Upd.refl _ _).alloc _).grown gr2 (fun k hk => .inl ⟨Nat.le_trans hB (hob k hk).1, HOF.out k hk⟩))
      case measure => have := HLT.out; simp [intOf]; omega
    · obtain rfl : i = l.length := by omega
      have hlt' : ¬ (l.length : Int) < l.length := by omega
      go_wp2
      go_ret
      have hj := HJ1.out; have ho := HO.out
      rw [List.take_length] at hj ho
      exact ⟨_, rfl, ho, T1, HOT.out, by simpa using hj, HU.out, HF.out⟩
theorem one_F (y : Fl) : ∀ u ∈ cellsF y, u.oneCell' = true := by intro u hu; simp [cellsF] at hu; rcases hu with rfl | rfl | rfl | rfl | rfl | rfl <;> rfl
set_option maxRecDepth 100000 in
set_option maxHeartbeats 8000000 in
theorem eachF_any {D : Fl → Prop} {f : FuncId} {cap : Array Value} {φ : σ → Fl → Fl × σ} {J : σ → Nat → (Nat → Prop) → World → Prop} {B : Nat} (F : FnOk Tryz.prog cellsF D f cap φ J B)
    (v : Value) (l : List Fl) (s : σ) (m : Nat) (T : Nat → Prop) (w : World) (hv : ∀ w', Upd T w w' → FlsAt w' v l) (hl : l.length ≤ 1000000) (hd : ∀ x ∈ l, D x) (hj : J s (l.length + m) T w) :
    Calls Tryz.prog 77 #[v, .func (.func f) #[] cap] w fun e w' => ∃ u, e = .returned u ∧ w'.ownsRow w.heap.size 115 6 u l.length (flatF (mapS φ s l).1) ∧ ∃ T', (∀ b, u.ownBlock = some b → ¬ T' b) ∧ J (mapS φ s l).2 m T' w' ∧ Upd T w w' ∧ Fresh T w T' := by
  obtain ⟨ao, ca, rfl⟩ := RowAt.form (v := v) (hv w (Upd.refl _ _))
  obtain ⟨i0, hi, hz0, hz1, hz2⟩ := info_parts Tryz.infoField
  have Hi := hid hi; have Hz0 := hid hz0; have Hz1 := hid hz1; have Hz2 := hid hz2
  have HV := hid hv; have HL := hid hl; have HD := hid hd; have HJ := hid hj
  clear hi hz0 hz1 hz2 hv hl hd hj
  go_enter Tryz.func77, Tryz.ntmps77
  go_wp2
  go_loopw [5, 10] (fun t5 t10 wr => ∃ (i : Nat) (T1 : Nat → Prop), t10 = .int .i64 i ∧ i ≤ l.length ∧ wr.ownsRow w.heap.size 115 6 t5 i (flatF (mapS φ s (l.take i)).1) ∧ (∀ b, t5.ownBlock = some b → ¬ T1 b) ∧ J (mapS φ s (l.take i)).2 (l.length - i + m) T1 wr ∧ Upd T w wr ∧ Fresh T w T1) (fun _ t10 _ => l.length - (intOf t10).toNat)
  case atStart => exact ⟨0, T, rfl, Nat.zero_le _, owns_zero _ _ _ _, fun b h => by simp [Value.ownBlock] at h, by simpa [mapS] using HJ.out, Upd.refl _ _, Fresh.refl _ _⟩
  case round =>
    obtain ⟨i, T1, rfl, hi, ho, hoT, hj, hu, hf⟩ := hrel
    have HO := hid ho; have HOT := hid hoT; have HJ1 := hid hj; have HU := hid hu; have HF := hid hf
    clear ho hoT hj hu hf
    by_cases hlt : i < l.length
    · obtain ⟨x, hx⟩ : ∃ x, l[i]? = some x := ⟨l[i], by simp [hlt]⟩
      have hV := HV.out _ HU.out
      obtain ⟨b1, o1, e1, hb1, p0, p1, p2, p3, p4, p5⟩ := fls_at hV hx
      subst e1
      have HX := hid hx; have HLT := hid hlt
      have hlt' : (i : Int) < l.length := by omega
      have HI6 := hid (show (i : Int) < 1000000 by have := HL.out; omega)
      clear hx hlt hi hV
      have hen := F.enter
      have hstep := mapS_take (φ := φ) s l i x HX.out
      obtain ⟨s1, hs1⟩ : ∃ s1, (mapS φ s (l.take i)).2 = s1 := ⟨_, rfl⟩
      obtain ⟨y, hy⟩ : ∃ y, (φ s1 x).1 = y := ⟨_, rfl⟩
      rw [hs1, hy] at hstep
      have HS := hid hstep
      have ho := HO.out
      obtain ⟨ys, hys⟩ : ∃ ys, (mapS φ s (l.take i)).1 = ys := ⟨_, rfl⟩
      rw [hys] at hstep ho
      have hj0 := HJ1.out
      rw [hs1, show l.length - i + m = (l.length - (i + 1) + m) + 1 by have := HLT.out; omega] at hj0
      have hdx : D x := HD.out x (List.mem_of_getElem? HX.out)
      have hc := F.call x hdx (F.keep hj0 ((Upd.refl _ wr).alloc (.cells #[.int .i64 x.p, .int .i64 x.v.k, .bool x.v.nl, .int .i64 x.v.h, .int .i64 x.v.n, .bool x.m] 115)))
      rw [hy] at hc
      have HC := hid hc; have HST := hid hstep; have HO1 := hid ho
      have HS1 := hid hs1; have HY := hid hy; have HYS := hid hys
      clear hc hstep ho hj0 hdx HS hs1 hy hys
      go_wp2_with fail
      refine HC.out.mono ?_
      rintro e w1 ⟨T2, he, hJ2, hU2, hF2⟩
      obtain rfl : e = .returned (.agg #[.int .i64 y.p, .int .i64 y.v.k, .bool y.v.nl, .int .i64 y.v.h, .int .i64 y.v.n, .bool y.m]) := he
      have hlt0 := F.lt HJ1.out
      have hof : ∀ b, u5.ownBlock = some b → ¬ T2 b := fun b hb => hF2.off (HOT.out b hb) (by have := HO1.out.lt b hb; simp; omega)
      have ho1 : w1.ownsRow w.heap.size 115 6 u5 i (flatF ys) := ownsRow_upd (HO1.out.alloc _) hU2 (fun b hb => HOT.out b hb)
      have hsz : w.heap.size ≤ w1.heap.size := by have h1 := hU2.size; have h2 := HU.out.size; simp at h1; omega
      have HOF := hid hof; have HO2 := hid ho1; have HSZ := hid hsz; have HJ2 := hid hJ2; have HU2 := hid hU2; have HF2 := hid hF2
      clear hof ho1 hsz hJ2 hU2 hF2 hlt0 hen
      have HC2 := hid (row_cells (cs := cellsF y) (heap_alloc_at w1 (.cells (cellsF y).toArray 115) rfl))
      have HI6' := HI6.out
      go_wp2_with (at_builtin; refine wpList_append_own2 _ rfl _ _ 37 rfl w.heap.size 115 i0 _ 6 48 Tryz.underlying37 Hi.out Hz0.out Hz1.out Hz2.out rfl (by decide) _ _ _ rfl (HO2.out.alloc _) ⟨w1.heap.size, 0, none⟩ 1 1 (cellsF y) rfl rfl HC2.out (one_F y) (by simp [maxLen]; omega) (by omega) (by have := HSZ.out; simp; omega) (by decide) ?_)
      intro v2 w2 o2 gr2 mv2
      go_wp2
      go_roundw
      case rel =>
        have u1 : Upd T w (wr.alloc (.cells #[.int .i64 x.p, .int .i64 x.v.k, .bool x.v.nl, .int .i64 x.v.h, .int .i64 x.v.n, .bool x.m] 115)) := HU.out.alloc _
        have u2 : Upd T w w1 := u1.trans (HF.out) HU2.out
        have hob : ∀ k, u5.ownBlock = some k → w.heap.size ≤ k ∧ k < w1.heap.size := fun k hk => HO2.out.lt k hk
        have hB : B ≤ w.heap.size := (F.lt HJ.out).2
        have ho2 : w2.ownsRow w.heap.size 115 6 v2 (i + 1) (flatF (mapS φ s (l.take (i + 1))).1) := by rw [HST.out]; simpa [flatF] using o2
        refine ⟨i + 1, T2, by go_num, HLT.out, ho2, ?_, ?_, (u2.alloc _).grown gr2 (fun k hk => .inr (hob k hk).1), HF.out.trans HF2.out u1.size⟩
        · intro b hb hT
          rcases mv2 with e | e
          · rw [e] at hb; exact HOF.out b hb hT
          · have h1 := e b hb; have h2 := (F.lt HJ2.out).1 b hT; simp at h1; omega
        · rw [HST.out]
          exact F.keep HJ2.out (((Upd.refl _ _).alloc _).grown gr2 (fun k hk => .inl ⟨Nat.le_trans hB (hob k hk).1, HOF.out k hk⟩))
      case measure => have := HLT.out; simp [intOf]; omega
    · obtain rfl : i = l.length := by omega
      have hlt' : ¬ (l.length : Int) < l.length := by omega
      go_wp2
      go_ret
      have hj := HJ1.out; have ho := HO.out
      rw [List.take_length] at hj ho
      exact ⟨_, rfl, ho, T1, HOT.out, by simpa using hj, HU.out, HF.out⟩
end
section
open Go.RowKit
def phiV {σ : Type} (φ : σ → Hp → Hp × σ) (s : σ) (v : Vl) : Vl × σ := if v.k = 3 then (⟨v.k, v.nl, (φ s ⟨v.h, v.n⟩).1.k, (φ s ⟨v.h, v.n⟩).1.n⟩, (φ s ⟨v.h, v.n⟩).2) else (v, s)
def phiF {σ : Type} (φ : σ → Hp → Hp × σ) (s : σ) (f : Fl) : Fl × σ := (⟨f.p, (phiV φ s f.v).1, f.m⟩, (phiV φ s f.v).2)
def DV (D : Hp → Prop) (v : Vl) : Prop := v.k = 3 → D ⟨v.h, v.n⟩
variable {σ : Type}
set_option maxRecDepth 100000 in
set_option maxHeartbeats 8000000 in
theorem mapVal_any {D : Hp → Prop} {f : FuncId} {cap : Array Value} {φ : σ → Hp → Hp × σ} {J : σ → Nat → (Nat → Prop) → World → Prop} {B : Nat} (F : FnOk Tryz.prog cellsH D f cap φ J B)
    (v : Vl) (s : σ) (m : Nat) (T : Nat → Prop) (w : World) (hd : DV D v) (hj : J s (m + 1) T w) :
    Calls Tryz.prog 73 #[.agg (cellsV v).toArray, .func (.func f) #[] cap] w fun e w' => ∃ T', e = .returned (.agg (cellsV (phiV φ s v).1).toArray) ∧ J (phiV φ s v).2 m T' w' ∧ Upd T w w' ∧ Fresh T w T' := by
  obtain ⟨k, nl, h, n⟩ := v
  rw [show cellsV ⟨k, nl, h, n⟩ = [.int .i64 k, .bool nl, .int .i64 h, .int .i64 n] from rfl]
  have HJ := hid hj; have HD := hid hd
  clear hj hd
  have hnf : ∀ w : World, (binOp BinOp.neq 161 (.func (.func f) #[] cap) .nilFunc).run Tryz.prog w = .ok (.bool true) w := fun _ => by rfl
  by_cases hk : k = 3
  · subst hk
    have hen := F.enter
    obtain ⟨y, hy⟩ : ∃ y, φ s ⟨h, n⟩ = y := ⟨_, rfl⟩
    obtain ⟨W0, hW⟩ : ∃ W0 : World, W0 = ((w.alloc (.cells #[.int .i64 3, .bool nl, .int .i64 h, .int .i64 n] 77)).alloc (.cells #[.int .i64 0, .bool false, .int .i64 0, .int .i64 0] 77)) := ⟨_, rfl⟩
    have hc := F.call ⟨h, n⟩ (HD.out rfl) (F.keep HJ.out (((Upd.refl _ w).alloc (.cells #[.int .i64 3, .bool nl, .int .i64 h, .int .i64 n] 77)).alloc (.cells #[.int .i64 0, .bool false, .int .i64 0, .int .i64 0] 77)))
    rw [← hW, hy] at hc
    have hsz : W0.heap.size = w.heap.size + 2 := by rw [hW]; simp
    have z0 : W0.heap[w.heap.size]? = some (.cells #[.int .i64 3, .bool nl, .int .i64 h, .int .i64 n] 77 (0, 0)) := by rw [hW]; exact heap_alloc_keep (heap_alloc_at _ _ rfl) _
    have z1 : W0.heap[w.heap.size + 1]? = some (.cells #[.int .i64 0, .bool false, .int .i64 0, .int .i64 0] 77 (0, 0)) := by rw [hW]; exact heap_alloc_at _ _ (by simp)
    have hu0 : Upd T w W0 := by rw [hW]; exact ((Upd.refl _ w).alloc _).alloc _
    have HC := hid hc; have HW := hid hW; have HY := hid hy; have HSZ := hid hsz; have Z0 := hid z0; have Z1 := hid z1; have HU0 := hid hu0
    clear hc hW hy hsz z0 z1 hu0
    go_enter Tryz.func73, Tryz.ntmps73
    go_wp2_with fail
    rw [← HW.out]
    refine HC.out.mono ?_
    rintro e w1 ⟨T2, he, hJ2, hU2, hF2⟩
    obtain rfl : e = .returned (.agg #[.int .i64 y.1.k, .int .i64 y.1.n]) := he
    have n0 : ∀ k, w.heap.size ≤ k → k < W0.heap.size → ¬ T k := fun k h1 _ hT => by have := (F.lt HJ.out).1 k hT; omega
    have a0 := hU2.heap_some Z0.out (n0 _ (Nat.le_refl _) (by rw [HSZ.out]; omega))
    have a1 := hU2.heap_some Z1.out (n0 _ (by omega) (by rw [HSZ.out]; omega))
    have c00 := heap_cell a0 0; have c01 := heap_cell a0 1; have c02 := heap_cell a0 2; have c03 := heap_cell a0 3
    have c10 := heap_cell a1 0; have c11 := heap_cell a1 1; have c12 := heap_cell a1 2; have c13 := heap_cell a1 3
    have f0 := fun i => heap_frozen a0 i
    have f1 := fun i => heap_frozen a1 i
    have HJ2 := hid hJ2; have HU2 := hid hU2; have HF2 := hid hF2; have N0 := hid n0; have A0 := hid a0; have A1 := hid a1
    clear hJ2 hU2 hF2 n0 a0 a1 hen
    simp at c00 c01 c02 c03 c10 c11 c12 c13
    go_wp2
    refine bodyPost_ret (v := .agg #[.int .i64 3, .bool nl, .int .i64 y.1.k, .int .i64 y.1.n]) (by simp [results, Tryz.results73, go_sem, c10, c11, c12, c13]) rfl ?_
    have hB : B ≤ w.heap.size := (F.lt HJ.out).2
    have h0 : ¬ T2 w.heap.size := HF2.out.off (N0.out _ (Nat.le_refl _) (by rw [HSZ.out]; omega)) (by rw [HSZ.out]; omega)
    have h1 : ¬ T2 (w.heap.size + 1) := HF2.out.off (N0.out _ (by omega) (by rw [HSZ.out]; omega)) (by rw [HSZ.out]; omega)
    refine ⟨T2, by simp [phiV, HY.out, cellsV], ?_, ?_, (Fresh.refl T w).trans HF2.out HU0.out.size⟩
    · simp only [phiV, if_true, HY.out]
      exact F.keep HJ2.out ((((((Upd.refl _ w1).setCell (.inl ⟨hB, h0⟩) _).setCell (.inl ⟨hB, h0⟩) _).setCell (.inl ⟨by simp; omega, h1⟩) _).setCell (.inl ⟨by simp; omega, h1⟩) _).setCell (.inl ⟨by simp; omega, h1⟩) _ |>.setCell (.inl ⟨by simp; omega, h1⟩) _)
    · exact ((((((HU0.out.trans (Fresh.refl _ _) HU2.out).setCell (.inr (Nat.le_refl _)) _).setCell (.inr (Nat.le_refl _)) _).setCell (.inr (by simp)) _).setCell (.inr (by simp)) _).setCell (.inr (by simp)) _).setCell (.inr (by simp)) _
  · have hk' : (k == 3) = false := by simpa using hk
    go_enter Tryz.func73, Tryz.ntmps73
    go_wp2
    refine bodyPost_ret (v := .agg #[.int .i64 k, .bool nl, .int .i64 h, .int .i64 n]) (by simp [results, Tryz.results73, go_sem]) rfl ?_
    have hu : Upd T w ((w.alloc (.cells #[.int .i64 k, .bool nl, .int .i64 h, .int .i64 n] 77)).alloc (.cells #[.int .i64 k, .bool nl, .int .i64 h, .int .i64 n] 77)) := ((Upd.refl _ w).alloc _).alloc _
    refine ⟨T, by simp [phiV, hk, cellsV], ?_, hu, Fresh.refl _ _⟩
    simp only [phiV, hk, if_false]
    exact F.keep (F.less HJ.out (Nat.le_succ _)) (((Upd.refl _ w).alloc _).alloc _)
end
section
open Go.RowKit
structure Boxed {σ : Type} (J : σ → Nat → (Nat → Prop) → World → Prop) (c : Nat) (fv : Value) (ty : TypeId) (B' : Nat) (s : σ) (n : Nat) (T : Nat → Prop) (w : World) : Prop where
  j : J s n T w
  box : w.heap[c]? = some (.cells #[fv] ty (0, 0))
  lt : c < B'
  le : B' ≤ w.heap.size
  off : ¬ T c
variable {σ : Type}
set_option maxRecDepth 100000 in
set_option maxHeartbeats 8000000 in
theorem ask_ok {D : Hp → Prop} {f : FuncId} {cap : Array Value} {φ : σ → Hp → Hp × σ} {J : σ → Nat → (Nat → Prop) → World → Prop} {B : Nat} (F : FnOk Tryz.prog cellsH D f cap φ J B) (c B' : Nat) (hB : B ≤ B') :
    FnOk Tryz.prog cellsV (DV D) 72 #[.pointer (some ⟨c, 0, none⟩)] (phiV φ) (Boxed J c (.func (.func f) #[] cap) 161 B') B' where
  enter := fun _ _ => rfl
  lt := fun h => ⟨(F.lt h.j).1, h.le⟩
  keep := fun h u => ⟨F.keep h.j (u.mono fun k _ hk => ⟨Nat.le_trans hB hk.1, hk.2⟩), u.heap_some h.box (fun hk => by have := h.lt; omega), h.lt, Nat.le_trans h.le u.size, h.off⟩
  less := fun h hm => ⟨F.less h.j hm, h.box, h.lt, h.le, h.off⟩
  call := by
    intro s n T w x hd hj
    obtain ⟨k, nl, h, m⟩ := x
    rw [show cellsV ⟨k, nl, h, m⟩ = [.int .i64 k, .bool nl, .int .i64 h, .int .i64 m] from rfl]
    show Calls Tryz.prog 72 #[.agg #[.int .i64 k, .bool nl, .int .i64 h, .int .i64 m], .pointer (some ⟨c, 0, none⟩)] w _
    obtain ⟨W0, hW⟩ : ∃ W0 : World, W0 = ((w.alloc (.cells #[.int .i64 k, .bool nl, .int .i64 h, .int .i64 m] 77)).alloc (.cells #[.int .i64 0, .bool false, .int .i64 0, .int .i64 0] 77)) := ⟨_, rfl⟩
    have hu0 : Upd T w W0 := by rw [hW]; exact ((Upd.refl _ w).alloc _).alloc _
    have hsz : W0.heap.size = w.heap.size + 2 := by rw [hW]; simp
    have hc := mapVal_any F ⟨k, nl, h, m⟩ s n T W0 hd (F.keep hj.j (by rw [hW]; exact ((Upd.refl _ w).alloc _).alloc _))
    have z1 : W0.heap[w.heap.size + 1]? = some (.cells #[.int .i64 0, .bool false, .int .i64 0, .int .i64 0] 77 (0, 0)) := by rw [hW]; exact heap_alloc_at _ _ (by simp)
    have zc := hu0.heap_some hj.box hj.off
    have cc := heap_cell zc 0
    simp at cc
    have hnT : ∀ k, w.heap.size ≤ k → ¬ T k := fun k h1 hT => by have := (F.lt hj.j).1 k hT; omega
    have hcw := heap_lt hj.box
    obtain ⟨y, hy⟩ : ∃ y, (phiV φ s ⟨k, nl, h, m⟩).1 = y := ⟨_, rfl⟩
    rw [hy] at hc ⊢
    have HC := hid hc; have HW := hid hW; have HJ := hid hj; have HSZ := hid hsz; have Z1 := hid z1; have HU0 := hid hu0; have HN := hid hnT; have HCW := hid hcw; have HY := hid hy
    rw [hW] at cc
    clear hc hW hj hsz z1 hu0 zc hnT hd hcw hy
    go_enter Tryz.func72, Tryz.ntmps72
    go_wp2_with fail
    rw [← HW.out]
    refine HC.out.mono ?_
    rintro e w1 ⟨T2, he, hJ2, hU2, hF2⟩
    obtain rfl : e = .returned (.agg #[.int .i64 y.k, .bool y.nl, .int .i64 y.h, .int .i64 y.n]) := he
    have a1 := hU2.heap_some Z1.out (HN.out _ (by omega))
    have c10 := heap_cell a1 0; have c11 := heap_cell a1 1; have c12 := heap_cell a1 2; have c13 := heap_cell a1 3
    have f1 := fun i => heap_frozen a1 i
    have HJ2 := hid hJ2; have HU2 := hid hU2; have HF2 := hid hF2; have A1 := hid a1
    clear hJ2 hU2 hF2 a1 cc
    simp at c10 c11 c12 c13
    go_wp2
    refine bodyPost_ret (v := .agg #[.int .i64 y.k, .bool y.nl, .int .i64 y.h, .int .i64 y.n]) (by simp [results, Tryz.results72, go_sem, c10, c11, c12, c13]) rfl ?_
    have hle : B' ≤ w.heap.size := HJ.out.le
    have h1 : ¬ T2 (w.heap.size + 1) := HF2.out.off (HN.out _ (by omega)) (by rw [HSZ.out]; omega)
    have hc2 : ¬ T2 c := HF2.out.off HJ.out.off (by rw [HSZ.out]; have := HCW.out; omega)
    have uu : Upd T w w1 := HU0.out.trans (Fresh.refl _ _) HU2.out
    have uf : Upd T w ((((w1.setCell ⟨w.heap.size + 1, 0, none⟩ (.int .i64 y.k)).setCell ⟨w.heap.size + 1, 1, none⟩ (.bool y.nl)).setCell ⟨w.heap.size + 1, 2, none⟩ (.int .i64 y.h)).setCell ⟨w.heap.size + 1, 3, none⟩ (.int .i64 y.n)) := (((uu.setCell (.inr (by simp)) _).setCell (.inr (by simp)) _).setCell (.inr (by simp)) _).setCell (.inr (by simp)) _
    refine ⟨T2, rfl, ⟨?_, uf.heap_some HJ.out.box HJ.out.off, HJ.out.lt, Nat.le_trans hle uf.size, hc2⟩, uf, (Fresh.refl T w).trans HF2.out HU0.out.size⟩
    exact F.keep HJ2.out (((((Upd.refl _ w1).setCell (.inl ⟨by simp; omega, h1⟩) _).setCell (.inl ⟨by simp; omega, h1⟩) _).setCell (.inl ⟨by simp; omega, h1⟩) _).setCell (.inl ⟨by simp; omega, h1⟩) _)
set_option maxRecDepth 100000 in
set_option maxHeartbeats 8000000 in
theorem field_ok {D : Hp → Prop} {f : FuncId} {cap : Array Value} {φ : σ → Hp → Hp × σ} {J : σ → Nat → (Nat → Prop) → World → Prop} {B : Nat} (F : FnOk Tryz.prog cellsV (DV D) f cap (phiV φ) J B) (c B' : Nat) (hB : B ≤ B') :
    FnOk Tryz.prog cellsF (fun x => DV D x.v) 78 #[.pointer (some ⟨c, 0, none⟩)] (phiF φ) (Boxed J c (.func (.func f) #[] cap) 185 B') B' where
  enter := fun _ _ => rfl
  lt := fun h => ⟨(F.lt h.j).1, h.le⟩
  keep := fun h u => ⟨F.keep h.j (u.mono fun k _ hk => ⟨Nat.le_trans hB hk.1, hk.2⟩), u.heap_some h.box (fun hk => by have := h.lt; omega), h.lt, Nat.le_trans h.le u.size, h.off⟩
  less := fun h hm => ⟨F.less h.j hm, h.box, h.lt, h.le, h.off⟩
  call := by
    intro s n T w x hd hj
    obtain ⟨p, ⟨k, nl, h, m⟩, mu⟩ := x
    rw [show cellsF ⟨p, ⟨k, nl, h, m⟩, mu⟩ = [.int .i64 p, .int .i64 k, .bool nl, .int .i64 h, .int .i64 m, .bool mu] from rfl]
    show Calls Tryz.prog 78 #[.agg #[.int .i64 p, .int .i64 k, .bool nl, .int .i64 h, .int .i64 m, .bool mu], .pointer (some ⟨c, 0, none⟩)] w _
    obtain ⟨W0, hW⟩ : ∃ W0 : World, W0 = ((w.alloc (.cells #[.int .i64 p, .int .i64 k, .bool nl, .int .i64 h, .int .i64 m, .bool mu] 115)).alloc (.cells #[.int .i64 0, .int .i64 0, .bool false, .int .i64 0, .int .i64 0, .bool false] 115)) := ⟨_, rfl⟩
    have hu0 : Upd T w W0 := by rw [hW]; exact ((Upd.refl _ w).alloc _).alloc _
    have hsz : W0.heap.size = w.heap.size + 2 := by rw [hW]; simp
    have hen := F.enter
    have hc := F.call ⟨k, nl, h, m⟩ hd (F.keep hj.j (w' := W0) (by rw [hW]; exact ((Upd.refl _ w).alloc _).alloc _))
    have z0 : W0.heap[w.heap.size]? = some (.cells #[.int .i64 p, .int .i64 k, .bool nl, .int .i64 h, .int .i64 m, .bool mu] 115 (0, 0)) := by rw [hW]; exact heap_alloc_keep (heap_alloc_at _ _ rfl) _
    have z1 : W0.heap[w.heap.size + 1]? = some (.cells #[.int .i64 0, .int .i64 0, .bool false, .int .i64 0, .int .i64 0, .bool false] 115 (0, 0)) := by rw [hW]; exact heap_alloc_at _ _ (by simp)
    have zc := hu0.heap_some hj.box hj.off
    have cc := heap_cell zc 0
    simp at cc
    have hnT : ∀ k, w.heap.size ≤ k → ¬ T k := fun k h1 hT => by have := (F.lt hj.j).1 k hT; omega
    have hcw := heap_lt hj.box
    obtain ⟨y, hy⟩ : ∃ y, (phiV φ s ⟨k, nl, h, m⟩).1 = y := ⟨_, rfl⟩
    rw [show phiF φ s ⟨p, ⟨k, nl, h, m⟩, mu⟩ = (⟨p, (phiV φ s ⟨k, nl, h, m⟩).1, mu⟩, (phiV φ s ⟨k, nl, h, m⟩).2) from rfl]
    dsimp only
    rw [hy] at hc ⊢
    have HC := hid hc; have HW := hid hW; have HJ := hid hj; have HSZ := hid hsz; have Z0 := hid z0; have Z1 := hid z1; have HU0 := hid hu0; have HN := hid hnT; have HCW := hid hcw; have HY := hid hy
    rw [hW] at cc
    clear hc hW hj hsz z1 z0 hu0 zc hnT hd hcw hy
    go_enter Tryz.func78, Tryz.ntmps78
    go_wp2_with fail
    rw [← HW.out]
    refine HC.out.mono ?_
    rintro e w1 ⟨T2, he, hJ2, hU2, hF2⟩
    obtain rfl : e = .returned (.agg #[.int .i64 y.k, .bool y.nl, .int .i64 y.h, .int .i64 y.n]) := he
    have a0 := hU2.heap_some Z0.out (HN.out _ (by omega))
    have c00 := heap_cell a0 0; have c01 := heap_cell a0 1; have c02 := heap_cell a0 2; have c03 := heap_cell a0 3; have c04 := heap_cell a0 4; have c05 := heap_cell a0 5
    have f0 := fun i => heap_frozen a0 i
    have a1 := hU2.heap_some Z1.out (HN.out _ (by omega))
    have c10 := heap_cell a1 0; have c11 := heap_cell a1 1; have c12 := heap_cell a1 2; have c13 := heap_cell a1 3; have c14 := heap_cell a1 4; have c15 := heap_cell a1 5
    have f1 := fun i => heap_frozen a1 i
    have HJ2 := hid hJ2; have HU2 := hid hU2; have HF2 := hid hF2; have A1 := hid a1; have A0 := hid a0
    clear hJ2 hU2 hF2 a1 a0 cc hen
    simp at c00 c01 c02 c03 c04 c05 c10 c11 c12 c13 c14 c15
    go_wp2
    refine bodyPost_ret (v := .agg #[.int .i64 p, .int .i64 y.k, .bool y.nl, .int .i64 y.h, .int .i64 y.n, .bool mu]) (by simp [results, Tryz.results78, go_sem, c10, c11, c12, c13, c14, c15]) rfl ?_
    have hle : B' ≤ w.heap.size := HJ.out.le
    have h0 : ¬ T2 (w.heap.size) := HF2.out.off (HN.out _ (by omega)) (by rw [HSZ.out]; omega)
    have h1 : ¬ T2 (w.heap.size + 1) := HF2.out.off (HN.out _ (by omega)) (by rw [HSZ.out]; omega)
    have hc2 : ¬ T2 c := HF2.out.off HJ.out.off (by rw [HSZ.out]; have := HCW.out; omega)
    have uu : Upd T w w1 := HU0.out.trans (Fresh.refl _ _) HU2.out
    have hB0 : B ≤ w.heap.size ∧ ¬ T2 w.heap.size := ⟨by omega, h0⟩
    have hB1 : B ≤ w.heap.size + 1 ∧ ¬ T2 (w.heap.size + 1) := ⟨by omega, h1⟩
    have key : ∀ {S : Nat → Prop} {a : World}, (S w.heap.size ∨ a.heap.size ≤ w.heap.size) → (S (w.heap.size + 1) ∨ a.heap.size ≤ w.heap.size + 1) → Upd S a w1 → Upd S a ((((((((((w1.setCell ⟨w.heap.size, 1, none⟩ (.int .i64 y.k)).setCell ⟨w.heap.size, 2, none⟩ (.bool y.nl)).setCell ⟨w.heap.size, 3, none⟩ (.int .i64 y.h)).setCell ⟨w.heap.size, 4, none⟩ (.int .i64 y.n)).setCell ⟨w.heap.size + 1, 0, none⟩ (.int .i64 p)).setCell ⟨w.heap.size + 1, 1, none⟩ (.int .i64 y.k)).setCell ⟨w.heap.size + 1, 2, none⟩ (.bool y.nl)).setCell ⟨w.heap.size + 1, 3, none⟩ (.int .i64 y.h)).setCell ⟨w.heap.size + 1, 4, none⟩ (.int .i64 y.n)).setCell ⟨w.heap.size + 1, 5, none⟩ (.bool mu)) :=
      fun g0 g1 u => (((((((((u.setCell g0 _).setCell g0 _).setCell g0 _).setCell g0 _).setCell g1 _).setCell g1 _).setCell g1 _).setCell g1 _).setCell g1 _).setCell g1 _
    have uf := key (S := T) (a := w) (.inr (Nat.le_refl _)) (.inr (Nat.le_succ _)) uu
    have uk := key (S := fun b => B ≤ b ∧ ¬ T2 b) (a := w1) (.inl hB0) (.inl hB1) (Upd.refl _ _)
    refine ⟨T2, rfl, ⟨F.keep HJ2.out uk, uf.heap_some HJ.out.box HJ.out.off, HJ.out.lt, Nat.le_trans hle uf.size, hc2⟩, uf, (Fresh.refl T w).trans HF2.out HU0.out.size⟩
end
end Go.Proofs.YtpddbaijnjbfdaaGreatDoor
