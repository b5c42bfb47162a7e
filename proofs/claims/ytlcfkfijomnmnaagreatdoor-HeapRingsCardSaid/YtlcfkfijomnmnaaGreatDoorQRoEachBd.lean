import Derived.Test.YtlcfkfijomnmnaaGreatDoorQKdComp
namespace Go.Proofs.YtlcfkfijomnmnaaGreatDoor
open Lib (hid)
section
open Go.Deep Go.ChangeShapes Go.WideShapes Go.ChangeAt Go.RowKit Go.Joins
section
variable {H : Type} {enc : TypeId × Value → H} {w : World} {base : Nat} {sp : Nat → Bool} {held : Bool} {P : Program}
end
section
variable {H : Type} {enc : TypeId × Value → H} {w : World} {base : Nat} {sp : Nat → Bool} {held : Bool}
instance : Inhabited Hp := ⟨⟨0, 0⟩⟩
instance : Inhabited Vl := ⟨⟨0, false, 0, 0⟩⟩
instance : Inhabited Fl := ⟨⟨0, default, false⟩⟩
end
end
section
open Go.RowKit
structure FnOk {σ α : Type} (P : Program) (cells : α → List Value) (D : α → Prop) (f : FuncId) (cap : Array Value) (φ : σ → α → α × σ) (J : σ → Nat → (Nat → Prop) → World → Prop) (B : Nat) : Prop where
  enter : ∀ args w, (callFunc f args).run P w = .ok (.enter f args) w
  lt : ∀ {s n T w}, J s n T w → (∀ b, T b → b < w.heap.size) ∧ B ≤ w.heap.size
  keep : ∀ {s n T w w'}, J s n T w → Upd (fun b => B ≤ b ∧ ¬ T b) w w' → J s n T w'
  less : ∀ {s n m T w}, J s n T w → m ≤ n → J s m T w
  call : ∀ {s n T w} x, D x → J s (n + 1) T w → Calls P f (#[.agg (cells x).toArray] ++ cap) w fun e w' => ∃ T', e = .returned (.agg (cells (φ s x).1).toArray) ∧ J (φ s x).2 n T' w' ∧ Upd T w w' ∧ Fresh T w T'
def mapS {σ α : Type} (φ : σ → α → α × σ) : σ → List α → List α × σ
  | s, [] => ([], s)
  | s, x :: l => ((φ s x).1 :: (mapS φ (φ s x).2 l).1, (mapS φ (φ s x).2 l).2)
variable {σ α : Type} {φ : σ → α → α × σ}
theorem mapS_append (s : σ) : ∀ (l r : List α), mapS φ s (l ++ r) = ((mapS φ s l).1 ++ (mapS φ (mapS φ s l).2 r).1, (mapS φ (mapS φ s l).2 r).2) := by
  intro l
  induction l generalizing s with
  | nil => intro r; simp [mapS]
  | cons x l ih => intro r; simp [mapS, ih]
theorem mapS_len (s : σ) (l : List α) : (mapS φ s l).1.length = l.length := by
  induction l generalizing s with
  | nil => rfl
  | cons x l ih => simp [mapS, ih]
theorem mapS_snoc (s : σ) (l : List α) (x : α) : mapS φ s (l ++ [x]) = ((mapS φ s l).1 ++ [(φ (mapS φ s l).2 x).1], (φ (mapS φ s l).2 x).2) := by
  rw [mapS_append]; simp [mapS]
theorem mapS_take (s : σ) (l : List α) (k : Nat) (x : α) (h : l[k]? = some x) : mapS φ s (l.take (k + 1)) = ((mapS φ s (l.take k)).1 ++ [(φ (mapS φ s (l.take k)).2 x).1], (φ (mapS φ s (l.take k)).2 x).2) := by
  obtain ⟨hk, rfl⟩ := List.getElem?_eq_some_iff.1 h
  rw [List.take_succ_eq_append_getElem hk, mapS_snoc]
theorem Fresh.off {T T' : Nat → Prop} {w : World} (h : Fresh T w T') {b : Nat} (hb : ¬ T b) (hs : b < w.heap.size) : ¬ T' b := fun h' => by
  rcases h b h' with h | h
  · exact hb h
  · omega
end
section
open Go.RowKit
theorem Tryz.infoHeap : (Tryz.prog.info? 33).map (fun i => (i.zero, i.size, i.bytes)) = some (some (.agg #[.int .i64 0, .int .i64 0]), 2, 16) := by kernel_rfl
theorem Tryz.infoVal : (Tryz.prog.info? 35).map (fun i => (i.zero, i.size, i.bytes)) = some (some (.agg #[.int .i64 0, .bool false, .int .i64 0, .int .i64 0]), 4, 32) := by kernel_rfl
theorem Tryz.infoField : (Tryz.prog.info? 39).map (fun i => (i.zero, i.size, i.bytes)) = some (some (.agg #[.int .i64 0, .int .i64 0, .bool false, .int .i64 0, .int .i64 0, .bool false]), 6, 48) := by kernel_rfl
variable {σ : Type}
theorem row_cells {W : World} {b : Nat} {cs : List Value} {e : TypeId} (h : W.heap[b]? = some (.cells cs.toArray e (0, 0))) : ∀ j u, cs[j]? = some u → W.cell? ((⟨b, 0, none⟩ : Addr).add j) = some u := fun j u hj => by
  rw [Addr.add_lit, Nat.zero_add, heap_cell h]; simpa using hj
theorem owns_zero (W : World) (B : Nat) (e : TypeId) (size : Nat) : W.ownsRow B e size (.slice none 0 0) 0 [] := ⟨by simp, .inl ⟨rfl, rfl⟩⟩
theorem one_H (y : Hp) : ∀ u ∈ cellsH y, u.oneCell' = true := by intro u hu; simp [cellsH] at hu; rcases hu with rfl | rfl <;> rfl
set_option maxRecDepth 100000 in
set_option maxHeartbeats 8000000 in
theorem eachH_any {D : Hp → Prop} {f : FuncId} {cap : Array Value} {φ : σ → Hp → Hp × σ} {J : σ → Nat → (Nat → Prop) → World → Prop} {B : Nat} (F : FnOk Tryz.prog cellsH D f cap φ J B)
    (v : Value) (l : List Hp) (s : σ) (m : Nat) (T : Nat → Prop) (w : World) (hv : ∀ w', Upd T w w' → HpsAt w' v l) (hl : l.length ≤ 1000000) (hd : ∀ x ∈ l, D x) (hj : J s (l.length + m) T w) :
    Calls Tryz.prog 78 #[v, .func (.func f) #[] cap] w fun e w' => ∃ u, e = .returned u ∧ w'.ownsRow w.heap.size 33 2 u l.length (flatH (mapS φ s l).1) ∧ ∃ T', (∀ b, u.ownBlock = some b → ¬ T' b) ∧ J (mapS φ s l).2 m T' w' ∧ Upd T w w' ∧ Fresh T w T' := by
  obtain ⟨ao, ca, rfl⟩ := RowAt.form (v := v) (hv w (Upd.refl _ _))
  obtain ⟨i0, hi, hz0, hz1, hz2⟩ := info_parts Tryz.infoHeap
  have Hi := hid hi; have Hz0 := hid hz0; have Hz1 := hid hz1; have Hz2 := hid hz2
  have HV := hid hv; have HL := hid hl; have HD := hid hd; have HJ := hid hj
  clear hi hz0 hz1 hz2 hv hl hd hj
  go_enter Tryz.func78, Tryz.ntmps78
  go_wp2
  go_loopw [5, 10] (fun t5 t10 wr => ∃ (i : Nat) (T1 : Nat → Prop), t10 = .int .i64 i ∧ i ≤ l.length ∧ wr.ownsRow w.heap.size 33 2 t5 i (flatH (mapS φ s (l.take i)).1) ∧ (∀ b, t5.ownBlock = some b → ¬ T1 b) ∧ J (mapS φ s (l.take i)).2 (l.length - i + m) T1 wr ∧ Upd T w wr ∧ Fresh T w T1) (fun _ t10 _ => l.length - (intOf t10).toNat)
  case atStart => exact ⟨0, T, rfl, Nat.zero_le _, owns_zero _ _ _ _, fun b h => by simp [Value.ownBlock] at h, by simpa [mapS] using HJ.out, Upd.refl _ _, Fresh.refl _ _⟩
  case round =>
    obtain ⟨i, T1, rfl, hi, ho, hoT, hj, hu, hf⟩ := hrel
    have HO := hid ho; have HOT := hid hoT; have HJ1 := hid hj; have HU := hid hu; have HF := hid hf
    clear ho hoT hj hu hf
    by_cases hlt : i < l.length
    · obtain ⟨x, hx⟩ : ∃ x, l[i]? = some x := ⟨l[i], by simp [hlt]⟩
      have hV := HV.out _ HU.out
      obtain ⟨b1, o1, e1, hb1, p0, p1⟩ := hps_at hV hx
      subst e1
      have HX := hid hx; have HLT := hid hlt
      have hlt' : (i : Int) < l.length := by omega
      have HI6 := hid (show (i : Int) < 1000000 by have := HL.out; omega)
      clear hx hlt hi hV
      have hen := F.enter
      have hstep := mapS_take (φ := φ) s l i x HX.out
      obtain ⟨s1, hs1⟩ : ∃ s1, (mapS φ s (l.take i)).2 = s1 := ⟨_, rfl⟩
      obtain ⟨y, hy⟩ : ∃ y, (φ s1 x).1 = y := ⟨_, rfl⟩
      rw [hs1, hy] at hstep
      have HS := hid hstep
      have ho := HO.out
      obtain ⟨ys, hys⟩ : ∃ ys, (mapS φ s (l.take i)).1 = ys := ⟨_, rfl⟩
      rw [hys] at hstep ho
      have hj0 := HJ1.out
      rw [hs1, show l.length - i + m = (l.length - (i + 1) + m) + 1 by have := HLT.out; omega] at hj0
      have hdx : D x := HD.out x (List.mem_of_getElem? HX.out)
      have hc := F.call x hdx (F.keep hj0 ((Upd.refl _ wr).alloc (.cells #[.int .i64 x.k, .int .i64 x.n] 33)))
      rw [hy] at hc
      have HC := hid hc; have HST := hid hstep; have HO1 := hid ho
      have HS1 := hid hs1; have HY := hid hy; have HYS := hid hys
      clear hc hstep ho hj0 hdx HS hs1 hy hys
      go_wp2_with fail
      refine HC.out.mono ?_
      rintro e w1 ⟨T2, he, hJ2, hU2, hF2⟩
      obtain rfl : e = .returned (.agg #[.int .i64 y.k, .int .i64 y.n]) := he
      have hlt0 := F.lt HJ1.out
      have hof : ∀ b, u5.ownBlock = some b → ¬ T2 b := fun b hb => hF2.off (HOT.out b hb) (by have := HO1.out.lt b hb; simp; omega)
      have ho1 : w1.ownsRow w.heap.size 33 2 u5 i (flatH ys) := ownsRow_upd (HO1.out.alloc _) hU2 (fun b hb => HOT.out b hb)
      have hsz : w.heap.size ≤ w1.heap.size := by have h1 := hU2.size; have h2 := HU.out.size; simp at h1; omega
      have HOF := hid hof; have HO2 := hid ho1; have HSZ := hid hsz; have HJ2 := hid hJ2; have HU2 := hid hU2; have HF2 := hid hF2
      clear hof ho1 hsz hJ2 hU2 hF2 hlt0 hen
      have HC2 := hid (row_cells (cs := cellsH y) (heap_alloc_at w1 (.cells (cellsH y).toArray 33) rfl))
      have HI6' := HI6.out
      go_wp2_with (at_builtin; refine wpList_append_own2 _ rfl _ _ 44 rfl w.heap.size 33 i0 _ 2 16 Tryz.underlying44 Hi.out Hz0.out Hz1.out Hz2.out rfl (by decide) _ _ _ rfl (HO2.out.alloc _) ⟨w1.heap.size, 0, none⟩ 1 1 (cellsH y) rfl rfl HC2.out (one_H y) (by simp [maxLen]; omega) (by omega) (by have := HSZ.out; simp; omega) (by decide) ?_)
      intro v2 w2 o2 gr2 mv2
      go_wp2
      go_roundw
      case rel =>
        have u1 : Upd T w (wr.alloc (.cells #[.int .i64 x.k, .int .i64 x.n] 33)) := HU.out.alloc _
        have u2 : Upd T w w1 := u1.trans (HF.out) HU2.out
        have hob : ∀ k, u5.ownBlock = some k → w.heap.size ≤ k ∧ k < w1.heap.size := fun k hk => HO2.out.lt k hk
        have hB : B ≤ w.heap.size := (F.lt HJ.out).2
        have ho2 : w2.ownsRow w.heap.size 33 2 v2 (i + 1) (flatH (mapS φ s (l.take (i + 1))).1) := by rw [HST.out]; simpa [flatH] using o2
        refine ⟨i + 1, T2, by go_num, HLT.out, ho2, ?_, ?_, (u2.alloc _).grown gr2 (fun k hk => .inr (hob k hk).1), HF.out.trans HF2.out u1.size⟩
        · intro b hb hT
          rcases mv2 with e | e
          · rw [e] at hb; exact HOF.out b hb hT
          · have h1 := e b hb; have h2 := (F.lt HJ2.out).1 b hT; simp at h1; omega
        · rw [HST.out]
          exact F.keep HJ2.out (((Upd.refl _ _).alloc _).grown gr2 (fun k hk => .inl ⟨Nat.le_trans hB (hob k hk).1, HOF.out k hk⟩))
      case measure => have := HLT.out; simp [intOf]; omega
    · obtain rfl : i = l.length := by omega
      have hlt' : ¬ (l.length : Int) < l.length := by omega
      go_wp2
      go_ret
      have hj := HJ1.out; have ho := HO.out
      rw [List.take_length] at hj ho
      exact ⟨_, rfl, ho, T1, HOT.out, by simpa using hj, HU.out, HF.out⟩
-- PRINTED by mkeach.py
theorem one_V (y : Vl) : ∀ u ∈ cellsV y, u.oneCell' = true := by intro u hu; simp [cellsV] at hu; rcases hu with rfl | rfl | rfl | rfl <;> rfl
set_option maxRecDepth 100000 in
set_option maxHeartbeats 8000000 in
theorem eachV_any {D : Vl → Prop} {f : FuncId} {cap : Array Value} {φ : σ → Vl → Vl × σ} {J : σ → Nat → (Nat → Prop) → World → Prop} {B : Nat} (F : FnOk Tryz.prog cellsV D f cap φ J B)
    (v : Value) (l : List Vl) (s : σ) (m : Nat) (T : Nat → Prop) (w : World) (hv : ∀ w', Upd T w w' → ValsAt w' v l) (hl : l.length ≤ 1000000) (hd : ∀ x ∈ l, D x) (hj : J s (l.length + m) T w) :
    Calls Tryz.prog 79 #[v, .func (.func f) #[] cap] w fun e w' => ∃ u, e = .returned u ∧ w'.ownsRow w.heap.size 35 4 u l.length (flatV (mapS φ s l).1) ∧ ∃ T', (∀ b, u.ownBlock = some b → ¬ T' b) ∧ J (mapS φ s l).2 m T' w' ∧ Upd T w w' ∧ Fresh T w T' := by
  obtain ⟨ao, ca, rfl⟩ := RowAt.form (v := v) (hv w (Upd.refl _ _))
  obtain ⟨i0, hi, hz0, hz1, hz2⟩ := info_parts Tryz.infoVal
  have Hi := hid hi; have Hz0 := hid hz0; have Hz1 := hid hz1; have Hz2 := hid hz2
  have HV := hid hv; have HL := hid hl; have HD := hid hd; have HJ := hid hj
  clear hi hz0 hz1 hz2 hv hl hd hj
  go_enter Tryz.func79, Tryz.ntmps79
  go_wp2
  go_loopw [5, 10] (fun t5 t10 wr => ∃ (i : Nat) (T1 : Nat → Prop), t10 = .int .i64 i ∧ i ≤ l.length ∧ wr.ownsRow w.heap.size 35 4 t5 i (flatV (mapS φ s (l.take i)).1) ∧ (∀ b, t5.ownBlock = some b → ¬ T1 b) ∧ J (mapS φ s (l.take i)).2 (l.length - i + m) T1 wr ∧ Upd T w wr ∧ Fresh T w T1) (fun _ t10 _ => l.length - (intOf t10).toNat)
  case atStart => exact ⟨0, T, rfl, Nat.zero_le _, owns_zero _ _ _ _, fun b h => by simp [Value.ownBlock] at h, by simpa [mapS] using HJ.out, Upd.refl _ _, Fresh.refl _ _⟩
  case round =>
    obtain ⟨i, T1, rfl, hi, ho, hoT, hj, hu, hf⟩ := hrel
    have HO := hid ho; have HOT := hid hoT; have HJ1 := hid hj; have HU := hid hu; have HF := hid hf
    clear ho hoT hj hu hf
    by_cases hlt : i < l.length
    · obtain ⟨x, hx⟩ : ∃ x, l[i]? = some x := ⟨l[i], by simp [hlt]⟩
      have hV := HV.out _ HU.out
      obtain ⟨b1, o1, e1, hb1, p0, p1, p2, p3⟩ := vals_at hV hx
      subst e1
      have HX := hid hx; have HLT := hid hlt
      have hlt' : (i : Int) < l.length := by omega
      have HI6 := hid (show (i : Int) < 1000000 by have := HL.out; omega)
      clear hx hlt hi hV
      have hen := F.enter
      have hstep := mapS_take (φ := φ) s l i x HX.out
      obtain ⟨s1, hs1⟩ : ∃ s1, (mapS φ s (l.take i)).2 = s1 := ⟨_, rfl⟩
      obtain ⟨y, hy⟩ : ∃ y, (φ s1 x).1 = y := ⟨_, rfl⟩
      rw [hs1, hy] at hstep
      have HS := hid hstep
      have ho := HO.out
      obtain ⟨ys, hys⟩ : ∃ ys, (mapS φ s (l.take i)).1 = ys := ⟨_, rfl⟩
      rw [hys] at hstep ho
      have hj0 := HJ1.out
      rw [hs1, show l.length - i + m = (l.length - (i + 1) + m) + 1 by have := HLT.out; omega] at hj0
      have hdx : D x := HD.out x (List.mem_of_getElem? HX.out)
      have hc := F.call x hdx (F.keep hj0 ((Upd.refl _ wr).alloc (.cells #[.int .i64 x.k, .bool x.nl, .int .i64 x.h, .int .i64 x.n] 35)))
      rw [hy] at hc
      have HC := hid hc; have HST := hid hstep; have HO1 := hid ho
      have HS1 := hid hs1; have HY := hid hy; have HYS := hid hys
      clear hc hstep ho hj0 hdx HS hs1 hy hys
      go_wp2_with fail
      refine HC.out.mono ?_
      rintro e w1 ⟨T2, he, hJ2, hU2, hF2⟩
      obtain rfl : e = .returned (.agg #[.int .i64 y.k, .bool y.nl, .int .i64 y.h, .int .i64 y.n]) := he
      have hlt0 := F.lt HJ1.out
      have hof : ∀ b, u5.ownBlock = some b → ¬ T2 b := fun b hb => hF2.off (HOT.out b hb) (by have := HO1.out.lt b hb; simp; omega)
      have ho1 : w1.ownsRow w.heap.size 35 4 u5 i (flatV ys) := ownsRow_upd (HO1.out.alloc _) hU2 (fun b hb => HOT.out b hb)
      have hsz : w.heap.size ≤ w1.heap.size := by have h1 := hU2.size; have h2 := HU.out.size; simp at h1; omega
      have HOF := hid hof; have HO2 := hid ho1; have HSZ := hid hsz; have HJ2 := hid hJ2; have HU2 := hid hU2; have HF2 := hid hF2
      clear hof ho1 hsz hJ2 hU2 hF2 hlt0 hen
      have HC2 := hid (row_cells (cs := cellsV y) (heap_alloc_at w1 (.cells (cellsV y).toArray 35) rfl))
      have HI6' := HI6.out
      go_wp2_with (at_builtin; refine wpList_append_own2 _ rfl _ _ 41 rfl w.heap.size 35 i0 _ 4 32 Tryz.underlying41 Hi.out Hz0.out Hz1.out Hz2.out rfl (by decide) _ _ _ rfl (HO2.out.alloc _) ⟨w1.heap.size, 0, none⟩ 1 1 (cellsV y) rfl rfl HC2.out (one_V y) (by simp [maxLen]; omega) (by omega) (by have := HSZ.out; simp; omega) (by decide) ?_)
      intro v2 w2 o2 gr2 mv2
      go_wp2
      go_roundw
      case rel =>
        have u1 : Upd T w (wr.alloc (.cells #[.int .i64 x.k, .bool x.nl, .int .i64 x.h, .int .i64 x.n] 35)) := HU.out.alloc _
        have u2 : Upd T w w1 := u1.trans (HF.out) HU2.out
        have hob : ∀ k, u5.ownBlock = some k → w.heap.size ≤ k ∧ k < w1.heap.size := fun k hk => HO2.out.lt k hk
        have hB : B ≤ w.heap.size := (F.lt HJ.out).2
        have ho2 : w2.ownsRow w.heap.size 35 4 v2 (i + 1) (flatV (mapS φ s (l.take (i + 1))).1) := by rw [HST.out]; simpa [flatV] using o2
        refine ⟨i + 1, T2, by go_num, HLT.out, ho2, ?_, ?_, (u2.alloc _).grown gr2 (fun k hk => .inr (hob k hk).1), HF.out.trans HF2.out u1.size⟩
        · intro b hb hT
          rcases mv2 with e | e
          · rw [e] at hb; exact HOF.out b hb hT
          · have h1 := e b hb; have h2 := (F.lt HJ2.out).1 b hT; simp at h1; omega
        · rw [HST.out]
          exact F.keep HJ2.out (((Upd.refl _ _).alloc _).grown gr2 (fun k hk => .inl ⟨Nat.le_trans hB (hob k hk).1, HOF.out k hk⟩))
      case measure => have := HLT.out; simp [intOf]; omega
    · obtain rfl : i = l.length := by omega
      have hlt' : ¬ (l.length : Int) < l.length := by omega
      go_wp2
      go_ret
      have hj := HJ1.out; have ho := HO.out
      rw [List.take_length] at hj ho
      exact ⟨_, rfl, ho, T1, HOT.out, by simpa using hj, HU.out, HF.out⟩
theorem one_F (y : Fl) : ∀ u ∈ cellsF y, u.oneCell' = true := by intro u hu; simp [cellsF] at hu; rcases hu with rfl | rfl | rfl | rfl | rfl | rfl <;> rfl
set_option maxRecDepth 100000 in
set_option maxHeartbeats 8000000 in
theorem eachF_any {D : Fl → Prop} {f : FuncId} {cap : Array Value} {φ : σ → Fl → Fl × σ} {J : σ → Nat → (Nat → Prop) → World → Prop} {B : Nat} (F : FnOk Tryz.prog cellsF D f cap φ J B)
    (v : Value) (l : List Fl) (s : σ) (m : Nat) (T : Nat → Prop) (w : World) (hv : ∀ w', Upd T w w' → FlsAt w' v l) (hl : l.length ≤ 1000000) (hd : ∀ x ∈ l, D x) (hj : J s (l.length + m) T w) :
    Calls Tryz.prog 80 #[v, .func (.func f) #[] cap] w fun e w' => ∃ u, e = .returned u ∧ w'.ownsRow w.heap.size 39 6 u l.length (flatF (mapS φ s l).1) ∧ ∃ T', (∀ b, u.ownBlock = some b → ¬ T' b) ∧ J (mapS φ s l).2 m T' w' ∧ Upd T w w' ∧ Fresh T w T' := by
  obtain ⟨ao, ca, rfl⟩ := RowAt.form (v := v) (hv w (Upd.refl _ _))
  obtain ⟨i0, hi, hz0, hz1, hz2⟩ := info_parts Tryz.infoField
  have Hi := hid hi; have Hz0 := hid hz0; have Hz1 := hid hz1; have Hz2 := hid hz2
  have HV := hid hv; have HL := hid hl; have HD := hid hd; have HJ := hid hj
  clear hi hz0 hz1 hz2 hv hl hd hj
  go_enter Tryz.func80, Tryz.ntmps80
  go_wp2
  go_loopw [5, 10] (fun t5 t10 wr => ∃ (i : Nat) (T1 : Nat → Prop), t10 = .int .i64 i ∧ i ≤ l.length ∧ wr.ownsRow w.heap.size 39 6 t5 i (flatF (mapS φ s (l.take i)).1) ∧ (∀ b, t5.ownBlock = some b → ¬ T1 b) ∧ J (mapS φ s (l.take i)).2 (l.length - i + m) T1 wr ∧ Upd T w wr ∧ Fresh T w T1) (fun _ t10 _ => l.length - (intOf t10).toNat)
  case atStart => exact ⟨0, T, rfl, Nat.zero_le _, owns_zero _ _ _ _, fun b h => by simp [Value.ownBlock] at h, by simpa [mapS] using HJ.out, Upd.refl _ _, Fresh.refl _ _⟩
  case round =>
    obtain ⟨i, T1, rfl, hi, ho, hoT, hj, hu, hf⟩ := hrel
    have HO := hid ho; have HOT := hid hoT; have HJ1 := hid hj; have HU := hid hu; have HF := hid hf
    clear ho hoT hj hu hf
    by_cases hlt : i < l.length
    · obtain ⟨x, hx⟩ : ∃ x, l[i]? = some x := ⟨l[i], by simp [hlt]⟩
      have hV := HV.out _ HU.out
      obtain ⟨b1, o1, e1, hb1, p0, p1, p2, p3, p4, p5⟩ := fls_at hV hx
      subst e1
      have HX := hid hx; have HLT := hid hlt
      have hlt' : (i : Int) < l.length := by omega
      have HI6 := hid (show (i : Int) < 1000000 by have := HL.out; omega)
      clear hx hlt hi hV
      have hen := F.enter
      have hstep := mapS_take (φ := φ) s l i x HX.out
      obtain ⟨s1, hs1⟩ : ∃ s1, (mapS φ s (l.take i)).2 = s1 := ⟨_, rfl⟩
      obtain ⟨y, hy⟩ : ∃ y, (φ s1 x).1 = y := ⟨_, rfl⟩
      rw [hs1, hy] at hstep
      have HS := hid hstep
      have ho := HO.out
      obtain ⟨ys, hys⟩ : ∃ ys, (mapS φ s (l.take i)).1 = ys := ⟨_, rfl⟩
      rw [hys] at hstep ho
      have hj0 := HJ1.out
      rw [hs1, show l.length - i + m = (l.length - (i + 1) + m) + 1 by have := HLT.out; omega] at hj0
      have hdx : D x := HD.out x (List.mem_of_getElem? HX.out)
      have hc := F.call x hdx (F.keep hj0 ((Upd.refl _ wr).alloc (.cells #[.int .i64 x.p, .int .i64 x.v.k, .bool x.v.nl, .int .i64 x.v.h, .int .i64 x.v.n, .bool x.m] 39)))
      rw [hy] at hc
      have HC := hid hc; have HST := hid hstep; have HO1 := hid ho
      have HS1 := hid hs1; have HY := hid hy; have HYS := hid hys
      clear hc hstep ho hj0 hdx HS hs1 hy hys
      go_wp2_with fail
      refine HC.out.mono ?_
      rintro e w1 ⟨T2, he, hJ2, hU2, hF2⟩
      obtain rfl : e = .returned (.agg #[.int .i64 y.p, .int .i64 y.v.k, .bool y.v.nl, .int .i64 y.v.h, .int .i64 y.v.n, .bool y.m]) := he
      have hlt0 := F.lt HJ1.out
      have hof : ∀ b, u5.ownBlock = some b → ¬ T2 b := fun b hb => hF2.off (HOT.out b hb) (by have := HO1.out.lt b hb; simp; omega)
      have ho1 : w1.ownsRow w.heap.size 39 6 u5 i (flatF ys) := ownsRow_upd (HO1.out.alloc _) hU2 (fun b hb => HOT.out b hb)
      have hsz : w.heap.size ≤ w1.heap.size := by have h1 := hU2.size; have h2 := HU.out.size; simp at h1; omega
      have HOF := hid hof; have HO2 := hid ho1; have HSZ := hid hsz; have HJ2 := hid hJ2; have HU2 := hid hU2; have HF2 := hid hF2
      clear hof ho1 hsz hJ2 hU2 hF2 hlt0 hen
      have HC2 := hid (row_cells (cs := cellsF y) (heap_alloc_at w1 (.cells (cellsF y).toArray 39) rfl))
      have HI6' := HI6.out
      go_wp2_with (at_builtin; refine wpList_append_own2 _ rfl _ _ 40 rfl w.heap.size 39 i0 _ 6 48 Tryz.underlying40 Hi.out Hz0.out Hz1.out Hz2.out rfl (by decide) _ _ _ rfl (HO2.out.alloc _) ⟨w1.heap.size, 0, none⟩ 1 1 (cellsF y) rfl rfl HC2.out (one_F y) (by simp [maxLen]; omega) (by omega) (by have := HSZ.out; simp; omega) (by decide) ?_)
      intro v2 w2 o2 gr2 mv2
      go_wp2
      go_roundw
      case rel =>
        have u1 : Upd T w (wr.alloc (.cells #[.int .i64 x.p, .int .i64 x.v.k, .bool x.v.nl, .int .i64 x.v.h, .int .i64 x.v.n, .bool x.m] 39)) := HU.out.alloc _
        have u2 : Upd T w w1 := u1.trans (HF.out) HU2.out
        have hob : ∀ k, u5.ownBlock = some k → w.heap.size ≤ k ∧ k < w1.heap.size := fun k hk => HO2.out.lt k hk
        have hB : B ≤ w.heap.size := (F.lt HJ.out).2
        have ho2 : w2.ownsRow w.heap.size 39 6 v2 (i + 1) (flatF (mapS φ s (l.take (i + 1))).1) := by rw [HST.out]; simpa [flatF] using o2
        refine ⟨i + 1, T2, by go_num, HLT.out, ho2, ?_, ?_, (u2.alloc _).grown gr2 (fun k hk => .inr (hob k hk).1), HF.out.trans HF2.out u1.size⟩
        · intro b hb hT
          rcases mv2 with e | e
          · rw [e] at hb; exact HOF.out b hb hT
          · have h1 := e b hb; have h2 := (F.lt HJ2.out).1 b hT; simp at h1; omega
        · rw [HST.out]
          exact F.keep HJ2.out (((Upd.refl _ _).alloc _).grown gr2 (fun k hk => .inl ⟨Nat.le_trans hB (hob k hk).1, HOF.out k hk⟩))
      case measure => have := HLT.out; simp [intOf]; omega
    · obtain rfl : i = l.length := by omega
      have hlt' : ¬ (l.length : Int) < l.length := by omega
      go_wp2
      go_ret
      have hj := HJ1.out; have ho := HO.out
      rw [List.take_length] at hj ho
      exact ⟨_, rfl, ho, T1, HOT.out, by simpa using hj, HU.out, HF.out⟩
end
end Go.Proofs.YtlcfkfijomnmnaaGreatDoor
