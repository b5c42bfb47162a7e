/- Of no program: a region in which two chains of operations come in any interleaving; the two chains 'append(append([]T{}, ..), ..)'. -/
import Derived.Test.YtofoaheiblhpoaaPair
namespace Go.Proofs.Ytofoaheiblhpoaa
open Go.RowKit

section
variable {P : Program} {md : Region.Mode} {ops : Array Oper} {Q : Exit → Act → World → Prop}
theorem wpAny_grid {K1 K2 g : Nat} {c1 c2 : Nat → Nat} {L : Nat → Nat → Array Bool} {I : Nat → Nat → Act → World → Prop}
    (hr : ∀ p, p ≤ K1 → ∀ q, q ≤ K2 → p + q < K1 + K2 → Region.ready md ops (L p q) = (if p < K1 then [c1 p] else []) ++ (if q < K2 then [c2 q] else []))
    (h1 : ∀ p, p < K1 → ∀ q, q ≤ K2 → (L p q).setIfInBounds (c1 p) true = L (p + 1) q)
    (h2 : ∀ p, p ≤ K1 → ∀ q, q < K2 → (L p q).setIfInBounds (c2 q) true = L p (q + 1))
    (s1 : ∀ p q a w, p < K1 → q ≤ K2 → I p q a w → wpOp P ops Q (c1 p) (I (p + 1) q) a w)
    (s2 : ∀ p q a w, p ≤ K1 → q < K2 → I p q a w → wpOp P ops Q (c2 q) (I p (q + 1)) a w)
    (hd : ∀ a w, I K1 K2 a w → wpAny P md ops Q g (L K1 K2) a w) :
    ∀ n p q a w, p ≤ K1 → q ≤ K2 → n = (K1 - p) + (K2 - q) → I p q a w → wpAny P md ops Q (n + g) (L p q) a w := by
  intro n
  induction n with
  | zero =>
    intro p q a w hp hq hn hI
    obtain rfl : p = K1 := by omega
    obtain rfl : q = K2 := by omega
    rw [Nat.zero_add]; exact hd a w hI
  | succ n ih =>
    intro p q a w hp hq hn hI
    rw [show n + 1 + g = (n + g) + 1 by omega]
    have hr' := hr p hp q hq (by omega)
    refine ⟨fun h0 => ?_, fun i hi => ?_⟩
    · rw [hr'] at h0
      by_cases h : p < K1
      · rw [if_pos h] at h0; simp at h0
      · rw [if_pos (show q < K2 by omega)] at h0; simp at h0
    · rw [hr'] at hi
      rcases List.mem_append.1 hi with hi | hi
      · by_cases h : p < K1
        · rw [if_pos h] at hi
          obtain rfl := List.mem_singleton.1 hi
          rw [h1 p h q hq]
          exact wpOp_mono (fun a w h3 => ih (p + 1) q a w h hq (by omega) h3) (s1 p q a w h hq hI)
        · rw [if_neg h] at hi; cases hi
      · by_cases h : q < K2
        · rw [if_pos h] at hi
          obtain rfl := List.mem_singleton.1 hi
          rw [h2 p hp q h]
          exact wpOp_mono (fun a w h3 => ih p (q + 1) a w hp h (by omega) h3) (s2 p q a w hp h hI)
        · rw [if_neg h] at hi; cases hi
/-- An operation of a region: what it does, and where its value goes. -/
def OpIs (ops : Array Oper) (i d : Nat) (op : Op) : Prop := ∃ o, ops[i]? = some o ∧ o.op = op ∧ o.dst = some d ∧ o.guard = none
theorem OpIs.wp {i d : Nat} {op : Op} (h : OpIs ops i d op) {K : Act → World → Prop} {a : Act} {w : World}
    (H : ∀ o, o.guard = none → o.op = op → o.dst = some d → if Region.wanted o (yielded ops a.tmps) = true then Oper.wp P o a w K Q else False) : wpOp P ops Q i K a w := by
  obtain ⟨o, ho, h1, h2, h3⟩ := h
  have := H o h3 h1 h2
  have hw : Region.wanted o (yielded ops a.tmps) = true := by simp [Region.wanted, h3]
  rw [if_pos hw] at this
  unfold wpOp
  simp only [ho, hw, if_true]
  exact .inl this
theorem aput_at (a : Act) {d : Nat} (h : d < a.tmps.size) (v : Value) : (a.put (some d) v).tmps[d]? = some v := by
  simp [Act.put, h]
theorem aput_off (a : Act) {d t : Nat} (h : d ≠ t) (v : Value) : (a.put (some d) v).tmps[t]? = a.tmps[t]? := by
  simp [Act.put, Array.getElem?_setIfInBounds_ne h]
theorem aput_size (a : Act) (d : Nat) (v : Value) : (a.put (some d) v).tmps.size = a.tmps.size := by simp [Act.put]
theorem aput_defers (a : Act) (d : Option Tmp) (v : Value) : (a.put d v).defers = a.defers := by cases d <;> rfl
theorem aput_sizes (a : Act) (d : Option Tmp) (v : Value) : (a.put d v).tmps.size = a.tmps.size := by cases d <;> simp [Act.put]
theorem aeval_tmp {a : Act} {t : Nat} {v : Value} (h : a.tmps[t]? = some v) : a.eval (.tmp t) = v := by
  simp [Act.eval, h]
/-- Frames that agree but for some slots. -/
structure Ag (ds : List Nat) (b a : Act) : Prop where
  size : a.tmps.size = b.tmps.size
  at' : ∀ t, t ∉ ds → a.tmps[t]? = b.tmps[t]?
  defers : a.defers = b.defers
theorem Ag.refl (ds : List Nat) (b : Act) : Ag ds b b := ⟨rfl, fun _ _ => rfl, rfl⟩
theorem Ag.put {ds : List Nat} {b a : Act} (h : Ag ds b a) {d : Nat} (hd : d ∈ ds) (v : Value) : Ag ds b (a.put (some d) v) :=
  ⟨by rw [aput_size]; exact h.size, fun t ht => by rw [aput_off _ (fun e => ht (by rw [← e]; exact hd))]; exact h.at' t ht, h.defers⟩
theorem Ag.mono {ds ds' : List Nat} {b a : Act} (h : Ag ds b a) (hs : ∀ d ∈ ds, d ∈ ds') : Ag ds' b a := ⟨h.size, fun t ht => h.at' t (fun hd => ht (hs t hd)), h.defers⟩
theorem Ag.trans {ds : List Nat} {a b c : Act} (h : Ag ds a b) (k : Ag ds b c) : Ag ds a c := ⟨k.size.trans h.size, fun t ht => (k.at' t ht).trans (h.at' t ht), k.defers.trans h.defers⟩
theorem agree_sets (A' : Array Value) : ∀ (ks : List Nat) (A : Array Value), A'.size = A.size → (∀ i, i ∉ ks → A'[i]? = A[i]?) → A' = ks.foldl (fun B k => B.setIfInBounds k (A'.getD k undef)) A
  | [], A, hs, h => by
    apply Array.ext_getElem?
    intro i; simpa using h i (by simp)
  | k :: ks, A, hs, h => by
    rw [List.foldl_cons]
    refine agree_sets A' ks _ (by simpa using hs) (fun i hi => ?_)
    by_cases hik : k = i
    · subst hik
      by_cases hlt : k < A.size
      · have : k < A'.size := by omega
        simp [hlt, this]
      · have : ¬ k < A'.size := by omega
        simp [hlt, this]
    · rw [Array.getElem?_setIfInBounds_ne hik]
      exact h i (by simp only [List.mem_cons, not_or]; exact ⟨fun e => hik e.symm, hi⟩)
theorem Ag.act {ds : List Nat} {b a : Act} (h : Ag ds b a) : a = { tmps := ds.foldl (fun B k => B.setIfInBounds k (a.tmps.getD k undef)) b.tmps, defers := b.defers } := by
  obtain ⟨t, d⟩ := a
  have h1 := agree_sets t ds b.tmps h.size h.at'
  have h2 := h.defers
  dsimp only at h1 h2 ⊢
  rw [← h1, h2]
/-- A chain: an empty row, and two appends to it. -/
structure Chain (ops : Array Oper) (t : TypeId) (c : Nat → Nat) (d1 d2 d3 e1 e2 : Nat) : Prop where
  o1 : OpIs ops (c 0) d1 (.buildSlice t 0 #[])
  o2 : OpIs ops (c 1) d2 (.call { callee := .builtin .append, args := #[.tmp d1, .tmp e1], argTypes := #[t, t] })
  o3 : OpIs ops (c 2) d3 (.call { callee := .builtin .append, args := #[.tmp d2, .tmp e2], argTypes := #[t, t] })
/-- How far a chain has come. -/
def Half (d1 d2 d3 : Nat) (X Y : List Value) (k m : Nat) (p : Nat) (a : Act) (v : Value) (n : Nat) (x : List Value) : Prop :=
  (p = 0 ∧ n = 0 ∧ x = []) ∨ (p = 1 ∧ n = 0 ∧ x = [] ∧ a.tmps[d1]? = some v) ∨ (p = 2 ∧ n = k ∧ x = X ∧ a.tmps[d2]? = some v) ∨ (p = 3 ∧ n = k + m ∧ x = X ++ Y ∧ a.tmps[d3]? = some v)
theorem Half.put {d1 d2 d3 : Nat} {X Y : List Value} {k m p : Nat} {a : Act} {v : Value} {n : Nat} {x : List Value} (h : Half d1 d2 d3 X Y k m p a v n x) {d : Nat} (u : Value) (h1 : d ≠ d1) (h2 : d ≠ d2) (h3 : d ≠ d3) : Half d1 d2 d3 X Y k m p (a.put (some d) u) v n x := by
  unfold Half at h ⊢
  rw [aput_off _ h1, aput_off _ h2, aput_off _ h3]
  exact h
/-- What a chain appends: where it lies when the region begins. -/
structure Source (w0 : World) (b : Act) (e1 e2 : Nat) (X Y : List Value) (k m : Nat) (A1 A2 : Addr) (z1 z2 : Nat) : Prop where
  s1 : b.tmps[e1]? = some (.slice (some A1) k z1)
  s2 : b.tmps[e2]? = some (.slice (some A2) m z2)
  l1 : X.length = k * 1
  l2 : Y.length = m * 1
  c1 : ∀ j u, X[j]? = some u → w0.cell? (A1.add j) = some u
  c2 : ∀ j u, Y[j]? = some u → w0.cell? (A2.add j) = some u
  one1 : ∀ u ∈ X, u.oneCell' = true
  one2 : ∀ u ∈ Y, u.oneCell' = true
  b1 : k + m ≤ maxLen
  b2 : (k + m) * 8 ≤ 140737488355328
set_option maxHeartbeats 1000000 in
theorem chain_step {t e : TypeId} {c : Nat → Nat} {d1 d2 d3 e1 e2 : Nat} (C : Chain ops t c d1 d2 d3 e1 e2)
    (i : TypeInfo) (z : Value) (h1 : P.underlying t = some (.slice e)) (h2 : P.info? e = some i) (h3 : i.zero = some z) (h4 : i.size = 1) (h5 : i.bytes = 8) (h6 : z.cells.size = 1) (hbs : ∀ w : World, (Instr.buildSlice t 0 #[]).run P w = .ok (.slice (some ⟨w.heap.size, 0, none⟩) 0 0) (w.alloc (.cells #[] e)))
    {w0 w : World} {b a : Act} {ds : List Nat} (hag : Ag ds b a) (hd : d1 ∈ ds ∧ d2 ∈ ds ∧ d3 ∈ ds ∧ e1 ∉ ds ∧ e2 ∉ ds ∧ d1 < b.tmps.size ∧ d2 < b.tmps.size ∧ d3 < b.tmps.size)
    {X Y : List Value} {k m : Nat} {A1 A2 : Addr} {z1 z2 : Nat} (S : Source w0 b e1 e2 X Y k m A1 A2 z1 z2)
    {n1 n2 : Nat} {v1 v2 : Value} {x1 x2 : List Value} (J : Pair w0 e 1 w n1 v1 x1 n2 v2 x2) {p : Nat} (hp : p < 3) (H : Half d1 d2 d3 X Y k m p a v1 n1 x1) {K : Act → World → Prop}
    (hK : ∀ w' v n x d u, Pair w0 e 1 w' n v x n2 v2 x2 → (d = d1 ∨ d = d2 ∨ d = d3) → Half d1 d2 d3 X Y k m (p + 1) (a.put (some d) u) v n x → K (a.put (some d) u) w') : wpOp P ops Q (c p) K a w := by
  obtain ⟨m1, m2, m3, m4, m5, m6, m7, m8⟩ := hd
  rw [← hag.size] at m6 m7 m8
  rcases H with ⟨rfl, rfl, rfl⟩ | ⟨rfl, rfl, rfl, hv⟩ | ⟨rfl, rfl, rfl, hv⟩ | ⟨rfl, _⟩
  · refine C.o1.wp fun o g ho hds => ?_
    have hw : Region.wanted o (yielded ops a.tmps) = true := by simp [Region.wanted, g]
    rw [if_pos hw]
    have hr : (execOp a.eval o).run P w = .ok (.value (.slice (some ⟨w.heap.size, 0, none⟩) 0 0)) (w.alloc (.cells #[] e)) := by
      unfold execOp
      rw [ho]
      simp [hbs, Result.andThen]
    unfold Oper.wp
    rw [hr, Oper.upon_value, hds]
    exact hK _ _ _ _ d1 _ (J.new1) (.inl rfl) (.inr (.inl ⟨rfl, rfl, rfl, aput_at a m6 _⟩))
  · refine C.o2.wp fun o g ho hds => ?_
    refine Pair.step1 g (.tmp d1) (.tmp e1) t ho i z 8 h1 h2 h3 h4 h5 h6 (by decide) J (aeval_tmp hv) A1 k z1 X (aeval_tmp ((hag.at' e1 m4).trans S.s1)) S.l1 S.c1 S.one1 (by have := S.b1; omega) (by have := S.b2; omega) fun v' w' J' => ?_
    rw [hds]
    rw [Nat.zero_add, List.nil_append] at J'
    exact hK _ _ _ _ d2 _ J' (.inr (.inl rfl)) (.inr (.inr (.inl ⟨rfl, rfl, rfl, aput_at a m7 _⟩)))
  · refine C.o3.wp fun o g ho hds => ?_
    refine Pair.step1 g (.tmp d2) (.tmp e2) t ho i z 8 h1 h2 h3 h4 h5 h6 (by decide) J (aeval_tmp hv) A2 m z2 Y (aeval_tmp ((hag.at' e2 m5).trans S.s2)) S.l2 S.c2 S.one2 S.b1 S.b2 fun v' w' J' => ?_
    rw [hds]
    exact hK _ _ _ _ d3 _ J' (.inr (.inr rfl)) (.inr (.inr (.inr ⟨rfl, rfl, rfl, aput_at a m8 _⟩)))
  · omega
theorem two_appends {g : Nat} {t e : TypeId} {c1 c2 : Nat → Nat} {d1 d2 d3 e1 e2 f1 f2 f3 g1 g2 : Nat} {L : Nat → Nat → Array Bool} (C1 : Chain ops t c1 d1 d2 d3 e1 e2) (C2 : Chain ops t c2 f1 f2 f3 g1 g2)
    (hr : ∀ p, p ≤ 3 → ∀ q, q ≤ 1 → p + q < 3 + 1 → Region.ready md ops (L p q) = (if p < 3 then [c1 p] else []) ++ (if q < 1 then [c2 q] else []))
    (hl1 : ∀ p, p < 3 → ∀ q, q ≤ 1 → (L p q).setIfInBounds (c1 p) true = L (p + 1) q)
    (hl2 : ∀ p, p ≤ 3 → ∀ q, q < 1 → (L p q).setIfInBounds (c2 q) true = L p (q + 1))
    (hr2 : Region.ready md ops (L 3 1) = [c2 1] ∧ Region.ready md ops (L 3 2) = [c2 2] ∧ (L 3 1).setIfInBounds (c2 1) true = L 3 2 ∧ (L 3 2).setIfInBounds (c2 2) true = L 3 3)
    (i : TypeInfo) (z : Value) (h1 : P.underlying t = some (.slice e)) (h2 : P.info? e = some i) (h3 : i.zero = some z) (h4 : i.size = 1) (h5 : i.bytes = 8) (h6 : z.cells.size = 1) (hbs : ∀ w : World, (Instr.buildSlice t 0 #[]).run P w = .ok (.slice (some ⟨w.heap.size, 0, none⟩) 0 0) (w.alloc (.cells #[] e)))
    {w0 w : World} {b : Act} (hb : Below w0.heap.size w0 w)
    (hn : [d1, d2, d3, f1, f2, f3].Nodup ∧ e1 ∉ [d1, d2, d3, f1, f2, f3] ∧ e2 ∉ [d1, d2, d3, f1, f2, f3] ∧ g1 ∉ [d1, d2, d3, f1, f2, f3] ∧ g2 ∉ [d1, d2, d3, f1, f2, f3]) (hs : ∀ d ∈ [d1, d2, d3, f1, f2, f3], d < b.tmps.size)
    {X1 Y1 X2 Y2 : List Value} {k1 m1 k2 m2 : Nat} {A1 A2 B1 B2 : Addr} {z1 z2 z3 z4 : Nat} (S1 : Source w0 b e1 e2 X1 Y1 k1 m1 A1 A2 z1 z2) (S2 : Source w0 b g1 g2 X2 Y2 k2 m2 B1 B2 z3 z4)
    (hd : ∀ a w' v1 v2, Pair w0 e 1 w' (k1 + m1) v1 (X1 ++ Y1) (k2 + m2) v2 (X2 ++ Y2) → a.tmps[d3]? = some v1 → a.tmps[f3]? = some v2 → Ag [d1, d2, d3, f1, f2, f3] b a → wpAny P md ops Q g (L 3 3) a w') :
    wpAny P md ops Q (4 + (g + 2)) (L 0 0) b w := by
  obtain ⟨nd, n1, n2, n3, n4⟩ := hn
  simp only [List.nodup_cons, List.mem_cons, List.not_mem_nil, or_false, not_or, List.nodup_nil, and_true, not_false_eq_true] at nd
  obtain ⟨⟨a1, a2, a3, a4, a5⟩, ⟨a6, a7, a8, a9⟩, ⟨a10, a11, a12⟩, ⟨a13, a14⟩, a15⟩ := nd
  obtain ⟨r1, r2, r3, r4⟩ := hr2
  have step2 : ∀ p q a w', q < 3 → (Ag [d1, d2, d3, f1, f2, f3] b a ∧ ∃ v1 v2 n1 n2 x1 x2, Pair w0 e 1 w' n1 v1 x1 n2 v2 x2 ∧ Half d1 d2 d3 X1 Y1 k1 m1 p a v1 n1 x1 ∧ Half f1 f2 f3 X2 Y2 k2 m2 q a v2 n2 x2) →
      wpOp P ops Q (c2 q) (fun a w' => Ag [d1, d2, d3, f1, f2, f3] b a ∧ ∃ v1 v2 n1 n2 x1 x2, Pair w0 e 1 w' n1 v1 x1 n2 v2 x2 ∧ Half d1 d2 d3 X1 Y1 k1 m1 p a v1 n1 x1 ∧ Half f1 f2 f3 X2 Y2 k2 m2 (q + 1) a v2 n2 x2) a w' := by
    rintro p q a w' hq ⟨hag, v1, v2, n1', n2', x1, x2, J, H1, H2⟩
    refine chain_step C2 i z h1 h2 h3 h4 h5 h6 hbs hag ⟨by simp, by simp, by simp, n3, n4, hs _ (by simp), hs _ (by simp), hs _ (by simp)⟩ S2 J.swap hq H2 fun w2 v n x d u J' hdd H' => ⟨hag.put (by rcases hdd with rfl | rfl | rfl <;> simp) u, v1, v, n1', n, x1, x, J'.swap, H1.put u ?_ ?_ ?_, H'⟩
    all_goals rcases hdd with rfl | rfl | rfl <;> (apply Ne.symm; assumption)
  refine wpAny_grid (K1 := 3) (K2 := 1) (g := g + 2) (I := fun p q a w' => Ag [d1, d2, d3, f1, f2, f3] b a ∧ ∃ v1 v2 n1 n2 x1 x2, Pair w0 e 1 w' n1 v1 x1 n2 v2 x2 ∧ Half d1 d2 d3 X1 Y1 k1 m1 p a v1 n1 x1 ∧ Half f1 f2 f3 X2 Y2 k2 m2 q a v2 n2 x2) hr hl1 hl2 ?_ ?_ ?_ 4 0 0 b w (by decide) (by decide) (by decide)
    ⟨Ag.refl _ _, _, _, 0, 0, [], [], Pair.start w0 e 1 hb, .inl ⟨rfl, rfl, rfl⟩, .inl ⟨rfl, rfl, rfl⟩⟩
  · rintro p q a w' hp hq ⟨hag, v1, v2, n1', n2', x1, x2, J, H1, H2⟩
    refine chain_step C1 i z h1 h2 h3 h4 h5 h6 hbs hag ⟨by simp, by simp, by simp, n1, n2, hs _ (by simp), hs _ (by simp), hs _ (by simp)⟩ S1 J hp H1 fun w2 v n x d u J' hdd H' => ⟨hag.put (by rcases hdd with rfl | rfl | rfl <;> simp) u, v, v2, n, n2', x, x2, J', H', H2.put u ?_ ?_ ?_⟩
    all_goals rcases hdd with rfl | rfl | rfl <;> assumption
  · exact fun p q a w' hp hq => step2 p q a w' (by omega)
  · intro a w' hI
    refine wpAny_all r1 (by simp) fun i hi => ?_
    obtain rfl := List.mem_singleton.1 hi
    rw [r3]
    refine wpOp_mono (fun a w' hI => ?_) (step2 3 1 a w' (by decide) hI)
    refine wpAny_all r2 (by simp) fun i hi => ?_
    obtain rfl := List.mem_singleton.1 hi
    rw [r4]
    refine wpOp_mono (fun a w' hI => ?_) (step2 3 2 a w' (by decide) hI)
    obtain ⟨hag, v1, v2, n1', n2', x1, x2, J, H1, H2⟩ := hI
    rcases H1 with ⟨h, _⟩ | ⟨h, _⟩ | ⟨h, _⟩ | ⟨_, rfl, rfl, e1⟩
    · cases h
    · cases h
    · cases h
    rcases H2 with ⟨h, _⟩ | ⟨h, _⟩ | ⟨h, _⟩ | ⟨_, rfl, rfl, e2⟩
    · cases h
    · cases h
    · cases h
    exact hd a w' v1 v2 J e1 e2 hag
theorem wpAny_at {fuel : Nat} {l l' : Array Bool} {a : Act} {w : World} (h : l = l') (H : wpAny P md ops Q fuel l' a w) : wpAny P md ops Q fuel l a w := by rw [h]; exact H
end
/-- A piece of code in a frame of which it is told only what it reads. -/
theorem wp_frame {P : Program} {c : Code} {Q : Exit → Act → World → Prop} {a : Act} {w : World} (S : Act → Prop) (T : Act → Act → World → Prop) (hp : ∀ c (a a' : Act) w, a.defers = a'.defers → Q (.panic c) a w → Q (.panic c) a' w) (hS : S a)
    (h : ∀ (Q' : Exit → Act → World → Prop) (b : Act), S b → (∀ c (a a' : Act) w, a.defers = a'.defers → Q' (.panic c) a w → Q' (.panic c) a' w) → (∀ a' w', T b a' w' → Q' .normal a' w') → c.wp P Q' b w)
    (hk : ∀ a' w', T a a' w' → Q .normal a' w') : c.wp P Q a w := h Q a hS hp hk
end Go.Proofs.Ytofoaheiblhpoaa
