/- package match: Limits, Top, Bottom. -/
import Derived.Test.YtkgmfbfpmlnfcaaGreatDoorQMaValP
import Derived.BigRegion
import Derived.Test.YtkgmfbfpmlnfcaaGreatDoorQRoNoneP
namespace Go.Proofs.YtkgmfbfpmlnfcaaGreatDoor
open Go.RowKit

structure Lm where
  wide : Bool
  min : Int
  max : Int
  has : Bool
def cellsL (l : Lm) : List Value := [.bool l.wide, .int .u64 l.min, .int .u64 l.max, .bool l.has]
def limB (a b : Lm) : Bool := if a.wide ≠ b.wide ∨ a.min < b.min then false else !b.has || (a.has && decide (a.max ≤ b.max))
/-- A heap type's family. -/
def endsV (n : Nat) (ts : List Sb) (h : Hp) : Int × Int := if closedB n h = true then fam (kindAt ts h) else (0, 0)
end Go.Proofs.YtkgmfbfpmlnfcaaGreatDoor

/- package match: the order of heap types, value types, composite types, in a table whose Supers have lower numbers (no program in sight). -/
namespace Go.Proofs.YtkgmfbfpmlnfcaaGreatDoor
open Go.RowKit

/-- A table whose Supers have lower numbers, and are of functions just for functions. -/
def SupOk (ts : List Sb) : Prop := ∀ (n : Nat) y, ts[n]? = some y → ∀ h ∈ y.sups, ∀ k : Nat, h.n = (k : Int) → k < n ∧ ∀ u, ts[k]? = some u → (u.k = 1 ↔ y.k = 1)
section
variable {ts : List Sb}
theorem UpTo.le (hs : SupOk ts) {i j : Nat} (h : UpTo ts i j) : j ≤ i := by
  induction h with
  | refl => exact Nat.le_refl _
  | step _ h3 h4 h5 ih => have := (hs _ _ h3 _ h4 _ h5).1; omega
theorem UpTo.fn (hs : SupOk ts) {i j : Nat} {x y : Sb} (hx : ts[i]? = some x) (hy : ts[j]? = some y) (h : UpTo ts i j) : y.k = 1 ↔ x.k = 1 := by
  induction h generalizing y with
  | refl => rw [hx] at hy; obtain rfl := Option.some.inj hy; exact Iff.rfl
  | step _ h3 h4 h5 ih => exact ((hs _ _ h3 _ h4 _ h5).2 _ hy).trans (ih h3)
theorem gk {k : Int} (h : 1 ≤ k ∧ k ≤ 12) : ∃ a : Fin 12, k = (a.val : Int) + 1 := ⟨⟨(k - 1).toNat, by omega⟩, by simp; omega⟩
theorem bel_refl (a : Int) : belowB a a = true := by simp [belowB, belowG]
theorem bel_trans0 : ∀ a b c : Fin 12, belowB ((a.val : Int) + 1) ((b.val : Int) + 1) = true → belowB ((b.val : Int) + 1) ((c.val : Int) + 1) = true → belowB ((a.val : Int) + 1) ((c.val : Int) + 1) = true := by decide +kernel
theorem bel_anti0 : ∀ a b : Fin 12, belowB ((a.val : Int) + 1) ((b.val : Int) + 1) = true → belowB ((b.val : Int) + 1) ((a.val : Int) + 1) = true → a = b := by decide +kernel
theorem bel_bot0 : ∀ a b : Fin 12, (fam ((b.val : Int) + 1)).2 = (b.val : Int) + 1 → belowB ((a.val : Int) + 1) ((b.val : Int) + 1) = true → a = b := by decide +kernel
theorem bel_low0 : ∀ a c : Fin 12, belowB ((a.val : Int) + 1) ((c.val : Int) + 1) = true → belowB (fam ((a.val : Int) + 1)).2 ((c.val : Int) + 1) = true := by decide +kernel
theorem bel_trans {a b c : Int} (ha : 1 ≤ a ∧ a ≤ 12) (hb : 1 ≤ b ∧ b ≤ 12) (hc : 1 ≤ c ∧ c ≤ 12) (h1 : belowB a b = true) (h2 : belowB b c = true) : belowB a c = true := by
  obtain ⟨a, rfl⟩ := gk ha; obtain ⟨b, rfl⟩ := gk hb; obtain ⟨c, rfl⟩ := gk hc
  exact bel_trans0 a b c h1 h2
theorem bel_anti {a b : Int} (ha : 1 ≤ a ∧ a ≤ 12) (hb : 1 ≤ b ∧ b ≤ 12) (h1 : belowB a b = true) (h2 : belowB b a = true) : a = b := by
  obtain ⟨a, rfl⟩ := gk ha; obtain ⟨b, rfl⟩ := gk hb
  rw [bel_anti0 a b h1 h2]
theorem bel_bot {a b : Int} (ha : 1 ≤ a ∧ a ≤ 12) (hb : 1 ≤ b ∧ b ≤ 12) (h1 : (fam b).2 = b) (h2 : belowB a b = true) : a = b := by
  obtain ⟨a, rfl⟩ := gk ha; obtain ⟨b, rfl⟩ := gk hb
  rw [bel_bot0 a b h1 h2]
theorem bel_low {a c : Int} (ha : 1 ≤ a ∧ a ≤ 12) (hc : 1 ≤ c ∧ c ≤ 12) (h : belowB a c = true) : belowB (fam a).2 c = true := by
  obtain ⟨a, rfl⟩ := gk ha; obtain ⟨c, rfl⟩ := gk hc
  exact bel_low0 a c h
/-- What kinds of things types have. -/
theorem kindK_of {k : Int} (h : k = 1 ∨ k = 2 ∨ k = 3) : (kindK k = 7 ∧ k = 1) ∨ (kindK k = 4 ∧ k = 2) ∨ (kindK k = 5 ∧ k = 3) := by
  rcases h with rfl | rfl | rfl <;> decide
theorem kindK_rng {k : Int} (h : k = 1 ∨ k = 2 ∨ k = 3) : 1 ≤ kindK k ∧ kindK k ≤ 12 := by
  rcases h with rfl | rfl | rfl <;> decide
theorem bot_rng {k : Int} (h : k = 1 ∨ k = 2 ∨ k = 3) : 1 ≤ (fam (kindK k)).2 ∧ (fam (kindK k)).2 ≤ 12 ∧ (fam (fam (kindK k)).2).2 = (fam (kindK k)).2 ∧ kindK k ≠ (fam (kindK k)).2 ∧ kindK k ≠ 6 ∧ kindK k ≠ 8 ∧ ((fam (kindK k)).2 = 6 ∨ (fam (kindK k)).2 = 8) := by
  rcases h with rfl | rfl | rfl <;> decide
theorem bot_fn {k l : Int} (h : k = 1 ∨ k = 2 ∨ k = 3) (h' : l = 1 ∨ l = 2 ∨ l = 3) (e : l = 1 ↔ k = 1) : (fam (kindK k)).2 = (fam (kindK l)).2 := by
  rcases h with rfl | rfl | rfl <;> rcases h' with rfl | rfl | rfl <;> simp at e <;> decide
theorem TypC.k3 {n : Nat} {y : Sb} (h : TypC n y) : y.k = 1 ∨ y.k = 2 ∨ y.k = 3 := by
  rcases h.kind with h | h | h
  · exact .inl h.1
  · exact .inr (.inl h.1)
  · exact .inr (.inr h.1)
theorem Clo.k3 (hc : Clo ts) {n : Nat} {y : Sb} (hy : ts[n]? = some y) : y.k = 1 ∨ y.k = 2 ∨ y.k = 3 := (hc y (List.mem_of_getElem? hy)).k3
theorem closed_cases {n : Nat} {h : Hp} (hc : ClosedP n h) : (∃ m : Nat, h = ⟨15, m⟩ ∧ m < n) ∨ (∃ k, h = ⟨k, 0⟩ ∧ (1 ≤ k ∧ k ≤ 12) ∧ k ≠ 15) := by
  obtain ⟨k, n'⟩ := h
  rcases hc with ⟨h1, h2, h3⟩ | ⟨h1, h2, h3⟩
  · dsimp only at h1 h2 h3; subst h3; exact .inr ⟨k, rfl, ⟨h1, h2⟩, by omega⟩
  · dsimp only at h1 h2 h3; subst h1; exact .inl ⟨n'.toNat, by rw [Int.toNat_of_nonneg h2], by omega⟩
theorem closed_def {n m : Nat} (h : m < n) : ClosedP n ⟨15, m⟩ := .inr ⟨rfl, by simp, by simpa using h⟩
theorem closed_giv {n : Nat} {k : Int} (h : 1 ≤ k ∧ k ≤ 12) : ClosedP n ⟨k, 0⟩ := .inl ⟨h.1, h.2, rfl⟩
theorem heapP_def {m : Nat} {b : Hp} : HeapP ts ⟨15, m⟩ b ↔ m < ts.length ∧ ClosedP ts.length b ∧ ClimbP ts m b := by
  constructor
  · rintro ⟨h1, h2, h3⟩
    have hm : m < ts.length := by
      rcases h1 with h1 | h1
      · have := h1.2.1; simp at this
      · have := h1.2.2; simpa using this
    refine ⟨hm, h2, ?_⟩
    rcases h3 with rfl | ⟨_, h3⟩ | ⟨h3, _⟩ | ⟨h3, _⟩
    · exact ⟨m, .refl, .inl ⟨rfl, rfl⟩⟩
    · simpa using h3
    · exact absurd rfl h3
    · exact absurd rfl h3
  · rintro ⟨h1, h2, h3⟩
    exact ⟨closed_def h1, h2, .inr (.inl ⟨rfl, by simpa using h3⟩)⟩
theorem heapP_gd {k : Int} {m : Nat} (hk : k ≠ 15) : HeapP ts ⟨k, 0⟩ ⟨15, m⟩ ↔ (1 ≤ k ∧ k ≤ 12) ∧ ∃ s, ts[m]? = some s ∧ k = (fam (kindK s.k)).2 := by
  constructor
  · rintro ⟨h1, h2, h3⟩
    refine ⟨?_, ?_⟩
    · rcases h1 with h1 | h1
      · exact ⟨h1.1, h1.2.1⟩
      · exact absurd h1.1 hk
    · rcases h3 with h3 | ⟨h3, _⟩ | ⟨_, _, s, hs, h3⟩ | ⟨_, h3, _⟩
      · simp at h3; exact absurd h3.1 hk
      · exact absurd h3 hk
      · exact ⟨s, by simpa using hs, h3⟩
      · exact absurd rfl h3
  · rintro ⟨h1, s, hs, h3⟩
    exact ⟨closed_giv h1, closed_def (List.getElem?_eq_some_iff.1 hs).1, .inr (.inr (.inl ⟨hk, rfl, s, by simpa using hs, h3⟩))⟩
theorem heapP_gg {k l : Int} (hk : k ≠ 15) (hl : l ≠ 15) : HeapP ts ⟨k, 0⟩ ⟨l, 0⟩ ↔ (1 ≤ k ∧ k ≤ 12) ∧ (1 ≤ l ∧ l ≤ 12) ∧ belowB k l = true := by
  constructor
  · rintro ⟨h1, h2, h3⟩
    refine ⟨?_, ?_, ?_⟩
    · rcases h1 with h1 | h1
      · exact ⟨h1.1, h1.2.1⟩
      · exact absurd h1.1 hk
    · rcases h2 with h1 | h1
      · exact ⟨h1.1, h1.2.1⟩
      · exact absurd h1.1 hl
    · rcases h3 with h3 | ⟨h3, _⟩ | ⟨_, h3, _⟩ | ⟨_, _, h3⟩
      · simp at h3; rw [h3]; exact bel_refl _
      · exact absurd h3 hk
      · exact absurd h3 hl
      · exact h3
  · rintro ⟨h1, h2, h3⟩
    exact ⟨closed_giv h1, closed_giv h2, .inr (.inr (.inr ⟨hk, hl, h3⟩))⟩
theorem climb_dd (m n : Nat) : ClimbP ts m ⟨15, n⟩ ↔ UpTo ts m n := by
  constructor
  · rintro ⟨j, h1, h2⟩
    rcases h2 with ⟨_, h2⟩ | ⟨h2, _⟩
    · have : n = j := by dsimp only at h2; omega
      rw [this]; exact h1
    · exact absurd rfl h2
  · intro h; exact ⟨n, h, .inl ⟨rfl, rfl⟩⟩
theorem climb_dg {m : Nat} {k n : Int} (hk : k ≠ 15) : ClimbP ts m ⟨k, n⟩ ↔ ∃ j s, UpTo ts m j ∧ ts[j]? = some s ∧ belowB (kindK s.k) k = true := by
  constructor
  · rintro ⟨j, h1, h2⟩
    rcases h2 with ⟨h2, _⟩ | ⟨_, s, h2, h3⟩
    · exact absurd h2 hk
    · exact ⟨j, s, h1, h2, h3⟩
  · rintro ⟨j, s, h1, h2, h3⟩
    exact ⟨j, h1, .inr ⟨hk, s, h2, h3⟩⟩
theorem HeapP.left {a b : Hp} (h : HeapP ts a b) : HeapP ts a a := ⟨h.1, h.1, .inl rfl⟩
theorem HeapP.right {a b : Hp} (h : HeapP ts a b) : HeapP ts b b := ⟨h.2.1, h.2.1, .inl rfl⟩
theorem HeapP.trans (hc : Clo ts) (hs : SupOk ts) {a b c : Hp} (h1 : HeapP ts a b) (h2 : HeapP ts b c) : HeapP ts a c := by
  have ca := h1.1
  have cb := h1.2.1
  have cc := h2.2.1
  rcases closed_cases ca with ⟨m, rfl, hm⟩ | ⟨k, rfl, hk, k15⟩
  · rcases closed_cases cb with ⟨n, rfl, hn⟩ | ⟨l, rfl, hl, l15⟩
    · obtain ⟨_, _, h1⟩ := heapP_def.1 h1
      obtain ⟨_, _, j, h2, h3⟩ := heapP_def.1 h2
      exact heapP_def.2 ⟨hm, cc, j, ((climb_dd _ _).1 h1).trans h2, h3⟩
    · obtain ⟨_, _, h1⟩ := heapP_def.1 h1
      obtain ⟨j, s, q1, q2, q3⟩ := (climb_dg l15).1 h1
      have hk3 := hc.k3 q2
      rcases closed_cases cc with ⟨n, rfl, hn⟩ | ⟨o, rfl, ho, o15⟩
      · obtain ⟨_, u, hu, e⟩ := (heapP_gd l15).1 h2
        have hb := bot_rng (hc.k3 hu)
        have e2 := bel_bot (kindK_rng hk3) hl (by rw [e]; exact hb.2.2.1) q3
        have hb2 := bot_rng hk3
        rcases hb.2.2.2.2.2.2 with q | q <;> omega
      · obtain ⟨_, _, h2⟩ := (heapP_gg l15 o15).1 h2
        exact heapP_def.2 ⟨hm, cc, (climb_dg o15).2 ⟨j, s, q1, q2, bel_trans (kindK_rng hk3) hl ho q3 h2⟩⟩
  · rcases closed_cases cb with ⟨n, rfl, hn⟩ | ⟨l, rfl, hl, l15⟩
    · obtain ⟨_, u, hu, e⟩ := (heapP_gd k15).1 h1
      obtain ⟨_, _, h2⟩ := heapP_def.1 h2
      rcases closed_cases cc with ⟨o, rfl, ho⟩ | ⟨o, rfl, ho, o15⟩
      · have h3 := (climb_dd _ _).1 h2
        obtain ⟨y, hy⟩ : ∃ y, ts[o]? = some y := ⟨ts[o], by simp [ho]⟩
        exact (heapP_gd k15).2 ⟨hk, y, hy, e.trans (bot_fn (hc.k3 hu) (hc.k3 hy) (h3.fn hs hu hy))⟩
      · obtain ⟨j, s, q1, q2, q3⟩ := (climb_dg o15).1 h2
        have h4 := bot_fn (hc.k3 hu) (hc.k3 q2) (q1.fn hs hu q2)
        refine (heapP_gg k15 o15).2 ⟨hk, ho, ?_⟩
        rw [e, h4]
        exact bel_low (kindK_rng (hc.k3 q2)) ho q3
    · obtain ⟨_, _, h1⟩ := (heapP_gg k15 l15).1 h1
      rcases closed_cases cc with ⟨o, rfl, ho⟩ | ⟨o, rfl, ho, o15⟩
      · obtain ⟨_, u, hu, e⟩ := (heapP_gd l15).1 h2
        have e2 := bel_bot hk hl (by rw [e]; exact (bot_rng (hc.k3 hu)).2.2.1) h1
        rw [e2]; exact h2
      · obtain ⟨_, _, h2⟩ := (heapP_gg l15 o15).1 h2
        exact (heapP_gg k15 o15).2 ⟨hk, ho, bel_trans hk hl ho h1 h2⟩
theorem HeapP.anti (hc : Clo ts) (hs : SupOk ts) {a b : Hp} (h1 : HeapP ts a b) (h2 : HeapP ts b a) : a = b := by
  have ca := h1.1
  have cb := h1.2.1
  have mix : ∀ {m : Nat} {l : Int}, (1 ≤ l ∧ l ≤ 12) → l ≠ 15 → HeapP ts ⟨15, m⟩ ⟨l, 0⟩ → HeapP ts ⟨l, 0⟩ ⟨15, m⟩ → False := fun {m l} hl l15 h1 h2 => by
    obtain ⟨_, _, h1⟩ := heapP_def.1 h1
    obtain ⟨j, s, q1, q2, q3⟩ := (climb_dg l15).1 h1
    obtain ⟨_, u, hu, e⟩ := (heapP_gd l15).1 h2
    have hb := bot_rng (hc.k3 hu)
    have e2 := bel_bot (kindK_rng (hc.k3 q2)) hl (by rw [e]; exact hb.2.2.1) q3
    have hb2 := bot_rng (hc.k3 q2)
    rcases hb.2.2.2.2.2.2 with q | q <;> omega
  rcases closed_cases ca with ⟨m, rfl, hm⟩ | ⟨k, rfl, hk, k15⟩
  · rcases closed_cases cb with ⟨n, rfl, hn⟩ | ⟨l, rfl, hl, l15⟩
    · have q1 := ((climb_dd _ _).1 (heapP_def.1 h1).2.2).le hs
      have q2 := ((climb_dd _ _).1 (heapP_def.1 h2).2.2).le hs
      rw [show m = n by omega]
    · exact (mix hl l15 h1 h2).elim
  · rcases closed_cases cb with ⟨n, rfl, hn⟩ | ⟨l, rfl, hl, l15⟩
    · exact (mix hk k15 h2 h1).elim
    · rw [bel_anti hk hl ((heapP_gg k15 l15).1 h1).2.2 ((heapP_gg l15 k15).1 h2).2.2]
theorem heapP_self {m : Nat} (h : m < ts.length) : HeapP ts ⟨15, m⟩ ⟨15, m⟩ := ⟨closed_def h, closed_def h, .inl rfl⟩
theorem heapP_bot (hc : Clo ts) {m : Nat} {y : Sb} (hy : ts[m]? = some y) : HeapP ts ⟨(fam (kindK y.k)).2, 0⟩ ⟨15, m⟩ := by
  have := bot_rng (hc.k3 hy)
  exact (heapP_gd (by omega)).2 ⟨⟨this.1, this.2.1⟩, y, hy, rfl⟩
theorem top_rng {k : Int} (h : k = 1 ∨ k = 2 ∨ k = 3) : (1 ≤ (fam (kindK k)).1 ∧ (fam (kindK k)).1 ≤ 12) ∧ belowB (kindK k) (fam (kindK k)).1 = true := by
  rcases h with rfl | rfl | rfl <;> decide
theorem heapP_top (hc : Clo ts) {m : Nat} {y : Sb} (hy : ts[m]? = some y) : HeapP ts ⟨15, m⟩ ⟨(fam (kindK y.k)).1, 0⟩ := by
  have := top_rng (hc.k3 hy)
  exact heapP_def.2 ⟨(List.getElem?_eq_some_iff.1 hy).1, closed_giv this.1, (climb_dg (by omega)).2 ⟨m, y, .refl, hy, this.2⟩⟩
-- value types
theorem never_not {n : Nat} {v : Vl} (h : NeverP v) : ¬ ClosedP n ⟨v.h, v.n⟩ := by
  rw [h]
  rintro (⟨h1, _⟩ | ⟨h1, _⟩)
  · simp at h1
  · simp at h1
theorem ValP.refl_of {v : Vl} (h : ProperP ts.length v) : ValP ts v v := by
  refine ⟨h, h, ?_⟩
  rcases h with ⟨hk, h | h⟩ | ⟨hk, h⟩
  · exact .inr ⟨rfl, .inr (.inl h)⟩
  · exact .inr ⟨rfl, .inr (.inr ⟨fun q => q, h, h, .inl rfl⟩)⟩
  · exact .inr ⟨rfl, .inl hk⟩
theorem ValP.left {a b : Vl} (h : ValP ts a b) : ValP ts a a := .refl_of h.1
theorem ValP.right {a b : Vl} (h : ValP ts a b) : ValP ts b b := .refl_of h.2.1
theorem proper_num {n : Nat} {v : Vl} (h : ProperP n v) (hk : v.k ≠ 3) : v = ⟨v.k, false, 0, 0⟩ := by
  rcases h with ⟨h, _⟩ | ⟨_, _, _, h⟩
  · exact absurd h hk
  · exact h
theorem ValP.trans (hc : Clo ts) (hs : SupOk ts) {a b c : Vl} (h1 : ValP ts a b) (h2 : ValP ts b c) : ValP ts a c := by
  refine ⟨h1.1, h2.2.1, ?_⟩
  rcases h1.2.2 with h | ⟨e, h⟩
  · exact .inl h
  · rcases h2.2.2 with h' | ⟨e', h'⟩
    · exact .inl (e.trans h')
    · refine .inr ⟨e.trans e', ?_⟩
      rcases h with h | h | ⟨h, hh⟩
      · exact .inl h
      · exact .inr (.inl h)
      · rcases h' with h' | h' | ⟨h', hh'⟩
        · exact .inl (by rw [e]; exact h')
        · exact absurd hh.2.1 (never_not h')
        · exact .inr (.inr ⟨fun q => h' (h q), hh.trans hc hs hh'⟩)
theorem ValP.anti (hc : Clo ts) (hs : SupOk ts) {a b : Vl} (h1 : ValP ts a b) (h2 : ValP ts b a) : a = b := by
  have hk : a.k = b.k := by
    rcases h1.2.2 with h | ⟨e, _⟩
    · rcases h2.2.2 with h' | ⟨e', _⟩
      · omega
      · exact e'.symm
    · exact e
  by_cases h3 : a.k = 3
  · rcases h1.2.2 with h | ⟨_, h⟩
    · omega
    rcases h2.2.2 with h' | ⟨_, h'⟩
    · omega
    rcases h with h | h | ⟨h, hh⟩
    · exact absurd h3 h
    · rcases h' with h' | h' | ⟨h', hh'⟩
      · omega
      · rw [h, h']
      · exact absurd hh'.2.1 (never_not h)
    · rcases h' with h' | h' | ⟨h', hh'⟩
      · omega
      · exact absurd hh.2.1 (never_not h')
      · have e := hh.anti hc hs hh'
        obtain ⟨ak, al, ah, an⟩ := a
        obtain ⟨bk, bl, bh, bn⟩ := b
        simp at e hk h h'
        obtain ⟨rfl, rfl⟩ := e
        subst hk
        have : al = bl := by cases al <;> cases bl <;> simp_all
        rw [this]
  · rw [proper_num h1.1 h3, proper_num h1.2.1 (by omega), hk]
-- composite types
theorem WfV.proper {n : Nat} {v : Vl} (h : WfV (fun h => GivenP h ∨ NumC n h) v) : ProperP n v := by
  rcases h with ⟨hk, e⟩ | ⟨hk, h⟩
  · exact .inr ⟨by omega, by omega, by omega, e⟩
  · exact .inl ⟨hk, .inr h⟩
theorem listP_refl {α : Type} {R : α → α → Prop} {l : List α} (h : ∀ x ∈ l, R x x) : ListP R l l :=
  ⟨rfl, fun i x y hx hy => by rw [hx] at hy; obtain rfl := Option.some.inj hy; exact h x (List.mem_of_getElem? hx)⟩
theorem listP_anti {α : Type} {R : α → α → Prop} (ha : ∀ x y, R x y → R y x → x = y) {l m : List α} (h1 : ListP R l m) (h2 : ListP R m l) : l = m := by
  apply List.ext_getElem? 
  intro i
  by_cases hi : i < l.length
  · have hi' : i < m.length := by have := h1.1; omega
    obtain ⟨x, hx⟩ : ∃ x, l[i]? = some x := ⟨l[i], by simp [hi]⟩
    obtain ⟨y, hy⟩ : ∃ y, m[i]? = some y := ⟨m[i], by simp [hi']⟩
    rw [hx, hy, ha x y (h1.2 i x y hx hy) (h2.2 i y x hy hx)]
  · have hi' : ¬ i < m.length := by have := h1.1; omega
    rw [List.getElem?_eq_none (by omega), List.getElem?_eq_none (by omega)]
theorem fieldP_refl {n : Nat} (hn : n = ts.length) {f : Fl} (h : WfF (fun h => GivenP h ∨ NumC n h) f) : FieldP ts f f := by
  subst hn
  have hv : (f.p = 0 ∨ f.p = 8 ∨ f.p = 16) ∧ ValP ts f.v f.v := by
    rcases h with ⟨hp, h⟩ | ⟨hp, e⟩
    · exact ⟨.inl hp, .refl_of h.proper⟩
    · exact ⟨.inr hp, .refl_of (by rw [e]; exact .inr ⟨by decide, by decide, by decide, rfl⟩)⟩
  exact ⟨rfl, ⟨hv.1, rfl, hv.2⟩, fun _ => ⟨hv.1, rfl, hv.2⟩⟩
theorem fieldP_anti (hc : Clo ts) (hs : SupOk ts) {a b : Fl} (h1 : FieldP ts a b) (h2 : FieldP ts b a) : a = b := by
  obtain ⟨ap, av, am⟩ := a
  obtain ⟨bp, bv, bm⟩ := b
  obtain ⟨e1, ⟨_, e2, h3⟩, _⟩ := h1
  obtain ⟨_, ⟨_, _, h4⟩, _⟩ := h2
  dsimp only at e1 e2 h3 h4
  rw [e1, e2, h3.anti hc hs h4]
theorem fieldsP_refl {n : Nat} (hn : n = ts.length) {l : List Fl} (h : ∀ f ∈ l, WfF (fun h => GivenP h ∨ NumC n h) f) : FieldsP ts l l :=
  ⟨Nat.le_refl _, fun i x y hx hy => by rw [hx] at hy; obtain rfl := Option.some.inj hy; exact fieldP_refl hn (h x (List.mem_of_getElem? hx))⟩
theorem fieldsP_anti (hc : Clo ts) (hs : SupOk ts) {l m : List Fl} (h1 : FieldsP ts l m) (h2 : FieldsP ts m l) : l = m :=
  listP_anti (R := FieldP ts) (fun _ _ => fieldP_anti hc hs) ⟨Nat.le_antisymm h2.1 h1.1, h1.2⟩ ⟨Nat.le_antisymm h1.1 h2.1, h2.2⟩
theorem compP_refl {s : Sb} (h : TypC ts.length s) : CompP ts s s := by
  refine ⟨rfl, ?_⟩
  rcases h.kind with ⟨hk, _⟩ | ⟨hk, _⟩ | ⟨hk, _, _, hf⟩
  · exact .inl ⟨hk, listP_refl fun v hv => .refl_of (h.ps v hv).proper, listP_refl fun v hv => .refl_of (h.rs v hv).proper⟩
  · exact .inr (.inl ⟨hk, fieldsP_refl rfl h.fs⟩)
  · exact .inr (.inr ⟨hk, hf, hf, fieldsP_refl rfl h.fs⟩)
theorem compP_anti (hc : Clo ts) (hs : SupOk ts) {s x : Sb} (ht : TypC ts.length s) (hx : TypC ts.length x) (h1 : CompP ts s x) (h2 : CompP ts x s) : s.k = x.k ∧ s.ps = x.ps ∧ s.rs = x.rs ∧ s.fs = x.fs := by
  have e := h1.1
  have hva : ∀ a b, ValP ts a b → ValP ts b a → a = b := fun a b => ValP.anti hc hs
  rcases h1.2 with ⟨k1, p1, r1⟩ | ⟨k1, f1⟩ | ⟨k1, _, _, f1⟩
  · rcases h2.2 with ⟨_, p2, r2⟩ | ⟨k2, _⟩ | ⟨k2, _⟩
    · refine ⟨e, listP_anti hva p2 p1, listP_anti hva r1 r2, ?_⟩
      rcases ht.kind with ⟨_, q⟩ | ⟨q, _⟩ | ⟨q, _⟩
      · rcases hx.kind with ⟨_, q'⟩ | ⟨q', _⟩ | ⟨q', _⟩
        · rw [q, q']
        · omega
        · omega
      · omega
      · omega
    · omega
    · omega
  · rcases h2.2 with ⟨k2, _⟩ | ⟨_, f2⟩ | ⟨k2, _⟩
    · omega
    · rcases ht.kind with ⟨q, _⟩ | ⟨_, q1, q2⟩ | ⟨q, _⟩
      · omega
      · rcases hx.kind with ⟨q', _⟩ | ⟨_, q3, q4⟩ | ⟨q', _⟩
        · omega
        · exact ⟨e, by rw [q1, q3], by rw [q2, q4], fieldsP_anti hc hs f1 f2⟩
        · omega
      · omega
    · omega
  · rcases h2.2 with ⟨k2, _⟩ | ⟨k2, _⟩ | ⟨_, _, _, f2⟩
    · omega
    · omega
    · rcases ht.kind with ⟨q, _⟩ | ⟨q, _⟩ | ⟨_, q1, q2, _⟩
      · omega
      · omega
      · rcases hx.kind with ⟨q', _⟩ | ⟨q', _⟩ | ⟨_, q3, q4, _⟩
        · omega
        · omega
        · exact ⟨e, by rw [q1, q3], by rw [q2, q4], fieldsP_anti hc hs f1 f2⟩
end
end Go.Proofs.YtkgmfbfpmlnfcaaGreatDoor
