import Derived.Test.YtlcfkfijomnmnaaGreatDoorRows
namespace Go.Proofs.YtlcfkfijomnmnaaGreatDoor
def stamp (ws : List Nat) (x i : Nat) : List Nat := ws.set x (ws.getD x 0 / 4294967296 * 4294967296 + i)
theorem stamp_len (ws : List Nat) (x i : Nat) : (stamp ws x i).length = ws.length := by simp [stamp]
theorem stamp_at (ws : List Nat) (x i : Nat) (hx : x < ws.length) (hi : i < 4294967296) : (stamp ws x i).getD x 0 % 4294967296 = i := by
  simp [stamp, hx]; omega
theorem stamp_ne (ws : List Nat) (x i y : Nat) (h : y ≠ x) : (stamp ws x i).getD y 0 = ws.getD y 0 := by
  simp only [stamp, List.getD_eq_getElem?_getD, List.getElem?_set]
  rw [if_neg (fun e => h e.symm)]
theorem stamp_up (ws : List Nat) (x i y : Nat) (hi : i < 4294967296) : (stamp ws x i).getD y 0 / 4294967296 = ws.getD y 0 / 4294967296 := by
  by_cases h : y = x
  · subst h
    by_cases hy : y < ws.length
    · simp [stamp, hy]; omega
    · simp [stamp, hy]
  · rw [stamp_ne _ _ _ _ h]
theorem getD_set (l : List Nat) (i j x : Nat) (hi : i < l.length) : (l.set i x).getD j 0 = if j = i then x else l.getD j 0 := by
  simp only [List.getD_eq_getElem?_getD, List.getElem?_set]
  by_cases h : i = j
  · subst h; simp [hi]
  · rw [if_neg h, if_neg (fun e => h e.symm)]
structure HeapOk (h ws : List Nat) : Prop where
  lt : ∀ j, j < h.length → h.getD j 0 < ws.length
  back : ∀ j, j < h.length → ws.getD (h.getD j 0) 0 % 4294967296 = j
  ord : ∀ j, 0 < j → j < h.length → h.getD ((j - 1) / 2) 0 ≤ h.getD j 0
structure LowOnly (X : Nat → Prop) (ws ws' : List Nat) : Prop where
  len : ws'.length = ws.length
  up : ∀ k, ws'.getD k 0 / 4294967296 = ws.getD k 0 / 4294967296
  off : ∀ k, ¬ X k → ws'.getD k 0 = ws.getD k 0
theorem LowOnly.refl (X : Nat → Prop) (ws : List Nat) : LowOnly X ws ws := ⟨rfl, fun _ => rfl, fun _ _ => rfl⟩
theorem LowOnly.trans {X : Nat → Prop} {a b c : List Nat} (h : LowOnly X a b) (k : LowOnly X b c) : LowOnly X a c :=
  ⟨k.len.trans h.len, fun i => (k.up i).trans (h.up i), fun i hi => (k.off i hi).trans (h.off i hi)⟩
theorem LowOnly.stamp (X : Nat → Prop) (ws : List Nat) (x i : Nat) (hx : X x) (hi : i < 4294967296) : LowOnly X ws (stamp ws x i) :=
  ⟨stamp_len _ _ _, fun _ => stamp_up _ _ _ _ hi, fun _ hk => stamp_ne _ _ _ _ (fun e => hk (e ▸ hx))⟩
def riseP (x : Nat) (i : Nat) (h ws : List Nat) : List Nat × List Nat :=
  if hc : 0 < i ∧ x < h.getD ((i - 1) / 2) 0 then riseP x ((i - 1) / 2) (h.set i (h.getD ((i - 1) / 2) 0)) (stamp ws (h.getD ((i - 1) / 2) 0) i)
  else (h.set i x, stamp ws x i)
termination_by i
decreasing_by omega
structure Hole (h ws : List Nat) (i x : Nat) : Prop where
  lt : ∀ j, j < h.length → j ≠ i → h.getD j 0 < ws.length
  back : ∀ j, j < h.length → j ≠ i → ws.getD (h.getD j 0) 0 % 4294967296 = j
  ne : ∀ j, j < h.length → j ≠ i → h.getD j 0 ≠ x
theorem rise_ok (x : Nat) (i : Nat) : ∀ (h ws : List Nat), i < h.length → h.length < 4294967296 → x < ws.length → Hole h ws i x →
    (∀ j, 0 < j → j < h.length → j ≠ i → (j - 1) / 2 ≠ i → h.getD ((j - 1) / 2) 0 ≤ h.getD j 0) →
    (∀ j, 0 < j → j < h.length → (j - 1) / 2 = i → x ≤ h.getD j 0) →
    (∀ j, 0 < j → j < h.length → (j - 1) / 2 = i → 0 < i → h.getD ((i - 1) / 2) 0 ≤ h.getD j 0) →
    (riseP x i h ws).1.length = h.length ∧ HeapOk (riseP x i h ws).1 (riseP x i h ws).2 ∧ (∀ y, y ∈ (riseP x i h ws).1 ↔ y = x ∨ ∃ j, j < h.length ∧ j ≠ i ∧ h.getD j 0 = y) ∧
    LowOnly (fun y => y = x ∨ ∃ j, j < h.length ∧ j ≠ i ∧ h.getD j 0 = y) ws (riseP x i h ws).2 := by
  induction i using Nat.strongRecOn with
  | _ i ih =>
  intro h ws hi hlen hx hol hord hch hgr
  rw [riseP]
  split
  · rename_i hc
    obtain ⟨hi0, hlt⟩ := hc
    have hp : (i - 1) / 2 < i := by omega
    have hpl : (i - 1) / 2 < h.length := by omega
    obtain ⟨y, hy⟩ : ∃ y, h.getD ((i - 1) / 2) 0 = y := ⟨_, rfl⟩
    rw [hy] at hlt ⊢
    have g := fun j => getD_set h i j y hi
    have hl' : (h.set i y).length = h.length := by simp
    have q1 : Hole (h.set i y) (stamp ws y i) ((i - 1) / 2) x := by
      refine ⟨fun j h1 h2 => ?_, fun j h1 h2 => ?_, fun j h1 h2 => ?_⟩
      all_goals rw [hl'] at h1
      all_goals rw [g]
      · rw [stamp_len]
        split
        · rw [← hy]; exact hol.lt _ hpl (by omega)
        · exact hol.lt j h1 (by assumption)
      · split
        · rename_i e; subst e
          exact stamp_at _ _ _ (by rw [← hy]; exact hol.lt _ hpl (by omega)) (by omega)
        · rename_i e
          rw [stamp_ne _ _ _ _ (fun q => by
            have a := hol.back j h1 e
            have b := hol.back ((i - 1) / 2) hpl (by omega)
            rw [hy] at b; rw [q] at a; omega)]
          exact hol.back j h1 e
      · split
        · omega
        · exact hol.ne j h1 (by assumption)
    have q2 : ∀ j, 0 < j → j < (h.set i y).length → j ≠ (i - 1) / 2 → (j - 1) / 2 ≠ (i - 1) / 2 → (h.set i y).getD ((j - 1) / 2) 0 ≤ (h.set i y).getD j 0 := by
      intro j h1 h2 h3 h4
      rw [hl'] at h2
      rw [g, g]
      by_cases e : j = i
      · subst e; exact absurd rfl h4
      · rw [if_neg e]
        split
        · rename_i e2
          have := hgr j h1 h2 e2 hi0
          rw [hy] at this; exact this
        · rename_i e2
          exact hord j h1 h2 e e2
    have q3 : ∀ j, 0 < j → j < (h.set i y).length → (j - 1) / 2 = (i - 1) / 2 → x ≤ (h.set i y).getD j 0 := by
      intro j h1 h2 h3
      rw [hl'] at h2
      rw [g]
      split
      · omega
      · rename_i e
        have : h.getD ((j - 1) / 2) 0 ≤ h.getD j 0 := hord j h1 h2 e (by omega)
        rw [h3, hy] at this; omega
    have q4 : ∀ j, 0 < j → j < (h.set i y).length → (j - 1) / 2 = (i - 1) / 2 → 0 < (i - 1) / 2 → (h.set i y).getD (((i - 1) / 2 - 1) / 2) 0 ≤ (h.set i y).getD j 0 := by
      intro j h1 h2 h3 h4
      rw [hl'] at h2
      rw [g, g, if_neg (by omega)]
      have a : h.getD (((i - 1) / 2 - 1) / 2) 0 ≤ y := by
        have := hord ((i - 1) / 2) h4 hpl (by omega) (by omega)
        rw [hy] at this; exact this
      split
      · exact a
      · rename_i e
        have : h.getD ((j - 1) / 2) 0 ≤ h.getD j 0 := hord j h1 h2 e (by omega)
        rw [h3, hy] at this; omega
    obtain ⟨r1, r2, r3, r4⟩ := ih ((i - 1) / 2) hp (h.set i y) (stamp ws y i) (by rw [hl']; exact hpl) (by rw [hl']; exact hlen) (by rw [stamp_len]; exact hx) q1 q2 q3 q4
    have key : ∀ z, (∃ j, j < (h.set i y).length ∧ j ≠ (i - 1) / 2 ∧ (h.set i y).getD j 0 = z) ↔ ∃ j, j < h.length ∧ j ≠ i ∧ h.getD j 0 = z := by
      intro z
      constructor
      · rintro ⟨j, h1, h2, h3⟩
        rw [hl'] at h1
        rw [g] at h3
        split at h3
        · exact ⟨(i - 1) / 2, hpl, by omega, by rw [hy]; exact h3⟩
        · exact ⟨j, h1, by assumption, h3⟩
      · rintro ⟨j, h1, h2, h3⟩
        by_cases e : j = (i - 1) / 2
        · refine ⟨i, by rw [hl']; exact hi, by omega, ?_⟩
          rw [g, if_pos rfl, ← hy, ← e]; exact h3
        · exact ⟨j, by rw [hl']; exact h1, e, by rw [g, if_neg h2]; exact h3⟩
    refine ⟨r1.trans hl', r2, fun z => by rw [r3 z, key z], ?_⟩
    refine (LowOnly.stamp _ ws y i (.inr ⟨(i - 1) / 2, hpl, by omega, hy⟩) (by omega)).trans ?_
    exact ⟨r4.len, r4.up, fun k hk => r4.off k (fun q => hk (q.imp_right (key k).1))⟩
  · rename_i hc
    have g := fun j => getD_set h i j x hi
    have hl' : (h.set i x).length = h.length := by simp
    refine ⟨hl', ⟨fun j h1 => ?_, fun j h1 => ?_, fun j h1 h2 => ?_⟩, fun y => ?_, LowOnly.stamp _ ws x i (.inl rfl) (by omega)⟩
    · rw [hl'] at h1
      rw [g, stamp_len]
      split
      · exact hx
      · exact hol.lt j h1 (by assumption)
    · rw [hl'] at h1
      dsimp only
      rw [g]
      split
      · rename_i e; subst e; exact stamp_at _ _ _ hx (by omega)
      · rename_i e
        rw [stamp_ne _ _ _ _ (hol.ne j h1 e)]
        exact hol.back j h1 e
    · rw [hl'] at h2
      rw [g, g]
      by_cases e : j = i
      · rw [if_pos e, if_neg (by omega)]
        subst e
        have : ¬ x < h.getD ((j - 1) / 2) 0 := fun q => hc ⟨h1, q⟩
        omega
      · rw [if_neg e]
        split
        · rename_i e2; exact hch j h1 h2 e2
        · rename_i e2; exact hord j h1 h2 e e2
    · constructor
      · intro hm
        obtain ⟨j, hj, he⟩ := List.mem_iff_getElem.1 hm
        rw [hl'] at hj
        have := g j
        rw [List.getD_eq_getElem?_getD, List.getElem?_eq_getElem (by rw [hl']; exact hj)] at this
        simp only [Option.getD_some] at this
        rw [he] at this
        split at this
        · exact .inl this
        · exact .inr ⟨j, hj, by assumption, this.symm⟩
      · rintro (rfl | ⟨j, h1, h2, h3⟩)
        · exact List.mem_iff_getElem.2 ⟨i, by rw [hl']; exact hi, by simp⟩
        · refine List.mem_iff_getElem.2 ⟨j, by rw [hl']; exact h1, ?_⟩
          have := g j
          rw [List.getD_eq_getElem?_getD, List.getElem?_eq_getElem (by rw [hl']; exact h1), if_neg h2] at this
          simp only [Option.getD_some] at this
          rw [this, h3]
def leastP (i : Nat) (h : List Nat) : Nat := if 2 * i + 2 < h.length ∧ h.getD (2 * i + 2) 0 < h.getD (2 * i + 1) 0 then 2 * i + 2 else 2 * i + 1
def fallP (x : Nat) (i : Nat) (h ws : List Nat) : List Nat × List Nat :=
  if _ : leastP i h < h.length ∧ h.getD (leastP i h) 0 ≤ x then fallP x (leastP i h) (h.set i (h.getD (leastP i h) 0)) (stamp ws (h.getD (leastP i h) 0) i)
  else (h.set i x, stamp ws x i)
termination_by h.length - i
decreasing_by
  have : i < leastP i h := by unfold leastP; split <;> omega
  simp only [List.length_set]; omega
theorem mem_set_iff {h : List Nat} {i x y : Nat} (hi : i < h.length) : y ∈ h.set i x ↔ y = x ∨ ∃ j, j < h.length ∧ j ≠ i ∧ h.getD j 0 = y := by
  have g := fun j => getD_set h i j x hi
  have hl' : (h.set i x).length = h.length := by simp
  constructor
  · intro hm
    obtain ⟨j, hj, he⟩ := List.mem_iff_getElem.1 hm
    rw [hl'] at hj
    have := g j
    rw [List.getD_eq_getElem?_getD, List.getElem?_eq_getElem (by rw [hl']; exact hj)] at this
    simp only [Option.getD_some] at this
    rw [he] at this
    split at this
    · exact .inl this
    · exact .inr ⟨j, hj, by assumption, this.symm⟩
  · rintro (rfl | ⟨j, h1, h2, h3⟩)
    · exact List.mem_iff_getElem.2 ⟨i, by rw [hl']; exact hi, by simp⟩
    · refine List.mem_iff_getElem.2 ⟨j, by rw [hl']; exact h1, ?_⟩
      have := g j
      rw [List.getD_eq_getElem?_getD, List.getElem?_eq_getElem (by rw [hl']; exact h1), if_neg h2] at this
      simp only [Option.getD_some] at this
      rw [this, h3]
theorem hole_move {h ws : List Nat} {i l x y : Nat} (hi : i < h.length) (hl : l < h.length) (hil : l ≠ i) (hlen : h.length < 4294967296) (hol : Hole h ws i x) (hy : h.getD l 0 = y) : Hole (h.set i y) (stamp ws y i) l x := by
  have g := fun j => getD_set h i j y hi
  have hl' : (h.set i y).length = h.length := by simp
  refine ⟨fun j h1 h2 => ?_, fun j h1 h2 => ?_, fun j h1 h2 => ?_⟩
  all_goals rw [hl'] at h1
  all_goals rw [g]
  · rw [stamp_len]
    split
    · rw [← hy]; exact hol.lt _ hl hil
    · exact hol.lt j h1 (by assumption)
  · split
    · rename_i e; subst e
      exact stamp_at _ _ _ (by rw [← hy]; exact hol.lt _ hl hil) (by omega)
    · rename_i e
      rw [stamp_ne _ _ _ _ (fun q => by
        have a := hol.back j h1 e
        have b := hol.back l hl hil
        rw [hy] at b; rw [q] at a; omega)]
      exact hol.back j h1 e
  · split
    · rw [← hy]; exact hol.ne l hl hil
    · exact hol.ne j h1 (by assumption)
theorem hole_key {h : List Nat} {i l y : Nat} (hi : i < h.length) (hl : l < h.length) (hil : l ≠ i) (hy : h.getD l 0 = y) (z : Nat) : (∃ j, j < (h.set i y).length ∧ j ≠ l ∧ (h.set i y).getD j 0 = z) ↔ ∃ j, j < h.length ∧ j ≠ i ∧ h.getD j 0 = z := by
  have g := fun j => getD_set h i j y hi
  have hl' : (h.set i y).length = h.length := by simp
  constructor
  · rintro ⟨j, h1, h2, h3⟩
    rw [hl'] at h1
    rw [g] at h3
    split at h3
    · exact ⟨l, hl, hil, by rw [hy]; exact h3⟩
    · exact ⟨j, h1, by assumption, h3⟩
  · rintro ⟨j, h1, h2, h3⟩
    by_cases e : j = l
    · refine ⟨i, by rw [hl']; exact hi, fun q => hil q.symm, ?_⟩
      rw [g, if_pos rfl, ← hy, ← e]; exact h3
    · exact ⟨j, by rw [hl']; exact h1, e, by rw [g, if_neg h2]; exact h3⟩
theorem hole_fill {h ws : List Nat} {i x : Nat} (hi : i < h.length) (hlen : h.length < 4294967296) (hx : x < ws.length) (hol : Hole h ws i x) :
    (∀ j, j < (h.set i x).length → (h.set i x).getD j 0 < (stamp ws x i).length) ∧ ∀ j, j < (h.set i x).length → (stamp ws x i).getD ((h.set i x).getD j 0) 0 % 4294967296 = j := by
  have g := fun j => getD_set h i j x hi
  have hl' : (h.set i x).length = h.length := by simp
  refine ⟨fun j h1 => ?_, fun j h1 => ?_⟩
  all_goals rw [hl'] at h1
  · rw [g, stamp_len]
    split
    · exact hx
    · exact hol.lt j h1 (by assumption)
  · rw [g]
    split
    · rename_i e; subst e; exact stamp_at _ _ _ hx (by omega)
    · rename_i e
      rw [stamp_ne _ _ _ _ (hol.ne j h1 e)]
      exact hol.back j h1 e
theorem fall_ok (x : Nat) : ∀ (n i : Nat) (h ws : List Nat) (T : Prop), h.length - i ≤ n → i < h.length → h.length < 4294967296 → x < ws.length → Hole h ws i x →
    (∀ j, 0 < j → j < h.length → j ≠ i → (j - 1) / 2 ≠ i → h.getD ((j - 1) / 2) 0 ≤ h.getD j 0) →
    (∀ j, 0 < j → j < h.length → (j - 1) / 2 = i → 0 < i → h.getD ((i - 1) / 2) 0 ≤ h.getD j 0) →
    (T → 0 < i → h.getD ((i - 1) / 2) 0 ≤ x) →
    (fallP x i h ws).1.length = h.length ∧
    (∀ j, j < (fallP x i h ws).1.length → (fallP x i h ws).1.getD j 0 < (fallP x i h ws).2.length) ∧
    (∀ j, j < (fallP x i h ws).1.length → (fallP x i h ws).2.getD ((fallP x i h ws).1.getD j 0) 0 % 4294967296 = j) ∧
    (∀ j, 0 < j → j < h.length → (j ≠ i ∨ T) → (fallP x i h ws).1.getD ((j - 1) / 2) 0 ≤ (fallP x i h ws).1.getD j 0) ∧
    (∀ j, 0 < j → j < h.length → (j - 1) / 2 = i → 0 < i → (fallP x i h ws).1.getD ((i - 1) / 2) 0 ≤ (fallP x i h ws).1.getD j 0) ∧
    (∀ y, y ∈ (fallP x i h ws).1 ↔ y = x ∨ ∃ j, j < h.length ∧ j ≠ i ∧ h.getD j 0 = y) ∧
    LowOnly (fun y => y = x ∨ ∃ j, j < h.length ∧ j ≠ i ∧ h.getD j 0 = y) ws (fallP x i h ws).2 := by
  intro n
  induction n with
  | zero => intro i h ws T h0 hi; omega
  | succ n ih =>
  intro i h ws T hn hi hlen hx hol hord hgr hT
  rw [fallP]
  have hil : i < leastP i h := by unfold leastP; split <;> omega
  have hpar : (leastP i h - 1) / 2 = i := by unfold leastP; split <;> omega
  have hleast : ∀ j, 0 < j → j < h.length → (j - 1) / 2 = i → h.getD (leastP i h) 0 ≤ h.getD j 0 := by
    intro j h1 h2 h3
    have hj : j = 2 * i + 1 ∨ j = 2 * i + 2 := by omega
    unfold leastP
    split
    · rcases hj with rfl | rfl
      · omega
      · exact Nat.le_refl _
    · rename_i hc
      rcases hj with rfl | rfl
      · exact Nat.le_refl _
      · have : ¬ h.getD (2 * i + 2) 0 < h.getD (2 * i + 1) 0 := fun q => hc ⟨h2, q⟩
        omega
  have hlb : 2 * i + 1 < h.length → leastP i h < h.length := fun _ => by unfold leastP; split <;> omega
  generalize leastP i h = l at hil hpar hleast hlb
  split
  · rename_i hc
    obtain ⟨hll, hle⟩ := hc
    obtain ⟨y, hy⟩ : ∃ y, h.getD l 0 = y := ⟨_, rfl⟩
    rw [hy] at hle hleast ⊢
    have g := fun j => getD_set h i j y hi
    have hl' : (h.set i y).length = h.length := by simp
    have q2 : ∀ j, 0 < j → j < (h.set i y).length → j ≠ l → (j - 1) / 2 ≠ l → (h.set i y).getD ((j - 1) / 2) 0 ≤ (h.set i y).getD j 0 := by
      intro j h1 h2 h3 h4
      rw [hl'] at h2
      rw [g, g]
      by_cases e : j = i
      · subst e
        rw [if_neg (by omega), if_pos rfl, ← hy]
        exact hgr l (by omega) hll hpar h1
      · rw [if_neg e]
        split
        · rename_i e2; exact hleast j h1 h2 e2
        · rename_i e2; exact hord j h1 h2 e e2
    have q4 : ∀ j, 0 < j → j < (h.set i y).length → (j - 1) / 2 = l → 0 < l → (h.set i y).getD ((l - 1) / 2) 0 ≤ (h.set i y).getD j 0 := by
      intro j h1 h2 h3 h4
      rw [hl'] at h2
      rw [hpar, g, g, if_pos rfl, if_neg (by omega)]
      have := hord j h1 h2 (by omega) (by omega)
      rw [h3, hy] at this; exact this
    have q5 : True → 0 < l → (h.set i y).getD ((l - 1) / 2) 0 ≤ x := fun _ _ => by
      rw [hpar, g, if_pos rfl]; exact hle
    obtain ⟨r1, r2, r3, r4, r5, r6, r7⟩ := ih l (h.set i y) (stamp ws y i) True (by rw [hl']; omega) (by rw [hl']; exact hll) (by rw [hl']; exact hlen) (by rw [stamp_len]; exact hx) (hole_move hi hll (by omega) hlen hol hy) q2 q4 q5
    have key := hole_key hi hll (by omega) hy
    rw [hl'] at r4 r5
    refine ⟨r1.trans hl', r2, r3, fun j h1 h2 _ => r4 j h1 h2 (.inr trivial), fun j h1 h2 h3 h4 => ?_, fun z => by rw [r6 z, key z], ?_⟩
    · have a := r4 j h1 h2 (.inr trivial)
      have b := r4 i h4 hi (.inr trivial)
      rw [h3] at a
      exact Nat.le_trans b a
    · refine (LowOnly.stamp _ ws y i (.inr ⟨l, hll, by omega, hy⟩) (by omega)).trans ?_
      exact ⟨r7.len, r7.up, fun k hk => r7.off k (fun q => hk (q.imp_right (key k).1))⟩
  · rename_i hc
    have g := fun j => getD_set h i j x hi
    have hl' : (h.set i x).length = h.length := by simp
    obtain ⟨f1, f2⟩ := hole_fill hi hlen hx hol
    refine ⟨hl', f1, f2, fun j h1 h2 h3 => ?_, fun j h1 h2 h3 h4 => ?_, fun y => mem_set_iff hi, LowOnly.stamp _ ws x i (.inl rfl) (by omega)⟩
    · dsimp only
      rw [g, g]
      by_cases e : j = i
      · subst e
        rw [if_neg (by omega), if_pos rfl]
        exact hT (h3.resolve_left (fun q => q rfl)) h1
      · rw [if_neg e]
        split
        · rename_i e2
          have a := hleast j h1 h2 e2
          by_cases hll : l < h.length
          · have : ¬ h.getD l 0 ≤ x := fun q => hc ⟨hll, q⟩
            omega
          · exact absurd (hlb (by omega)) hll
        · rename_i e2; exact hord j h1 h2 e e2
    · dsimp only
      rw [g, g, if_neg (by omega), if_neg (by omega)]
      exact hgr j h1 h2 h3 h4
def addP (x : Nat) (h ws : List Nat) : List Nat × List Nat := riseP x h.length (h ++ [x]) ws
def delP (i : Nat) (h ws : List Nat) : List Nat × List Nat :=
  if i < h.length - 1 then
    let r := fallP (h.getD (h.length - 1) 0) i ((h.take (h.length - 1)).set i (h.getD (h.length - 1) 0)) ws
    riseP (r.1.getD i 0) i r.1 r.2
  else (h.take (h.length - 1), ws)
theorem mem_getD {h : List Nat} {y : Nat} : y ∈ h ↔ ∃ j, j < h.length ∧ h.getD j 0 = y := by
  rw [List.mem_iff_getElem]
  constructor
  · rintro ⟨j, hj, e⟩; exact ⟨j, hj, by simp [hj, e]⟩
  · rintro ⟨j, hj, e⟩; exact ⟨j, hj, by simpa [hj] using e⟩
theorem HeapOk.inj {h ws : List Nat} (k : HeapOk h ws) {i j : Nat} (hi : i < h.length) (hj : j < h.length) (e : h.getD i 0 = h.getD j 0) : i = j := by
  have a := k.back i hi
  have b := k.back j hj
  rw [e] at a; omega
theorem HeapOk.nil (ws : List Nat) : HeapOk [] ws := ⟨fun j h => by simp at h, fun j h => by simp at h, fun j _ h => by simp at h⟩
theorem HeapOk.low {X : Nat → Prop} {h ws ws' : List Nat} (k : HeapOk h ws) (l : LowOnly X ws ws') (hx : ∀ y ∈ h, ¬ X y) : HeapOk h ws' :=
  ⟨fun j hj => by rw [l.len]; exact k.lt j hj, fun j hj => by rw [l.off _ (hx _ (mem_getD.2 ⟨j, hj, rfl⟩))]; exact k.back j hj, k.ord⟩
theorem HeapOk.least {h ws : List Nat} (k : HeapOk h ws) : ∀ (j : Nat), j < h.length → h.getD 0 0 ≤ h.getD j 0 := by
  intro j
  induction j using Nat.strongRecOn with
  | _ j ih =>
  intro hj
  by_cases h0 : j = 0
  · subst h0; exact Nat.le_refl _
  · exact Nat.le_trans (ih ((j - 1) / 2) (by omega) (by omega)) (k.ord j (by omega) hj)
theorem addP_ok (x : Nat) (h ws : List Nat) (k : HeapOk h ws) (hx : x < ws.length) (hn : x ∉ h) (hlen : h.length < 4294967295) :
    (addP x h ws).1.length = h.length + 1 ∧ HeapOk (addP x h ws).1 (addP x h ws).2 ∧ (∀ y, y ∈ (addP x h ws).1 ↔ y = x ∨ y ∈ h) ∧ LowOnly (fun y => y = x ∨ y ∈ h) ws (addP x h ws).2 := by
  have g : ∀ j, j < h.length → (h ++ [x]).getD j 0 = h.getD j 0 := fun j hj => by simp only [List.getD_eq_getElem?_getD, List.getElem?_append_left hj]
  have hl : (h ++ [x]).length = h.length + 1 := by simp
  have key : ∀ y, (∃ j, j < (h ++ [x]).length ∧ j ≠ h.length ∧ (h ++ [x]).getD j 0 = y) ↔ y ∈ h := fun y => by
    rw [mem_getD]
    constructor
    · rintro ⟨j, h1, h2, h3⟩; exact ⟨j, by omega, by rw [← g j (by omega)]; exact h3⟩
    · rintro ⟨j, h1, h2⟩; exact ⟨j, by omega, by omega, by rw [g j h1]; exact h2⟩
  obtain ⟨r1, r2, r3, r4⟩ := rise_ok x h.length (h ++ [x]) ws (by omega) (by omega) hx
    ⟨fun j h1 h2 => by rw [g j (by omega)]; exact k.lt j (by omega), fun j h1 h2 => by rw [g j (by omega)]; exact k.back j (by omega), fun j h1 h2 e => by
      rw [g j (by omega)] at e; exact hn (mem_getD.2 ⟨j, by omega, e⟩)⟩
    (fun j h1 h2 h3 h4 => by rw [g j (by omega), g _ (by omega)]; exact k.ord j h1 (by omega)) (fun j h1 h2 h3 => by omega) (fun j h1 h2 h3 h4 => by omega)
  exact ⟨r1.trans hl, r2, fun y => by rw [addP, r3 y, key y], ⟨r4.len, r4.up, fun y hy => r4.off y (fun q => hy (q.imp_right (key y).1))⟩⟩
theorem delP_ok (x : Nat) (h ws : List Nat) (k : HeapOk h ws) (hx : x ∈ h) (hlen : h.length < 4294967296) :
    ws.getD x 0 % 4294967296 < h.length ∧ (delP (ws.getD x 0 % 4294967296) h ws).1.length = h.length - 1 ∧ HeapOk (delP (ws.getD x 0 % 4294967296) h ws).1 (delP (ws.getD x 0 % 4294967296) h ws).2 ∧
    (∀ y, y ∈ (delP (ws.getD x 0 % 4294967296) h ws).1 ↔ y ≠ x ∧ y ∈ h) ∧ LowOnly (fun y => y ≠ x ∧ y ∈ h) ws (delP (ws.getD x 0 % 4294967296) h ws).2 := by
  obtain ⟨i, hi, rfl⟩ := mem_getD.1 hx
  rw [k.back i hi]
  refine ⟨hi, ?_⟩
  have hpos : 0 < h.length := by omega
  have gt : ∀ j, j < h.length - 1 → (h.take (h.length - 1)).getD j 0 = h.getD j 0 := fun j hj => by
    simp only [List.getD_eq_getElem?_getD, List.getElem?_take, if_pos hj]
  have ht : (h.take (h.length - 1)).length = h.length - 1 := by simp
  rw [delP]
  split
  · rename_i hil
    obtain ⟨m, hm⟩ : ∃ m, h.getD (h.length - 1) 0 = m := ⟨_, rfl⟩
    rw [hm]
    have gs := fun j => getD_set (h.take (h.length - 1)) i j m (by omega)
    have g : ∀ j, j < h.length - 1 → j ≠ i → ((h.take (h.length - 1)).set i m).getD j 0 = h.getD j 0 := fun j h1 h2 => by rw [gs, if_neg h2, gt j h1]
    have hs : ((h.take (h.length - 1)).set i m).length = h.length - 1 := by simp
    generalize (h.take (h.length - 1)).set i m = H at g hs
    have key : ∀ y, (y = m ∨ ∃ j, j < H.length ∧ j ≠ i ∧ H.getD j 0 = y) ↔ y ≠ h.getD i 0 ∧ y ∈ h := fun y => by
      rw [mem_getD]
      constructor
      · rintro (rfl | ⟨j, h1, h2, h3⟩)
        · exact ⟨fun e => by rw [← hm] at e; have := k.inj (by omega) hi e; omega, h.length - 1, by omega, hm⟩
        · rw [g j (by omega) h2] at h3
          exact ⟨fun e => by rw [← h3] at e; exact h2 (k.inj (by omega) hi e), j, by omega, h3⟩
      · rintro ⟨h1, j, h2, h3⟩
        by_cases e : j = h.length - 1
        · subst e; exact .inl (by rw [← h3, hm])
        · have hji : j ≠ i := fun e => by subst e; exact h1 h3.symm
          exact .inr ⟨j, by omega, hji, by rw [g j (by omega) hji]; exact h3⟩
    have hml : m < ws.length := by rw [← hm]; exact k.lt _ (by omega)
    obtain ⟨f1, f2, f3, f4, f5, f6, f7⟩ := fall_ok m _ i H ws False (Nat.le_refl _) (by omega) (by omega) hml
      ⟨fun j h1 h2 => by rw [g j (by omega) h2]; exact k.lt j (by omega), fun j h1 h2 => by rw [g j (by omega) h2]; exact k.back j (by omega), fun j h1 h2 e => by
        rw [g j (by omega) h2, ← hm] at e; have := k.inj (by omega) (by omega) e; omega⟩
      (fun j h1 h2 h3 h4 => by rw [g j (by omega) h3, g _ (by omega) h4]; exact k.ord j h1 (by omega))
      (fun j h1 h2 h3 h4 => by
        rw [g j (by omega) (by omega), g _ (by omega) (by omega)]
        have a := k.ord j h1 (by omega)
        have b := k.ord i h4 hi
        rw [h3] at a; exact Nat.le_trans b a)
      (fun q => q.elim)
    generalize fallP m i H ws = R at f1 f2 f3 f4 f5 f6 f7
    obtain ⟨H', ws'⟩ := R
    dsimp only at f1 f2 f3 f4 f5 f6 f7 ⊢
    have hH : HeapOk H' ws' ∨ True := .inr trivial
    have inj : ∀ a b, a < H'.length → b < H'.length → H'.getD a 0 = H'.getD b 0 → a = b := fun a b ha hb e => by
      have p := f3 a ha
      have q := f3 b hb
      rw [e] at p; omega
    obtain ⟨r1, r2, r3, r4⟩ := rise_ok (H'.getD i 0) i H' ws' (by omega) (by omega) (f2 i (by omega))
      ⟨fun j h1 _ => f2 j h1, fun j h1 _ => f3 j h1, fun j h1 h2 e => h2 (inj j i h1 (by omega) e)⟩
      (fun j h1 h2 h3 _ => f4 j h1 (by omega) (.inl h3))
      (fun j h1 h2 h3 => by have := f4 j h1 (by omega) (.inl (by omega)); rw [h3] at this; exact this)
      (fun j h1 h2 h3 h4 => f5 j h1 (by omega) h3 h4)
    have key2 : ∀ y, (y = H'.getD i 0 ∨ ∃ j, j < H'.length ∧ j ≠ i ∧ H'.getD j 0 = y) ↔ y ∈ H' := fun y => by
      rw [mem_getD]
      constructor
      · rintro (rfl | ⟨j, h1, h2, h3⟩)
        · exact ⟨i, by omega, rfl⟩
        · exact ⟨j, h1, h3⟩
      · rintro ⟨j, h1, h2⟩
        by_cases e : j = i
        · subst e; exact .inl h2.symm
        · exact .inr ⟨j, h1, e, h2⟩
    refine ⟨by omega, r2, fun y => by rw [r3 y, key2 y, f6 y, key y], ?_⟩
    have f7' : LowOnly (fun y => y ≠ h.getD i 0 ∧ y ∈ h) ws ws' := ⟨f7.len, f7.up, fun y hy => f7.off y (fun q => hy ((key y).1 q))⟩
    exact f7'.trans ⟨r4.len, r4.up, fun y hy => r4.off y (fun q => hy ((key y).1 ((f6 y).1 ((key2 y).1 q))))⟩
  · rename_i hil
    have hie : i = h.length - 1 := by omega
    refine ⟨ht, ⟨fun j h1 => ?_, fun j h1 => ?_, fun j h1 h2 => ?_⟩, fun y => ?_, LowOnly.refl _ _⟩
    · rw [ht] at h1; rw [gt j h1]; exact k.lt j (by omega)
    · rw [ht] at h1; dsimp only; rw [gt j h1]; exact k.back j (by omega)
    · rw [ht] at h2; rw [gt j h2, gt _ (by omega)]; exact k.ord j h1 (by omega)
    · rw [mem_getD, mem_getD, ht]
      constructor
      · rintro ⟨j, h1, h2⟩
        rw [gt j h1] at h2
        exact ⟨fun e => by rw [← h2] at e; have := k.inj (by omega) hi e; omega, j, by omega, h2⟩
      · rintro ⟨h1, j, h2, h3⟩
        have : j ≠ i := fun e => by subst e; exact h1 h3.symm
        exact ⟨j, by omega, by rw [gt j (by omega)]; exact h3⟩
theorem pigeon : ∀ (n : Nat) (l : List Nat), l.Pairwise (· ≠ ·) → (∀ x ∈ l, x < n) → l.length ≤ n
  | 0, l, _, h => by
    cases l with
    | nil => simp
    | cons x l => exact absurd (h x (by simp)) (by omega)
  | n + 1, l, hp, h => by
    by_cases hn : n ∈ l
    · have h1 := pigeon n (l.erase n) (hp.sublist List.erase_sublist) (fun x hx => by
        have h2 := h x (List.mem_of_mem_erase hx)
        have h3 : x ≠ n := (List.Nodup.mem_erase_iff hp |>.1 hx).1
        omega)
      rw [List.length_erase_of_mem hn] at h1
      omega
    · have h1 := pigeon n l hp (fun x hx => by
        have h2 := h x hx
        have h3 : x ≠ n := fun e => hn (e ▸ hx)
        omega)
      omega
theorem HeapOk.len_le {h ws : List Nat} (k : HeapOk h ws) : h.length ≤ ws.length := by
  refine pigeon ws.length h ?_ (fun x hx => by obtain ⟨j, hj, rfl⟩ := mem_getD.1 hx; exact k.lt j hj)
  rw [List.pairwise_iff_getElem]
  intro i j hi hj hij e
  have := k.inj (i := i) (j := j) hi hj (by simp [hi, hj]; exact e)
  omega
structure Ent (V : Type) where
  s : Nat
  v : V
  h : List Nat
variable {V : Type}
theorem split_at (s : Nat) : ∀ (l : List (Ent V)), l.Pairwise (fun a b => a.s < b.s) → ∃ l1 l2, l = l1 ++ l2 ∧ (∀ e ∈ l1, e.s < s) ∧ ∀ e ∈ l2, s ≤ e.s
  | [], _ => ⟨[], [], rfl, fun _ h => by simp at h, fun _ h => by simp at h⟩
  | e :: l, hp => by
    obtain ⟨h1, h2⟩ := List.pairwise_cons.1 hp
    by_cases hs : e.s < s
    · obtain ⟨l1, l2, rfl, p, q⟩ := split_at s l h2
      exact ⟨e :: l1, l2, rfl, fun x hx => by rcases List.mem_cons.1 hx with rfl | hx; exact hs; exact p x hx, q⟩
    · exact ⟨[], e :: l, rfl, fun _ h => by simp at h, fun x hx => by
        rcases List.mem_cons.1 hx with rfl | hx
        · omega
        · have := h1 x hx; omega⟩
theorem split_tells (s : Nat) {l1 l2 : List (Ent V)} (p : ∀ e ∈ l1, e.s < s) (q : ∀ e ∈ l2, s ≤ e.s) (i : Nat) (e : Ent V) (hi : (l1 ++ l2)[i]? = some e) : decide (s ≤ e.s) = decide (l1.length ≤ i) := by
  by_cases h : i < l1.length
  · rw [List.getElem?_append_left h] at hi
    have := p e (List.mem_of_getElem? hi)
    rw [decide_eq_false (by omega), decide_eq_false (by omega)]
  · rw [List.getElem?_append_right (by omega)] at hi
    have := q e (List.mem_of_getElem? hi)
    rw [decide_eq_true (by omega), decide_eq_true (by omega)]
structure ListsOk (L : List (List (Ent V))) (ws : List Nat) (F : Nat → Nat → Prop) : Prop where
  sorted : ∀ (k : Nat) (l : List (Ent V)), L[k]? = some l → l.Pairwise (fun a b => a.s < b.s)
  pos : ∀ (k : Nat) (l : List (Ent V)), L[k]? = some l → ∀ e ∈ l, 0 < e.s ∧ Nat.log2 e.s = k ∧ e.h ≠ []
  heap : ∀ (k : Nat) (l : List (Ent V)), L[k]? = some l → ∀ e ∈ l, HeapOk e.h ws
  mem : ∀ (k : Nat) (l : List (Ent V)), L[k]? = some l → ∀ e ∈ l, ∀ x, x ∈ e.h ↔ F x e.s
  all : ∀ x s, F x s → ∃ l : List (Ent V), L[Nat.log2 s]? = some l ∧ ∃ e ∈ l, e.s = s
  uniq : ∀ x s s', F x s → F x s' → s = s'
def more (F : Nat → Nat → Prop) (x s : Nat) : Nat → Nat → Prop := fun y t => (y = x ∧ t = s) ∨ F y t
def less (F : Nat → Nat → Prop) (x : Nat) : Nat → Nat → Prop := fun y t => y ≠ x ∧ F y t
theorem getElem?_set_some {α : Type} {L : List α} {k j : Nat} {x y : α} (hk : k < L.length) (h : (L.set k x)[j]? = some y) : (j = k ∧ y = x) ∨ (j ≠ k ∧ L[j]? = some y) := by
  rw [List.getElem?_set] at h
  split at h
  · rename_i e; subst e; first | (rw [if_pos hk] at h; exact .inl ⟨rfl, by simpa using h.symm⟩) | exact .inl ⟨rfl, by simpa using h.symm⟩
  · rename_i e; exact .inr ⟨fun q => e q.symm, h⟩
theorem ListsOk.add {L : List (List (Ent V))} {ws ws' : List Nat} {F : Nat → Nat → Prop} (k : ListsOk L ws F) {x s : Nat} {l1 l2 : List (Ent V)} (old : List (Ent V)) {v : V} {h' : List Nat}
    (hs : 0 < s) (hL : L[Nat.log2 s]? = some (l1 ++ old ++ l2)) (hold : (old = [] ∧ ∀ t, ¬ F t s) ∨ ∃ e, old = [e] ∧ e.s = s) (p : ∀ e ∈ l1, e.s < s) (q : ∀ e ∈ l2, s < e.s)
    (hx : ∀ t, ¬ F x t) (hh : HeapOk h' ws') (hm : ∀ y, y ∈ h' ↔ y = x ∨ F y s) (hlow : LowOnly (fun y => y = x ∨ F y s) ws ws') :
    ListsOk (L.set (Nat.log2 s) (l1 ++ [⟨s, v, h'⟩] ++ l2)) ws' (more F x s) := by
  have hk : Nat.log2 s < L.length := (List.getElem?_eq_some_iff.1 hL).1
  have hne : ∀ (j : Nat) (l : List (Ent V)), L[j]? = some l → ∀ e ∈ l, e.s ≠ s → HeapOk e.h ws' := fun j l hl e he hes =>
    (k.heap j l hl e he).low hlow (fun y hy hc => by
      have hf := (k.mem j l hl e he y).1 hy
      rcases hc with rfl | hc
      · exact hx _ hf
      · exact hes (k.uniq y _ _ hf hc))
  have hmem : ∀ (j : Nat) (l : List (Ent V)), L[j]? = some l → ∀ e ∈ l, e.s ≠ s → ∀ y, y ∈ e.h ↔ more F x s y e.s := fun j l hl e he hes y => by
    rw [k.mem j l hl e he y]
    exact ⟨.inr, fun h => h.elim (fun h => absurd h.2 hes) id⟩
  have inner : ∀ e ∈ l1 ++ [⟨s, v, h'⟩] ++ l2, (e = ⟨s, v, h'⟩) ∨ (e ∈ l1 ++ old ++ l2 ∧ e.s ≠ s) := fun e he => by
    rcases List.mem_append.1 he with he | he
    · rcases List.mem_append.1 he with he | he
      · exact .inr ⟨by simp [he], by have := p e he; omega⟩
      · exact .inl (by simpa using he)
    · exact .inr ⟨by simp [he], by have := q e he; omega⟩
  refine ⟨fun j l hl => ?_, fun j l hl e he => ?_, fun j l hl e he => ?_, fun j l hl e he y => ?_, fun y t hyt => ?_, fun y t t' h1 h2 => ?_⟩
  · rcases getElem?_set_some hk hl with ⟨rfl, rfl⟩ | ⟨hj, hl⟩
    · have h0 := k.sorted _ _ hL
      rw [List.pairwise_append, List.pairwise_append] at h0 ⊢
      obtain ⟨⟨a1, _, _⟩, a2, a3⟩ := h0
      exact ⟨⟨a1, List.pairwise_singleton _ _, fun a ha b hb => by rw [List.mem_singleton.1 hb]; exact p a ha⟩, a2, fun a ha b hb => by
        rcases List.mem_append.1 ha with ha | ha
        · exact a3 a (by simp [ha]) b hb
        · rw [List.mem_singleton.1 ha]; exact q b hb⟩
    · exact k.sorted j l hl
  · rcases getElem?_set_some hk hl with ⟨rfl, rfl⟩ | ⟨hj, hl⟩
    · rcases inner e he with rfl | ⟨h1, _⟩
      · exact ⟨hs, rfl, fun h0 => by have := (hm x).2 (.inl rfl); dsimp only at h0; rw [h0] at this; simp at this⟩
      · exact k.pos _ _ hL e h1
    · exact k.pos j l hl e he
  · rcases getElem?_set_some hk hl with ⟨rfl, rfl⟩ | ⟨hj, hl⟩
    · rcases inner e he with rfl | ⟨h1, h2⟩
      · exact hh
      · exact hne _ _ hL e h1 h2
    · exact hne j l hl e he (fun h => by have := (k.pos j l hl e he).2.1; rw [h] at this; exact hj this.symm)
  · rcases getElem?_set_some hk hl with ⟨rfl, rfl⟩ | ⟨hj, hl⟩
    · rcases inner e he with rfl | ⟨h1, h2⟩
      · rw [hm y]
        exact ⟨fun h => h.elim (fun h => .inl ⟨h, rfl⟩) .inr, fun h => h.elim (fun h => .inl h.1) .inr⟩
      · exact hmem _ _ hL e h1 h2 y
    · exact hmem j l hl e he (fun h => by have := (k.pos j l hl e he).2.1; rw [h] at this; exact hj this.symm) y
  · have one : ∃ l, (L.set (Nat.log2 s) (l1 ++ [⟨s, v, h'⟩] ++ l2))[Nat.log2 s]? = some l ∧ ∃ e ∈ l, e.s = s := ⟨_, List.getElem?_set_self hk, ⟨s, v, h'⟩, by simp, rfl⟩
    by_cases ht : t = s
    · subst ht; exact one
    · have hf : F y t := hyt.elim (fun h => absurd h.2 ht) id
      obtain ⟨l, h1, e, h2, rfl⟩ := k.all y t hf
      by_cases hj : Nat.log2 e.s = Nat.log2 s
      · rw [hj] at h1 ⊢
        rw [hL] at h1
        simp only [Option.some.injEq] at h1
        subst h1
        refine ⟨_, List.getElem?_set_self hk, e, ?_, rfl⟩
        rcases List.mem_append.1 h2 with h2 | h2
        · rcases List.mem_append.1 h2 with h2 | h2
          · simp [h2]
          · rcases hold with ⟨rfl, _⟩ | ⟨e0, rfl, he0⟩
            · simp at h2
            · rw [List.mem_singleton.1 h2] at ht; exact absurd he0 ht
        · simp [h2]
      · exact ⟨l, by rw [List.getElem?_set_ne (fun q => hj q.symm)]; exact h1, e, h2, rfl⟩
  · rcases h1 with ⟨rfl, rfl⟩ | h1
    · rcases h2 with ⟨_, rfl⟩ | h2
      · rfl
      · exact absurd h2 (hx _)
    · rcases h2 with ⟨rfl, rfl⟩ | h2
      · exact absurd h1 (hx _)
      · exact k.uniq y t t' h1 h2
theorem ListsOk.drop {L : List (List (Ent V))} {ws ws' : List Nat} {F : Nat → Nat → Prop} (k : ListsOk L ws F) {x : Nat} {e : Ent V} {l1 l2 : List (Ent V)} (new : List (Ent V)) {v : V} {h' : List Nat}
    (hL : L[Nat.log2 e.s]? = some (l1 ++ e :: l2)) (hf : F x e.s) (hh : HeapOk h' ws') (hm : ∀ y, y ∈ h' ↔ y ≠ x ∧ y ∈ e.h) (hlow : LowOnly (fun y => y ≠ x ∧ y ∈ e.h) ws ws')
    (hnew : (new = [] ∧ h' = []) ∨ (new = [⟨e.s, v, h'⟩] ∧ h' ≠ [])) :
    ListsOk (L.set (Nat.log2 e.s) (l1 ++ new ++ l2)) ws' (less F x) := by
  have hk : Nat.log2 e.s < L.length := (List.getElem?_eq_some_iff.1 hL).1
  have hsorted := k.sorted _ _ hL
  rw [List.pairwise_append, List.pairwise_cons] at hsorted
  obtain ⟨s1, ⟨s2, s3⟩, s4⟩ := hsorted
  have hee : e ∈ l1 ++ e :: l2 := by simp
  have hef := k.mem _ _ hL e hee
  have hne : ∀ (j : Nat) (l : List (Ent V)), L[j]? = some l → ∀ a ∈ l, a.s ≠ e.s → HeapOk a.h ws' := fun j l hl a ha has =>
    (k.heap j l hl a ha).low hlow (fun y hy hc => has (k.uniq y _ _ ((k.mem j l hl a ha y).1 hy) ((hef y).1 hc.2)))
  have hmem : ∀ (j : Nat) (l : List (Ent V)), L[j]? = some l → ∀ a ∈ l, a.s ≠ e.s → ∀ y, y ∈ a.h ↔ less F x y a.s := fun j l hl a ha has y => by
    rw [k.mem j l hl a ha y]
    exact ⟨fun h => ⟨fun q => by subst q; exact has (k.uniq _ _ _ h hf), h⟩, fun h => h.2⟩
  have inner : ∀ a ∈ l1 ++ new ++ l2, (a = ⟨e.s, v, h'⟩ ∧ h' ≠ []) ∨ (a ∈ l1 ++ e :: l2 ∧ a.s ≠ e.s) := fun a ha => by
    rcases List.mem_append.1 ha with ha | ha
    · rcases List.mem_append.1 ha with ha | ha
      · exact .inr ⟨by simp [ha], by have := s4 a ha e (by simp); omega⟩
      · rcases hnew with ⟨rfl, _⟩ | ⟨rfl, h0⟩
        · simp at ha
        · exact .inl ⟨by simpa using ha, h0⟩
    · exact .inr ⟨by simp [ha], by have := s2 a ha; omega⟩
  refine ⟨fun j l hl => ?_, fun j l hl a ha => ?_, fun j l hl a ha => ?_, fun j l hl a ha y => ?_, fun y t hyt => ?_, fun y t t' h1 h2 => k.uniq y t t' h1.2 h2.2⟩
  · rcases getElem?_set_some hk hl with ⟨rfl, rfl⟩ | ⟨hj, hl⟩
    · rw [List.pairwise_append, List.pairwise_append]
      refine ⟨⟨s1, ?_, fun a ha b hb => ?_⟩, s3, fun a ha b hb => ?_⟩
      · rcases hnew with ⟨rfl, _⟩ | ⟨rfl, _⟩
        · exact List.Pairwise.nil
        · exact List.pairwise_singleton _ _
      · rcases hnew with ⟨rfl, _⟩ | ⟨rfl, _⟩
        · simp at hb
        · rw [List.mem_singleton.1 hb]; exact s4 a ha e (by simp)
      · rcases List.mem_append.1 ha with ha | ha
        · exact s4 a ha b (by simp [hb])
        · rcases hnew with ⟨rfl, _⟩ | ⟨rfl, _⟩
          · simp at ha
          · rw [List.mem_singleton.1 ha]; exact s2 b hb
    · exact k.sorted j l hl
  · rcases getElem?_set_some hk hl with ⟨rfl, rfl⟩ | ⟨hj, hl⟩
    · rcases inner a ha with ⟨rfl, h0⟩ | ⟨h1, _⟩
      · exact ⟨(k.pos _ _ hL e hee).1, rfl, h0⟩
      · exact k.pos _ _ hL a h1
    · exact k.pos j l hl a ha
  · rcases getElem?_set_some hk hl with ⟨rfl, rfl⟩ | ⟨hj, hl⟩
    · rcases inner a ha with ⟨rfl, _⟩ | ⟨h1, h2⟩
      · exact hh
      · exact hne _ _ hL a h1 h2
    · exact hne j l hl a ha (fun h => by have := (k.pos j l hl a ha).2.1; rw [h] at this; exact hj this.symm)
  · rcases getElem?_set_some hk hl with ⟨rfl, rfl⟩ | ⟨hj, hl⟩
    · rcases inner a ha with ⟨rfl, _⟩ | ⟨h1, h2⟩
      · rw [hm y, hef y]; exact Iff.rfl
      · exact hmem _ _ hL a h1 h2 y
    · exact hmem j l hl a ha (fun h => by have := (k.pos j l hl a ha).2.1; rw [h] at this; exact hj this.symm) y
  · obtain ⟨hyx, hyt⟩ := hyt
    obtain ⟨l, h1, a, h2, rfl⟩ := k.all y t hyt
    by_cases hj : Nat.log2 a.s = Nat.log2 e.s
    · rw [hj] at h1 ⊢
      rw [hL] at h1
      simp only [Option.some.injEq] at h1
      subst h1
      refine ⟨_, List.getElem?_set_self hk, ?_⟩
      rcases List.mem_append.1 h2 with h2 | h2
      · exact ⟨a, by simp [h2], rfl⟩
      · rcases List.mem_cons.1 h2 with rfl | h2
        · have hy : y ∈ h' := (hm y).2 ⟨hyx, (hef y).2 hyt⟩
          rcases hnew with ⟨_, rfl⟩ | ⟨rfl, _⟩
          · simp at hy
          · exact ⟨⟨a.s, v, h'⟩, by simp, rfl⟩
        · exact ⟨a, by simp [h2], rfl⟩
    · exact ⟨l, by rw [List.getElem?_set_ne (fun q => hj q.symm)]; exact h1, a, h2, rfl⟩
end Go.Proofs.YtlcfkfijomnmnaaGreatDoor
