import Derived.Test.YtlcfkfijomnmnaaGreatDoorQHpRootsBd
namespace Go.Proofs.YtlcfkfijomnmnaaGreatDoor
open Lib (hid)
section
variable {bs bs' : List Blk} {xs : List Nat} {s t : Nat}
theorem span_ct : ∀ {l l' : List Blk} {s t : Nat}, content l' = content l → Span s l t → Span s l' t
  | [], [], _, _, _, h => h
  | [], _ :: _, _, _, hc, _ => by simp [content] at hc
  | _ :: _, [], _, _, hc, _ => by simp [content] at hc
  | b :: l, b' :: l', s, t, hc, h => by
    obtain ⟨h1, h2, h3⟩ := h
    simp only [content, List.map_cons, List.cons.injEq, Prod.mk.injEq] at hc
    obtain ⟨⟨e1, e2, _⟩, e3⟩ := hc
    have hn : b'.n = b.n := by unfold Blk.n; rw [e2]
    exact ⟨by rw [e1, h1], by rw [hn]; exact h2, by rw [hn]; exact span_ct e3 h3⟩
theorem coll_map {g : Nat → Bool} (hz : ∀ b ∈ bs, b.u = false → b.ws = zeros b.n) (hs : Span s bs t) (h : CollOf bs xs bs')
    (hg : ∀ a, UsedC (content bs) a → (Rch (UsedC (content bs)) (EF (edF bs)) (fun y => y ∈ xs.filterMap toF) a ↔ g a = true)) :
    sweepF bs' = normB (bs.map fun c => if (c.u && g c.a) = true then ⟨c.a, c.ws, true, false⟩ else ⟨c.a, zeros c.n, false, false⟩) := by
  obtain ⟨hc, hm⟩ := h
  have hs' := span_ct hc hs
  unfold sweepF
  congr 1
  apply List.ext_getElem?
  intro i
  have hk : (content bs')[i]? = (content bs)[i]? := by rw [hc]
  simp only [content, List.getElem?_map] at hk ⊢
  cases hb : bs[i]? with
  | none =>
    rw [hb] at hk
    cases hb' : bs'[i]? with
    | none => rfl
    | some b' => rw [hb'] at hk; simp at hk
  | some b =>
    rw [hb] at hk
    cases hb' : bs'[i]? with
    | none => rw [hb'] at hk; simp at hk
    | some b' =>
      rw [hb'] at hk
      simp only [Option.map_some, Option.some.injEq, Prod.mk.injEq] at hk
      obtain ⟨e1, e2, e3⟩ := hk
      simp only [Option.map_some, Option.some.injEq]
      have hbm := List.mem_of_getElem? hb
      have hbm' := List.mem_of_getElem? hb'
      have hn : b'.n = b.n := by unfold Blk.n; rw [e2]
      cases hu : b.u with
      | false =>
        rw [hu] at e3
        simp only [Bool.false_and, Bool.false_eq_true, if_false]
        rw [e1, hn, e3, e2]
        split
        · rw [hz b hbm hu]
        · rfl
      | true =>
        rw [hu] at e3
        have hus : UsedC (content bs) b.a := ⟨b.ws, List.mem_map.2 ⟨b, hbm, by rw [hu]⟩⟩
        have hme : b'.m = true ↔ g b.a = true := by
          rw [← hg _ hus, ← hm]
          constructor
          · intro q
            exact markedAt_iff.2 ⟨b', hbm', q, by rw [e1]⟩
          · intro q
            obtain ⟨c, hcm, q1, q2⟩ := markedAt_iff.1 q
            rcases hs'.sep c hcm b' hbm' with rfl | k | k
            · exact q1
            · have := (hs'.mem b' hbm').2.1; have := (hs'.mem c hcm).2.1; omega
            · have := (hs'.mem b' hbm').2.1; have := (hs'.mem c hcm).2.1; omega
        simp only [Bool.true_and]
        rw [e1, e2, e3, hn]
        by_cases q : g b.a = true
        · rw [if_pos q, if_pos (hme.2 q)]
        · rw [if_neg q, if_neg (fun k => q (hme.1 k))]
theorem coll_used (h : CollOf bs xs bs') : usedSum bs' = usedSum bs := by
  have : ∀ l l' : List Blk, content l' = content l → usedSum l' = usedSum l := by
    intro l
    induction l with
    | nil => intro l' h; cases l' with
      | nil => rfl
      | cons _ _ => simp [content] at h
    | cons b l ih => intro l' h; cases l' with
      | nil => simp [content] at h
      | cons b' l' =>
        simp only [content, List.map_cons, List.cons.injEq, Prod.mk.injEq] at h
        obtain ⟨⟨_, e2, e3⟩, e4⟩ := h
        rw [usedSum_cons, usedSum_cons, ih l' e4, e3]
        unfold Blk.n
        rw [e2]
  exact this _ _ h.1
def rowB (n : Nat) (l : Nat → Nat) : List Blk := (List.range n).map fun i => ⟨1 + 3 * i, [1, l i], true, false⟩
def lineB (k n : Nat) (l : Nat → Nat) : List Blk := rowB n l ++ [⟨1 + 3 * n, zeros (k - 1 - 3 * n), false, false⟩]
variable {k n : Nat} {l : Nat → Nat}
theorem rowB_succ (n : Nat) (l : Nat → Nat) : rowB (n + 1) l = rowB n l ++ [⟨1 + 3 * n, [1, l n], true, false⟩] := by
  unfold rowB; rw [List.range_succ, List.map_append]; rfl
theorem rowB_span : ∀ n, Span 1 (rowB n l) (1 + 3 * n)
  | 0 => rfl
  | n + 1 => by
    rw [rowB_succ, Span.append]
    exact ⟨1 + 3 * n, rowB_span n, rfl, by simp [Blk.n], by simp only [Blk.n, List.length_cons, List.length_nil, Span]; omega⟩
theorem lineB_span (h : 3 * n + 2 ≤ k) : Span 1 (lineB k n l) (k + 1) := by
  unfold lineB
  rw [Span.append]
  exact ⟨1 + 3 * n, rowB_span n, rfl, by simp [Blk.n, zeros]; omega, by simp only [Blk.n, zeros, List.length_replicate, Span]; omega⟩
theorem rowB_mem {b : Blk} : b ∈ rowB n l ↔ ∃ i, i < n ∧ b = ⟨1 + 3 * i, [1, l i], true, false⟩ := by
  unfold rowB
  simp only [List.mem_map, List.mem_range]
  exact ⟨fun ⟨i, h, e⟩ => ⟨i, h, e.symm⟩, fun ⟨i, h, e⟩ => ⟨i, h, e.symm⟩⟩
theorem lineB_mem {b : Blk} : b ∈ lineB k n l ↔ (∃ i, i < n ∧ b = ⟨1 + 3 * i, [1, l i], true, false⟩) ∨ b = ⟨1 + 3 * n, zeros (k - 1 - 3 * n), false, false⟩ := by
  unfold lineB
  rw [List.mem_append, rowB_mem, List.mem_singleton]
theorem newBs_line (h : 2 ≤ k) : newBs k = lineB k 0 l := by
  unfold newBs; rw [if_pos h]; rfl
theorem rowB_used : ∀ n, usedSum (rowB n l) = 3 * n
  | 0 => rfl
  | n + 1 => by rw [rowB_succ, usedSum_append, rowB_used n]; simp [usedSum, Blk.n]; omega
theorem lineB_used : usedSum (lineB k n l) = 3 * n := by
  unfold lineB; rw [usedSum_append, rowB_used]; simp [usedSum]
theorem lineB_blk (h : 3 * n + 2 ≤ k) {j : Nat} (hj : j < n) : blkAt (lineB k n l) ((1 + 3 * j : Nat) : Int) = some ⟨1 + 3 * j, [1, l j], true, false⟩ :=
  blkAt_some (b := ⟨1 + 3 * j, [1, l j], true, false⟩) (lineB_span h) (lineB_mem.2 (.inl ⟨j, hj, rfl⟩)) rfl
theorem lineB_none {j : Nat} (hj : n ≤ j) : blkAt (lineB k n l) ((1 + 3 * j : Nat) : Int) = none := by
  unfold blkAt
  rw [List.find?_eq_none]
  intro b hb
  rcases lineB_mem.1 hb with ⟨i, hi, rfl⟩ | rfl
  · simp only [Bool.true_and, beq_iff_eq]; omega
  · simp
theorem lineB_get0 (h : 3 * n + 2 ≤ k) {j : Nat} (hj : j < n) : getF (lineB k n l) ((1 + 3 * j : Nat) : Int) 0 = (1, 0) := by
  unfold getF; rw [lineB_blk h hj]; rfl
theorem lineB_get1 (h : 3 * n + 2 ≤ k) {j : Nat} (hj : j < n) : getF (lineB k n l) ((1 + 3 * j : Nat) : Int) 1 = (l j, 0) := by
  unfold getF; rw [lineB_blk h hj]; rfl
theorem lineB_gone {j : Nat} (hj : n ≤ j) : getF (lineB k n l) ((1 + 3 * j : Nat) : Int) 0 = (0, 4) := by
  unfold getF; rw [lineB_none hj]
theorem lineB_usedC {a : Nat} : UsedC (content (lineB k n l)) a ↔ ∃ j, j < n ∧ a = 1 + 3 * j := by
  constructor
  · rintro ⟨ws, h⟩
    obtain ⟨b, hb, e⟩ := List.mem_map.1 h
    simp only [Prod.mk.injEq] at e
    rcases lineB_mem.1 hb with ⟨i, hi, rfl⟩ | rfl
    · exact ⟨i, hi, e.1.symm⟩
    · simp at e
  · rintro ⟨j, hj, rfl⟩
    exact ⟨[1, l j], List.mem_map.2 ⟨_, lineB_mem.2 (.inl ⟨j, hj, rfl⟩), rfl⟩⟩
theorem pick_row {b : Blk} {q : Int} (hb : fits q b = true) : ∀ pre : List Blk, (∀ c ∈ pre, c.u = true) → pickB q (pre ++ [b]) = some b
  | [], _ => by simp [pickB, hb]
  | c :: pre, h => by
    have hc : fits q c = false := by
      cases hf : fits q c with
      | false => rfl
      | true => have := (fits_iff q c).1 hf; rw [h c (by simp)] at this; simp at this
    rw [List.cons_append]
    unfold pickB
    rw [pick_row hb pre (fun d hd => h d (by simp [hd])), hc]
    rfl
theorem line_take (h : 3 * n + 5 ≤ k) : takeF (lineB k n l) 2 = (1 + 3 * n, 0, rowB n l ++ [⟨1 + 3 * n, zeros 2, true, false⟩, ⟨1 + 3 * (n + 1), zeros (k - 1 - 3 * (n + 1)), false, false⟩]) := by
  have hp : pickB 2 (lineB k n l) = some ⟨1 + 3 * n, zeros (k - 1 - 3 * n), false, false⟩ :=
    pick_row ((fits_iff _ _).2 ⟨rfl, by simp [Blk.n, zeros]; omega⟩) _ (fun c hc => by obtain ⟨i, _, rfl⟩ := rowB_mem.1 hc; rfl)
  unfold takeF
  rw [if_neg (by decide), hp]
  have hs : Span 1 (rowB n l ++ [⟨1 + 3 * n, zeros (k - 1 - 3 * n), false, false⟩] ++ []) (k + 1) := by rw [List.append_nil]; exact lineB_span (by omega)
  have := flat_atA hs (takeB 2 ⟨1 + 3 * n, zeros (k - 1 - 3 * n), false, false⟩)
  rw [List.append_nil, List.append_nil] at this
  show (1 + 3 * n, (0 : Int), _) = _
  unfold lineB
  rw [this]
  unfold takeB
  rw [if_pos (by simp [Blk.n, zeros]; omega)]
  simp only [Prod.mk.injEq, true_and, List.append_cancel_left_eq, List.cons.injEq, Blk.mk.injEq, and_true]
  refine ⟨by simp, by simp; omega, ?_⟩
  simp only [Blk.n, zeros, List.length_replicate]
  congr 1
theorem setF_at {b : Blk} {q i : Int} {v : Nat} (hb : blkAt bs q = some b) (h1 : 0 ≤ i) (h2 : i < b.n) : setF bs q i v = (0, bs.map fun c => if c.a = b.a then ⟨c.a, c.ws.set i.toNat v, c.u, c.m⟩ else c) := by
  unfold setF; rw [hb]; exact if_pos ⟨h1, h2⟩
theorem line_put (h : 3 * n + 5 ≤ k) (hl : l n = 0) : setF (rowB n l ++ [⟨1 + 3 * n, zeros 2, true, false⟩, ⟨1 + 3 * (n + 1), zeros (k - 1 - 3 * (n + 1)), false, false⟩]) ((1 + 3 * n : Nat) : Int) 0 1 = (0, lineB k (n + 1) l) := by
  have hs : Span 1 (rowB n l ++ [⟨1 + 3 * n, zeros 2, true, false⟩, ⟨1 + 3 * (n + 1), zeros (k - 1 - 3 * (n + 1)), false, false⟩]) (k + 1) := by
    rw [Span.append]
    exact ⟨1 + 3 * n, rowB_span n, rfl, by simp [Blk.n, zeros], by simp [Blk.n, zeros]; omega, by simp [Blk.n, zeros]; omega, by simp only [Blk.n, zeros, List.length_replicate, Span]; omega⟩
  rw [setF_at (blkAt_some (b := ⟨1 + 3 * n, zeros 2, true, false⟩) hs (by simp) rfl) (by decide) (by simp [Blk.n, zeros])]
  congr 1
  rw [List.map_append]
  unfold lineB
  rw [rowB_succ, List.append_assoc]
  congr 1
  · rw [List.map_congr_left (g := id) (fun c hc => by
      obtain ⟨i, hi, rfl⟩ := rowB_mem.1 hc
      exact if_neg (by show ¬ 1 + 3 * i = 1 + 3 * n; omega))]
    exact List.map_id _
  · simp only [List.map_cons, List.map_nil, if_true, List.cons_append, List.nil_append]
    rw [if_neg (by omega), hl]
    rfl
theorem line_set (h : 3 * n + 2 ≤ k) {j v : Nat} (hj : j < n) : setF (lineB k n l) ((1 + 3 * j : Nat) : Int) 1 v = (0, lineB k n fun i => if i = j then v else l i) := by
  rw [setF_at (lineB_blk h hj) (by decide) (by simp [Blk.n])]
  congr 1
  unfold lineB
  rw [List.map_append]
  congr 1
  · unfold rowB
    rw [List.map_map]
    apply List.map_congr_left
    intro i _
    simp only [Function.comp_apply]
    by_cases e : i = j
    · subst e; rw [if_pos rfl, if_pos rfl]; rfl
    · rw [if_neg (by omega), if_neg e]
  · simp only [List.map_cons, List.map_nil]
    rw [if_neg (by omega)]
theorem norm_used {X : List Blk} : ∀ pre : List Blk, (∀ c ∈ pre, c.u = true) → normB (pre ++ X) = pre ++ normB X
  | [], _ => rfl
  | c :: pre, h => by
    show glue c (normB (pre ++ X)) = _
    rw [norm_used pre (fun d hd => h d (by simp [hd]))]
    have hc := h c (by simp)
    cases hq : pre ++ normB X with
    | nil => simp [glue, hq]
    | cons d r => rw [glue_cons, if_neg (by rw [hc]; simp), List.cons_append, hq]
theorem norm_free (z : Nat) : ∀ d c : Nat, normB ((List.range d).map (fun i => (⟨1 + 3 * (c + i), zeros 2, false, false⟩ : Blk)) ++ [⟨1 + 3 * (c + d), zeros z, false, false⟩]) = [⟨1 + 3 * c, zeros (z + 3 * d), false, false⟩]
  | 0, c => rfl
  | d + 1, c => by
    rw [List.range_succ_eq_map, List.map_cons, List.map_map, List.cons_append]
    show glue _ (normB _) = _
    have e : (fun i => (⟨1 + 3 * (c + i), zeros 2, false, false⟩ : Blk)) ∘ Nat.succ = fun i => (⟨1 + 3 * (c + 1 + i), zeros 2, false, false⟩ : Blk) := by
      funext i; simp only [Function.comp_apply, Blk.mk.injEq, and_true]; omega
    rw [e, show c + (d + 1) = c + 1 + d by omega, norm_free z d (c + 1), glue_cons, if_pos ⟨rfl, rfl⟩]
    simp only [Blk.n, zeros, List.length_replicate, List.cons.injEq, Blk.mk.injEq, and_true]
    refine ⟨by omega, ?_⟩
    congr 1
    omega
theorem line_sweep {c : Nat} (h : 3 * n + 2 ≤ k) (hc : c ≤ n) (hco : CollOf (lineB k n l) xs bs')
    (hr : ∀ i, i < n → (Rch (UsedC (content (lineB k n l))) (EF (edF (lineB k n l))) (fun y => y ∈ xs.filterMap toF) (1 + 3 * i) ↔ i < c)) : sweepF bs' = lineB k c l := by
  rw [coll_map (g := fun a => decide (a < 1 + 3 * c)) (s := 1) (t := k + 1) (fun b hb hu => by
      rcases lineB_mem.1 hb with ⟨i, _, rfl⟩ | rfl
      · simp at hu
      · simp [Blk.n, zeros]) (lineB_span h) hco (fun a ha => by
      obtain ⟨j, hj, rfl⟩ := lineB_usedC.1 ha
      rw [hr j hj]
      simp only [decide_eq_true_eq]
      omega)]
  obtain ⟨d, rfl⟩ : ∃ d, n = c + d := ⟨n - c, by omega⟩
  unfold lineB rowB
  rw [List.range_add, List.map_append, List.map_append, List.map_append, List.map_map, List.map_map, List.map_map]
  rw [List.map_congr_left (l := List.range c) (g := fun i => (⟨1 + 3 * i, [1, l i], true, false⟩ : Blk)) (fun i hi => by
    have hi := List.mem_range.1 hi
    simp only [Function.comp_apply, Bool.true_and, decide_eq_true_eq]
    exact if_pos (by omega))]
  rw [List.map_congr_left (l := List.range d) (g := fun i => (⟨1 + 3 * (c + i), zeros 2, false, false⟩ : Blk)) (fun i _ => by
    simp only [Function.comp_apply, Bool.true_and, decide_eq_true_eq]
    rw [if_neg (by omega)]
    rfl)]
  simp only [List.map_cons, List.map_nil, Bool.false_and, Bool.false_eq_true, if_false]
  rw [List.append_assoc, norm_used _ (fun b hb => by obtain ⟨i, _, rfl⟩ := List.mem_map.1 hb; rfl)]
  congr 1
  have := norm_free (k - 1 - 3 * (c + d)) d c
  simp only [Blk.n, zeros, List.length_replicate] at this ⊢
  rw [this]
  simp only [List.cons.injEq, Blk.mk.injEq, and_true, true_and]
  congr 1
  omega
theorem lineB_unm (a : Nat) : ¬ MarkX (lineB k n l) a := by
  intro h
  obtain ⟨c, hc, q, _⟩ := markedAt_iff.1 h
  rcases lineB_mem.1 hc with ⟨i, hi, rfl⟩ | rfl <;> simp at q
theorem toF_ref {a : Nat} (h1 : 1 ≤ a) (h2 : a < 1048577) : toF (a * 8 + 2) = some a := by
  unfold toF
  have e1 : ((a * 8 + 2 : Nat) : Int) % 8 = 2 := by omega
  have e2 : ((a * 8 + 2 : Nat) : Int) / 8 = (a : Int) := by omega
  have e3 : (a * 8 + 2) % 8 = 2 := by omega
  have e4 : (a * 8 + 2) / 8 = a := by omega
  rw [e1, e2, e3, e4]
  unfold there
  rw [if_pos]
  simp
  omega
theorem toF_none0 : toF 0 = none := by decide
theorem line_lk (h : 3 * n + 2 ≤ k) {j : Nat} (hj : j < n) : lkF (lineB k n l) (1 + 3 * j) = l j := by
  unfold lkF; rw [lineB_get1 h hj]
theorem line_ed (h : 3 * n + 2 ≤ k) {j : Nat} (hj : j < n) : EF (edF (lineB k n l)) (1 + 3 * j) = [l j].filterMap toF := by
  unfold EF edF
  rw [if_pos (usedC_iff.1 (lineB_usedC.2 ⟨j, hj, rfl⟩)), line_lk h hj]
theorem line_things (h : 3 * n + 2 ≤ k) (hk : k ≤ 1048576) (hl : ∀ i, l i < 18446744073709551616) : Things (lineB k n l) := by
  intro q hq
  obtain ⟨j, hj, rfl⟩ := lineB_usedC.1 hq
  rw [line_lk h hj]
  exact ⟨lineB_get0 h hj, lineB_get1 h hj, hl j, by omega⟩
theorem rch_naught {U : Nat → Prop} {E : Nat → List Nat} {R : Nat → Prop} (h : ∀ a, ¬ R a) {a : Nat} (q : Rch U E R a) : False := by
  induction q with
  | root h1 _ => exact h _ h1
  | step _ _ _ ih => exact ih
theorem line_rch {c : Nat} (h : 3 * n + 2 ≤ k) (hk : k ≤ 1048576) (hc : c < n) (hl : ∀ i, i < c → l i = (1 + 3 * (i + 1)) * 8 + 2) (hl2 : toF (l c) = none) {i : Nat} (_ : i < n) :
    Rch (UsedC (content (lineB k n l))) (EF (edF (lineB k n l))) (fun y => y ∈ [1 * 8 + 2].filterMap toF) (1 + 3 * i) ↔ i < c + 1 := by
  have hr : ([1 * 8 + 2] : List Nat).filterMap toF = [1] := by rw [List.filterMap_cons, toF_ref (by decide) (by decide)]; rfl
  rw [hr]
  constructor
  · intro q
    have : ∀ a, Rch (UsedC (content (lineB k n l))) (EF (edF (lineB k n l))) (fun y => y ∈ [1]) a → ∃ j, j ≤ c ∧ a = 1 + 3 * j := by
      intro a q
      induction q with
      | root h1 _ => simp at h1; exact ⟨0, Nat.zero_le _, by omega⟩
      | step _ hb _ ih =>
        obtain ⟨j, hj, rfl⟩ := ih
        rw [line_ed h (by omega)] at hb
        rcases Nat.lt_or_ge j c with hjc | hjc
        · rw [hl j hjc, List.filterMap_cons, toF_ref (by omega) (by omega)] at hb
          simp at hb
          exact ⟨j + 1, by omega, by omega⟩
        · have e : j = c := by omega
          subst e
          rw [List.filterMap_cons, hl2] at hb
          simp at hb
    obtain ⟨j, h1, h2⟩ := this _ q
    omega
  · intro hic
    have : ∀ j, j < c + 1 → Rch (UsedC (content (lineB k n l))) (EF (edF (lineB k n l))) (fun y => y ∈ [1]) (1 + 3 * j) := by
      intro j
      induction j with
      | zero => intro _; exact .root (by simp) (lineB_usedC.2 ⟨0, by omega, rfl⟩)
      | succ j ih =>
        intro hj
        refine .step (ih (by omega)) ?_ (lineB_usedC.2 ⟨j + 1, by omega, rfl⟩)
        rw [line_ed h (by omega), hl j (by omega), List.filterMap_cons, toF_ref (by omega) (by omega)]
        simp
    exact this i hic
theorem ring_rch {at_ : Nat} (h : 3 * n + 2 ≤ k) (hk : k ≤ 1048576) (ha : at_ < n) (hl : ∀ i, i < n → l i = (1 + 3 * ((i + 1) % n)) * 8 + 2) {i : Nat} (hi : i < n) :
    Rch (UsedC (content (lineB k n l))) (EF (edF (lineB k n l))) (fun y => y ∈ [(1 + 3 * at_) * 8 + 2].filterMap toF) (1 + 3 * i) := by
  have hr : ([(1 + 3 * at_) * 8 + 2] : List Nat).filterMap toF = [1 + 3 * at_] := by rw [List.filterMap_cons, toF_ref (by omega) (by omega)]; rfl
  rw [hr]
  have : ∀ j, Rch (UsedC (content (lineB k n l))) (EF (edF (lineB k n l))) (fun y => y ∈ [1 + 3 * at_]) (1 + 3 * ((at_ + j) % n)) := by
    intro j
    induction j with
    | zero => rw [Nat.add_zero, Nat.mod_eq_of_lt ha]; exact .root (by simp) (lineB_usedC.2 ⟨at_, ha, rfl⟩)
    | succ j ih =>
      have hn : 0 < n := by omega
      have hm1 := Nat.mod_lt (at_ + j) hn
      have hm2 := Nat.mod_lt (at_ + (j + 1)) hn
      have em : ((at_ + j) % n + 1) % n = (at_ + (j + 1)) % n := by rw [Nat.mod_add_mod, Nat.add_assoc]
      refine .step ih ?_ (lineB_usedC.2 ⟨_, hm2, rfl⟩)
      rw [line_ed h hm1, hl _ hm1, em, List.filterMap_cons, toF_ref (by omega) (by omega)]
      simp
  have e : (at_ + (i + n - at_)) % n = i := by
    rw [show at_ + (i + n - at_) = i + n by omega, Nat.add_mod_right, Nat.mod_eq_of_lt hi]
  have := this (i + n - at_)
  rw [e] at this
  exact this
theorem sorted_same : ∀ {l r : List Nat}, l.Pairwise (· < ·) → r.Pairwise (· < ·) → (∀ a, a ∈ l ↔ a ∈ r) → l = r
  | [], [], _, _, _ => rfl
  | [], b :: r, _, _, h => by have := (h b).2 (by simp); simp at this
  | a :: l, [], _, _, h => by have := (h a).1 (by simp); simp at this
  | a :: l, b :: r, hl, hr, h => by
    have h1 := List.pairwise_cons.1 hl
    have h2 := List.pairwise_cons.1 hr
    have e : a = b := by
      have m1 := (h a).1 (by simp)
      have m2 := (h b).2 (by simp)
      rcases List.mem_cons.1 m1 with e | m1
      · exact e
      · rcases List.mem_cons.1 m2 with e | m2
        · exact e.symm
        · have := h2.1 a m1; have := h1.1 b m2; omega
    subst e
    congr 1
    refine sorted_same h1.2 h2.2 (fun x => ⟨fun hx => ?_, fun hx => ?_⟩)
    · rcases List.mem_cons.1 ((h x).1 (by simp [hx])) with e | m
      · have := h1.1 x hx; omega
      · exact m
    · rcases List.mem_cons.1 ((h x).2 (by simp [hx])) with e | m
      · have := h2.1 x hx; omega
      · exact m
theorem line_size (h : 3 * n + 2 ≤ k) {j : Nat} (hj : j < n) : sizeF (lineB k n l) ((1 + 3 * j : Nat) : Int) = 2 := by
  unfold sizeF; rw [lineB_blk h hj]; rfl
theorem line_live {c : Nat} {R : Nat → Prop} (h : 3 * n + 2 ≤ k) (hc : c ≤ n) {r : List Nat} (hs : r.Pairwise (· < ·)) (hm : ∀ a, a ∈ r ↔ Rch (UsedC (content (lineB k n l))) (EF (edF (lineB k n l))) R a)
    (hr : ∀ i, i < n → (Rch (UsedC (content (lineB k n l))) (EF (edF (lineB k n l))) R (1 + 3 * i) ↔ i < c)) : liveN (lineB k n l) r = 3 * c := by
  have e : r = (List.range c).map fun i => 1 + 3 * i := by
    refine sorted_same hs ?_ ?_
    · rw [List.pairwise_map]
      exact List.pairwise_lt_range.imp fun q => by omega
    · intro a
      rw [hm]
      simp only [List.mem_map, List.mem_range]
      constructor
      · intro q
        obtain ⟨j, hj, rfl⟩ := lineB_usedC.1 q.used
        exact ⟨j, (hr j hj).1 q, rfl⟩
      · rintro ⟨j, hj, rfl⟩
        exact (hr j (by omega)).2 hj
  rw [e]
  unfold liveN
  rw [List.map_map, List.map_congr_left (g := fun _ => 3) (fun i hi => by
    have hi := List.mem_range.1 hi
    show sizeF _ ((1 + 3 * i : Nat) : Int) + 1 = 3
    rw [line_size h (by omega)])]
  clear e hr hm hs hc
  induction c with
  | zero => rfl
  | succ c ih => rw [List.range_succ, List.map_append, List.sum_append, ih]; simp; omega
def nextL (n i : Nat) : Nat := if i + 1 < n then (1 + 3 * (i + 1)) * 8 + 2 else 0
theorem nextL_lt {n i : Nat} (hn : n ≤ 300000) : nextL n i < 18446744073709551616 := by unfold nextL; split <;> omega
theorem line_more (h : 3 * n + 5 ≤ k) (hn : 0 < n) : setF (lineB k (n + 1) (nextL n)) ((1 + 3 * (n - 1) : Nat) : Int) 1 ((1 + 3 * n) * 8 + 2) = (0, lineB k (n + 1) (nextL (n + 1))) := by
  rw [line_set (by omega) (by omega)]
  congr 2
  funext i
  unfold nextL
  by_cases e : i = n - 1
  · rw [if_pos e, if_pos (by omega)]
    subst e
    rw [show n - 1 + 1 = n by omega]
  · rw [if_neg e]
    by_cases q : i + 1 < n
    · rw [if_pos q, if_pos (by omega)]
    · rw [if_neg q, if_neg (by omega)]
end
section
open Go.RowKit Go.Maps Go.WideMaps
def atsI (n : Nat) : List Value := (List.range n).map fun i => .int .i64 ((1 + 3 * i : Nat) : Int)
theorem atsI_succ (n : Nat) : atsI (n + 1) = atsI n ++ [.int .i64 ((1 + 3 * n : Nat) : Int)] := by
  unfold atsI; rw [List.range_succ, List.map_append]; rfl
theorem atsI_get {n j : Nat} (h : j < n) : (atsI n)[j]? = some (.int .i64 ((1 + 3 * j : Nat) : Int)) := by
  simp [atsI, h]
theorem ownsRow_kept {W W' : World} {B : Nat} {e : TypeId} {c : Nat} {v : Value} {n : Nat} {xs : List Value} {Z : Nat → Prop} (h : W.ownsRow B e c v n xs) (k : Kept Z W W') (hz : ∀ b, v.ownBlock = some b → Z b) : W'.ownsRow B e c v n xs := by
  obtain ⟨h1, h2⟩ := h
  refine ⟨h1, h2.imp id ?_⟩
  rintro ⟨g, cap, cur, e', hg, hh, hr⟩
  exact ⟨g, cap, cur, e', hg, by rw [k.blk g (hz g (by rw [e']; rfl))]; exact hh, hr⟩
structure LnZ (Z : Nat → Prop) (w : World) (hb : Nat) (x : Sb) (hk hn : Int) (kn : Bool) (tn : Int) (m : Nat) (bs : List Blk) (v : Value) (n : Nat) (W : World) : Prop where
  hp : HpZ Z w hb x hk hn kn tn m bs W
  row : W.ownsRow w.heap.size 3 1 v n (atsI n)
  own : ∀ b, v.ownBlock = some b → Z b
  lt : ∀ b, Z b → b < W.heap.size
variable {Z : Nat → Prop} {w W W' : World} {hb : Nat} {x : Sb} {hk hn : Int} {kn : Bool} {tn : Int} {m : Nat} {bs : List Blk} {v : Value} {n : Nat}
theorem LnZ.turn {kn' : Bool} {tn' : Int} {bs' : List Blk} (h : LnZ Z w hb x hk hn kn tn m bs v n W) (hz : HpZ Z w hb x hk hn kn' tn' m bs' W') (k : Kept Z W W') : LnZ Z w hb x hk hn kn' tn' m bs' v n W' :=
  ⟨hz, ownsRow_kept h.row k h.own, h.own, fun b q => Nat.lt_of_lt_of_le (h.lt b q) k.size⟩
theorem LnZ.below (h : LnZ Z w hb x hk hn kn tn m bs v n W) (b : Below W.heap.size W W') : LnZ Z w hb x hk hn kn tn m bs v n W' :=
  h.turn (h.hp.below b) (Kept.of_below h.lt b)
theorem LnZ.grow (h : LnZ Z w hb x hk hn kn tn m bs v n W) (b : Below W.heap.size W W') : LnZ (fun c => Z c ∨ (W.heap.size ≤ c ∧ c < W'.heap.size)) w hb x hk hn kn tn m bs v n W' := by
  have h2 := h.below b
  exact ⟨h.hp.grow b, h2.row, fun c q => .inl (h.own c q), fun c q => q.elim (h2.lt c) (·.2)⟩
theorem HpZ.row {Z' : Nat → Prop} (h : HpZ Z w hb x hk hn kn tn m bs W) {V : Nat → Prop} (u : Upd V W W') (hV : ∀ b, V b → Z b ∧ w.heap.size ≤ b) (hZ : ∀ b, Z' b → Z b ∨ W.heap.size ≤ b) : HpZ Z' w hb x hk hn kn tn m bs W' := by
  obtain ⟨t, p, kb, S, R, Sa, T, h1, h2⟩ := h.ex
  refine ⟨t, p, kb, S, R, Sa, T, h1.keep u (fun b q => ⟨fun k => h2 b k (hV b q).1, (hV b q).2⟩), fun b k q => ?_⟩
  rcases hZ b q with q | q
  · exact h2 b k q
  · have := (h1.low b k).2
    omega
theorem LnZ.nil (h : HpZ Z w hb x hk hn kn tn m bs W) : LnZ (fun b => (Value.slice none 0 0).ownBlock = some b) w hb x hk hn kn tn m bs (.slice none 0 0) 0 W :=
  ⟨h.row (Upd.refl (fun _ => False) W) (fun _ q => q.elim) (fun b q => by simp [Value.ownBlock] at q), ⟨by simp [atsI], .inl ⟨rfl, rfl⟩⟩, fun _ q => q, fun b q => by simp [Value.ownBlock] at q⟩
theorem LnZ.push {v' : Value} (h : LnZ (fun b => v.ownBlock = some b) w hb x hk hn kn tn m bs v n W) (u : Upd (fun b => v.ownBlock = some b) W W') (o : W'.ownsRow w.heap.size 3 1 v' (n + 1) (atsI n ++ [.int .i64 ((1 + 3 * n : Nat) : Int)]))
    (mv : v'.ownBlock = v.ownBlock ∨ ∃ b, v'.ownBlock = some b ∧ W.heap.size ≤ b) : LnZ (fun b => v'.ownBlock = some b) w hb x hk hn kn tn m bs v' (n + 1) W' := by
  refine ⟨h.hp.row u (fun b q => ⟨q, ?_⟩) (fun b q => ?_), by rw [atsI_succ]; exact o, fun _ q => q, fun b q => ?_⟩
  · rcases h.row.2 with ⟨rfl, _⟩ | ⟨g, cap, cur, rfl, hg, _⟩
    · simp [Value.ownBlock] at q
    · simp [Value.ownBlock] at q; subst q; exact hg
  · rcases mv with e | ⟨c, e, hc⟩
    · exact .inl (by rw [← e]; exact q)
    · rw [e] at q; simp at q; subst q; exact .inr hc
  · rcases o.2 with ⟨rfl, _⟩ | ⟨g, cap, cur, rfl, hg, hh, _⟩
    · simp [Value.ownBlock] at q
    · simp [Value.ownBlock] at q; subst q; exact heap_lt hh
theorem LnZ.at {ao : Option Addr} {c : Nat} (h : LnZ Z w hb x hk hn kn tn m bs (.slice ao n c) n W) {j : Nat} (hj : j < n) : ∃ g, ao = some ⟨g, 0, none⟩ ∧ W.cell? ⟨g, j, none⟩ = some (.int .i64 ((1 + 3 * j : Nat) : Int)) ∧ n ≤ c := by
  rcases h.row.2 with ⟨e, h0⟩ | ⟨g, cap, cur, e, hg, hh, hc, _, _, _⟩
  · omega
  · simp only [Value.slice.injEq] at e
    obtain ⟨rfl, _, rfl⟩ := e
    refine ⟨g, rfl, ?_, hc⟩
    have := h.row.cells (g := g) rfl j _ (atsI_get hj)
    rw [Addr.add_lit, Nat.zero_add] at this
    exact this
theorem LnZ.form (h : LnZ Z w hb x hk hn kn tn m bs v n W) : ∃ ao c, v = .slice ao n c := by
  obtain ⟨ao, c, e, _⟩ := ownsRow_form h.row
  exact ⟨ao, c, e⟩
end
section
variable {N C : Nat} {bs' : List Blk} {r : List Nat}
def cutL (N C i : Nat) : Nat := if i = C then 0 else nextL N i
theorem cutL_lt {i : Nat} (hn : N ≤ 300000) : cutL N C i < 18446744073709551616 := by
  unfold cutL
  split
  · decide
  · exact nextL_lt hn
theorem fr_rch1 (h1 : 1 ≤ N) (h2 : N ≤ 60) {i : Nat} (hi : i < N) : Rch (UsedC (content (lineB 1000 N (nextL N)))) (EF (edF (lineB 1000 N (nextL N)))) (fun y => y ∈ [1 * 8 + 2].filterMap toF) (1 + 3 * i) ↔ i < N := by
  rw [line_rch (c := N - 1) (by omega) (by omega) (by omega) (fun j hj => by unfold nextL; rw [if_pos (by omega)]) (by unfold nextL; rw [if_neg (by omega)]; exact toF_none0) hi]
  omega
theorem fr_sweep1 (h1 : 1 ≤ N) (h2 : N ≤ 60) (hco : CollOf (lineB 1000 N (nextL N)) [1 * 8 + 2] bs') : sweepF bs' = lineB 1000 N (nextL N) :=
  line_sweep (by omega) (Nat.le_refl _) hco (fun _ hi => fr_rch1 h1 h2 hi)
theorem fr_live1 (h1 : 1 ≤ N) (h2 : N ≤ 60) (hs : r.Pairwise (· < ·)) (hm : ∀ a, a ∈ r ↔ Rch (UsedC (content (lineB 1000 N (nextL N)))) (EF (edF (lineB 1000 N (nextL N)))) (fun y => y ∈ [1 * 8 + 2].filterMap toF) a) : liveN (lineB 1000 N (nextL N)) r = 3 * N :=
  line_live (by omega) (Nat.le_refl _) hs hm (fun _ hi => fr_rch1 h1 h2 hi)
theorem fr_rch2 {n : Nat} (hC : C < n) (hn : n ≤ N) (h2 : N ≤ 60) {i : Nat} (hi : i < n) : Rch (UsedC (content (lineB 1000 n (cutL N C)))) (EF (edF (lineB 1000 n (cutL N C)))) (fun y => y ∈ [1 * 8 + 2].filterMap toF) (1 + 3 * i) ↔ i < C + 1 :=
  line_rch (by omega) (by omega) hC (fun j hj => by unfold cutL nextL; rw [if_neg (by omega), if_pos (by omega)]) (by unfold cutL; rw [if_pos rfl]; exact toF_none0) hi
theorem fr_sweep2 {n : Nat} (hC : C < n) (hn : n ≤ N) (h2 : N ≤ 60) (hco : CollOf (lineB 1000 n (cutL N C)) [1 * 8 + 2] bs') : sweepF bs' = lineB 1000 (C + 1) (cutL N C) :=
  line_sweep (by omega) (by omega) hco (fun _ hi => fr_rch2 hC hn h2 hi)
theorem fr_live2 (hC : C < N) (h2 : N ≤ 60) (hs : r.Pairwise (· < ·)) (hm : ∀ a, a ∈ r ↔ Rch (UsedC (content (lineB 1000 N (cutL N C)))) (EF (edF (lineB 1000 N (cutL N C)))) (fun y => y ∈ [1 * 8 + 2].filterMap toF) a) : liveN (lineB 1000 N (cutL N C)) r = 3 * (C + 1) :=
  line_live (by omega) (by omega) hs hm (fun _ hi => fr_rch2 hC (Nat.le_refl _) h2 hi)
theorem fr_set (hC : C < N) (h2 : N ≤ 60) : setF (lineB 1000 N (nextL N)) ((1 + 3 * C : Nat) : Int) 1 0 = (0, lineB 1000 N (cutL N C)) := line_set (by omega) hC
theorem fr_sweep0 {n k : Nat} {l : Nat → Nat} (h : 3 * n + 2 ≤ k) (hco : CollOf (lineB k n l) [] bs') : sweepF bs' = lineB k 0 l :=
  line_sweep h (Nat.zero_le _) hco (fun _ _ => ⟨fun q => (rch_naught (fun a k => by simp at k) q).elim, fun q => absurd q (Nat.not_lt_zero _)⟩)
theorem fr_live0 {n k : Nat} {l : Nat → Nat} (h : 3 * n + 2 ≤ k) (hs : r.Pairwise (· < ·)) (hm : ∀ a, a ∈ r ↔ Rch (UsedC (content (lineB k n l))) (EF (edF (lineB k n l))) (fun y => y ∈ ([] : List Nat).filterMap toF) a) : liveN (lineB k n l) r = 0 := by
  rw [line_live (c := 0) h (Nat.zero_le _) hs hm (fun _ _ => ⟨fun q => (rch_naught (fun a k => by simp at k) q).elim, fun q => absurd q (Nat.not_lt_zero _)⟩)]
end
section
open Go.RowKit Go.Maps Go.WideMaps
variable {w0 w w' W : World} {hb : Nat} {x : Sb} {hk hn : Int} {kn : Bool} {tn : Int} {m : Nat} {bs bs' bs1 bs2 : List Blk} {t p kb : Nat} {S R Sa T Z : Nat → Prop} {q l a cb sb : Nat} {xs : List Nat}
set_option maxRecDepth 100000 in
set_option maxHeartbeats 2000000 in
theorem ohead_none (A : ArR R w0 w p m bs) (q : Int) (hg : getF bs q 0 = (0, 4)) (h1 : -9223372036854775808 ≤ q) (h2 : q < 9223372036854775808) :
    Calls Tryz.prog 34 #[.pointer (some ⟨p, 0, none⟩), .int .i64 q] w fun e w' => e = .returned (.tuple #[thingV 0 0 0, .int .i64 4]) ∧ Below w.heap.size w w' := by
  obtain ⟨W1, hW1⟩ : ∃ W1, W1 = w.alloc (.cells #[.int .i64 0, .int .i64 0, .int .i64 0] 54) := ⟨_, rfl⟩
  have hb1 : Below w.heap.size w W1 := by rw [hW1]; exact (Below.refl _ _).alloc (Nat.le_refl _) _
  have b4 := heap_alloc_at w (.cells #[.int .i64 0, .int .i64 0, .int .i64 0] 54) (b := w.heap.size) rfl
  rw [← hW1] at b4
  have HA := hid A; have HG := hid hg; have HW := hid hW1; have HB1 := hid hb1; have HQ := hid (And.intro h1 h2); have HB4 := hid b4
  clear A hg hW1 hb1 h1 h2 b4
  go_enter Tryz.func34, Tryz.ntmps34
  go_wp2_with fail
  rw [← HW.out]
  refine (Get_r (HA.out.stay HB1.out) HG.out 0 rfl HQ.out.1 HQ.out.2).mono ?_
  rintro e w1 ⟨rfl, rfl⟩
  have d0 := heap_cell HB4.out 0; have d1 := heap_cell HB4.out 1; have d2 := heap_cell HB4.out 2
  have z0 := heap_frozen HB4.out 0; have z1 := heap_frozen HB4.out 1; have z2 := heap_frozen HB4.out 2
  simp at d0 d1 d2
  go_wp2
  refine bodyPost_ret (v := .tuple #[thingV 0 0 0, .int .i64 4]) (by simp [results, Tryz.results34, go_sem, d0, d1, d2, thingV]) rfl ⟨rfl, ?_⟩
  exact ((HB1.out.setCell (Nat.le_refl _) _).setCell (Nat.le_refl _) _).setCell (Nat.le_refl _) _
set_option maxRecDepth 100000 in
set_option maxHeartbeats 2000000 in
theorem head_none (h : HpZ Z w0 hb x hk hn kn tn m bs w) (hg : getF bs (q : Int) 0 = (0, 4)) (hq : (q : Int) < 9223372036854775808) :
    Calls Tryz.prog 15 #[.pointer (some ⟨hb, 0, none⟩), .int .i64 q] w fun e w' => e = .returned (.tuple #[thingV 0 0 0, .int .i64 4]) ∧ Below w.heap.size w w' := by
  obtain ⟨t, p, kb, S, R, Sa, T, hw, hd⟩ := h.ex
  have k1 := heap_cell hw.box 1
  simp at k1
  have H := hid h; have HW := hid hw; have HG := hid hg; have HQ := hid hq
  have hlt := heap_lt hw.box
  clear h hw hd hg hq
  go_enter Tryz.func15, Tryz.ntmps15
  go_wp2_with fail
  obtain ⟨W1, hW1⟩ : ∃ W1, W1 = w.alloc (.cells #[.int .i64 0, .int .i64 0, .int .i64 0] 54) := ⟨_, rfl⟩
  rw [← hW1]
  have b1 : Below w.heap.size w W1 := by rw [hW1]; exact (Below.refl _ _).alloc (Nat.le_refl _) _
  have q0 : W1.heap[w.heap.size]? = some (.cells #[.int .i64 0, .int .i64 0, .int .i64 0] 54 (0, 0)) := by rw [hW1]; exact heap_alloc_at _ _ rfl
  have k1 := below_cell b1 k1
  have HQ0 := hid q0; have HB1 := hid b1
  clear hW1 b1 q0
  refine (made_h (H.out.below HB1.out)).mono ?_
  rintro e w1 ⟨rfl, rfl⟩
  go_wp2_with fail
  refine (ohead_none (HW.out.below HB1.out).arR q HG.out (by omega) HQ.out).mono ?_
  rintro e w2 ⟨rfl, hb2⟩
  have q0 := (Upd.of_below (S := fun _ => False) hb2).heap_some HQ0.out (fun h => h)
  have d0 := heap_cell q0 0; have d1 := heap_cell q0 1; have d2 := heap_cell q0 2
  have z0 := heap_frozen q0 0; have z1 := heap_frozen q0 1; have z2 := heap_frozen q0 2
  simp at d0 d1 d2
  have HB2 := hid (HB1.out.trans (hb2.mono HB1.out.size))
  clear hb2 q0
  go_wp2
  refine bodyPost_ret (v := .tuple #[thingV 0 0 0, .int .i64 4]) (by simp [results, Tryz.results15, go_sem, d0, d1, d2, thingV]) rfl ⟨rfl, ?_⟩
  exact ((HB2.out.setCell (Nat.le_refl _) _).setCell (Nat.le_refl _) _).setCell (Nat.le_refl _) _
end
end Go.Proofs.YtlcfkfijomnmnaaGreatDoor
