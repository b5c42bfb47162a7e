/- geoderef23 in plain lists: where a word points, what is reached. -/
import Derived.Test.YtfpfpopfnbcblaaDoorQMkReachMBd
import Derived.Test.YtfpfpopfnbcblaaDoorQMkMorePBd
import Derived.Test.YtfpfpopfnbcblaaDoorQRaNewBd
namespace Go.Proofs.YtfpfpopfnbcblaaDoor

/-- To which block's place a word points. -/
def ptsR (bs : List Blk) (x : Nat) : Int := match toF x with
  | some a => findR bs (a : Int)
  | none => -1
theorem ptsR_none {bs : List Blk} {x : Nat} (h : toF x = none) : ptsR bs x = -1 := by unfold ptsR; rw [h]
theorem ptsR_some {bs : List Blk} {x a : Nat} (h : toF x = some a) : ptsR bs x = findR bs (a : Int) := by unfold ptsR; rw [h]
theorem ptsR_hit {bs : List Blk} {x k : Nat} (h : ptsR bs x = (k : Nat)) : ∃ b, bs[k]? = some b ∧ b.u = true ∧ toF x = some b.a := by
  cases ht : toF x with
  | none => rw [ptsR_none ht] at h; omega
  | some a =>
    rw [ptsR_some ht] at h
    rcases findR_cases bs (a : Int) with ⟨h1, _⟩ | ⟨i, b, h1, h2, _, h4, h5⟩
    · omega
    · obtain rfl : i = k := by omega
      exact ⟨b, h1, h4, by rw [show b.a = a by omega]⟩
theorem ptsR_cases (bs : List Blk) (x : Nat) : ptsR bs x = -1 ∨ ∃ k : Nat, ptsR bs x = k := by
  cases ht : toF x with
  | none => exact .inl (ptsR_none ht)
  | some a =>
    rw [ptsR_some ht]
    rcases findR_cases bs (a : Int) with ⟨h1, _⟩ | ⟨i, b, h1, h2, _⟩
    · exact .inl h1
    · exact .inr ⟨i, h2⟩
theorem span_idx {bs : List Blk} {s t : Nat} (hs : Span s bs t) {i k : Nat} {b c : Blk} (hi : bs[i]? = some b) (hk : bs[k]? = some c) (e : b.a = c.a) : i = k := by
  have hp := List.pairwise_iff_getElem.1 (span_sorted hs)
  obtain ⟨h1, rfl⟩ := List.getElem?_eq_some_iff.1 hi
  obtain ⟨h2, rfl⟩ := List.getElem?_eq_some_iff.1 hk
  rcases Nat.lt_trichotomy i k with h | h | h
  · have := hp i k (by simpa using h1) (by simpa using h2) h
    simp only [List.getElem_map] at this; omega
  · exact h
  · have := hp k i (by simpa using h2) (by simpa using h1) h
    simp only [List.getElem_map] at this; omega
theorem ptsR_of {bs : List Blk} {s t : Nat} (hs : Span s bs t) {x k : Nat} {b : Blk} (hk : bs[k]? = some b) (hu : b.u = true) (ht : toF x = some b.a) : ptsR bs x = (k : Nat) := by
  rw [ptsR_some ht]
  rcases findR_cases bs (b.a : Int) with ⟨_, h2⟩ | ⟨i, c, h1, h2, _, _, h5⟩
  · rw [blkAt_some hs (List.mem_of_getElem? hk) hu] at h2; cases h2
  · rw [h2, span_idx hs h1 hk (by omega)]
abbrev RchB (bs : List Blk) (xs : List Nat) (a : Nat) : Prop := Rch (UsedC (content bs)) (EF (wordsC (content bs))) (fun x => x ∈ xs.filterMap toF) a
/-- What is known to be reached so far. -/
structure RsI (bs : List Blk) (xs : List Nat) (X : List Bool) : Prop where
  len : X.length = bs.length
  sub : ∀ (k : Nat) (b : Blk), bs[k]? = some b → X[k]? = some true → b.u = true ∧ RchB bs xs b.a
def RootsIn (bs : List Blk) (xs : List Nat) (n : Nat) (X : List Bool) : Prop := ∀ x ∈ xs.take n, ∀ k : Nat, ptsR bs x = k → X[k]? = some true
def ClosedAt (bs : List Blk) (X : List Bool) (b : Blk) (n : Nat) : Prop := ∀ y ∈ b.ws.take n, ∀ k : Nat, ptsR bs y = k → X[k]? = some true
def ClosedTo (bs : List Blk) (n : Nat) (X : List Bool) : Prop := ∀ i, i < n → X[i]? = some true → ∀ b : Blk, bs[i]? = some b → ClosedAt bs X b b.n
variable {bs : List Blk} {xs : List Nat} {X : List Bool} {s t : Nat}
theorem set_keeps {k j : Nat} (h : X[j]? = some true) : (X.set k true)[j]? = some true := by
  rw [List.getElem?_set]
  split
  · rename_i e; subst e
    rw [if_pos (List.getElem?_eq_some_iff.1 h).1]
  · exact h
theorem set_at {k : Nat} (h : k < X.length) : (X.set k true)[k]? = some true := by
  rw [List.getElem?_set]; simp [h]
theorem set_only {k j : Nat} (h : (X.set k true)[j]? = some true) : j = k ∨ X[j]? = some true := by
  rw [List.getElem?_set] at h
  split at h
  · rename_i e; exact .inl e.symm
  · exact .inr h
theorem RsI.start : RsI bs xs (List.replicate bs.length false) := ⟨by simp, fun k b _ h => by
  rw [List.getElem?_replicate] at h
  split at h <;> cases h⟩
theorem RsI.hit (h : RsI bs xs X) {k : Nat} {b : Blk} (hk : bs[k]? = some b) (hu : b.u = true) (hr : RchB bs xs b.a) : RsI bs xs (X.set k true) := by
  refine ⟨by simp [h.len], fun j c hj hX => ?_⟩
  rcases set_only hX with rfl | hX
  · rw [hk] at hj; injection hj with hj; subst hj; exact ⟨hu, hr⟩
  · exact h.sub j c hj hX
theorem used_at {k : Nat} {b : Blk} (hk : bs[k]? = some b) (hu : b.u = true) : UsedC (content bs) b.a :=
  ⟨b.ws, List.mem_map.2 ⟨b, List.mem_of_getElem? hk, by rw [hu]⟩⟩
theorem RsI.root (h : RsI bs xs X) {x k : Nat} (hx : x ∈ xs) (hp : ptsR bs x = (k : Nat)) : RsI bs xs (X.set k true) := by
  obtain ⟨b, hk, hu, ht⟩ := ptsR_hit hp
  exact h.hit hk hu (.root (List.mem_filterMap.2 ⟨x, hx, ht⟩) (used_at hk hu))
theorem RsI.step (hs : Span s bs t) (h : RsI bs xs X) {i k y : Nat} {b : Blk} (hi : bs[i]? = some b) (hX : X[i]? = some true) (hy : y ∈ b.ws) (hp : ptsR bs y = (k : Nat)) : RsI bs xs (X.set k true) := by
  obtain ⟨c, hk, hu, ht⟩ := ptsR_hit hp
  obtain ⟨h1, h2⟩ := h.sub i b hi hX
  refine h.hit hk hu (.step h2 ?_ (used_at hk hu))
  unfold EF
  rw [wordsC_of hs (List.mem_of_getElem? hi) h1]
  exact List.mem_filterMap.2 ⟨y, hy, ht⟩
/-- All that is reached. -/
theorem RsI.done (hs : Span s bs t) (h : RsI bs xs X) (hr : RootsIn bs xs xs.length X) (hc : ClosedTo bs bs.length X) {k : Nat} {b : Blk} (hk : bs[k]? = some b) : X[k]? = some true ↔ b.u = true ∧ RchB bs xs b.a := by
  refine ⟨h.sub k b hk, fun ⟨_, hR⟩ => ?_⟩
  have key : ∀ a, RchB bs xs a → ∃ (k : Nat) (b : Blk), bs[k]? = some b ∧ b.a = a ∧ X[k]? = some true := by
    intro a hR
    induction hR with
    | @root a hm hU =>
      obtain ⟨x, hx, ht⟩ := List.mem_filterMap.1 hm
      obtain ⟨c, hc', hcu, hq⟩ := usedAt_mem (usedC_iff.1 hU)
      obtain ⟨j, hj⟩ := List.getElem?_of_mem hc'
      have e : c.a = a := by omega
      exact ⟨j, c, hj, e, hr x (by simpa using hx) j (ptsR_of hs hj hcu (by rw [ht, e]))⟩
    | @step a d _ hb hU ih =>
      obtain ⟨i, b', hi, ha, hX⟩ := ih
      obtain ⟨c, hc', hcu, hq⟩ := usedAt_mem (usedC_iff.1 hU)
      obtain ⟨j, hj⟩ := List.getElem?_of_mem hc'
      have e : c.a = d := by omega
      have hu' := (h.sub i b' hi hX).1
      unfold EF at hb
      rw [← ha, wordsC_of hs (List.mem_of_getElem? hi) hu'] at hb
      obtain ⟨y, hy, ht⟩ := List.mem_filterMap.1 hb
      exact ⟨j, c, hj, e, hc i (List.getElem?_eq_some_iff.1 hi).1 hX b' hi y (by unfold Blk.n; rw [List.take_length]; exact hy) j (ptsR_of hs hj hcu (by rw [ht, e]))⟩
  obtain ⟨j, c, hj, e, hX⟩ := key _ hR
  rw [← span_idx hs hj hk e]; exact hX
theorem RootsIn.next {n x : Nat} (h : RootsIn bs xs n X) (hx : xs[n]? = some x) (hp : ∀ k : Nat, ptsR bs x = k → X[k]? = some true) : RootsIn bs xs (n + 1) X := by
  intro y hy k hk
  rw [List.take_add_one, hx] at hy
  rcases List.mem_append.1 hy with hy | hy
  · exact h y hy k hk
  · simp at hy; subst hy; exact hp k hk
theorem RootsIn.set {n k : Nat} (h : RootsIn bs xs n X) : RootsIn bs xs n (X.set k true) := fun y hy j hj => set_keeps (h y hy j hj)
theorem ClosedAt.next {n y : Nat} {b : Blk} (h : ClosedAt bs X b n) (hx : b.ws[n]? = some y) (hp : ∀ k : Nat, ptsR bs y = k → X[k]? = some true) : ClosedAt bs X b (n + 1) := by
  intro z hz k hk
  rw [List.take_add_one, hx] at hz
  rcases List.mem_append.1 hz with hz | hz
  · exact h z hz k hk
  · simp at hz; subst hz; exact hp k hk
theorem ClosedTo.next {n : Nat} {b : Blk} (h : ClosedTo bs n X) (hb : bs[n]? = some b) (hc : X[n]? = some true → ClosedAt bs X b b.n) : ClosedTo bs (n + 1) X := by
  intro i hi hX c hc'
  rcases Nat.lt_or_ge i n with h1 | h1
  · exact h i h1 hX c hc'
  · obtain rfl : i = n := by omega
    rw [hb] at hc'; injection hc' with hc'; subst hc'; exact hc hX
/-- How many are not reached yet. -/
def fals (X : List Bool) : Nat := X.count false
theorem fals_set : ∀ {X : List Bool} {k : Nat}, X[k]? = some false → fals (X.set k true) + 1 = fals X
  | [], k, h => by simp at h
  | a :: l, 0, h => by simp at h; subst h; simp [fals]
  | a :: l, k + 1, h => by
    have ih := fals_set (X := l) (k := k) (by simpa using h)
    unfold fals at ih ⊢
    rw [List.set_cons_succ, List.count_cons, List.count_cons]
    omega
/-- The addresses of the first n blocks of which X says so. -/
def selN (bs : List Blk) (X : List Bool) (n : Nat) : List Nat := (((bs.zip X).take n).filter (·.2)).map (·.1.a)
theorem zip_at {n : Nat} {b : Blk} {x : Bool} (hb : bs[n]? = some b) (hx : X[n]? = some x) : (bs.zip X)[n]? = some (b, x) := by
  rw [List.getElem?_zip_eq_some]; exact ⟨hb, hx⟩
theorem selN_hit {n : Nat} {b : Blk} (hb : bs[n]? = some b) (hx : X[n]? = some true) : selN bs X (n + 1) = selN bs X n ++ [b.a] := by
  unfold selN
  rw [List.take_add_one, zip_at hb hx]; simp
theorem selN_miss {n : Nat} {b : Blk} (hb : bs[n]? = some b) (hx : X[n]? = some false) : selN bs X (n + 1) = selN bs X n := by
  unfold selN
  rw [List.take_add_one, zip_at hb hx]; simp
theorem selN_pre (n : Nat) : selN bs X n <+: selN bs X bs.length := by
  unfold selN
  rw [show (bs.zip X).take bs.length = bs.zip X from List.take_of_length_le (by simp; omega)]
  exact ((List.take_prefix n _).filter _).map _
theorem selN_all (hs : Span s bs t) (hl : X.length = bs.length) (hX : ∀ (k : Nat) (b : Blk), bs[k]? = some b → (X[k]? = some true ↔ b.u = true ∧ RchB bs xs b.a)) {L : List Nat} (hL : L.Pairwise (· < ·)) (hm : ∀ a, a ∈ L ↔ RchB bs xs a) : selN bs X bs.length = L := by
  refine sorted_ext ?_ hL (fun a => ?_)
  · unfold selN
    rw [show (bs.zip X).take bs.length = bs.zip X from List.take_of_length_le (by simp; omega)]
    have h1 := span_sorted hs
    have h2 : ((bs.zip X).map (·.1.a)) = bs.map (·.a) := by
      rw [show (bs.zip X).map (·.1.a) = ((bs.zip X).map Prod.fst).map (·.a) by rw [List.map_map]; rfl, List.map_fst_zip (by omega)]
    rw [← h2] at h1
    exact h1.sublist ((List.filter_sublist).map _)
  · rw [hm]
    unfold selN
    rw [show (bs.zip X).take bs.length = bs.zip X from List.take_of_length_le (by simp; omega), List.mem_map]
    constructor
    · rintro ⟨⟨b, x⟩, hz, rfl⟩
      obtain ⟨hz, hx⟩ := List.mem_filter.1 hz
      obtain ⟨k, hk⟩ := List.getElem?_of_mem hz
      rw [List.getElem?_zip_eq_some] at hk
      simp at hx hk
      subst hx
      exact ((hX k b hk.1).1 hk.2).2
    · intro hR
      obtain ⟨b, hb, hu, hq⟩ := usedAt_mem (usedC_iff.1 hR.used)
      obtain ⟨k, hk⟩ := List.getElem?_of_mem hb
      have e : b.a = a := by omega
      have := (hX k b hk).2 ⟨hu, by rw [e]; exact hR⟩
      exact ⟨(b, true), List.mem_filter.2 ⟨List.mem_of_getElem? (zip_at hk this), rfl⟩, e⟩
end Go.Proofs.YtfpfpopfnbcblaaDoor
