/- package mark: Mark and Reach of an arena beside other blocks, over all its words. -/
import Derived.Test.YtfpfpopfnbcblaaDoorQMkReach
import Derived.Test.YtfpfpopfnbcblaaDoorQMkBuiltMBd
import Derived.Test.YtfpfpopfnbcblaaDoorQMkRefuseBd
namespace Go.Proofs.YtfpfpopfnbcblaaDoor
open Go.RowKit

theorem tab_on {w w' : World} (h : Tab w) (hb : Below w.heap.size w w') : Tab w' :=
  ⟨below_cell hb h.c0, below_cell hb h.c1, below_cell hb h.c2, below_cell hb h.c3, below_cell hb h.c4, below_cell hb h.c5, below_cell hb h.c6, below_cell hb h.c7, below_cell hb h.c8, below_cell hb h.c9, below_cell hb h.c10, below_cell hb h.c11⟩
/-- All words are words. -/
def U64B (bs : List Blk) : Prop := ∀ b ∈ bs, ∀ y ∈ b.ws, y < 18446744073709551616
def U64C (ct : List (Nat × List Nat × Bool)) : Prop := ∀ t ∈ ct, t.2.1.length ≤ 1000000 ∧ ∀ y ∈ t.2.1, y < 18446744073709551616
theorem u64C_of {m : Nat} {bs : List Blk} (hw : Wf m bs) (hm : m ≤ 100000) (h : U64B bs) : U64C (content bs) := by
  rintro t ht
  obtain ⟨b, hb, rfl⟩ := List.mem_map.1 ht
  refine ⟨?_, h b hb⟩
  have h1 := hw.span.mem b hb
  have h3 : endOf m ≤ m + 1 := by unfold endOf; split <;> omega
  have : b.ws.length = b.n := rfl
  dsimp only
  omega
/-- A row of words that lies beside the arena. -/
def RowBy (R : Nat → Prop) (w W : World) (v : Value) (xs : List Nat) : Prop := ∃ ao c, v = .slice ao xs.length c ∧ (xs = [] ∨ ∃ b o, ao = some ⟨b, o, none⟩ ∧ (b < w.heap.size ∨ R b) ∧ ∀ k x : Nat, xs[k]? = some x → W.cell? ((⟨b, o, none⟩ : Addr).add k) = some (.int .u64 x))
variable {R : Nat → Prop} {w W : World} {p m ab : Nat} {bs : List Blk}
theorem RowBy.u64 {v : Value} {xs : List Nat} (h : RowBy R w W v xs) : U64At W v xs := by
  obtain ⟨ao, c, rfl, h⟩ := h
  exact ⟨ao, c, rfl, h.imp id (fun ⟨b, o, e, _, hc⟩ => ⟨b, o, e, hc⟩)⟩
theorem RowBy.keep {S : Nat → Prop} {v : Value} {xs : List Nat} (h : RowBy R w W v xs) (hS : ∀ b, S b → w.heap.size ≤ b ∧ ¬ R b) {W' : World} (u : Upd S W W') : U64At W' v xs := by
  obtain ⟨ao, c, rfl, h⟩ := h
  refine ⟨ao, c, rfl, h.imp id (fun ⟨b, o, e, hb, hc⟩ => ⟨b, o, e, fun k x hk => u.cell_some (hc k x hk) (fun hs => ?_)⟩)⟩
  have hs : S b := by rw [Addr.add_lit] at hs; exact hs
  rcases hb with hb | hb
  · have := (hS b hs).1; omega
  · exact (hS b hs).2 hb
/-- The environment over all words of a block. -/
theorem env_r (ht : Tab w ∧ TzTab w) {S : Nat → Prop} {W0 : World} {mb : Nat} {ct : List (Nat × List Nat × Bool)} (hS : ∀ b, S b → w.heap.size ≤ b ∧ b < W0.heap.size) (hmb : w.heap.size ≤ mb ∧ mb < W0.heap.size) (hb : Below w.heap.size w W0) (hab : W0.cell? ⟨ab, 0, none⟩ = some (.pointer (some ⟨p, 0, none⟩))) (hU : ¬ (S ab ∨ ab = mb)) (hc : U64C ct) :
    MEnv S p m mb 28 #[.pointer (some ⟨ab, 0, none⟩)] ct (wordsC ct) W0 :=
  env_words (fun b h => (hS b h).2) hmb.2 hab hU (fun W' u => by
    have hb' : Below w.heap.size w W' := hb.trans (u.below (fun k hk => by
      rcases hk with hk | hk
      · exact (hS k hk).1
      · rw [hk]; exact hmb.1) hb.size)
    exact ⟨tab_on ht.1 hb', ht.2.on hb'⟩) hc
theorem env_ra (ht : Tab w ∧ TzTab w) {S : Nat → Prop} {W0 : World} {mb : Nat} {ct : List (Nat × List Nat × Bool)} (hS : ∀ b, S b → w.heap.size ≤ b ∧ b < W0.heap.size) (hmb : w.heap.size ≤ mb ∧ mb < W0.heap.size) (hb : Below w.heap.size w W0) :
    MEnv S p m mb 14 #[] ct (fun _ => []) W0 :=
  env_alone (fun b h => (hS b h).2) hmb.2 (fun W' u => by
    have hb' : Below w.heap.size w W' := hb.trans (u.below (fun k hk => by
      rcases hk with hk | hk
      · exact (hS k hk).1
      · rw [hk]; exact hmb.1) hb.size)
    exact ⟨tab_on ht.1 hb', ht.2.on hb'⟩)
/-- Mark over all words. -/
def MkLR (R : Nat → Prop) (w W : World) (p m : Nat) (bs : List Blk) (E0 : Nat → List Nat) (xs : List Nat) (e : Ending) (W' : World) : Prop :=
  ∃ bs' n, e = .returned (.tuple #[.int .i64 (n : Nat), .int .i64 0]) ∧ ArR R w W' p m bs' ∧ Kept R W W' ∧ content bs' = content bs ∧ cntM bs' = cntM bs + n ∧ (∀ a, MarkX bs' a ↔ Rch (UsedC (content bs)) (EF E0) (fun x => MarkX bs x ∨ x ∈ xs.filterMap toF) a)
theorem mark_r0 {fw : FuncId} {capw : Array Value} {E0 : Nat → List Nat} (A : ArR R w W p m bs) (hR : ∀ b, R b → b < W.heap.size)
    (hV : ∀ (S : Nat → Prop) mb W0, (∀ b, S b → w.heap.size ≤ b ∧ b < W.heap.size ∧ ¬ R b) → W.heap.size ≤ mb → mb < W0.heap.size → Below W.heap.size W W0 → MEnv S p m mb fw capw (content bs) E0 W0)
    (k : Nat) (hk : k < 9223372036854775808) (hk1 : 1 ≤ k) (v : Value) (xs : List Nat) (hv : RowBy R w W v xs) (hx : ∀ x ∈ xs, x < 18446744073709551616) (hl : xs.length ≤ 1000000) :
    Calls Tryd.prog 11 #[.pointer (some ⟨p, 0, none⟩), .int .i64 k, v, .func (.func fw) #[] capw] W (MkLR R w W p m bs E0 xs) := by
  obtain ⟨S, a, hS⟩ := A.ex
  refine (mark_any a rfl (fun b hb => (hS b hb).2.1) (fun mb W0 h1 h2 h3 => hV S mb W0 hS h1 h2 h3) k hk hk1 v xs (fun W' u => hv.keep (fun b hb => ⟨(hS b hb).1, (hS b hb).2.2⟩) u) hx hl).mono ?_
  rintro e W' ⟨bs', n, he, h1, h2, h3, h4, h5⟩
  have hs := A.below.size
  exact ⟨bs', n, he, ⟨⟨S, h1, fun b hb => ⟨(hS b hb).1, Nat.lt_of_lt_of_le (hS b hb).2.1 h5.size, (hS b hb).2.2⟩⟩, A.below.trans (h5.below (fun b hb => (hS b hb).1) hs)⟩, ⟨h5.size, fun b hb => h5.block b (hR b hb) (fun h => (hS b h).2.2 hb)⟩, h2, h3, h4⟩
theorem mark_r (ht : Tab w ∧ TzTab w) (A : ArR R w W p m bs) (hR : ∀ b, R b → b < W.heap.size) (hm : m ≤ 100000) (h64 : U64B bs) (hab : W.cell? ⟨ab, 0, none⟩ = some (.pointer (some ⟨p, 0, none⟩))) (hRa : R ab)
    (k : Nat) (hk : k < 9223372036854775808) (hk1 : 1 ≤ k) (v : Value) (xs : List Nat) (hv : RowBy R w W v xs) (hx : ∀ x ∈ xs, x < 18446744073709551616) (hl : xs.length ≤ 1000000) :
    Calls Tryd.prog 11 #[.pointer (some ⟨p, 0, none⟩), .int .i64 k, v, .func (.func 28) #[] #[.pointer (some ⟨ab, 0, none⟩)]] W (MkLR R w W p m bs (wordsC (content bs)) xs) :=
  mark_r0 A hR (fun S mb W0 hS h1 h2 h3 => env_r ht (fun b hb => ⟨(hS b hb).1, by have := (hS b hb).2.1; have := h3.size; omega⟩) ⟨Nat.le_trans A.below.size h1, h2⟩ (A.below.trans (h3.mono A.below.size)) (below_cell h3 hab) (fun h => by
    rcases h with h | h
    · exact (hS ab h).2.2 hRa
    · have := hR ab hRa; omega) (u64C_of A.wf hm h64)) k hk hk1 v xs hv hx hl
theorem mark_ra (ht : Tab w ∧ TzTab w) (A : ArR R w W p m bs) (hR : ∀ b, R b → b < W.heap.size)
    (k : Nat) (hk : k < 9223372036854775808) (hk1 : 1 ≤ k) (v : Value) (xs : List Nat) (hv : RowBy R w W v xs) (hx : ∀ x ∈ xs, x < 18446744073709551616) (hl : xs.length ≤ 1000000) :
    Calls Tryd.prog 11 #[.pointer (some ⟨p, 0, none⟩), .int .i64 k, v, .func (.func 14) #[] #[]] W (MkLR R w W p m bs (fun _ => []) xs) :=
  mark_r0 A hR (fun S mb W0 hS h1 h2 h3 => env_ra ht (fun b hb => ⟨(hS b hb).1, by have := (hS b hb).2.1; have := h3.size; omega⟩) ⟨Nat.le_trans A.below.size h1, h2⟩ (A.below.trans (h3.mono A.below.size))) k hk hk1 v xs hv hx hl
/-- Reach over all words. -/
theorem reach_r (ht : Tab w ∧ TzTab w) (A : ArR R w W p m bs) (_ : ∀ b, R b → b < W.heap.size) (hm : m ≤ 100000) (h64 : U64B bs) (hab : W.cell? ⟨ab, 0, none⟩ = some (.pointer (some ⟨p, 0, none⟩))) (hRa : R ab) (_ : w.heap.size ≤ ab)
    (v : Value) (xs : List Nat) (hv : RowBy R w W v xs) (hx : ∀ x ∈ xs, x < 18446744073709551616) (hl : xs.length ≤ 1000000) :
    Calls Tryd.prog 9 #[.pointer (some ⟨p, 0, none⟩), v, .func (.func 28) #[] #[.pointer (some ⟨ab, 0, none⟩)]] W (ReachPost W (content bs) (wordsC (content bs)) xs) := by
  obtain ⟨S, a, hS⟩ := A.ex
  have hab0 : ab ≠ p := fun e => by
    obtain ⟨S', a', hS'⟩ := A.ex
    obtain ⟨SL, wb, tb, kb, mc, lv, ws, L, T, K, used, tk, mk, tbs, kbs, A', I, O⟩ := a'
    have c1 := heap_cell A'.core.blk 0
    rw [← e, hab] at c1
    simp at c1
  have hpS : ∃ q, w.heap.size ≤ q ∧ q < W.heap.size ∧ q ≠ ab := ⟨p, by
    obtain ⟨SL, wb, tb, kb, mc, lv, ws, L, T, K, used, tk, mk, tbs, kbs, A', I, O⟩ := a
    have := O p (by simp [Own])
    exact ⟨(hS p this).1, (hS p this).2.1, fun h => hab0 h.symm⟩⟩
  obtain ⟨q, h1, h2, h3⟩ := hpS
  exact reach_any a rfl (mb := q) (env_r ht (fun b hb => ⟨(hS b hb).1, (hS b hb).2.1⟩) ⟨h1, h2⟩ A.below hab (fun h => by
    rcases h with h | h
    · exact (hS ab h).2.2 hRa
    · exact h3 h.symm) (u64C_of A.wf hm h64)) v xs hv.u64 hx hl
theorem reach_ra (ht : Tab w ∧ TzTab w) (A : ArR R w W p m bs) (_ : ∀ b, R b → b < W.heap.size) (hq : ∃ q, w.heap.size ≤ q ∧ q < W.heap.size)
    (v : Value) (xs : List Nat) (hv : RowBy R w W v xs) (hx : ∀ x ∈ xs, x < 18446744073709551616) (hl : xs.length ≤ 1000000) :
    Calls Tryd.prog 9 #[.pointer (some ⟨p, 0, none⟩), v, .func (.func 14) #[] #[]] W (ReachPost W (content bs) (fun _ => []) xs) := by
  obtain ⟨S, a, hS⟩ := A.ex
  obtain ⟨q, h1, h2⟩ := hq
  exact reach_any a rfl (mb := q) (env_ra ht (fun b hb => ⟨(hS b hb).1, (hS b hb).2.1⟩) ⟨h1, h2⟩ A.below) v xs hv.u64 hx hl
end Go.Proofs.YtfpfpopfnbcblaaDoor

/- geodelaw23.known, plain; lists of what is reached. -/
namespace Go.Proofs.YtfpfpopfnbcblaaDoor

theorem sorted_ext : ∀ {l r : List Nat}, l.Pairwise (· < ·) → r.Pairwise (· < ·) → (∀ a, a ∈ l ↔ a ∈ r) → l = r
  | [], [], _, _, _ => rfl
  | [], b :: r, _, _, h => by have := (h b).2 (by simp); simp at this
  | a :: l, [], _, _, h => by have := (h a).1 (by simp); simp at this
  | a :: l, b :: r, hl, hr, h => by
    have h1 := List.pairwise_cons.1 hl
    have h2 := List.pairwise_cons.1 hr
    have e : a = b := by
      have m1 := (h a).1 (by simp)
      have m2 := (h b).2 (by simp)
      rcases List.mem_cons.1 m1 with e | m1
      · exact e
      · rcases List.mem_cons.1 m2 with e | m2
        · exact e.symm
        · have := h2.1 a m1; have := h1.1 b m2; omega
    subst e
    congr 1
    refine sorted_ext h1.2 h2.2 (fun x => ⟨fun hx => ?_, fun hx => ?_⟩)
    · rcases List.mem_cons.1 ((h x).1 (by simp [hx])) with e | m
      · have := h1.1 x hx; omega
      · exact m
    · rcases List.mem_cons.1 ((h x).2 (by simp [hx])) with e | m
      · have := h2.1 x hx; omega
      · exact m
theorem span_sorted : ∀ {l : List Blk} {s t : Nat}, Span s l t → (l.map (·.a)).Pairwise (· < ·)
  | [], _, _, _ => .nil
  | b :: l, s, t, ⟨h1, h2, h3⟩ => by
    rw [List.map_cons]
    refine List.pairwise_cons.2 ⟨fun x hx => ?_, span_sorted h3⟩
    obtain ⟨c, hc, rfl⟩ := List.mem_map.1 hx
    have := h3.mem c hc
    omega
/-- The marked ones, rising. -/
def marksL (bs : List Blk) : List Nat := (bs.filter (·.m)).map (·.a)
theorem marksL_sorted {m : Nat} {bs : List Blk} (hw : Wf m bs) : (marksL bs).Pairwise (· < ·) :=
  (span_sorted hw.span).sublist ((List.filter_sublist).map _)
theorem marksL_mem {bs : List Blk} {a : Nat} : a ∈ marksL bs ↔ MarkX bs a := by
  unfold marksL MarkX
  rw [markedAt_iff, List.mem_map]
  constructor
  · rintro ⟨b, hb, e⟩
    exact ⟨b, (List.mem_filter.1 hb).1, (List.mem_filter.1 hb).2, e⟩
  · rintro ⟨b, hb, hm, e⟩
    exact ⟨b, List.mem_filter.2 ⟨hb, hm⟩, e⟩
theorem cnt_marks (bs : List Blk) : cntM bs = (marksL bs).length := by unfold cntM marksL; rw [List.length_map]
theorem marks_eq {m : Nat} {bs : List Blk} {l : List Nat} (hw : Wf m bs) (hl : l.Pairwise (· < ·)) (h : ∀ a, MarkX bs a ↔ a ∈ l) : marksL bs = l :=
  sorted_ext (marksL_sorted hw) hl (fun a => marksL_mem.trans (h a))
/-- Who is marked does not hang on more than the roots: what was marked counts as a root. -/
theorem rch_congr {U : Nat → Prop} {E : Nat → List Nat} {R Q : Nat → Prop} (h : ∀ a, R a ↔ Q a) (a : Nat) : Rch U E R a ↔ Rch U E Q a :=
  ⟨fun k => k.mono (fun x hx => (h x).1 hx), fun k => k.mono (fun x hx => (h x).2 hx)⟩
def kk1 : List Blk := (takeF (newBs 30) 2).2.2
def kk2 : List Blk := (takeF kk1 2).2.2
def kk3 : List Blk := (takeF kk2 2).2.2
def kk4 : List Blk := (setF kk3 1 0 34).2
def kk5 : List Blk := (setF kk4 4 0 10).2
theorem kkt1 : takeF (newBs 30) 2 = (1, 0, kk1) := by decide +kernel
theorem kkt2 : takeF kk1 2 = (4, 0, kk2) := by decide +kernel
theorem kkt3 : takeF kk2 2 = (7, 0, kk3) := by decide +kernel
theorem kks4 : setF kk3 1 0 34 = (0, kk4) := by decide +kernel
theorem kks5 : setF kk4 4 0 10 = (0, kk5) := by decide +kernel
theorem kk_ct : content kk5 = [(1, [34, 0], true), (4, [10, 0], true), (7, [0, 0], true), (10, zeros 20, false)] := by decide +kernel
theorem kk_m : ∀ b ∈ kk5, b.m = false := by decide +kernel
theorem kk_64 : U64B kk5 := by
  have : (kk5.all fun b => b.ws.all fun y => decide (y < 18446744073709551616)) = true := by decide +kernel
  intro b hb y hy
  have h1 := List.all_eq_true.1 this b hb
  have h2 := List.all_eq_true.1 h1 y hy
  simpa using h2
theorem kk_un (a : Nat) : ¬ MarkX kk5 a := fun h => by
  obtain ⟨b, hb, hm, _⟩ := markedAt_iff.1 h
  rw [kk_m b hb] at hm; cases hm
theorem kk_used (a : Nat) : UsedC (content kk5) a ↔ a = 1 ∨ a = 4 ∨ a = 7 := by
  rw [kk_ct]
  constructor
  · rintro ⟨ws, h⟩
    simp at h
    rcases h with h | h | h
    · exact .inl h.1
    · exact .inr (.inl h.1)
    · exact .inr (.inr h.1)
  · rintro (rfl | rfl | rfl)
    · exact ⟨[34, 0], by simp⟩
    · exact ⟨[10, 0], by simp⟩
    · exact ⟨[0, 0], by simp⟩
theorem kk_e1 : EF (wordsC (content kk5)) 1 = [4] := by decide +kernel
theorem kk_e4 : EF (wordsC (content kk5)) 4 = [1] := by decide +kernel
theorem kk_e7 : EF (wordsC (content kk5)) 7 = [] := by decide +kernel
theorem kk_r10 : [10].filterMap toF = [1] := by decide +kernel
theorem kk_r61 : [61, 18].filterMap toF = [7, 2] := by decide +kernel
theorem kk_rch1 {R : Nat → Prop} (h1 : R 1) (hR : ∀ a, R a → a = 1 ∨ a = 4) (a : Nat) : Rch (UsedC (content kk5)) (EF (wordsC (content kk5))) R a ↔ a ∈ [1, 4] := by
  have u1 := (kk_used 1).2 (.inl rfl)
  have u4 := (kk_used 4).2 (.inr (.inl rfl))
  constructor
  · intro h
    induction h with
    | root h hu => rcases hR _ h with rfl | rfl <;> simp
    | step hr hb hu ih =>
      simp only [List.mem_cons, List.not_mem_nil, or_false] at ih ⊢
      rcases ih with rfl | rfl
      · rw [kk_e1] at hb; simp at hb; exact .inr hb
      · rw [kk_e4] at hb; simp at hb; exact .inl hb
  · intro h
    simp only [List.mem_cons, List.not_mem_nil, or_false] at h
    rcases h with rfl | rfl
    · exact .root h1 u1
    · exact .step (.root h1 u1) (by rw [kk_e1]; simp) u4
theorem kk_rch7 (a : Nat) : Rch (UsedC (content kk5)) (EF (wordsC (content kk5))) (fun x => x ∈ [61, 18].filterMap toF) a ↔ a ∈ [7] := by
  rw [kk_r61]
  constructor
  · intro h
    induction h with
    | root h hu =>
      rcases (kk_used _).1 hu with rfl | rfl | rfl <;> simp at h ⊢
    | step hr hb hu ih =>
      simp only [List.mem_cons, List.not_mem_nil, or_false] at ih
      rw [ih, kk_e7] at hb; simp at hb
  · intro h
    simp only [List.mem_cons, List.not_mem_nil, or_false] at h
    subst h
    exact .root (by simp) ((kk_used 7).2 (.inr (.inr rfl)))
end Go.Proofs.YtfpfpopfnbcblaaDoor

/- geodelaw23.known. -/
namespace Go.Proofs.YtfpfpopfnbcblaaDoor
open Go.RowKit

variable {w W W1 : World} {p m : Nat} {bs : List Blk}
/-- What was made since lies beside the arena. -/
def Since (W W1 : World) (b : Nat) : Prop := W.heap.size ≤ b ∧ b < W1.heap.size
theorem ArN.box (A : ArN w W p m bs) (hb : Below W.heap.size W W1) : ArR (Since W W1) w W1 p m bs :=
  ((A.beside).grow hb).less (fun _ hb => .inr hb)
theorem since_lt (b : Nat) (h : Since W W1 b) : b < W1.heap.size := h.2
/-- A row of words that was just made. -/
theorem rowBy_new {W W1 : World} {b : Nat} {xs : List Nat} {T : TypeId} (h : W1.heap[b]? = some (.cells (u64s xs).toArray T (0, 0))) (hb : Since W W1 b) : RowBy (Since W W1) w W1 (.slice (some ⟨b, 0, none⟩) xs.length xs.length) xs :=
  ⟨_, _, rfl, .inr ⟨b, 0, rfl, .inr hb, fun k x hk => by rw [Addr.add_lit, Nat.zero_add, heap_cell h]; simp [u64s, hk]⟩⟩
/-- Mark of a literal row of roots, over all words. -/
def MkL (w : World) (p m : Nat) (bs : List Blk) (E0 : Nat → List Nat) (xs : List Nat) (e : Ending) (W' : World) : Prop :=
  ∃ bs' n, e = .returned (.tuple #[.int .i64 (n : Nat), .int .i64 0]) ∧ ArN w W' p m bs' ∧ content bs' = content bs ∧ cntM bs' = cntM bs + n ∧ (∀ a, MarkX bs' a ↔ Rch (UsedC (content bs)) (EF E0) (fun x => MarkX bs x ∨ x ∈ xs.filterMap toF) a)
theorem mark_lit (ht : Tab w ∧ TzTab w) (A : ArN w W p m bs) (hm : m ≤ 100000) (h64 : U64B bs) (k : Nat) (hk : k < 9223372036854775808) (hk1 : 1 ≤ k) (xs : List Nat) (hx : ∀ x ∈ xs, x < 18446744073709551616) (hl : xs.length ≤ 1000000) :
    Calls Tryd.prog 11 #[.pointer (some ⟨p, 0, none⟩), .int .i64 k, .slice (some ⟨W.heap.size, 0, none⟩) xs.length xs.length, .func (.func 28) #[] #[.pointer (some ⟨W.heap.size + 1, 0, none⟩)]] ((W.alloc (.cells (u64s xs).toArray 44)).alloc (.cells #[.pointer (some ⟨p, 0, none⟩)] 25)) (MkL w p m bs (wordsC (content bs)) xs) := by
  have hb : Below W.heap.size W ((W.alloc (.cells (u64s xs).toArray 44)).alloc (.cells #[.pointer (some ⟨p, 0, none⟩)] 25)) := ((Below.refl _ _).alloc (Nat.le_refl _) _).alloc (by simp) _
  have q0 := heap_alloc_keep (heap_alloc_at W (.cells (u64s xs).toArray 44) rfl) (.cells #[.pointer (some ⟨p, 0, none⟩)] 25)
  have q1 := heap_alloc_at (W.alloc (.cells (u64s xs).toArray 44)) (.cells #[.pointer (some ⟨p, 0, none⟩)] 25) (b := W.heap.size + 1) (by simp)
  refine (mark_r ht (A.box hb) since_lt hm h64 (heap_cell q1 0) ⟨by omega, by simp⟩ k hk hk1 _ xs (rowBy_new q0 ⟨by omega, by simp; omega⟩) hx hl).mono ?_
  rintro e W' ⟨bs', n, he, h1, _, h2, h3, h4⟩
  exact ⟨bs', n, he, h1.toN, h2, h3, h4⟩
theorem reach_lit (ht : Tab w ∧ TzTab w) (A : ArN w W p m bs) (hm : m ≤ 100000) (h64 : U64B bs) (xs : List Nat) (hx : ∀ x ∈ xs, x < 18446744073709551616) (hl : xs.length ≤ 1000000) :
    Calls Tryd.prog 9 #[.pointer (some ⟨p, 0, none⟩), .slice (some ⟨W.heap.size, 0, none⟩) xs.length xs.length, .func (.func 28) #[] #[.pointer (some ⟨W.heap.size + 1, 0, none⟩)]] ((W.alloc (.cells (u64s xs).toArray 44)).alloc (.cells #[.pointer (some ⟨p, 0, none⟩)] 25)) (ReachPost ((W.alloc (.cells (u64s xs).toArray 44)).alloc (.cells #[.pointer (some ⟨p, 0, none⟩)] 25)) (content bs) (wordsC (content bs)) xs) := by
  have hb : Below W.heap.size W ((W.alloc (.cells (u64s xs).toArray 44)).alloc (.cells #[.pointer (some ⟨p, 0, none⟩)] 25)) := ((Below.refl _ _).alloc (Nat.le_refl _) _).alloc (by simp) _
  have q0 := heap_alloc_keep (heap_alloc_at W (.cells (u64s xs).toArray 44) rfl) (.cells #[.pointer (some ⟨p, 0, none⟩)] 25)
  have q1 := heap_alloc_at (W.alloc (.cells (u64s xs).toArray 44)) (.cells #[.pointer (some ⟨p, 0, none⟩)] 25) (b := W.heap.size + 1) (by simp)
  exact reach_r ht (A.box hb) since_lt hm h64 (heap_cell q1 0) ⟨by omega, by simp⟩ (by have := A.below.size; omega) _ xs (rowBy_new q0 ⟨by omega, by simp; omega⟩) hx hl
theorem two_new (W : World) (o o' : Obj) : Below W.heap.size W ((W.alloc o).alloc o') := ((Below.refl _ _).alloc (Nat.le_refl _) _).alloc (by simp) _
def KnownPost (w : World) (e : Ending) (W : World) : Prop := e = .returned (.bool true) ∧ Below w.heap.size w W
set_option maxRecDepth 100000 in
set_option maxHeartbeats 4000000 in
theorem known_any (w : World) (ht : Tab w ∧ TzTab w) : Calls Tryd.prog 6 #[] w (KnownPost w) := by
  have HT := Lib.hid ht
  clear ht
  go_enter Tryd.func6, Tryd.ntmps6
  go_wp2_with fail
  refine (New_k w 30 30 (by decide) (by decide) rfl).mono ?_
  rintro e w1 ⟨p, rfl, A1⟩
  have HA1 := Lib.hid A1
  clear A1
  go_wp2
  go_loopw [2] (fun t2 wr => ∃ i : Nat, t2 = .int .i64 i ∧ i ≤ 3 ∧ ArN w wr p 30 (if i = 0 then newBs 30 else if i = 1 then kk1 else if i = 2 then kk2 else kk3)) (fun t2 _ => 3 - (intOf t2).toNat)
  case atStart => exact ⟨0, rfl, by decide, HA1.out⟩
  case round =>
    obtain ⟨i, rfl, hi, hA⟩ := hrel
    have HA := Lib.hid hA
    clear hA
    rcases (show i = 0 ∨ i = 1 ∨ i = 2 ∨ i = 3 by omega) with rfl | rfl | rfl | rfl
    · go_wp2_with fail
      refine (Take_k HA.out kkt1 1 rfl (by decide) (by decide)).mono ?_
      rintro e w2 ⟨rfl, A2⟩
      have HA2 := Lib.hid A2
      clear A2
      go_wp2
      go_roundw
      case rel => exact ⟨1, rfl, by decide, HA2.out⟩
      case measure => simp [intOf]
    · go_wp2_with fail
      refine (Take_k HA.out kkt2 4 rfl (by decide) (by decide)).mono ?_
      rintro e w2 ⟨rfl, A2⟩
      have HA2 := Lib.hid A2
      clear A2
      go_wp2
      go_roundw
      case rel => exact ⟨2, rfl, by decide, HA2.out⟩
      case measure => simp [intOf]
    · go_wp2_with fail
      refine (Take_k HA.out kkt3 7 rfl (by decide) (by decide)).mono ?_
      rintro e w2 ⟨rfl, A2⟩
      have HA2 := Lib.hid A2
      clear A2
      go_wp2
      go_roundw
      case rel => exact ⟨3, rfl, by decide, HA2.out⟩
      case measure => simp [intOf]
    · have hA3 : ArN w wr p 30 kk3 := HA.out
      have HA3 := Lib.hid hA3
      clear hA3 HA HA1 hi
      go_wp2_with fail
      refine (Set_k HA3.out kks4 34 rfl (by decide) (by decide) (by decide)).mono ?_
      rintro e w4 ⟨rfl, A4⟩
      have HA4 := Lib.hid A4
      clear A4
      go_wp2_with fail
      refine (Set_k HA4.out kks5 10 rfl (by decide) (by decide) (by decide)).mono ?_
      rintro e w5 ⟨rfl, A5⟩
      have HA5 := Lib.hid A5
      clear A5
      go_wp2_with fail
      refine (words_any p _).mono ?_
      rintro e w6 ⟨rfl, rfl⟩
      go_wp2_with fail
      refine (mark_lit HT.out HA5.out (by decide) kk_64 1 (by decide) (by decide) [10] (by decide) (by decide)).mono ?_
      rintro e w7 ⟨b7, n7, rfl, A7, ct7, cn7, mk7⟩
      have l7 : marksL b7 = [1, 4] := marks_eq A7.wf (by decide) (fun a => (mk7 a).trans (kk_rch1 (by rw [kk_r10]; simp) (fun a h => by
        rcases h with h | h
        · exact (kk_un a h).elim
        · rw [kk_r10] at h; simp at h; exact .inl h) a))
      have e7 : n7 = 2 := by
        have h1 : cntM kk5 = 0 := by decide +kernel
        rw [cnt_marks b7, l7, h1] at cn7
        simp at cn7; exact cn7.symm
      subst e7
      have b64 : U64B b7 := fun b hb y hy => by
        have h1 : (b.a, b.ws, b.u) ∈ content kk5 := by rw [← ct7]; exact List.mem_map.2 ⟨b, hb, rfl⟩
        obtain ⟨c, hc, e⟩ := List.mem_map.1 h1
        simp only [Prod.mk.injEq] at e
        exact kk_64 c hc y (by rw [e.2.1]; exact hy)
      have HA7 := Lib.hid A7; have HCT7 := Lib.hid ct7; have HL7 := Lib.hid l7; have HB64 := Lib.hid b64
      clear A7 ct7 cn7 mk7 l7 b64
      go_wp2_with fail
      refine (words_any p _).mono ?_
      rintro e w8 ⟨rfl, rfl⟩
      go_wp2_with fail
      refine (mark_lit HT.out HA7.out (by decide) HB64.out 1 (by decide) (by decide) [10] (by decide) (by decide)).mono ?_
      rintro e w9 ⟨b9, n9, rfl, A9, ct9, cn9, mk9⟩
      rw [HCT7.out] at ct9 mk9
      have m7 : ∀ a, MarkX b7 a ↔ a ∈ [1, 4] := fun a => by rw [← marksL_mem, HL7.out]
      have l9 : marksL b9 = [1, 4] := marks_eq A9.wf (by decide) (fun a => (mk9 a).trans (kk_rch1 (.inl ((m7 1).2 (by simp))) (fun a h => by
        rcases h with h | h
        · have := (m7 a).1 h; simpa using this
        · rw [kk_r10] at h; simp at h; exact .inl h) a))
      have e9 : n9 = 0 := by
        rw [cnt_marks b9, cnt_marks b7, l9, HL7.out] at cn9
        simp at cn9; exact cn9
      subst e9
      have b64 : U64B b9 := fun b hb y hy => by
        have h1 : (b.a, b.ws, b.u) ∈ content kk5 := by rw [← ct9]; exact List.mem_map.2 ⟨b, hb, rfl⟩
        obtain ⟨c, hc, e⟩ := List.mem_map.1 h1
        simp only [Prod.mk.injEq] at e
        exact kk_64 c hc y (by rw [e.2.1]; exact hy)
      have HA9 := Lib.hid A9; have HCT9 := Lib.hid ct9; have HL9 := Lib.hid l9; have HB649 := Lib.hid b64
      clear A9 ct9 cn9 mk9 l9 b64 m7
      go_wp2_with fail
      refine (words_any p _).mono ?_
      rintro e w10 ⟨rfl, rfl⟩
      go_wp2_with fail
      refine (reach_lit HT.out HA9.out (by decide) HB649.out [61, 18] (by decide) (by decide)).mono ?_
      rintro e w11 ⟨rv, l, rfl, hrow, hso, hmem, hbe⟩
      rw [HCT9.out] at hmem
      have el : l = [7] := sorted_ext hso (by decide) (fun a => (hmem a).trans (kk_rch7 a))
      subst el
      obtain ⟨g, cp, cur, rfl, _, _, _, hcell⟩ := ownsRow_some hrow (by decide)
      have r7 := hcell 0 (by decide)
      have r7' : w11.cell? ⟨g, 0, none⟩ = some (.int .i64 7) := r7
      have A11 := HA9.out.then ((two_new _ _ _).trans (hbe.mono (two_new _ _ _).size))
      have HA11 := Lib.hid A11; have HR7 := Lib.hid r7'
      clear hrow hso hmem hbe A11 r7 r7' hcell
      go_wp2_with fail
      refine (words_any p _).mono ?_
      rintro e w12 ⟨rfl, rfl⟩
      go_wp2_with fail
      refine (mark_low _ p _ _ 0 (by decide) _).mono ?_
      rintro e w13 ⟨rfl, hb13⟩
      have hb13' : Below w11.heap.size w11 w13 := ((Below.refl w11.heap.size w11).alloc (Nat.le_refl _) _).trans (hb13.mono (by simp))
      have r8 := below_cell hb13' HR7.out
      have A13 := HA11.out.then hb13'
      have HA13 := Lib.hid A13
      clear hb13 hb13' A13
      have m9 : ∀ a, MarkX b9 a ↔ a ∈ [1, 4] := fun a => by rw [← marksL_mem, HL9.out]
      have u4 : usedAt b9 ((4 : Nat) : Int) = true := usedC_iff.1 (by rw [HCT9.out]; exact (kk_used 4).2 (.inr (.inl rfl)))
      have u7 : usedAt b9 ((7 : Nat) : Int) = true := usedC_iff.1 (by rw [HCT9.out]; exact (kk_used 7).2 (.inr (.inr rfl)))
      have k4 : markedAt b9 4 = true := (m9 4).2 (by simp)
      have k7 : markedAt b9 7 = false := by
        cases h : markedAt b9 7
        · rfl
        · have := (m9 7).1 h; simp at this
      have CM : ∀ (a : Nat) (r : Bool), usedAt b9 (a : Int) = true → markedAt b9 a = r → Calls Tryd.prog 12 #[.pointer (some ⟨p, 0, none⟩), .int .i64 a] w13 fun e w' => e = .returned (.bool r) ∧ w13 = w' := fun a r hu hr => by
        obtain ⟨⟨S, A, _⟩, _⟩ := HA13.out
        rw [← hr]; exact Marked_s A a hu
      have HC4 := Lib.hid (CM 4 true u4 k4); have HC7 := Lib.hid (CM 7 false u7 k7)
      clear CM m9 u4 u7 k4 k7
      go_wp2_with fail
      refine HC4.out.mono ?_
      rintro e w14 ⟨rfl, rfl⟩
      go_wp2_with fail
      refine HC7.out.mono ?_
      rintro e w14 ⟨rfl, rfl⟩
      go_wp2
      go_ret
      exact ⟨rfl, HA13.out.below⟩
end Go.Proofs.YtfpfpopfnbcblaaDoor

/- package mark: Mark and Reach of an arena in a zone of memory. -/
namespace Go.Proofs.YtfpfpopfnbcblaaDoor
open Go.RowKit Go.Maps

/-- An arena whose blocks lie in a zone. -/
def InZ (Z : Nat → Prop) (W : World) (p m : Nat) (bs : List Blk) : Prop := ∃ S, ArV S W p m bs ∧ ∀ b, S b → Z b ∧ b < W.heap.size
variable {Z : Nat → Prop} {w W W' : World} {p m ab : Nat} {bs : List Blk}
theorem InZ.wf (A : InZ Z W p m bs) : Wf m bs := by obtain ⟨S, a, _⟩ := A; exact a.wf
theorem InZ.upd {T : Nat → Prop} (A : InZ Z W p m bs) (u : Upd T W W') (h : ∀ b, Z b → ¬ T b) : InZ Z W' p m bs := by
  obtain ⟨S, a, hS⟩ := A
  exact ⟨S, a.upd u (fun b hb _ => h b (hS b hb).1), fun b hb => ⟨(hS b hb).1, Nat.lt_of_lt_of_le (hS b hb).2 u.size⟩⟩
theorem InZ.below (A : InZ Z W p m bs) (hb : Below W.heap.size W W') : InZ Z W' p m bs := A.upd (T := fun _ => False) (Upd.of_below hb) (fun _ _ h => h)
/-- Where the arena's own block lies. -/
theorem InZ.base (A : InZ Z W p m bs) : Z p ∧ p < W.heap.size := by
  obtain ⟨S, ⟨SL, wb, tb, kb, mc, lv, ws, L, T, K, used, tk, mk, tbs, kbs, A', I, O⟩, hS⟩ := A
  exact hS p (O p (by simp [Own]))
theorem InZ.noptr (A : InZ Z W p m bs) (hab : W.cell? ⟨ab, 0, none⟩ = some (.pointer (some ⟨p, 0, none⟩))) : ab ≠ p := fun e => by
  obtain ⟨S, ⟨SL, wb, tb, kb, mc, lv, ws, L, T, K, used, tk, mk, tbs, kbs, A', I, O⟩, hS⟩ := A
  have c1 := heap_cell A'.core.blk 0
  rw [← e, hab] at c1
  simp at c1
/-- A row of words outside the zone. -/
def RowZ (Z : Nat → Prop) (W : World) (v : Value) (xs : List Nat) : Prop := ∃ ao c, v = .slice ao xs.length c ∧ (xs = [] ∨ ∃ b o, ao = some ⟨b, o, none⟩ ∧ ¬ Z b ∧ ∀ k x : Nat, xs[k]? = some x → W.cell? ((⟨b, o, none⟩ : Addr).add k) = some (.int .u64 x))
theorem RowZ.u64 {v : Value} {xs : List Nat} (h : RowZ Z W v xs) : U64At W v xs := by
  obtain ⟨ao, c, rfl, h⟩ := h
  exact ⟨ao, c, rfl, h.imp id (fun ⟨b, o, e, _, hc⟩ => ⟨b, o, e, hc⟩)⟩
theorem RowZ.keep {S : Nat → Prop} {v : Value} {xs : List Nat} (h : RowZ Z W v xs) (hS : ∀ b, S b → Z b) (u : Upd S W W') : RowZ Z W' v xs := by
  obtain ⟨ao, c, rfl, h⟩ := h
  exact ⟨ao, c, rfl, h.imp id (fun ⟨b, o, e, hb, hc⟩ => ⟨b, o, e, hb, fun k x hk => u.cell_some (hc k x hk) (fun hs => hb (hS b (by rw [Addr.add_lit] at hs; exact hs)))⟩)⟩
/-- What Mark leaves in the zone. -/
def MarkZ (Z : Nat → Prop) (W : World) (p m : Nat) (bs : List Blk) (E0 : Nat → List Nat) (xs : List Nat) (e : Ending) (W' : World) : Prop :=
  ∃ bs' n, e = .returned (.tuple #[.int .i64 (n : Nat), .int .i64 0]) ∧ InZ Z W' p m bs' ∧ Upd Z W W' ∧ content bs' = content bs ∧ cntM bs' = cntM bs + n ∧ (∀ a, MarkX bs' a ↔ Rch (UsedC (content bs)) (EF E0) (fun x => MarkX bs x ∨ x ∈ xs.filterMap toF) a)
theorem mark_z0 {fw : FuncId} {capw : Array Value} {E0 : Nat → List Nat} (A : InZ Z W p m bs)
    (hV : ∀ (S : Nat → Prop) mb W0, (∀ b, S b → Z b ∧ b < W.heap.size) → W.heap.size ≤ mb → mb < W0.heap.size → Below W.heap.size W W0 → MEnv S p m mb fw capw (content bs) E0 W0)
    (k : Nat) (hk : k < 9223372036854775808) (hk1 : 1 ≤ k) (v : Value) (xs : List Nat) (hv : RowZ Z W v xs) (hx : ∀ x ∈ xs, x < 18446744073709551616) (hl : xs.length ≤ 1000000) :
    Calls Tryd.prog 11 #[.pointer (some ⟨p, 0, none⟩), .int .i64 k, v, .func (.func fw) #[] capw] W (MarkZ Z W p m bs E0 xs) := by
  obtain ⟨S, a, hS⟩ := A
  refine (mark_any a rfl (fun b hb => (hS b hb).2) (fun mb W0 h1 h2 h3 => hV S mb W0 hS h1 h2 h3) k hk hk1 v xs (fun W' u => (hv.keep (fun b hb => (hS b hb).1) u).u64) hx hl).mono ?_
  rintro e W' ⟨bs', n, he, h1, h2, h3, h4, h5⟩
  exact ⟨bs', n, he, ⟨S, h1, fun b hb => ⟨(hS b hb).1, Nat.lt_of_lt_of_le (hS b hb).2 h5.size⟩⟩, h5.mono (fun b _ hb => (hS b hb).1), h2, h3, h4⟩
theorem mark_z (ht : Tab w ∧ TzTab w) (A : InZ Z W p m bs) (hZ : ∀ b, Z b → w.heap.size ≤ b) (hw : Below w.heap.size w W) (hm : m ≤ 100000) (h64 : U64B bs) (hab : W.cell? ⟨ab, 0, none⟩ = some (.pointer (some ⟨p, 0, none⟩))) (hZa : ¬ Z ab)
    (k : Nat) (hk : k < 9223372036854775808) (hk1 : 1 ≤ k) (v : Value) (xs : List Nat) (hv : RowZ Z W v xs) (hx : ∀ x ∈ xs, x < 18446744073709551616) (hl : xs.length ≤ 1000000) :
    Calls Tryd.prog 11 #[.pointer (some ⟨p, 0, none⟩), .int .i64 k, v, .func (.func 28) #[] #[.pointer (some ⟨ab, 0, none⟩)]] W (MarkZ Z W p m bs (wordsC (content bs)) xs) :=
  mark_z0 A (fun S mb W0 hS h1 h2 h3 => env_r ht (fun b hb => ⟨hZ b (hS b hb).1, Nat.lt_of_lt_of_le (hS b hb).2 h3.size⟩) ⟨Nat.le_trans hw.size h1, h2⟩ (hw.trans (h3.mono hw.size)) (below_cell h3 hab) (fun h => by
    rcases h with h | h
    · exact hZa (hS ab h).1
    · have := World.block_lt_of_cell? _ _ hab; dsimp only at this; omega) (u64C_of A.wf hm h64)) k hk hk1 v xs hv hx hl
theorem mark_za (ht : Tab w ∧ TzTab w) (A : InZ Z W p m bs) (hZ : ∀ b, Z b → w.heap.size ≤ b) (hw : Below w.heap.size w W)
    (k : Nat) (hk : k < 9223372036854775808) (hk1 : 1 ≤ k) (v : Value) (xs : List Nat) (hv : RowZ Z W v xs) (hx : ∀ x ∈ xs, x < 18446744073709551616) (hl : xs.length ≤ 1000000) :
    Calls Tryd.prog 11 #[.pointer (some ⟨p, 0, none⟩), .int .i64 k, v, .func (.func 14) #[] #[]] W (MarkZ Z W p m bs (fun _ => []) xs) :=
  mark_z0 A (fun _ _ _ hS h1 h2 h3 => env_ra ht (fun b hb => ⟨hZ b (hS b hb).1, Nat.lt_of_lt_of_le (hS b hb).2 h3.size⟩) ⟨Nat.le_trans hw.size h1, h2⟩ (hw.trans (h3.mono hw.size))) k hk hk1 v xs hv hx hl
theorem reach_z (ht : Tab w ∧ TzTab w) (A : InZ Z W p m bs) (hZ : ∀ b, Z b → w.heap.size ≤ b) (hw : Below w.heap.size w W) (hm : m ≤ 100000) (h64 : U64B bs) (hab : W.cell? ⟨ab, 0, none⟩ = some (.pointer (some ⟨p, 0, none⟩))) (hZa : ¬ Z ab)
    (v : Value) (xs : List Nat) (hv : U64At W v xs) (hx : ∀ x ∈ xs, x < 18446744073709551616) (hl : xs.length ≤ 1000000) :
    Calls Tryd.prog 9 #[.pointer (some ⟨p, 0, none⟩), v, .func (.func 28) #[] #[.pointer (some ⟨ab, 0, none⟩)]] W (ReachPost W (content bs) (wordsC (content bs)) xs) := by
  have hne := A.noptr hab
  have hp := A.base
  have hw6 := A.wf
  obtain ⟨S, a, hS⟩ := A
  exact reach_any a rfl (mb := p) (env_r ht (fun b hb => ⟨hZ b (hS b hb).1, (hS b hb).2⟩) ⟨hZ p hp.1, hp.2⟩ hw hab (fun h => by
    rcases h with h | h
    · exact hZa (hS ab h).1
    · exact hne h) (u64C_of hw6 hm h64)) v xs hv hx hl
theorem reach_za (ht : Tab w ∧ TzTab w) (A : InZ Z W p m bs) (hZ : ∀ b, Z b → w.heap.size ≤ b) (hw : Below w.heap.size w W)
    (v : Value) (xs : List Nat) (hv : U64At W v xs) (hx : ∀ x ∈ xs, x < 18446744073709551616) (hl : xs.length ≤ 1000000) :
    Calls Tryd.prog 9 #[.pointer (some ⟨p, 0, none⟩), v, .func (.func 14) #[] #[]] W (ReachPost W (content bs) (fun _ => []) xs) := by
  have hp := A.base
  obtain ⟨S, a, hS⟩ := A
  exact reach_any a rfl (mb := p) (env_ra ht (fun b hb => ⟨hZ b (hS b hb).1, (hS b hb).2⟩) ⟨hZ p hp.1, hp.2⟩ hw) v xs hv hx hl
set_option maxRecDepth 100000 in
theorem reach_nil (w : World) (v fv : Value) : Calls Tryd.prog 9 #[.pointer none, v, fv] w fun e W => e = .returned (.slice none 0 0) ∧ Below w.heap.size w W := by
  have hbelow := Lib.hid (two_below w (.pointer none) (.slice none 0 0) 25 27)
  have hcells := Lib.hid (two_cells w (.pointer none) (.slice none 0 0) 25 27)
  refine (callsIn_wide (n := 7)).1 ?_
  refine callsIn_of_wp_marks Tryd.func9 rfl trivial ?_ rfl
  refine wpIn_wide.2 ?_
  simp only [Tryd.ntmps9, List.size_toArray, List.length_cons, List.length_nil, Nat.reduceAdd, Nat.reduceSub, Array.replicate_succ, Array.replicate_zero, List.push_toArray, List.append_toArray, List.nil_append, List.cons_append]
  go_wp2
  obtain ⟨W1, hW1⟩ : ∃ W1, W1 = (w.alloc (.cells #[.pointer none] 25)).alloc (.cells #[.slice none 0 0] 27) := ⟨_, rfl⟩
  rw [← hW1]
  have y := hcells.out
  have z := hbelow.out
  rw [← hW1] at y z
  have y1 := y.2
  refine ⟨.slice none 0 0, by simp [results, Tryd.results9, go_sem, y1], rfl, z⟩
/-- An arena that built has made, in the zone of what was made in built. -/
theorem Bu.inZ {w0 : World} {q : Nat} {bR : List Blk} {ats : List Nat} {tv : Value} (H : Bu w0 p q m bs bR ats tv W) : ∃ Z : Nat → Prop, InZ Z W p m bs ∧ (∀ b, Z b → w0.heap.size ≤ b ∧ b < W.heap.size) ∧ (∀ g, tv.ownBlock = some g → ¬ Z g) ∧ ∃ S2, RaV S2 W q m bR ∧ (∀ b, S2 b → ¬ Z b) ∧ ∀ b, S2 b → w0.heap.size ≤ b := by
  obtain ⟨R, S2, h1, h2, h3, h4, h4', h5, h6⟩ := H.ex
  obtain ⟨S, a, hS⟩ := h1.ex
  exact ⟨fun b => w0.heap.size ≤ b ∧ b < W.heap.size ∧ ¬ R b, ⟨S, a, fun b hb => ⟨hS b hb, (hS b hb).2.1⟩⟩, fun b hb => ⟨hb.1, hb.2.1⟩, fun g hg h => h.2.2 (h6 g hg).1, S2, h3, fun b hb h => h.2.2 (h4 b hb), h4'⟩
theorem Bu.u64 {w0 : World} {q : Nat} {ats : List Nat} {tv : Value} (H : Bu w0 p q m bs bs ats tv W) : U64B bs := by
  obtain ⟨R, S2, _, _, ⟨rs, h, e⟩, _⟩ := H.ex
  intro b hb y hy
  rw [← e] at hb
  obtain ⟨r, hr, rfl⟩ := List.mem_map.1 hb
  exact h.u64 r hr y hy
end Go.Proofs.YtfpfpopfnbcblaaDoor

/- What MarkMore needs, in plain lists and rows. -/
namespace Go.Proofs.YtfpfpopfnbcblaaDoor
open Go.RowKit Go.Maps

/-- How many of the first n of z stand in x. -/
def cntX (x z : List Nat) (n : Nat) : Nat := ((z.take n).filter fun a => decide (a ∈ x)).length
theorem filt_of {x z : List Nat} (hz : z.Pairwise (· < ·)) (hx : x.Pairwise (· < ·)) (h : ∀ a ∈ x, a ∈ z) : x = z.filter (fun a => decide (a ∈ x)) :=
  sorted_ext hx (hz.filter _) (fun a => by
    rw [List.mem_filter]
    exact ⟨fun ha => ⟨h a ha, by simpa using ha⟩, fun ha => by simpa using ha.2⟩)
theorem cutZ_at {z : List Nat} {n c : Nat} (hn : z[n]? = some c) : z = z.take n ++ c :: z.drop (n + 1) := by
  obtain ⟨h, rfl⟩ := List.getElem?_eq_some_iff.1 hn
  conv => lhs; rw [← List.take_append_drop n z]
  rw [List.drop_eq_getElem_cons h]
theorem takeZ_one {z : List Nat} {n c : Nat} (hn : z[n]? = some c) : z.take (n + 1) = z.take n ++ [c] := by
  rw [List.take_add_one, hn]; rfl
theorem cntX_hit {x z : List Nat} (hz : z.Pairwise (· < ·)) (hx : x.Pairwise (· < ·)) (h : ∀ a ∈ x, a ∈ z) {n c : Nat} (hn : z[n]? = some c) (hc : c ∈ x) : x[cntX x z n]? = some c ∧ cntX x z (n + 1) = cntX x z n + 1 := by
  refine ⟨?_, ?_⟩
  · have e := filt_of hz hx h
    have e2 : x = (z.take n).filter (fun a => decide (a ∈ x)) ++ c :: (z.drop (n + 1)).filter (fun a => decide (a ∈ x)) := by
      conv => lhs; rw [e, cutZ_at hn]
      rw [List.filter_append, List.filter_cons_of_pos (by simpa using hc)]
    conv => lhs; lhs; rw [e2]
    unfold cntX
    simp
  · unfold cntX
    rw [takeZ_one hn, List.filter_append, List.filter_cons_of_pos (by simpa using hc)]; simp
theorem cntX_miss {x z : List Nat} {n c : Nat} (hn : z[n]? = some c) (hc : c ∉ x) : (∀ k d : Nat, x[k]? = some d → d ≠ c) ∧ cntX x z (n + 1) = cntX x z n := by
  refine ⟨fun k d hd e => hc (e ▸ List.mem_of_getElem? hd), ?_⟩
  unfold cntX
  rw [takeZ_one hn, List.filter_append, List.filter_cons_of_neg (by simpa using hc)]; simp
theorem cntX_end {x z : List Nat} (hz : z.Pairwise (· < ·)) (hx : x.Pairwise (· < ·)) (h : ∀ a ∈ x, a ∈ z) : cntX x z z.length = x.length := by
  unfold cntX
  rw [List.take_length, ← filt_of hz hx h]
theorem cntX_le {x z : List Nat} (hz : z.Pairwise (· < ·)) (hx : x.Pairwise (· < ·)) (h : ∀ a ∈ x, a ∈ z) (n : Nat) : cntX x z n ≤ x.length := by
  conv => rhs; rw [filt_of hz hx h]
  unfold cntX
  exact ((List.take_sublist n z).filter _).length_le
theorem sorted_at : ∀ {l : List Nat}, l.Pairwise (· < ·) → ∀ k a : Nat, l[k]? = some a → k ≤ a
  | [], _, k, a, h => by simp at h
  | b :: l, hp, 0, a, h => Nat.zero_le _
  | b :: l, hp, k + 1, a, h => by
    rw [List.pairwise_cons] at hp
    have h' : l[k]? = some a := by simpa using h
    cases k with
    | zero => have := hp.1 a (List.mem_of_getElem? h'); omega
    | succ k =>
      obtain ⟨hk, _⟩ := List.getElem?_eq_some_iff.1 h'
      have h2 := sorted_at hp.2 (k + 1) a h'
      have h3 := sorted_at (l := b :: l) (List.pairwise_cons.2 hp) (k + 1) (l[k]'(by omega)) (by simp)
      have h4 := List.pairwise_iff_getElem.1 hp.2 k (k + 1) (by omega) hk (by omega)
      have h5 : l[k + 1] = a := by have := h'; rw [List.getElem?_eq_getElem hk] at this; simpa using this
      omega
theorem sorted_len {l : List Nat} {N : Nat} (hp : l.Pairwise (· < ·)) (h : ∀ a ∈ l, a ≤ N) : l.length ≤ N + 1 := by
  rcases Nat.eq_zero_or_pos l.length with h0 | h0
  · omega
  · have h1 := sorted_at hp (l.length - 1) (l[l.length - 1]'(by omega)) (by simp)
    have := h _ (List.getElem_mem (show l.length - 1 < l.length by omega)); omega
theorem sorted_next {l : List Nat} (hp : l.Pairwise (· < ·)) {n a b : Nat} (h1 : l[n]? = some a) (h2 : l[n + 1]? = some b) : a < b := by
  obtain ⟨k1, e1⟩ := List.getElem?_eq_some_iff.1 h1
  obtain ⟨k2, e2⟩ := List.getElem?_eq_some_iff.1 h2
  have := List.pairwise_iff_getElem.1 hp n (n + 1) k1 k2 (by omega)
  omega
/-- A row of addresses, to be read. -/
def NatsAt (W : World) (v : Value) (l : List Nat) : Prop := ∃ ao c, v = .slice ao l.length c ∧ ∀ k a : Nat, l[k]? = some a → ∃ g, ao = some ⟨g, 0, none⟩ ∧ W.cell? ⟨g, k, none⟩ = some (.int .i64 (a : Nat))
theorem NatsAt.of_own {W : World} {B : Nat} {v : Value} {l : List Nat} (h : W.ownsRow B 3 1 v l.length (ints l)) : NatsAt W v l := by
  obtain ⟨ao, c, rfl, _⟩ := ownsRow_form h
  refine ⟨ao, c, rfl, fun k a hk => ?_⟩
  obtain ⟨hk', e⟩ := List.getElem?_eq_some_iff.1 hk
  obtain ⟨g, c', cur, e1, _, _, _, hc⟩ := ownsRow_some h (by omega)
  simp only [Value.slice.injEq] at e1
  refine ⟨g, e1.1, ?_⟩
  rw [hc k (by omega)]
  simp [ints, hk]
theorem NatsAt.on {W W' : World} {v : Value} {l : List Nat} (h : NatsAt W v l) (hb : Below W.heap.size W W') : NatsAt W' v l := by
  obtain ⟨ao, c, rfl, h⟩ := h
  exact ⟨ao, c, rfl, fun k a hk => by obtain ⟨g, e, h1⟩ := h k a hk; exact ⟨g, e, below_cell hb h1⟩⟩
/-- A row of words, from a row that is read. -/
theorem RowG.u64 {W : World} {v : Value} {n : Nat} {xs : List Nat} (h : RowG W 1 v n (u64s xs)) : U64At W v xs := by
  obtain ⟨h1, ⟨rfl, rfl⟩ | ⟨a, cap, rfl, hc, hx⟩⟩ := h
  · have : xs = [] := List.eq_nil_of_length_eq_zero (by simpa [u64s] using h1)
    subst this
    exact ⟨none, 0, rfl, .inl rfl⟩
  · have e : xs.length = n := by simpa [u64s] using h1
    subst e
    refine ⟨some a, cap, rfl, ?_⟩
    rcases Nat.eq_zero_or_pos xs.length with h0 | h0
    · exact .inl (List.eq_nil_of_length_eq_zero h0)
    · obtain ⟨b, o, e2, _, _, _⟩ := RowG.at (c := 1) (show RowG W 1 (.slice (some a) xs.length cap) xs.length (u64s xs) from ⟨h1, .inr ⟨a, cap, rfl, hc, hx⟩⟩) (by omega) h0
      injection e2 with e2
      subst e2
      exact .inr ⟨b, o, rfl, fun k x hk => hx k _ (by simp [u64s, hk])⟩
end Go.Proofs.YtfpfpopfnbcblaaDoor
