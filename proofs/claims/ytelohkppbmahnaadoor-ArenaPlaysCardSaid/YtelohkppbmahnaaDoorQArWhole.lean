/- package arena: a whole arena: its words, bits, lists and what they tell. -/
import Derived.Test.YtelohkppbmahnaaDoorQArTakeP
namespace Go.Proofs.YtelohkppbmahnaaDoor
open Go.RowKit

/-- What the rows of an arena could hold: words, and two rows of bits. -/
structure Caps where
  w : Nat
  t : Nat
  k : Nat
/-- A row of bits as an arena of m words has it. -/
abbrev bits64 (g m c : Nat) : Value := .slice (some ⟨g, 0, none⟩) (m / 64 + 1) c
structure Ar1 (SL : Nat → Prop) (w : World) (p wb tb kb m : Nat) (mc : Caps) (lv : Value) (ws : List Nat) (L : List (Value × List (Ent Value))) (T K : Nat → Nat) (used : Nat) (tk mk : Nat → Bool) (tbs kbs : List Nat) : Prop where
  core : Core SL w p wb m mc.w (bits64 tb m mc.t) (bits64 kb m mc.k) (.int .i64 used) lv ws L T K
  brt : BRow w tb (m / 64 + 1) mc.t tk tbs
  brk : BRow w kb (m / 64 + 1) mc.k mk kbs
  nt : ¬ SL tb
  nk : ¬ SL kb
  tw : tb ≠ wb
  kw : kb ≠ wb
  tkb : tb ≠ kb
def Own (SL : Nat → Prop) (p wb tb kb : Nat) : Nat → Prop := fun b => b = p ∨ b = wb ∨ b = tb ∨ b = kb ∨ SL b
section
variable {SL : Nat → Prop} {w : World} {p wb tb kb m : Nat} {mc : Caps} {lv : Value} {ws : List Nat} {L : List (Value × List (Ent Value))} {T K : Nat → Nat} {used : Nat} {tk mk : Nat → Bool} {tbs kbs : List Nat}
theorem Ar1.pt (A : Ar1 SL w p wb tb kb m mc lv ws L T K used tk mk tbs kbs) : p ≠ tb := fun e => by
  obtain ⟨cc, hcc⟩ := row_block A.brt.row (b := tb) rfl; rw [← e, A.core.blk] at hcc; simp at hcc
theorem Ar1.pk (A : Ar1 SL w p wb tb kb m mc lv ws L T K used tk mk tbs kbs) : p ≠ kb := fun e => by
  obtain ⟨cc, hcc⟩ := row_block A.brk.row (b := kb) rfl; rw [← e, A.core.blk] at hcc; simp at hcc
theorem Ar1.lt (A : Ar1 SL w p wb tb kb m mc lv ws L T K used tk mk tbs kbs) : ∀ b, Own SL p wb tb kb b → b < w.heap.size := fun b hb => by
  rcases hb with rfl | rfl | rfl | rfl | h
  · exact heap_lt A.core.blk
  · obtain ⟨_, h⟩ := row_block A.core.wrow (b := b) rfl; exact heap_lt h
  · obtain ⟨_, h⟩ := row_block A.brt.row (b := b) rfl; exact heap_lt h
  · obtain ⟨_, h⟩ := row_block A.brk.row (b := b) rfl; exact heap_lt h
  · exact A.core.bound b h
theorem BRow.upd {S : Nat → Prop} {w w' : World} {g n cap : Nat} {f : Nat → Bool} {bs : List Nat} (k : BRow w g n cap f bs) (u : Upd S w w') (h : ¬ S g) : BRow w' g n cap f bs :=
  ⟨ownsRow_upd k.row u (fun b hb => by simp [Value.ownBlock] at hb; subst hb; exact h), k.w64, k.bit⟩
theorem Core.upd {mw : Nat} {tv kv uv : Value} (c : Core SL w p wb m mw tv kv uv lv ws L T K) {S : Nat → Prop} {w' : World} (u : Upd S w w') (hp : ¬ S p) (hw : ¬ S wb) (hs : ∀ b, SL b → ¬ S b) : Core SL w' p wb m mw tv kv uv lv ws L T K :=
  ⟨u.heap_some c.blk hp, ownsRow_upd c.wrow u (fun b hb => by simp [Value.ownBlock] at hb; subst hb; exact hw),
    ⟨ownsRow_upd c.ls.row u (fun b hb => hs b (c.ls.own b hb)), c.ls.own, fun k pr hk => ownsRow_upd (c.ls.mrow k pr hk) u (fun b hb => hs b (c.ls.mown k pr hk b hb).1), c.ls.mown, fun k pr hk e he => ownsRow_upd (c.ls.hrow k pr hk e he) u (fun b hb => hs b (c.ls.hown k pr hk e he b hb).1), c.ls.hown⟩,
    fun b hb => Nat.lt_of_lt_of_le (c.bound b hb) u.size, c.np, c.nwb, c.small, c.w64⟩
/-- Other blocks turned. -/
theorem Ar1.upd (A : Ar1 SL w p wb tb kb m mc lv ws L T K used tk mk tbs kbs) {S : Nat → Prop} {w' : World} (u : Upd S w w') (h : ∀ b, Own SL p wb tb kb b → ¬ S b) : Ar1 SL w' p wb tb kb m mc lv ws L T K used tk mk tbs kbs :=
  ⟨A.core.upd u (h _ (.inl rfl)) (h _ (.inr (.inl rfl))) (fun b hb => h b (.inr (.inr (.inr (.inr hb))))), A.brt.upd u (h _ (.inr (.inr (.inl rfl)))), A.brk.upd u (h _ (.inr (.inr (.inr (.inl rfl))))), A.nt, A.nk, A.tw, A.kw, A.tkb⟩
theorem Ar1.below (A : Ar1 SL w p wb tb kb m mc lv ws L T K used tk mk tbs kbs) {w' : World} (hb : Below w.heap.size w w') : Ar1 SL w' p wb tb kb m mc lv ws L T K used tk mk tbs kbs :=
  A.upd (S := fun _ => False) (Upd.of_below hb) (fun _ _ h => h)
/-- Words and lists turned. -/
theorem Ar1.post (A : Ar1 SL w p wb tb kb m mc lv ws L T K used tk mk tbs kbs) {SL' : Nat → Prop} {w' : World} {ws' : List Nat} {L' : List (Value × List (Ent Value))} {T' K' : Nat → Nat} (c : Core SL' w' p wb m mc.w (bits64 tb m mc.t) (bits64 kb m mc.k) (.int .i64 used) lv ws' L' T' K')
    (fr : Fresh SL w SL') (u : Upd (fun b => b = wb ∨ SL b) w w') : Ar1 SL' w' p wb tb kb m mc lv ws' L' T' K' used tk mk tbs kbs := by
  have ht : ¬ (tb = wb ∨ SL tb) := fun h => h.elim A.tw A.nt
  have hk : ¬ (kb = wb ∨ SL kb) := fun h => h.elim A.kw A.nk
  have l1 := A.lt tb (.inr (.inr (.inl rfl)))
  have l2 := A.lt kb (.inr (.inr (.inr (.inl rfl))))
  exact ⟨c, A.brt.upd u ht, A.brk.upd u hk, fun h => (fr _ h).elim A.nt (fun h => by omega), fun h => (fr _ h).elim A.nk (fun h => by omega), A.tw, A.kw, A.tkb⟩
/-- How many words are used is told anew. -/
theorem Ar1.use (A : Ar1 SL w p wb tb kb m mc lv ws L T K used tk mk tbs kbs) (u' : Nat) : Ar1 SL (w.setCell ⟨p, 3, none⟩ (.int .i64 (u' : Int))) p wb tb kb m mc lv ws L T K u' tk mk tbs kbs := by
  have u := upd_set w p 3 (.int .i64 (u' : Int))
  have c := A.core
  refine ⟨⟨?_, ownsRow_upd c.wrow u (fun b hb => by simp [Value.ownBlock] at hb; subst hb; exact fun e => c.pwb e.symm), ⟨ownsRow_upd c.ls.row u (fun b hb => fun e => c.np (e ▸ c.ls.own b hb)), c.ls.own, fun k pr hk => ownsRow_upd (c.ls.mrow k pr hk) u (fun b hb => fun e => c.np (e ▸ (c.ls.mown k pr hk b hb).1)), c.ls.mown, fun k pr hk e he => ownsRow_upd (c.ls.hrow k pr hk e he) u (fun b hb => fun e' => c.np (e' ▸ (c.ls.hown k pr hk e he b hb).1)), c.ls.hown⟩,
    fun b hb => Nat.lt_of_lt_of_le (c.bound b hb) u.size, c.np, c.nwb, c.small, c.w64⟩, A.brt.upd u (fun e => A.pt e.symm), A.brk.upd u (fun e => A.pk e.symm), A.nt, A.nk, A.tw, A.kw, A.tkb⟩
  have := heap_set_at c.blk 3 (.int .i64 (u' : Int))
  simpa using this
/-- A bit of the taken ones turned. -/
theorem Ar1.turnT (A : Ar1 SL w p wb tb kb m mc lv ws L T K used tk mk tbs kbs) {w' : World} {tk' : Nat → Bool} {tbs' : List Nat} (u : Upd (fun b => b = tb) w w') (k : BRow w' tb (m / 64 + 1) mc.t tk' tbs') : Ar1 SL w' p wb tb kb m mc lv ws L T K used tk' mk tbs' kbs :=
  ⟨A.core.upd u A.pt (fun e => A.tw e.symm) (fun _ hb e => A.nt (e ▸ hb)), k, A.brk.upd u (fun e => A.tkb e.symm), A.nt, A.nk, A.tw, A.kw, A.tkb⟩
theorem Ar1.turnK (A : Ar1 SL w p wb tb kb m mc lv ws L T K used tk mk tbs kbs) {w' : World} {mk' : Nat → Bool} {kbs' : List Nat} (u : Upd (fun b => b = kb) w w') (k : BRow w' kb (m / 64 + 1) mc.k mk' kbs') : Ar1 SL w' p wb tb kb m mc lv ws L T K used tk mk' tbs kbs' :=
  ⟨A.core.upd u A.pk (fun e => A.kw e.symm) (fun _ hb e => A.nk (e ▸ hb)), A.brt.upd u (fun e => A.tkb e), k, A.nt, A.nk, A.tw, A.kw, A.tkb⟩
/-- Only the words turned. -/
theorem Ar1.words (A : Ar1 SL w p wb tb kb m mc lv ws L T K used tk mk tbs kbs) {w' : World} {ws' : List Nat} (u : Upd (fun b => b = wb) w w') (c : Core SL w' p wb m mc.w (bits64 tb m mc.t) (bits64 kb m mc.k) (.int .i64 used) lv ws' L T K) : Ar1 SL w' p wb tb kb m mc lv ws' L T K used tk mk tbs kbs :=
  A.post c (Fresh.refl _ _) (u.mono (fun _ _ h => .inl h))
end
/-- An arena of m words that has these blocks; its memory is S's. -/
def ArV (S : Nat → Prop) (w : World) (p m : Nat) (bs : List Blk) : Prop :=
  ∃ SL wb tb kb mc lv ws L T K used tk mk tbs kbs, Ar1 SL w p wb tb kb m mc lv ws L T K used tk mk tbs kbs ∧ Inv ws tk mk used (L.map (·.2)) bs ∧ ∀ b, Own SL p wb tb kb b → S b
def ArPost (S : Nat → Prop) (w : World) (p m : Nat) (bs : List Blk) (w' : World) : Prop := ∃ S', ArV S' w' p m bs ∧ Fresh S w S' ∧ Upd S w w'
theorem ArV.upd {S S2 : Nat → Prop} {w w' : World} {p m : Nat} {bs : List Blk} (A : ArV S w p m bs) (u : Upd S2 w w') (h : ∀ b, S b → b < w.heap.size → ¬ S2 b) : ArV S w' p m bs := by
  obtain ⟨SL, wb, tb, kb, mc, lv, ws, L, T, K, used, tk, mk, tbs, kbs, a, i, o⟩ := A
  exact ⟨SL, wb, tb, kb, mc, lv, ws, L, T, K, used, tk, mk, tbs, kbs, a.upd u (fun b hb => h b (o b hb) (a.lt b hb)), i, o⟩
theorem ArV.below {S : Nat → Prop} {w w' : World} {p m : Nat} {bs : List Blk} (A : ArV S w p m bs) (hb : Below w.heap.size w w') : ArV S w' p m bs :=
  A.upd (S2 := fun _ => False) (Upd.of_below hb) (fun _ _ _ h => h)
theorem ArV.mono {S S2 : Nat → Prop} {w : World} {p m : Nat} {bs : List Blk} (A : ArV S w p m bs) (h : ∀ b, S b → S2 b) : ArV S2 w p m bs := by
  obtain ⟨SL, wb, tb, kb, mc, lv, ws, L, T, K, used, tk, mk, tbs, kbs, a, i, o⟩ := A
  exact ⟨SL, wb, tb, kb, mc, lv, ws, L, T, K, used, tk, mk, tbs, kbs, a, i, fun b hb => h b (o b hb)⟩
theorem ArPost.same {S : Nat → Prop} {w w' : World} {p m : Nat} {bs : List Blk} (A : ArV S w p m bs) (hb : Below w.heap.size w w') : ArPost S w p m bs w' :=
  ⟨S, A.below hb, Fresh.refl _ _, Upd.of_below hb⟩
theorem ArPost.trans {S : Nat → Prop} {w w1 : World} {p m : Nat} {S1 : Nat → Prop} {bs2 : List Blk} {w2 : World} (f : Fresh S w S1) (u : Upd S w w1) (h : ArPost S1 w1 p m bs2 w2) : ArPost S w p m bs2 w2 := by
  obtain ⟨S2, a, f2, u2⟩ := h
  exact ⟨S2, a, f.trans f2 u.size, u.trans f u2⟩
/-- Plain: sums and sizes. -/
theorem Span.used_le : ∀ {l : List Blk} {s t : Nat}, Span s l t → s + usedSum l ≤ t
  | [], s, t, h => by have h : s = t := h; simp [usedSum]; omega
  | b :: l, s, t, ⟨h1, h2, h3⟩ => by have := Span.used_le h3; rw [usedSum_cons]; split <;> omega
section
variable {V : Type} {ws : List Nat} {tk mk : Nat → Bool} {used : Nat} {L : List (List (Ent V))} {bs : List Blk}
theorem Inv.used_le (I : Inv ws tk mk used L bs) : used ≤ 1048576 := by
  have := I.span.used_le
  have := I.sum
  have := I.small
  unfold endOf at *
  split at * <;> omega
theorem Inv.fr_lt (I : Inv ws tk mk used L bs) : ∀ x s, frF bs x s → s < 1048576 := fun x s ⟨b, hb, _, _, h⟩ => by
  have := I.end_le b hb; have := I.small; omega
theorem Inv.fr_one (I : Inv ws tk mk used L bs) : ∀ x s, frF bs x s → 1 ≤ x := fun x s ⟨b, hb, _, h, _⟩ => by
  have := I.end_le b hb; omega
theorem Inv.L_le (I : Inv ws tk mk used L bs) : L.length ≤ 64 := by
  have h := I.lens
  split at h
  · omega
  · rename_i h0
    have hs := I.small
    have : Nat.log2 ws.length ≤ Nat.log2 1048576 := log2_mono (by omega) hs
    have e : Nat.log2 1048576 = 20 := by decide +kernel
    omega
theorem Inv.log_lt (I : Inv ws tk mk used L bs) {n : Nat} (h1 : 1 ≤ n) (h : n ≤ ws.length) : Nat.log2 n < L.length := by
  have hl := I.lens
  rw [if_neg (by omega)] at hl
  have := log2_mono (by omega) h
  omega
end
theorem absent_at (p : Nat) (w : World) : Calls Tryd.prog 27 #[.pointer (some ⟨p, 0, none⟩)] w fun e w' => e = .returned (.bool false) ∧ w = w' := by
  go_enter Tryd.func27, Tryd.ntmps27
  go_wp2
  go_ret
  exact ⟨rfl, rfl⟩
theorem absent_nil (w : World) : Calls Tryd.prog 27 #[.pointer none] w fun e w' => e = .returned (.bool true) ∧ w = w' := by
  go_enter Tryd.func27, Tryd.ntmps27
  go_wp2
  go_ret
  exact ⟨rfl, rfl⟩
end Go.Proofs.YtelohkppbmahnaaDoor
