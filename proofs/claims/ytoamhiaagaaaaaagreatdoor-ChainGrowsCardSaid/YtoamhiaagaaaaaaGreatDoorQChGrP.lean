/- geodelaw11: ChainGrows: its plain law; the state on its way. -/
import Derived.Test.YtoamhiaagaaaaaaGreatDoorQChCopy
import Derived.Test.YtoamhiaagaaaaaaGreatDoorQChGrow
import Derived.Test.YtoamhiaagaaaaaaGreatDoorQMaWalkP
namespace Go.Proofs.YtoamhiaagaaaaaaGreatDoor
open Go.RowKit Go.Maps Go.WideMaps

theorem addG_ext (gs : List (List Sb)) (ids : List Int) (g : List Sb) : ∃ tail, (addG gs ids g).2.2 = gs ++ tail := by
  unfold addG
  split
  · exact ⟨[], by simp⟩
  · split
    · exact ⟨[], by simp⟩
    · split
      · exact ⟨[], by simp⟩
      · split
        · exact ⟨[], by simp⟩
        · dsimp only
          unfold enterG
          cases findG gs (rollG ids g).1 with
          | some i => exact ⟨[], by simp⟩
          | none =>
            dsimp only
            split
            · exact ⟨[], by simp⟩
            · split
              · exact ⟨[], by simp⟩
              · exact ⟨_, rfl⟩
theorem tabL_ext (gs tail : List (List Sb)) : ∃ r, tabL (gs ++ tail) = tabL gs ++ r := by
  refine snocRec (P := fun tail => ∃ r, tabL (gs ++ tail) = tabL gs ++ r) ⟨[], by simp⟩ (fun tl g ih => ?_) tail
  obtain ⟨r, hr⟩ := ih
  rw [← List.append_assoc, tabL_snoc, hr]
  exact ⟨_, by rw [List.append_assoc]⟩
theorem tabL_add {gs : List (List Sb)} {ids : List Int} {g : List Sb} {i : Nat} {y : Sb} (h : (tabL gs)[i]? = some y) : (tabL (addG gs ids g).2.2)[i]? = some y := by
  obtain ⟨tl, h1⟩ := addG_ext gs ids g
  obtain ⟨r, h2⟩ := tabL_ext gs tl
  rw [h1, h2, List.getElem?_append_left (List.getElem?_eq_some_iff.1 h).1]
  exact h
theorem lineOk_add {gs : List (List Sb)} {ids : List Int} {g : List Sb} {L : List (List Nat)} (h : LineOk (tabL gs) L) : LineOk (tabL (addG gs ids g).2.2) L :=
  h.more (fun _ _ h => tabL_add h) (by
    obtain ⟨tl, h1⟩ := addG_ext gs ids g
    obtain ⟨r, h2⟩ := tabL_ext gs tl
    rw [h1, h2, List.length_append]; omega)
/-- The lines cannot grow: the next type has none, with this error. -/
def Stuck (ts : List Sb) (L : List (List Nat)) (b : Int) : Prop := ∃ y, ts[L.length]? = some y ∧ (nextL L L.length y.sups).1 = b ∧ b ≠ 0
theorem Stuck.grow {ts : List Sb} {L : List (List Nat)} {b : Int} (h : Stuck ts L b) : growAll ts L = (b, L) := by
  obtain ⟨y, hy, he, hb⟩ := h
  rw [growL_step hy, if_neg (by rw [he]; exact hb), he]
theorem growL_more (ts : List Sb) : ∀ (n : Nat) (L : List (List Nat)), L.length ≤ (growL ts n L).2.length := by
  intro n
  induction n with
  | zero => intro L; exact Nat.le_refl _
  | succ n ih =>
    intro L
    unfold growL
    split
    · exact Nat.le_refl _
    · rename_i y hy
      split
      · exact Nat.le_trans (by simp) (ih (L ++ [(nextL L L.length y.sups).2]))
      · exact Nat.le_refl _
theorem stuck_of {ts : List Sb} {L : List (List Nat)} {b : Int} (h : growAll ts L = (b, L)) (hb : b ≠ 0) : Stuck ts L b := by
  by_cases hl : L.length < ts.length
  · obtain ⟨y, hy⟩ : ∃ y, ts[L.length]? = some y := ⟨ts[L.length], by simp [hl]⟩
    rw [growL_step hy] at h
    split at h
    · exfalso
      have h1 := growL_more ts (ts.length - (L ++ [(nextL L L.length y.sups).2]).length) (L ++ [(nextL L L.length y.sups).2])
      unfold growAll at h
      rw [h] at h1
      simp at h1
      omega
    · obtain ⟨h1, _⟩ := Prod.mk.inj h
      exact ⟨y, hy, h1, hb⟩
  · rw [growL_stop (by omega)] at h
    exact absurd (Prod.mk.inj h).1.symm hb
theorem Stuck.add {gs : List (List Sb)} {ids : List Int} {g : List Sb} {L : List (List Nat)} {b : Int} (h : Stuck (tabL gs) L b) : Stuck (tabL (addG gs ids g).2.2) L b := by
  obtain ⟨y, hy, he, hb⟩ := h
  exact ⟨y, tabL_add hy, he, hb⟩
/-- What was not broken, or is stuck. -/
def Bk (ts : List Sb) (L : List (List Nat)) (b : Int) : Prop := b = 0 ∨ Stuck ts L b
theorem bk_grow {ts : List Sb} {L L2 : List (List Nat)} {b f : Int} (h : Bk ts L b) (hg : growAll ts L = (f, L2)) (hg2 : growAll ts L2 = (f, L2)) : Bk ts L2 (if f = 0 then b else f) := by
  by_cases hf : f = 0
  · rw [if_pos hf]
    rcases h with h | h
    · exact .inl h
    · rw [h.grow] at hg
      obtain ⟨h1, _⟩ := Prod.mk.inj hg
      obtain ⟨_, _, _, hb⟩ := h
      exact absurd (h1.trans hf) hb
  · rw [if_neg hf]
    exact .inr (stuck_of hg2 hf)
/-- The state on its way. -/
structure CgJ (w0 : World) (t r c i : Nat) (v : Value) (b : Int) (wr : World) : Prop where
  ex : ∃ (S R Q SL : Nat → Prop) (gs : List (List Sb)) (L : List (List Nat)) (is : List Int), Both w0 S R Q wr t r i gs ∧ LinesAt SL wr c L ∧ (∀ k, SL k → ¬ S k ∧ ¬ R k ∧ ¬ Q k ∧ k ≠ r ∧ w0.heap.size ≤ k) ∧ LineOk (tabL gs) L ∧ (∀ w'', Upd (fun b => S b ∨ b = r ∨ SL b) wr w'' → IntsAt w'' v is) ∧ is.length ≤ i ∧ Bk (tabL gs) L b
theorem CgJ.below {w0 wr w' : World} {t r c i : Nat} {v : Value} {b : Int} (h : CgJ w0 t r c i v b wr) (hb : Below wr.heap.size wr w') : CgJ w0 t r c i v b w' := by
  obtain ⟨S, R, Q, SL, gs, L, is, h1, h2, h3, h4, h5, h6, h7⟩ := h.ex
  exact ⟨S, R, Q, SL, gs, L, is, h1.below hb, h2.below hb, h3, h4, fun w'' hu => h5 w'' ((Upd.of_below hb).trans (fun k hk => .inl hk) hu), h6, h7⟩
theorem CgJ.be {w0 wr : World} {t r c i : Nat} {v : Value} {b : Int} (h : CgJ w0 t r c i v b wr) : Below w0.heap.size w0 wr := by
  obtain ⟨S, R, Q, SL, gs, L, is, h1, _⟩ := h.ex; exact h1.tab.be
theorem addG_len1 {gs : List (List Sb)} {ids : List Int} {g : List Sb} {n : Nat} (h : ids.length ≤ n) (hg : g.length = 1) (he : (addG gs ids g).2.1 = 0) : (addG gs ids g).1.length ≤ n + 1 := by
  rcases addG_fact gs ids g with ⟨h1, _⟩ | ⟨_, h1⟩
  · exact absurd he h1
  · rw [h1.len]; omega
section
variable {w0 wr w1 w2 : World} {t r c i : Nat} {v u : Value} {b : Int} {S R Q SL S1 R1 Q1 : Nat → Prop} {gs : List (List Sb)} {L : List (List Nat)} {is : List Int} {g : List Sb}
/-- Behind an Add to both: the lines stand, away from all that is new. -/
theorem cg_off (_ : Both w0 S R Q wr t r i gs) (hl : LinesAt SL wr c L) (ho : ∀ k, SL k → ¬ S k ∧ ¬ R k ∧ ¬ Q k ∧ k ≠ r ∧ w0.heap.size ≤ k) (h2 : Upd S wr w1) (h3 : Fresh S wr S1) (h4 : Fresh R wr R1) (k2 : Upd (fun b => b = r) w1 w2) (k3 : Fresh Q w1 Q1) :
    LinesAt SL w2 c L ∧ (∀ k, SL k → ¬ S1 k ∧ ¬ R1 k ∧ ¬ Q1 k ∧ k ≠ r ∧ w0.heap.size ≤ k) := by
  have hs := h2.size
  refine ⟨(hl.keep (h2.mono fun b _ hb hk => (ho b hk).1 hb)).keep (k2.mono fun b _ e hk => (ho b hk).2.2.2.1 e), fun k hk => ?_⟩
  obtain ⟨o1, o2, o3, o4, o5⟩ := ho k hk
  have hlt := hl.lt k hk
  exact ⟨fun q => (h3 k q).elim o1 (fun q => by omega), fun q => (h4 k q).elim o2 (fun q => by omega), fun q => (k3 k q).elim o3 (fun q => by omega), o4, o5⟩
theorem cgj_old (h : Both w0 S R Q wr t r i gs) (hl : LinesAt SL wr c L) (ho : ∀ k, SL k → ¬ S k ∧ ¬ R k ∧ ¬ Q k ∧ k ≠ r ∧ w0.heap.size ≤ k) (hk : LineOk (tabL gs) L) (hi : ∀ w'', Upd (fun b => S b ∨ b = r ∨ SL b) wr w'' → IntsAt w'' v is) (hil : is.length ≤ i) (hb : Bk (tabL gs) L b)
    (h1 : TabN w0 S1 R1 w1 t (addG gs is g).2.2) (h2 : Upd S wr w1) (h3 : Fresh S wr S1) (h4 : Fresh R wr R1) (k1 : RefK Q1 w2 r (i + 1) (addG gs is g).2.2) (k2 : Upd (fun b => b = r) w1 w2) (k3 : Fresh Q w1 Q1) : CgJ w0 t r c (i + 1) v b w2 := by
  obtain ⟨q1, q2⟩ := cg_off h hl ho h2 h3 h4 k2 k3
  refine ⟨S1, R1, Q1, SL, _, L, is, both_add h h1 h2 h3 h4 k1 k2 k3, q1, q2, lineOk_add hk, fun w'' hu => hi w'' (((h2.mono fun _ _ q => .inl q).trans' (k2.mono fun _ _ q => .inr (.inl q))).trans (fun k hk => ?_) hu), by omega, hb.imp id Stuck.add⟩
  rcases hk with q | q | q
  · exact (h3 k q).imp .inl id
  · exact .inl (.inr (.inl q))
  · exact .inl (.inr (.inr q))
theorem cgj_new (h : Both w0 S R Q wr t r i gs) (hl : LinesAt SL wr c L) (ho : ∀ k, SL k → ¬ S k ∧ ¬ R k ∧ ¬ Q k ∧ k ≠ r ∧ w0.heap.size ≤ k) (hk : LineOk (tabL gs) L) (hil : is.length ≤ i) (hb : Bk (tabL gs) L b) (hg : g.length = 1) (he : (addG gs is g).2.1 = 0) (hu : ∀ w'', Upd (fun b => S1 b ∨ b < wr.heap.size) w1 w'' → IntsAt w'' u (addG gs is g).1)
    (h1 : TabN w0 S1 R1 w1 t (addG gs is g).2.2) (h2 : Upd S wr w1) (h3 : Fresh S wr S1) (h4 : Fresh R wr R1) (k1 : RefK Q1 w2 r (i + 1) (addG gs is g).2.2) (k2 : Upd (fun b => b = r) w1 w2) (k3 : Fresh Q w1 Q1) : CgJ w0 t r c (i + 1) u b w2 := by
  obtain ⟨q1, q2⟩ := cg_off h hl ho h2 h3 h4 k2 k3
  refine ⟨S1, R1, Q1, SL, _, L, _, both_add h h1 h2 h3 h4 k1 k2 k3, q1, q2, lineOk_add hk, fun w'' q => hu w'' ((k2.mono fun b _ e => by subst e; exact .inr h.ref.tlt).trans' (q.mono fun b _ e => ?_)), addG_len1 hil hg he, hb.imp id Stuck.add⟩
  rcases e with q | q | q
  · exact .inl q
  · subst q; exact .inr h.ref.tlt
  · exact .inr (hl.lt b q)
end
/-- The lines have grown. -/
theorem cgj_grown {w0 wr w2 : World} {t r c i : Nat} {v : Value} {b f : Int} {S R Q SL S' : Nat → Prop} {gs : List (List Sb)} {L L2 : List (List Nat)} {is : List Int} (h : Both w0 S R Q wr t r i gs) (_ : LinesAt SL wr c L) (ho : ∀ k, SL k → ¬ S k ∧ ¬ R k ∧ ¬ Q k ∧ k ≠ r ∧ w0.heap.size ≤ k) (hk : LineOk (tabL gs) L) (hi : ∀ w'', Upd (fun b => S b ∨ b = r ∨ SL b) wr w'' → IntsAt w'' v is) (hil : is.length ≤ i) (hb : Bk (tabL gs) L b)
    (hg : growAll (tabL gs) L = (f, L2)) (hI : GrI SL S R wr c t gs L L2 S' w2) : CgJ w0 t r c i v (if f = 0 then b else f) w2 := by
  have hs := hI.up.size
  have hbo : Both w0 S R Q w2 t r i gs := ⟨h.tab.keep (hI.up.mono fun k _ q => ⟨(ho k q).1, (ho k q).2.1, (ho k q).2.2.2.2⟩), h.ref.keep (hI.up.mono fun k _ q => ⟨(ho k q).2.2.1, (ho k q).2.2.2.1⟩), h.c, h.rs, h.rr, h.r0⟩
  refine ⟨S, R, Q, S', gs, L2, is, hbo, hI.li, fun k hk => ?_, ?_, fun w'' hu => hi w'' ((hI.up.mono fun _ _ q => .inr (.inr q)).trans (fun k hk => ?_) hu), hil, bk_grow hb hg (by rw [hI.eq, hg])⟩
  · rcases hI.fr k hk with q | q
    · exact ho k q
    · have h1 := h.ref.lt
      refine ⟨fun e => ?_, fun e => ?_, fun e => ?_, fun e => ?_, ?_⟩
      · have := (h.tab.tab.lt k e).1; omega
      · have := h.tab.tab.rlt k e; omega
      · have := h1 k e; omega
      · have := h.ref.tlt; omega
      · have := h.tab.be.size; omega
  · have := growL_ok hk ((tabL gs).length - L.length)
    unfold growAll at hg
    rw [hg] at this
    exact this
  · rcases hk with q | q | q
    · exact .inl (.inl q)
    · exact .inl (.inr (.inl q))
    · exact (hI.fr k q).imp (fun q => .inr (.inr q)) id
end Go.Proofs.YtoamhiaagaaaaaaGreatDoor
