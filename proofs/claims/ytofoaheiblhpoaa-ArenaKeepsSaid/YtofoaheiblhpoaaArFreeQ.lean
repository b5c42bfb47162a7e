/- package arena: Free, joined. -/
import Derived.Test.YtofoaheiblhpoaaArFree
namespace Go.Proofs.Ytofoaheiblhpoaa
open Go.RowKit

/-- What Free answers, and which blocks there are behind it. -/
def FreeR (bs : List Blk) (q : Int) (er : Int) (bs' : List Blk) : Prop :=
  (usedAt bs q = false ∧ er = 4 ∧ bs' = bs) ∨ ∃ pre mid post b s l, bs = pre ++ mid ++ post ∧ b ∈ mid ∧ b.u = true ∧ q = (b.a : Int) ∧ er = 0 ∧ (∀ c ∈ mid, c.u = true → c = b) ∧ Span s mid (s + l + 1) ∧
    (∀ c ∈ pre, c.u = false → c.a + c.n + 1 ≠ s) ∧ (∀ c ∈ post, c.u = false → c.a ≠ s + l + 1) ∧ bs' = pre ++ [⟨s, zeros l, false, false⟩] ++ post
set_option maxHeartbeats 1000000 in
theorem free_miss {SL : Nat → Prop} {w : World} {p wb tb kb m mc : Nat} {lv : Value} {ws : List Nat} {L : List (Value × List (Ent Value))} {T K : Nat → Nat} {used : Nat} {tk mk : Nat → Bool} {tbs kbs : List Nat} {bs : List Blk}
    (A : Ar1 SL w p wb tb kb m mc lv ws L T K used tk mk tbs kbs) (I : Inv ws tk mk used (L.map (·.2)) bs) (q : Int) (hq1 : -9223372036854775808 ≤ q) (hq2 : q < 9223372036854775808) (hu : usedAt bs q = false) :
    Calls Try.prog 10 #[.pointer (some ⟨p, 0, none⟩), .int .i64 q] w fun e w' => e = .returned (.int .i64 4) ∧ w = w' := by
  have HH := Lib.hid (has_at A I q hq1 hq2); have HU := Lib.hid hu
  clear A I hq1 hq2 hu
  go_enter Try.func10, Try.ntmps10
  go_wp2_with fail
  refine (absent_at p w).mono ?_
  rintro e w1 ⟨rfl, rfl⟩
  go_wp2_with fail
  refine HH.out.mono ?_
  rintro e w1 ⟨rfl, rfl⟩
  rw [HU.out]
  go_wp2
  go_ret
  exact ⟨rfl, rfl⟩
theorem Free_at {S : Nat → Prop} {w : World} {p m : Nat} {bs : List Blk} (A0 : ArV S w p m bs) (q : Int) (hq1 : -9223372036854775808 ≤ q) (hq2 : q < 9223372036854775808) :
    Calls Try.prog 10 #[.pointer (some ⟨p, 0, none⟩), .int .i64 q] w fun e w' => ∃ er bs', FreeR bs q er bs' ∧ e = .returned (.int .i64 er) ∧ ArPost S w p m bs' w' := by
  have HA0 := A0
  obtain ⟨SL, wb, tb, kb, mc, lv, ws, L, T, K, used, tk, mk, tbs, kbs, A, I, O⟩ := A0
  have lift : ∀ {w' : World} {bs' : List Blk}, ArPost (Own SL p wb tb kb) w p m bs' w' → ArPost S w p m bs' w' := fun ⟨S', a, f, u⟩ =>
    ⟨S', a, fun q hq => (f q hq).imp (O q) id, u.mono fun q _ hq => O q hq⟩
  cases hu : usedAt bs q
  · exact (free_miss A I q hq1 hq2 hu).mono fun e w' ⟨h1, h2⟩ => ⟨4, bs, .inl ⟨hu, rfl, rfl⟩, h1, by subst h2; exact .same HA0 (Below.refl _ _)⟩
  obtain ⟨b, hb, hbu, rfl⟩ := usedAt_mem hu
  obtain ⟨pre, post, rfl⟩ := split_mem hb
  obtain ⟨p1, p2, p3, p4, p5⟩ := I.parts
  have hlen := A.core.len
  clear hu hb hq1 hq2
  -- what stands ahead
  have ahead : (∀ c ∈ pre, c.u = false → c.a + c.n + 1 ≠ b.a) ∨ ∃ pre' d, pre = pre' ++ [d] ∧ d.u = false ∧ d.a + d.n + 1 = b.a := by
    rcases p1.last with rfl | ⟨pre', d, rfl, hd⟩
    · exact .inl (by simp)
    · cases hdu : d.u
      · exact .inr ⟨pre', d, rfl, hdu, hd⟩
      · refine .inl (fun c hc hcu e => ?_)
        have hcm : c ∈ pre' ++ [d] ++ [b] ++ post := by simp at hc ⊢; grind
        rcases I.span.sep c hcm d (by simp) with h | h | h
        · rw [h, hdu] at hcu; cases hcu
        · have := (I.end_le d (by simp)).2.1; omega
        · have := (I.end_le c hcm).2.1; omega
  have behind : (post = [] ∧ m < b.a + b.n + 1) ∨ ∃ c post', post = c :: post' ∧ c.a = b.a + b.n + 1 := by
    cases post with
    | nil => have h : b.a + b.n + 1 = ws.length + 1 := p3; exact .inl ⟨rfl, by omega⟩
    | cons c post' => exact .inr ⟨c, post', rfl, p3.1⟩
  -- the ends of the ways
  have sep2 : ∀ c ∈ post, c.a = b.a + b.n + 1 → ∀ e ∈ post, e.a = b.a + b.n + 1 → e = c := fun c hc h1 e he h2 =>
    I.span.inj (by simp [he]) (by simp [hc]) (by omega)
  rcases ahead with hpre | ⟨pre', d, rfl, hdu, hd⟩
  · rcases behind with ⟨rfl, hye⟩ | ⟨c, post', rfl, hca⟩
    · refine (free_oe A (pre := pre) (b := b) (post := []) I hbu hpre (by simp) hye).mono fun e w' ⟨h1, h2⟩ => ⟨0, _, .inr ⟨pre, [b], [], b, b.a, b.n, rfl, by simp, hbu, rfl, rfl, by simp, ⟨rfl, p2, rfl⟩, hpre, by simp, rfl⟩, h1, lift h2⟩
    · cases hcu : c.u
      · refine (free_oc A (pre := pre) (b := b) (c := c) (post := post') (by simpa using I) hbu hpre hcu).mono fun e w' ⟨h1, h2⟩ => ⟨0, _, .inr ⟨pre, [b, c], post', b, b.a, b.n + c.n + 1, by simp, by simp, hbu, rfl, rfl, by simp [hcu], ⟨rfl, p2, hca, p3.2.1, by show _ = _; omega⟩, hpre, fun e he heu h => ?_, rfl⟩, h1, lift h2⟩
        exact I.adj c (by simp) e (by simp [he]) hcu heu (by omega)
      · have hpost : ∀ e ∈ c :: post', e.u = false → e.a ≠ b.a + b.n + 1 := fun e he heu h => by
          rw [sep2 c (by simp) hca e he h, hcu] at heu; cases heu
        refine (free_ou A (pre := pre) (b := b) (c := c) (post := c :: post') I hbu hpre hpost (by simp) hca hcu).mono fun e w' ⟨h1, h2⟩ => ⟨0, _, .inr ⟨pre, [b], c :: post', b, b.a, b.n, rfl, by simp, hbu, rfl, rfl, by simp, ⟨rfl, p2, rfl⟩, hpre, hpost, rfl⟩, h1, lift h2⟩
  · have hd0 := (I.end_le d (by simp)).2.1
    have hpre : ∀ c ∈ pre', c.u = false → c.a + c.n + 1 ≠ d.a := fun c hc hcu e => I.adj c (by simp [hc]) d (by simp) hcu hdu e.symm
    rcases behind with ⟨rfl, hye⟩ | ⟨c, post', rfl, hca⟩
    · refine (free_pe A (pre := pre') (b := b) (d := d) (post := []) (by simpa using I) hbu hdu (by simp) hye).mono fun e w' ⟨h1, h2⟩ => ⟨0, _, .inr ⟨pre', [d, b], [], b, d.a, b.n + d.n + 1, by simp, by simp, hbu, rfl, rfl, by simp [hdu], ⟨rfl, hd0, hd.symm, p2, by show _ = _; omega⟩, hpre, by simp, rfl⟩, h1, lift h2⟩
    · cases hcu : c.u
      · refine (free_pc A (pre := pre') (b := b) (c := c) (d := d) (post := post') (by simpa using I) hbu hdu hcu).mono fun e w' ⟨h1, h2⟩ => ⟨0, _, .inr ⟨pre', [d, b, c], post', b, d.a, b.n + c.n + 1 + d.n + 1, by simp, by simp, hbu, rfl, rfl, by simp [hcu, hdu], ⟨rfl, hd0, hd.symm, p2, by omega, p3.2.1, by show _ = _; omega⟩, hpre, fun e he heu h => ?_, rfl⟩, h1, lift h2⟩
        exact I.adj c (by simp) e (by simp [he]) hcu heu (by omega)
      · have hpost : ∀ e ∈ c :: post', e.u = false → e.a ≠ b.a + b.n + 1 := fun e he heu h => by
          rw [sep2 c (by simp) hca e he h, hcu] at heu; cases heu
        refine (free_pu A (pre := pre') (b := b) (c := c) (d := d) (post := c :: post') (by simpa using I) hbu hdu hpost (by simp) hca hcu).mono fun e w' ⟨h1, h2⟩ => ⟨0, _, .inr ⟨pre', [d, b], c :: post', b, d.a, b.n + d.n + 1, by simp, by simp, hbu, rfl, rfl, by simp [hdu], ⟨rfl, hd0, hd.symm, p2, by show _ = _; omega⟩, hpre, fun e he heu h => hpost e he heu (by omega), rfl⟩, h1, lift h2⟩
end Go.Proofs.Ytofoaheiblhpoaa
