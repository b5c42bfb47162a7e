/- package arena: the end of Free: blocks are released as one. -/
import Derived.Test.YtofoaheiblhpoaaArSet
namespace Go.Proofs.Ytofoaheiblhpoaa
open Go.RowKit

theorem LowOnly.mono {X Y : Nat → Prop} {a b : List Nat} (h : LowOnly X a b) (k : ∀ x, X x → Y x) : LowOnly Y a b :=
  ⟨h.len, h.up, fun i hi => h.off i (fun q => hi (k i q))⟩
/-- A free block stands at x. -/
def frA (bs : List Blk) (x : Nat) : Prop := ∃ c ∈ bs, c.u = false ∧ c.a = x
theorem Span.last {s t : Nat} : ∀ {l : List Blk}, Span s l t → l = [] ∨ ∃ l' e, l = l' ++ [e] ∧ e.a + e.n + 1 = t := fun {l} h => by
  rcases List.eq_nil_or_concat l with rfl | ⟨l', e, rfl⟩
  · exact .inl rfl
  · right
    rw [List.concat_eq_append] at h ⊢
    rw [Span.append] at h
    obtain ⟨m, _, h1, h2, h3⟩ := h
    have h3 : m + e.n + 1 = t := h3
    exact ⟨l', e, rfl, by omega⟩
section
variable {V : Type} {ws : List Nat} {tk mk : Nat → Bool} {used : Nat} {L : List (List (Ent V))} {pre mid post : List Blk} {s t : Nat}
theorem less_all (hp : Span 1 pre s) (hm : Span s mid t) {e : Nat} (hq : Span t post e) (R : Nat → Prop) (hR : ∀ c ∈ mid, c.u = false → R c.a) (hR2 : ∀ x, R x → ∃ c ∈ mid, c.a = x) (y u : Nat) :
    (¬ R y ∧ frF (pre ++ mid ++ post) y u) ↔ ∃ c ∈ pre ++ post, c.u = false ∧ c.a = y ∧ c.n = u := by
  constructor
  · rintro ⟨h1, c, hc, h2, rfl, rfl⟩
    refine ⟨c, ?_, h2, rfl, rfl⟩
    have : c ∈ pre ++ post ∨ c ∈ mid := by simp at hc ⊢; grind
    rcases this with h | h
    · exact h
    · exact absurd (hR c h h2) h1
  · rintro ⟨c, hc, h2, rfl, rfl⟩
    refine ⟨fun hr => ?_, c, by simp at hc ⊢; grind, h2, rfl, rfl⟩
    obtain ⟨d, hd, e⟩ := hR2 _ hr
    have := hm.mem d hd
    rcases List.mem_append.1 hc with h | h
    · have := hp.mem c h; omega
    · have := hq.mem c h; omega
end
set_option maxHeartbeats 1000000 in
theorem free_end {SL : Nat → Prop} {w : World} {p wb tb kb m mc : Nat} {lv : Value} {ws ws1 : List Nat} {L0 : List (List (Ent Value))} {L1 : List (Value × List (Ent Value))} {T K : Nat → Nat} {used : Nat} {tk mk : Nat → Bool} {tbs kbs : List Nat} {pre mid post : List Blk} {s t : Nat} {b : Blk} {F : Nat → Nat → Prop}
    (A : Ar1 SL w p wb tb kb m mc lv ws1 L1 T K (used - (b.n + 1)) (turned tk b.a false) (turned mk b.a false) tbs kbs) (I : Inv ws tk mk used L0 (pre ++ mid ++ post)) (h2 : 2 ≤ ws.length)
    (hp : Span 1 pre s) (hm : Span s mid t) (hq : Span t post (ws.length + 1)) (hst : s + 2 ≤ t) (hb : b ∈ mid) (hbu : b.u = true) (hone : ∀ c ∈ mid, c.u = true → c = b) (hsum : usedSum mid = b.n + 1)
    (hpre : ∀ c ∈ pre, c.u = false → c.a + c.n + 1 ≠ s) (hpost : ∀ c ∈ post, c.u = false → c.a ≠ t)
    (hF : ∀ y u, F y u ↔ ∃ c ∈ pre ++ post, c.u = false ∧ c.a = y ∧ c.n = u)
    (ok1 : ListsOk (L1.map (·.2)) ws1 F) (hL1 : L1.length = L0.length) (lo : LowOnly (frA (pre ++ mid ++ post)) ws ws1) (len : Nat) (hlen : t - s - 1 = len) :
    Calls Try.prog 16 #[.pointer (some ⟨p, 0, none⟩), .int .i64 s, .int .i64 len] w fun e w' => e = .returned (.tuple #[]) ∧ ArPost (Own SL p wb tb kb) w p m (pre ++ [⟨s, zeros len, false, false⟩] ++ post) w' := by
  have s1 := hp.le
  have t1 := hq.le
  have hml : ws.length = m := by have := A.core.len; have := lo.len; omega
  have hsm := I.small
  have nof : ∀ k, s - 1 ≤ k → k < t → ∀ u, ¬ F k u := fun k h1 h2 u h => by
    obtain ⟨c, hc, _, h3, _⟩ := (hF k u).1 h
    rcases List.mem_append.1 hc with h | h
    · have := hp.mem c h; omega
    · have := hq.mem c h; omega
  have hlog := I.log_lt (n := len) (by omega) (by omega)
  refine (release_at A.core ok1 s len s1 (by omega) (by omega) (by omega) (by omega) (by have := I.L_le; omega) (nof _ (by omega) (by omega)) (nof _ (by omega) (by omega)) (nof _ (by omega) (by omega)) (fun x u h => by
    obtain ⟨c, hc, h1, h3, h4⟩ := (hF x u).1 h
    exact I.fr_lt x u ⟨c, by simp at hc ⊢; grind, h1, h3, h4⟩)).mono ?_
  rintro e w2 ⟨rfl, SL2, ws2, L2, T2, K2, C2, ok2, hL2, lo2, fr2, u2⟩
  have hI := free_done I h2 hp hm hq hst hb hbu hone hsum hpre hpost (X := frA (pre ++ mid ++ post)) (F1 := fun _ => True) (F2 := F) (fun y h => h) lo hF (L2 := L2.map (·.2)) (ws2 := ws2) (by rw [hlen]; exact ok2) (by rw [List.length_map]; omega) (by rw [hlen]; exact lo2)
  rw [hlen] at hI
  refine ⟨rfl, Own SL2 p wb tb kb, ⟨SL2, wb, tb, kb, mc, lv, ws2, L2, T2, K2, _, _, _, tbs, kbs, A.post C2 fr2 u2, hI, fun _ h => h⟩, fun q hq => ?_, u2.mono (fun q _ hq => hq.elim (fun h => .inr (.inl h)) (fun h => .inr (.inr (.inr (.inr h)))))⟩
  rcases hq with h | h | h | h | h
  · exact .inl (.inl h)
  · exact .inl (.inr (.inl h))
  · exact .inl (.inr (.inr (.inl h)))
  · exact .inl (.inr (.inr (.inr (.inl h))))
  · exact (fr2 q h).imp (fun h => .inr (.inr (.inr (.inr h)))) id
end Go.Proofs.Ytofoaheiblhpoaa
